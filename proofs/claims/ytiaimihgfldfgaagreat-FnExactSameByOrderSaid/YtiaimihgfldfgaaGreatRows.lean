/-
  No cell of these rows narrows 'for every input' (looked for: loops, veiled, ifaces, maps, wideKeys, modest, calm, conditions, laid).
  DERIVED. THE GIVEN ROWS OF THIS SEAT. 6 by the template 'for every input the law returns true; each argument reads behind the call as it read before'; 0 by the template 'total and deterministic' (their statements: YtiaimihgfldfgaaGreatTotals.lean).
  GIVEN WITH THE SEED: the statements are not yours to turn. If you find one false, say at which input.
  Laid BY PROGRAM, IN A SANDBOX (cutbox-rows.mjs): the forced cells as the released guide's own fill.sh prints them over the translation a502daea1a9cf4f2… (all of the seat's roots in one cut). By AI agents, Wed Nov 11 2026. No macro, syntax, notation, axiom, sorry.
-/
import Derived.Test.YtiaimihgfldfgaaGreatChecked
import GoSem.Claim
import GoSem.ClaimJoined
import GoSem.ClaimMapViews
import Derived.JoinedTies
import Derived.KernelRfl
namespace Go.Proofs.YtiaimihgfldfgaaGreat
/- THE CELL 'sum', in the pinned program and in every row, IS THE sha256 OF THE DUMP (.gsa) THAT YtiaimihgfldfgaaGreatProg.lean LOADS. Nothing in Lean hashes anything: it is a label: what it is worth is what the hold of that sum in a sandbox is worth. -/
noncomputable def Tryz.pinned : Pinned := { name := "ytiaimihgfldfgaagreat", sum := "a502daea1a9cf4f23f6c4d1cede8b4c0168301f25c38670e906c97f028346744", checked := Tryz.checked }
namespace Rows
def none {H : Type} : Left H := { results := [], args := [] }

/-- 'laws.FnExactApplyLevel': WHATEVER THE INPUT: true; the input reads as it did. -/
def fnExactApplyLevelSpec : ChangeSpec := { name := "fnExactApplyLevel", fn := fun _ => fun
  | [d1, d2] => { results := [.lit (.bool true)], args := [d1, d2] }
  | _ => none }
def fnExactApplyLevelRow : OpenClaim := { program := "ytiaimihgfldfgaagreat", sum := "a502daea1a9cf4f23f6c4d1cede8b4c0168301f25c38670e906c97f028346744", func := "loop.example/g02080/laws.FnExactApplyLevel", spec := "fnExactApplyLevel", inPlace := ["internal/bytealg.IndexByteString"], unfollowed := true, recurses := true, apart := false }
def FnExactApplyLevelSaid : Prop := fnExactApplyLevelRow.holds Tryz.pinned (OpenSpec.ofChange fnExactApplyLevelSpec)

/-- ITS FALSE NEIGHBOUR: 'it returns false'. Refute it at one input. -/
def fnExactApplyLevelWrong : ChangeSpec := { name := "fnExactApplyLevel", fn := fun _ => fun
  | [d1, d2] => { results := [.lit (.bool false)], args := [d1, d2] }
  | _ => none }
def FnExactApplyLevelWrongFalsely : Prop := fnExactApplyLevelRow.holds Tryz.pinned (OpenSpec.ofChange fnExactApplyLevelWrong)

/-- 'laws.FnExactSerialOutput': WHATEVER THE INPUT: true; the input reads as it did. -/
def fnExactSerialOutputSpec : ChangeSpec := { name := "fnExactSerialOutput", fn := fun _ => fun
  | [d1, d2, d3] => { results := [.lit (.bool true)], args := [d1, d2, d3] }
  | _ => none }
def fnExactSerialOutputRow : OpenClaim := { program := "ytiaimihgfldfgaagreat", sum := "a502daea1a9cf4f23f6c4d1cede8b4c0168301f25c38670e906c97f028346744", func := "loop.example/g02080/laws.FnExactSerialOutput", spec := "fnExactSerialOutput", inPlace := ["internal/bytealg.IndexByteString"], unfollowed := true, recurses := true, apart := false }
def FnExactSerialOutputSaid : Prop := fnExactSerialOutputRow.holds Tryz.pinned (OpenSpec.ofChange fnExactSerialOutputSpec)

/-- ITS FALSE NEIGHBOUR: 'it returns false'. Refute it at one input. -/
def fnExactSerialOutputWrong : ChangeSpec := { name := "fnExactSerialOutput", fn := fun _ => fun
  | [d1, d2, d3] => { results := [.lit (.bool false)], args := [d1, d2, d3] }
  | _ => none }
def FnExactSerialOutputWrongFalsely : Prop := fnExactSerialOutputRow.holds Tryz.pinned (OpenSpec.ofChange fnExactSerialOutputWrong)

/-- 'laws.FnExactSameByOrder': WHATEVER THE INPUT: true; the input reads as it did. -/
def fnExactSameByOrderSpec : ChangeSpec := { name := "fnExactSameByOrder", fn := fun _ => fun
  | [d1, d2, d3] => { results := [.lit (.bool true)], args := [d1, d2, d3] }
  | _ => none }
def fnExactSameByOrderRow : OpenClaim := { program := "ytiaimihgfldfgaagreat", sum := "a502daea1a9cf4f23f6c4d1cede8b4c0168301f25c38670e906c97f028346744", func := "loop.example/g02080/laws.FnExactSameByOrder", spec := "fnExactSameByOrder", inPlace := ["internal/bytealg.IndexByteString"], unfollowed := true, recurses := true, apart := false }
def FnExactSameByOrderSaid : Prop := fnExactSameByOrderRow.holds Tryz.pinned (OpenSpec.ofChange fnExactSameByOrderSpec)

/-- ITS FALSE NEIGHBOUR: 'it returns false'. Refute it at one input. -/
def fnExactSameByOrderWrong : ChangeSpec := { name := "fnExactSameByOrder", fn := fun _ => fun
  | [d1, d2, d3] => { results := [.lit (.bool false)], args := [d1, d2, d3] }
  | _ => none }
def FnExactSameByOrderWrongFalsely : Prop := fnExactSameByOrderRow.holds Tryz.pinned (OpenSpec.ofChange fnExactSameByOrderWrong)

/-- 'laws.FnExactIsOpaque': WHATEVER THE INPUT: true; the input reads as it did. -/
def fnExactIsOpaqueSpec : ChangeSpec := { name := "fnExactIsOpaque", fn := fun _ => fun
  | [d1, d2] => { results := [.lit (.bool true)], args := [d1, d2] }
  | _ => none }
def fnExactIsOpaqueRow : OpenClaim := { program := "ytiaimihgfldfgaagreat", sum := "a502daea1a9cf4f23f6c4d1cede8b4c0168301f25c38670e906c97f028346744", func := "loop.example/g02080/laws.FnExactIsOpaque", spec := "fnExactIsOpaque", inPlace := ["internal/bytealg.IndexByteString"], unfollowed := true, recurses := true, apart := false }
def FnExactIsOpaqueSaid : Prop := fnExactIsOpaqueRow.holds Tryz.pinned (OpenSpec.ofChange fnExactIsOpaqueSpec)

/-- ITS FALSE NEIGHBOUR: 'it returns false'. Refute it at one input. -/
def fnExactIsOpaqueWrong : ChangeSpec := { name := "fnExactIsOpaque", fn := fun _ => fun
  | [d1, d2] => { results := [.lit (.bool false)], args := [d1, d2] }
  | _ => none }
def FnExactIsOpaqueWrongFalsely : Prop := fnExactIsOpaqueRow.holds Tryz.pinned (OpenSpec.ofChange fnExactIsOpaqueWrong)

/-- 'laws.FnExactExplainsParadigm': WHATEVER THE INPUT: true; the input reads as it did. -/
def fnExactExplainsParadigmSpec : ChangeSpec := { name := "fnExactExplainsParadigm", fn := fun _ => fun
  | [d1, d2, d3, d4] => { results := [.lit (.bool true)], args := [d1, d2, d3, d4] }
  | _ => none }
def fnExactExplainsParadigmRow : OpenClaim := { program := "ytiaimihgfldfgaagreat", sum := "a502daea1a9cf4f23f6c4d1cede8b4c0168301f25c38670e906c97f028346744", func := "loop.example/g02080/laws.FnExactExplainsParadigm", spec := "fnExactExplainsParadigm", inPlace := ["internal/bytealg.IndexByteString"], unfollowed := true, recurses := true, apart := false }
def FnExactExplainsParadigmSaid : Prop := fnExactExplainsParadigmRow.holds Tryz.pinned (OpenSpec.ofChange fnExactExplainsParadigmSpec)

/-- ITS FALSE NEIGHBOUR: 'it returns false'. Refute it at one input. -/
def fnExactExplainsParadigmWrong : ChangeSpec := { name := "fnExactExplainsParadigm", fn := fun _ => fun
  | [d1, d2, d3, d4] => { results := [.lit (.bool false)], args := [d1, d2, d3, d4] }
  | _ => none }
def FnExactExplainsParadigmWrongFalsely : Prop := fnExactExplainsParadigmRow.holds Tryz.pinned (OpenSpec.ofChange fnExactExplainsParadigmWrong)

/-- 'laws.FnExactSerialLine': WHATEVER THE INPUT: true; the input reads as it did. -/
def fnExactSerialLineSpec : ChangeSpec := { name := "fnExactSerialLine", fn := fun _ => fun
  | [d1, d2, d3] => { results := [.lit (.bool true)], args := [d1, d2, d3] }
  | _ => none }
def fnExactSerialLineRow : OpenClaim := { program := "ytiaimihgfldfgaagreat", sum := "a502daea1a9cf4f23f6c4d1cede8b4c0168301f25c38670e906c97f028346744", func := "loop.example/g02080/laws.FnExactSerialLine", spec := "fnExactSerialLine", inPlace := ["internal/bytealg.IndexByteString", "internal/abi.NoEscape", "internal/bytealg.MakeNoZero"], unfollowed := true, recurses := true, apart := false }
def FnExactSerialLineSaid : Prop := fnExactSerialLineRow.holds Tryz.pinned (OpenSpec.ofChange fnExactSerialLineSpec)

/-- ITS FALSE NEIGHBOUR: 'it returns false'. Refute it at one input. -/
def fnExactSerialLineWrong : ChangeSpec := { name := "fnExactSerialLine", fn := fun _ => fun
  | [d1, d2, d3] => { results := [.lit (.bool false)], args := [d1, d2, d3] }
  | _ => none }
def FnExactSerialLineWrongFalsely : Prop := fnExactSerialLineRow.holds Tryz.pinned (OpenSpec.ofChange fnExactSerialLineWrong)

/- THE SECOND FORM. 'bulk': how many values and letters a reading holds, each counted each time it is reached (what is shared counts as often as it is met; a slice's spare places count too). A statement '..UptoSaid' is the law's where the arguments, and the package variables that the reading takes, are together of bulk at most 1048576: NARROWER than '..Said'. Prove '..Said' where nothing that the law and all that it calls make is longer than what came in: it says more and counts as full. Else prove '..UptoSaid'. A law counts once. -/
mutual
def uptoBulk {H : Type} : DataW H → Nat
  | .lit (.string bytes) => bytes.length + 1
  | .lit _ => 1
  | .nil => 1
  | .ptr d => uptoBulk d + 1
  | .slice elems spare => uptoBulkAll elems + uptoBulkAll spare + 1
  | .agg parts => uptoBulkAll parts + 1
  | .iface _ d => uptoBulk d + 1
  | .map entries => uptoBulkEntries entries + 1
  | .held _ => 1
def uptoBulkAll {H : Type} : List (DataW H) → Nat
  | [] => 0
  | d :: r => uptoBulk d + uptoBulkAll r
def uptoBulkEntries {H : Type} : List (Lit × DataW H) → Nat
  | [] => 0
  | x :: r => uptoBulkEntry x + uptoBulkEntries r
def uptoBulkEntry {H : Type} : Lit × DataW H → Nat
  | (.string bytes, d) => bytes.length + uptoBulk d + 1
  | (_, d) => uptoBulk d + 1
 end
def uptoSmall : (H : Type) → List (DataW H) → Bool := fun _ ds => decide (uptoBulkAll ds ≤ 1048576)
def OpenSpec.upto (s : _root_.Go.ChangeSpec) : _root_.Go.OpenSpec := { _root_.Go.OpenSpec.ofChange s with cond := some uptoSmall }

/-- 'laws.FnExactApplyLevel', WHERE WHAT IT READS IS OF BULK AT MOST 1048576: true; the input reads as it did. -/
def fnExactApplyLevelUptoRow : OpenClaim := { program := "ytiaimihgfldfgaagreat", sum := "a502daea1a9cf4f23f6c4d1cede8b4c0168301f25c38670e906c97f028346744", func := "loop.example/g02080/laws.FnExactApplyLevel", spec := "fnExactApplyLevel", inPlace := ["internal/bytealg.IndexByteString"], unfollowed := true, recurses := true, apart := false, narrowed := true }
def FnExactApplyLevelUptoSaid : Prop := fnExactApplyLevelUptoRow.holds Tryz.pinned (OpenSpec.upto fnExactApplyLevelSpec)

/-- 'laws.FnExactSerialOutput', WHERE WHAT IT READS IS OF BULK AT MOST 1048576: true; the input reads as it did. -/
def fnExactSerialOutputUptoRow : OpenClaim := { program := "ytiaimihgfldfgaagreat", sum := "a502daea1a9cf4f23f6c4d1cede8b4c0168301f25c38670e906c97f028346744", func := "loop.example/g02080/laws.FnExactSerialOutput", spec := "fnExactSerialOutput", inPlace := ["internal/bytealg.IndexByteString"], unfollowed := true, recurses := true, apart := false, narrowed := true }
def FnExactSerialOutputUptoSaid : Prop := fnExactSerialOutputUptoRow.holds Tryz.pinned (OpenSpec.upto fnExactSerialOutputSpec)

/-- 'laws.FnExactSameByOrder', WHERE WHAT IT READS IS OF BULK AT MOST 1048576: true; the input reads as it did. -/
def fnExactSameByOrderUptoRow : OpenClaim := { program := "ytiaimihgfldfgaagreat", sum := "a502daea1a9cf4f23f6c4d1cede8b4c0168301f25c38670e906c97f028346744", func := "loop.example/g02080/laws.FnExactSameByOrder", spec := "fnExactSameByOrder", inPlace := ["internal/bytealg.IndexByteString"], unfollowed := true, recurses := true, apart := false, narrowed := true }
def FnExactSameByOrderUptoSaid : Prop := fnExactSameByOrderUptoRow.holds Tryz.pinned (OpenSpec.upto fnExactSameByOrderSpec)

/-- 'laws.FnExactIsOpaque', WHERE WHAT IT READS IS OF BULK AT MOST 1048576: true; the input reads as it did. -/
def fnExactIsOpaqueUptoRow : OpenClaim := { program := "ytiaimihgfldfgaagreat", sum := "a502daea1a9cf4f23f6c4d1cede8b4c0168301f25c38670e906c97f028346744", func := "loop.example/g02080/laws.FnExactIsOpaque", spec := "fnExactIsOpaque", inPlace := ["internal/bytealg.IndexByteString"], unfollowed := true, recurses := true, apart := false, narrowed := true }
def FnExactIsOpaqueUptoSaid : Prop := fnExactIsOpaqueUptoRow.holds Tryz.pinned (OpenSpec.upto fnExactIsOpaqueSpec)

/-- 'laws.FnExactExplainsParadigm', WHERE WHAT IT READS IS OF BULK AT MOST 1048576: true; the input reads as it did. -/
def fnExactExplainsParadigmUptoRow : OpenClaim := { program := "ytiaimihgfldfgaagreat", sum := "a502daea1a9cf4f23f6c4d1cede8b4c0168301f25c38670e906c97f028346744", func := "loop.example/g02080/laws.FnExactExplainsParadigm", spec := "fnExactExplainsParadigm", inPlace := ["internal/bytealg.IndexByteString"], unfollowed := true, recurses := true, apart := false, narrowed := true }
def FnExactExplainsParadigmUptoSaid : Prop := fnExactExplainsParadigmUptoRow.holds Tryz.pinned (OpenSpec.upto fnExactExplainsParadigmSpec)

/-- 'laws.FnExactSerialLine', WHERE WHAT IT READS IS OF BULK AT MOST 1048576: true; the input reads as it did. -/
def fnExactSerialLineUptoRow : OpenClaim := { program := "ytiaimihgfldfgaagreat", sum := "a502daea1a9cf4f23f6c4d1cede8b4c0168301f25c38670e906c97f028346744", func := "loop.example/g02080/laws.FnExactSerialLine", spec := "fnExactSerialLine", inPlace := ["internal/bytealg.IndexByteString", "internal/abi.NoEscape", "internal/bytealg.MakeNoZero"], unfollowed := true, recurses := true, apart := false, narrowed := true }
def FnExactSerialLineUptoSaid : Prop := fnExactSerialLineUptoRow.holds Tryz.pinned (OpenSpec.upto fnExactSerialLineSpec)

end Rows
end Go.Proofs.YtiaimihgfldfgaaGreat
