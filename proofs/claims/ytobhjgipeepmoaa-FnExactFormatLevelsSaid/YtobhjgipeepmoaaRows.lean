/-
  No cell of these rows narrows 'for every input' (looked for: loops, veiled, ifaces, maps, wideKeys, modest, calm, conditions, laid).
  DERIVED. THE GIVEN ROWS OF THIS SEAT. 6 by the template 'for every input the law returns true; each argument reads behind the call as it read before'; 0 by the template 'total and deterministic' (their statements: YtobhjgipeepmoaaTotals.lean).
  GIVEN WITH THE SEED: the statements are not yours to turn. If you find one false, say at which input.
  Laid BY PROGRAM, IN A SANDBOX (cutbox-rows.mjs): the forced cells as the released guide's own fill.sh prints them over the translation 701f6eb653a2fafd… (all of the seat's roots in one cut). By AI agents, Wed Nov 11 2026. No macro, syntax, notation, axiom, sorry.
-/
import Derived.Test.YtobhjgipeepmoaaChecked
import GoSem.Claim
import GoSem.ClaimJoined
import GoSem.ClaimMapViews
import Derived.JoinedTies
import Derived.KernelRfl
namespace Go.Proofs.Ytobhjgipeepmoaa
/- THE CELL 'sum', in the pinned program and in every row, IS THE sha256 OF THE DUMP (.gsa) THAT YtobhjgipeepmoaaProg.lean LOADS. Nothing in Lean hashes anything: it is a label: what it is worth is what the hold of that sum in a sandbox is worth. -/
noncomputable def Try.pinned : Pinned := { name := "ytobhjgipeepmoaa", sum := "701f6eb653a2fafd57d816380d9c235813f1132e62db0c8aabcc98ab79075d44", checked := Try.checked }
namespace Rows
def none {H : Type} : Left H := { results := [], args := [] }

/-- 'laws.FnExactEndMarks': WHATEVER THE INPUT: true; the input reads as it did. -/
def fnExactEndMarksSpec : ChangeSpec := { name := "fnExactEndMarks", fn := fun _ => fun
  | [d1, d2] => { results := [.lit (.bool true)], args := [d1, d2] }
  | _ => none }
def fnExactEndMarksRow : OpenClaim := { program := "ytobhjgipeepmoaa", sum := "701f6eb653a2fafd57d816380d9c235813f1132e62db0c8aabcc98ab79075d44", func := "loop.example/g02080/laws.FnExactEndMarks", spec := "fnExactEndMarks", inPlace := ["internal/bytealg.IndexByteString"], unfollowed := true, recurses := true, apart := false }
def FnExactEndMarksSaid : Prop := fnExactEndMarksRow.holds Try.pinned (OpenSpec.ofChange fnExactEndMarksSpec)

/-- ITS FALSE NEIGHBOUR: 'it returns false'. Refute it at one input. -/
def fnExactEndMarksWrong : ChangeSpec := { name := "fnExactEndMarks", fn := fun _ => fun
  | [d1, d2] => { results := [.lit (.bool false)], args := [d1, d2] }
  | _ => none }
def FnExactEndMarksWrongFalsely : Prop := fnExactEndMarksRow.holds Try.pinned (OpenSpec.ofChange fnExactEndMarksWrong)

/-- 'laws.FnExactStepMarks': WHATEVER THE INPUT: true; the input reads as it did. -/
def fnExactStepMarksSpec : ChangeSpec := { name := "fnExactStepMarks", fn := fun _ => fun
  | [d1, d2, d3] => { results := [.lit (.bool true)], args := [d1, d2, d3] }
  | _ => none }
def fnExactStepMarksRow : OpenClaim := { program := "ytobhjgipeepmoaa", sum := "701f6eb653a2fafd57d816380d9c235813f1132e62db0c8aabcc98ab79075d44", func := "loop.example/g02080/laws.FnExactStepMarks", spec := "fnExactStepMarks", inPlace := ["internal/bytealg.IndexByteString"], unfollowed := true, recurses := true, apart := false }
def FnExactStepMarksSaid : Prop := fnExactStepMarksRow.holds Try.pinned (OpenSpec.ofChange fnExactStepMarksSpec)

/-- ITS FALSE NEIGHBOUR: 'it returns false'. Refute it at one input. -/
def fnExactStepMarksWrong : ChangeSpec := { name := "fnExactStepMarks", fn := fun _ => fun
  | [d1, d2, d3] => { results := [.lit (.bool false)], args := [d1, d2, d3] }
  | _ => none }
def FnExactStepMarksWrongFalsely : Prop := fnExactStepMarksRow.holds Try.pinned (OpenSpec.ofChange fnExactStepMarksWrong)

/-- 'laws.FnExactEqualClaims': WHATEVER THE INPUT: true; the input reads as it did. -/
def fnExactEqualClaimsSpec : ChangeSpec := { name := "fnExactEqualClaims", fn := fun _ => fun
  | [d1, d2] => { results := [.lit (.bool true)], args := [d1, d2] }
  | _ => none }
def fnExactEqualClaimsRow : OpenClaim := { program := "ytobhjgipeepmoaa", sum := "701f6eb653a2fafd57d816380d9c235813f1132e62db0c8aabcc98ab79075d44", func := "loop.example/g02080/laws.FnExactEqualClaims", spec := "fnExactEqualClaims", unfollowed := true, recurses := true, apart := false }
def FnExactEqualClaimsSaid : Prop := fnExactEqualClaimsRow.holds Try.pinned (OpenSpec.ofChange fnExactEqualClaimsSpec)

/-- ITS FALSE NEIGHBOUR: 'it returns false'. Refute it at one input. -/
def fnExactEqualClaimsWrong : ChangeSpec := { name := "fnExactEqualClaims", fn := fun _ => fun
  | [d1, d2] => { results := [.lit (.bool false)], args := [d1, d2] }
  | _ => none }
def FnExactEqualClaimsWrongFalsely : Prop := fnExactEqualClaimsRow.holds Try.pinned (OpenSpec.ofChange fnExactEqualClaimsWrong)

/-- 'laws.FnExactPathMarks': WHATEVER THE INPUT: true; the input reads as it did. -/
def fnExactPathMarksSpec : ChangeSpec := { name := "fnExactPathMarks", fn := fun _ => fun
  | [d1, d2] => { results := [.lit (.bool true)], args := [d1, d2] }
  | _ => none }
def fnExactPathMarksRow : OpenClaim := { program := "ytobhjgipeepmoaa", sum := "701f6eb653a2fafd57d816380d9c235813f1132e62db0c8aabcc98ab79075d44", func := "loop.example/g02080/laws.FnExactPathMarks", spec := "fnExactPathMarks", inPlace := ["internal/bytealg.IndexByteString"], unfollowed := true, recurses := true, apart := false }
def FnExactPathMarksSaid : Prop := fnExactPathMarksRow.holds Try.pinned (OpenSpec.ofChange fnExactPathMarksSpec)

/-- ITS FALSE NEIGHBOUR: 'it returns false'. Refute it at one input. -/
def fnExactPathMarksWrong : ChangeSpec := { name := "fnExactPathMarks", fn := fun _ => fun
  | [d1, d2] => { results := [.lit (.bool false)], args := [d1, d2] }
  | _ => none }
def FnExactPathMarksWrongFalsely : Prop := fnExactPathMarksRow.holds Try.pinned (OpenSpec.ofChange fnExactPathMarksWrong)

/-- 'laws.FnExactIsLevel': WHATEVER THE INPUT: true; the input reads as it did. -/
def fnExactIsLevelSpec : ChangeSpec := { name := "fnExactIsLevel", fn := fun _ => fun
  | [d] => { results := [.lit (.bool true)], args := [d] }
  | _ => none }
def fnExactIsLevelRow : OpenClaim := { program := "ytobhjgipeepmoaa", sum := "701f6eb653a2fafd57d816380d9c235813f1132e62db0c8aabcc98ab79075d44", func := "loop.example/g02080/laws.FnExactIsLevel", spec := "fnExactIsLevel", unfollowed := true, recurses := true, apart := false }
def FnExactIsLevelSaid : Prop := fnExactIsLevelRow.holds Try.pinned (OpenSpec.ofChange fnExactIsLevelSpec)

/-- ITS FALSE NEIGHBOUR: 'it returns false'. Refute it at one input. -/
def fnExactIsLevelWrong : ChangeSpec := { name := "fnExactIsLevel", fn := fun _ => fun
  | [d] => { results := [.lit (.bool false)], args := [d] }
  | _ => none }
def FnExactIsLevelWrongFalsely : Prop := fnExactIsLevelRow.holds Try.pinned (OpenSpec.ofChange fnExactIsLevelWrong)

/-- 'laws.FnExactFormatLevels': WHATEVER THE INPUT: true; the input reads as it did. -/
def fnExactFormatLevelsSpec : ChangeSpec := { name := "fnExactFormatLevels", fn := fun _ => fun
  | [d] => { results := [.lit (.bool true)], args := [d] }
  | _ => none }
def fnExactFormatLevelsRow : OpenClaim := { program := "ytobhjgipeepmoaa", sum := "701f6eb653a2fafd57d816380d9c235813f1132e62db0c8aabcc98ab79075d44", func := "loop.example/g02080/laws.FnExactFormatLevels", spec := "fnExactFormatLevels", inPlace := ["internal/abi.NoEscape", "internal/bytealg.MakeNoZero"], unfollowed := true, recurses := true, apart := false }
def FnExactFormatLevelsSaid : Prop := fnExactFormatLevelsRow.holds Try.pinned (OpenSpec.ofChange fnExactFormatLevelsSpec)

/-- ITS FALSE NEIGHBOUR: 'it returns false'. Refute it at one input. -/
def fnExactFormatLevelsWrong : ChangeSpec := { name := "fnExactFormatLevels", fn := fun _ => fun
  | [d] => { results := [.lit (.bool false)], args := [d] }
  | _ => none }
def FnExactFormatLevelsWrongFalsely : Prop := fnExactFormatLevelsRow.holds Try.pinned (OpenSpec.ofChange fnExactFormatLevelsWrong)

/- THE SECOND FORM. 'bulk': how many values and letters a reading holds, each counted each time it is reached (what is shared counts as often as it is met; a slice's spare places count too). A statement '..UptoSaid' is the law's where the arguments, and the package variables that the reading takes, are together of bulk at most 1048576: NARROWER than '..Said'. Prove '..Said' where nothing that the law and all that it calls make is longer than what came in: it says more and counts as full. Else prove '..UptoSaid'. A law counts once. -/
mutual
def uptoBulk {H : Type} : DataW H → Nat
  | .lit (.string bytes) => bytes.length + 1
  | .lit _ => 1
  | .nil => 1
  | .ptr d => uptoBulk d + 1
  | .slice elems spare => uptoBulkAll elems + uptoBulkAll spare + 1
  | .agg parts => uptoBulkAll parts + 1
  | .iface _ d => uptoBulk d + 1
  | .map entries => uptoBulkEntries entries + 1
  | .held _ => 1
def uptoBulkAll {H : Type} : List (DataW H) → Nat
  | [] => 0
  | d :: r => uptoBulk d + uptoBulkAll r
def uptoBulkEntries {H : Type} : List (Lit × DataW H) → Nat
  | [] => 0
  | x :: r => uptoBulkEntry x + uptoBulkEntries r
def uptoBulkEntry {H : Type} : Lit × DataW H → Nat
  | (.string bytes, d) => bytes.length + uptoBulk d + 1
  | (_, d) => uptoBulk d + 1
 end
def uptoSmall : (H : Type) → List (DataW H) → Bool := fun _ ds => decide (uptoBulkAll ds ≤ 1048576)
def OpenSpec.upto (s : _root_.Go.ChangeSpec) : _root_.Go.OpenSpec := { _root_.Go.OpenSpec.ofChange s with cond := some uptoSmall }

/-- 'laws.FnExactEndMarks', WHERE WHAT IT READS IS OF BULK AT MOST 1048576: true; the input reads as it did. -/
def fnExactEndMarksUptoRow : OpenClaim := { program := "ytobhjgipeepmoaa", sum := "701f6eb653a2fafd57d816380d9c235813f1132e62db0c8aabcc98ab79075d44", func := "loop.example/g02080/laws.FnExactEndMarks", spec := "fnExactEndMarks", inPlace := ["internal/bytealg.IndexByteString"], unfollowed := true, recurses := true, apart := false, narrowed := true }
def FnExactEndMarksUptoSaid : Prop := fnExactEndMarksUptoRow.holds Try.pinned (OpenSpec.upto fnExactEndMarksSpec)

/-- 'laws.FnExactStepMarks', WHERE WHAT IT READS IS OF BULK AT MOST 1048576: true; the input reads as it did. -/
def fnExactStepMarksUptoRow : OpenClaim := { program := "ytobhjgipeepmoaa", sum := "701f6eb653a2fafd57d816380d9c235813f1132e62db0c8aabcc98ab79075d44", func := "loop.example/g02080/laws.FnExactStepMarks", spec := "fnExactStepMarks", inPlace := ["internal/bytealg.IndexByteString"], unfollowed := true, recurses := true, apart := false, narrowed := true }
def FnExactStepMarksUptoSaid : Prop := fnExactStepMarksUptoRow.holds Try.pinned (OpenSpec.upto fnExactStepMarksSpec)

/-- 'laws.FnExactEqualClaims', WHERE WHAT IT READS IS OF BULK AT MOST 1048576: true; the input reads as it did. -/
def fnExactEqualClaimsUptoRow : OpenClaim := { program := "ytobhjgipeepmoaa", sum := "701f6eb653a2fafd57d816380d9c235813f1132e62db0c8aabcc98ab79075d44", func := "loop.example/g02080/laws.FnExactEqualClaims", spec := "fnExactEqualClaims", unfollowed := true, recurses := true, apart := false, narrowed := true }
def FnExactEqualClaimsUptoSaid : Prop := fnExactEqualClaimsUptoRow.holds Try.pinned (OpenSpec.upto fnExactEqualClaimsSpec)

/-- 'laws.FnExactPathMarks', WHERE WHAT IT READS IS OF BULK AT MOST 1048576: true; the input reads as it did. -/
def fnExactPathMarksUptoRow : OpenClaim := { program := "ytobhjgipeepmoaa", sum := "701f6eb653a2fafd57d816380d9c235813f1132e62db0c8aabcc98ab79075d44", func := "loop.example/g02080/laws.FnExactPathMarks", spec := "fnExactPathMarks", inPlace := ["internal/bytealg.IndexByteString"], unfollowed := true, recurses := true, apart := false, narrowed := true }
def FnExactPathMarksUptoSaid : Prop := fnExactPathMarksUptoRow.holds Try.pinned (OpenSpec.upto fnExactPathMarksSpec)

/-- 'laws.FnExactIsLevel', WHERE WHAT IT READS IS OF BULK AT MOST 1048576: true; the input reads as it did. -/
def fnExactIsLevelUptoRow : OpenClaim := { program := "ytobhjgipeepmoaa", sum := "701f6eb653a2fafd57d816380d9c235813f1132e62db0c8aabcc98ab79075d44", func := "loop.example/g02080/laws.FnExactIsLevel", spec := "fnExactIsLevel", unfollowed := true, recurses := true, apart := false, narrowed := true }
def FnExactIsLevelUptoSaid : Prop := fnExactIsLevelUptoRow.holds Try.pinned (OpenSpec.upto fnExactIsLevelSpec)

/-- 'laws.FnExactFormatLevels', WHERE WHAT IT READS IS OF BULK AT MOST 1048576: true; the input reads as it did. -/
def fnExactFormatLevelsUptoRow : OpenClaim := { program := "ytobhjgipeepmoaa", sum := "701f6eb653a2fafd57d816380d9c235813f1132e62db0c8aabcc98ab79075d44", func := "loop.example/g02080/laws.FnExactFormatLevels", spec := "fnExactFormatLevels", inPlace := ["internal/abi.NoEscape", "internal/bytealg.MakeNoZero"], unfollowed := true, recurses := true, apart := false, narrowed := true }
def FnExactFormatLevelsUptoSaid : Prop := fnExactFormatLevelsUptoRow.holds Try.pinned (OpenSpec.upto fnExactFormatLevelsSpec)

end Rows
end Go.Proofs.Ytobhjgipeepmoaa
