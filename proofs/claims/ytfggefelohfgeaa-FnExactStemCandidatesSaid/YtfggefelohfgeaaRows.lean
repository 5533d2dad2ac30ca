/-
  No cell of these rows narrows 'for every input' (looked for: loops, veiled, ifaces, maps, wideKeys, modest, calm, conditions, laid).
  DERIVED. THE GIVEN ROWS OF THIS SEAT. 6 by the template 'for every input the law returns true; each argument reads behind the call as it read before'; 0 by the template 'total and deterministic' (their statements: YtfggefelohfgeaaTotals.lean).
  GIVEN WITH THE SEED: the statements are not yours to turn. If you find one false, say at which input.
  Laid BY PROGRAM, IN A SANDBOX (cutbox-rows.mjs): the forced cells as the released guide's own fill.sh prints them over the translation 70b02dd033ec30f4… (all of the seat's roots in one cut). By AI agents, Wed Nov 11 2026. No macro, syntax, notation, axiom, sorry.
-/
import Derived.Test.YtfggefelohfgeaaChecked
import GoSem.Claim
import GoSem.ClaimJoined
import GoSem.ClaimMapViews
import Derived.JoinedTies
import Derived.KernelRfl
namespace Go.Proofs.Ytfggefelohfgeaa
/- THE CELL 'sum', in the pinned program and in every row, IS THE sha256 OF THE DUMP (.gsa) THAT YtfggefelohfgeaaProg.lean LOADS. Nothing in Lean hashes anything: it is a label: what it is worth is what the hold of that sum in a sandbox is worth. -/
noncomputable def Try.pinned : Pinned := { name := "ytfggefelohfgeaa", sum := "70b02dd033ec30f422a8ceb3ff2d1a3792ef62ffcec28b588b8931bf0c72ba9a", checked := Try.checked }
namespace Rows
def none {H : Type} : Left H := { results := [], args := [] }

/-- 'laws.FnExactClaimWord': WHATEVER THE INPUT: true; the input reads as it did. -/
def fnExactClaimWordSpec : ChangeSpec := { name := "fnExactClaimWord", fn := fun _ => fun
  | [d] => { results := [.lit (.bool true)], args := [d] }
  | _ => none }
def fnExactClaimWordRow : OpenClaim := { program := "ytfggefelohfgeaa", sum := "70b02dd033ec30f422a8ceb3ff2d1a3792ef62ffcec28b588b8931bf0c72ba9a", func := "loop.example/g02080/laws.FnExactClaimWord", spec := "fnExactClaimWord", apart := false }
def FnExactClaimWordSaid : Prop := fnExactClaimWordRow.holds Try.pinned (OpenSpec.ofChange fnExactClaimWordSpec)

/-- ITS FALSE NEIGHBOUR: 'it returns false'. Refute it at one input. -/
def fnExactClaimWordWrong : ChangeSpec := { name := "fnExactClaimWord", fn := fun _ => fun
  | [d] => { results := [.lit (.bool false)], args := [d] }
  | _ => none }
def FnExactClaimWordWrongFalsely : Prop := fnExactClaimWordRow.holds Try.pinned (OpenSpec.ofChange fnExactClaimWordWrong)

/-- 'laws.FnExactIsParadigm': WHATEVER THE INPUT: true; the input reads as it did. -/
def fnExactIsParadigmSpec : ChangeSpec := { name := "fnExactIsParadigm", fn := fun _ => fun
  | [d] => { results := [.lit (.bool true)], args := [d] }
  | _ => none }
def fnExactIsParadigmRow : OpenClaim := { program := "ytfggefelohfgeaa", sum := "70b02dd033ec30f422a8ceb3ff2d1a3792ef62ffcec28b588b8931bf0c72ba9a", func := "loop.example/g02080/laws.FnExactIsParadigm", spec := "fnExactIsParadigm", inPlace := ["internal/bytealg.IndexByteString"], apart := false }
def FnExactIsParadigmSaid : Prop := fnExactIsParadigmRow.holds Try.pinned (OpenSpec.ofChange fnExactIsParadigmSpec)

/-- ITS FALSE NEIGHBOUR: 'it returns false'. Refute it at one input. -/
def fnExactIsParadigmWrong : ChangeSpec := { name := "fnExactIsParadigm", fn := fun _ => fun
  | [d] => { results := [.lit (.bool false)], args := [d] }
  | _ => none }
def FnExactIsParadigmWrongFalsely : Prop := fnExactIsParadigmRow.holds Try.pinned (OpenSpec.ofChange fnExactIsParadigmWrong)

/-- 'laws.FnExactIsAlternating': WHATEVER THE INPUT: true; the input reads as it did. -/
def fnExactIsAlternatingSpec : ChangeSpec := { name := "fnExactIsAlternating", fn := fun _ => fun
  | [d] => { results := [.lit (.bool true)], args := [d] }
  | _ => none }
def fnExactIsAlternatingRow : OpenClaim := { program := "ytfggefelohfgeaa", sum := "70b02dd033ec30f422a8ceb3ff2d1a3792ef62ffcec28b588b8931bf0c72ba9a", func := "loop.example/g02080/laws.FnExactIsAlternating", spec := "fnExactIsAlternating", inPlace := ["internal/bytealg.IndexByteString"], apart := false }
def FnExactIsAlternatingSaid : Prop := fnExactIsAlternatingRow.holds Try.pinned (OpenSpec.ofChange fnExactIsAlternatingSpec)

/-- ITS FALSE NEIGHBOUR: 'it returns false'. Refute it at one input. -/
def fnExactIsAlternatingWrong : ChangeSpec := { name := "fnExactIsAlternating", fn := fun _ => fun
  | [d] => { results := [.lit (.bool false)], args := [d] }
  | _ => none }
def FnExactIsAlternatingWrongFalsely : Prop := fnExactIsAlternatingRow.holds Try.pinned (OpenSpec.ofChange fnExactIsAlternatingWrong)

/-- 'laws.FnExactAreLocal': WHATEVER THE INPUT: true; the input reads as it did. -/
def fnExactAreLocalSpec : ChangeSpec := { name := "fnExactAreLocal", fn := fun _ => fun
  | [d] => { results := [.lit (.bool true)], args := [d] }
  | _ => none }
def fnExactAreLocalRow : OpenClaim := { program := "ytfggefelohfgeaa", sum := "70b02dd033ec30f422a8ceb3ff2d1a3792ef62ffcec28b588b8931bf0c72ba9a", func := "loop.example/g02080/laws.FnExactAreLocal", spec := "fnExactAreLocal", apart := false }
def FnExactAreLocalSaid : Prop := fnExactAreLocalRow.holds Try.pinned (OpenSpec.ofChange fnExactAreLocalSpec)

/-- ITS FALSE NEIGHBOUR: 'it returns false'. Refute it at one input. -/
def fnExactAreLocalWrong : ChangeSpec := { name := "fnExactAreLocal", fn := fun _ => fun
  | [d] => { results := [.lit (.bool false)], args := [d] }
  | _ => none }
def FnExactAreLocalWrongFalsely : Prop := fnExactAreLocalRow.holds Try.pinned (OpenSpec.ofChange fnExactAreLocalWrong)

/-- 'laws.FnExactStemCandidates': WHATEVER THE INPUT: true; the input reads as it did. -/
def fnExactStemCandidatesSpec : ChangeSpec := { name := "fnExactStemCandidates", fn := fun _ => fun
  | [d] => { results := [.lit (.bool true)], args := [d] }
  | _ => none }
def fnExactStemCandidatesRow : OpenClaim := { program := "ytfggefelohfgeaa", sum := "70b02dd033ec30f422a8ceb3ff2d1a3792ef62ffcec28b588b8931bf0c72ba9a", func := "loop.example/g02080/laws.FnExactStemCandidates", spec := "fnExactStemCandidates", inPlace := ["internal/bytealg.IndexByteString"], apart := false }
def FnExactStemCandidatesSaid : Prop := fnExactStemCandidatesRow.holds Try.pinned (OpenSpec.ofChange fnExactStemCandidatesSpec)

/-- ITS FALSE NEIGHBOUR: 'it returns false'. Refute it at one input. -/
def fnExactStemCandidatesWrong : ChangeSpec := { name := "fnExactStemCandidates", fn := fun _ => fun
  | [d] => { results := [.lit (.bool false)], args := [d] }
  | _ => none }
def FnExactStemCandidatesWrongFalsely : Prop := fnExactStemCandidatesRow.holds Try.pinned (OpenSpec.ofChange fnExactStemCandidatesWrong)

/-- 'laws.FnExactPathCandidates': WHATEVER THE INPUT: true; the input reads as it did. -/
def fnExactPathCandidatesSpec : ChangeSpec := { name := "fnExactPathCandidates", fn := fun _ => fun
  | [d] => { results := [.lit (.bool true)], args := [d] }
  | _ => none }
def fnExactPathCandidatesRow : OpenClaim := { program := "ytfggefelohfgeaa", sum := "70b02dd033ec30f422a8ceb3ff2d1a3792ef62ffcec28b588b8931bf0c72ba9a", func := "loop.example/g02080/laws.FnExactPathCandidates", spec := "fnExactPathCandidates", inPlace := ["internal/bytealg.IndexByteString"], unfollowed := true, recurses := true, apart := false }
def FnExactPathCandidatesSaid : Prop := fnExactPathCandidatesRow.holds Try.pinned (OpenSpec.ofChange fnExactPathCandidatesSpec)

/-- ITS FALSE NEIGHBOUR: 'it returns false'. Refute it at one input. -/
def fnExactPathCandidatesWrong : ChangeSpec := { name := "fnExactPathCandidates", fn := fun _ => fun
  | [d] => { results := [.lit (.bool false)], args := [d] }
  | _ => none }
def FnExactPathCandidatesWrongFalsely : Prop := fnExactPathCandidatesRow.holds Try.pinned (OpenSpec.ofChange fnExactPathCandidatesWrong)

/- THE SECOND FORM. 'bulk': how many values and letters a reading holds, each counted each time it is reached (what is shared counts as often as it is met; a slice's spare places count too). A statement '..UptoSaid' is the law's where the arguments, and the package variables that the reading takes, are together of bulk at most 1048576: NARROWER than '..Said'. Prove '..Said' where nothing that the law and all that it calls make is longer than what came in: it says more and counts as full. Else prove '..UptoSaid'. A law counts once. -/
mutual
def uptoBulk {H : Type} : DataW H → Nat
  | .lit (.string bytes) => bytes.length + 1
  | .lit _ => 1
  | .nil => 1
  | .ptr d => uptoBulk d + 1
  | .slice elems spare => uptoBulkAll elems + uptoBulkAll spare + 1
  | .agg parts => uptoBulkAll parts + 1
  | .iface _ d => uptoBulk d + 1
  | .map entries => uptoBulkEntries entries + 1
  | .held _ => 1
def uptoBulkAll {H : Type} : List (DataW H) → Nat
  | [] => 0
  | d :: r => uptoBulk d + uptoBulkAll r
def uptoBulkEntries {H : Type} : List (Lit × DataW H) → Nat
  | [] => 0
  | x :: r => uptoBulkEntry x + uptoBulkEntries r
def uptoBulkEntry {H : Type} : Lit × DataW H → Nat
  | (.string bytes, d) => bytes.length + uptoBulk d + 1
  | (_, d) => uptoBulk d + 1
 end
def uptoSmall : (H : Type) → List (DataW H) → Bool := fun _ ds => decide (uptoBulkAll ds ≤ 1048576)
def OpenSpec.upto (s : _root_.Go.ChangeSpec) : _root_.Go.OpenSpec := { _root_.Go.OpenSpec.ofChange s with cond := some uptoSmall }

/-- 'laws.FnExactClaimWord', WHERE WHAT IT READS IS OF BULK AT MOST 1048576: true; the input reads as it did. -/
def fnExactClaimWordUptoRow : OpenClaim := { program := "ytfggefelohfgeaa", sum := "70b02dd033ec30f422a8ceb3ff2d1a3792ef62ffcec28b588b8931bf0c72ba9a", func := "loop.example/g02080/laws.FnExactClaimWord", spec := "fnExactClaimWord", apart := false, narrowed := true }
def FnExactClaimWordUptoSaid : Prop := fnExactClaimWordUptoRow.holds Try.pinned (OpenSpec.upto fnExactClaimWordSpec)

/-- 'laws.FnExactIsParadigm', WHERE WHAT IT READS IS OF BULK AT MOST 1048576: true; the input reads as it did. -/
def fnExactIsParadigmUptoRow : OpenClaim := { program := "ytfggefelohfgeaa", sum := "70b02dd033ec30f422a8ceb3ff2d1a3792ef62ffcec28b588b8931bf0c72ba9a", func := "loop.example/g02080/laws.FnExactIsParadigm", spec := "fnExactIsParadigm", inPlace := ["internal/bytealg.IndexByteString"], apart := false, narrowed := true }
def FnExactIsParadigmUptoSaid : Prop := fnExactIsParadigmUptoRow.holds Try.pinned (OpenSpec.upto fnExactIsParadigmSpec)

/-- 'laws.FnExactIsAlternating', WHERE WHAT IT READS IS OF BULK AT MOST 1048576: true; the input reads as it did. -/
def fnExactIsAlternatingUptoRow : OpenClaim := { program := "ytfggefelohfgeaa", sum := "70b02dd033ec30f422a8ceb3ff2d1a3792ef62ffcec28b588b8931bf0c72ba9a", func := "loop.example/g02080/laws.FnExactIsAlternating", spec := "fnExactIsAlternating", inPlace := ["internal/bytealg.IndexByteString"], apart := false, narrowed := true }
def FnExactIsAlternatingUptoSaid : Prop := fnExactIsAlternatingUptoRow.holds Try.pinned (OpenSpec.upto fnExactIsAlternatingSpec)

/-- 'laws.FnExactAreLocal', WHERE WHAT IT READS IS OF BULK AT MOST 1048576: true; the input reads as it did. -/
def fnExactAreLocalUptoRow : OpenClaim := { program := "ytfggefelohfgeaa", sum := "70b02dd033ec30f422a8ceb3ff2d1a3792ef62ffcec28b588b8931bf0c72ba9a", func := "loop.example/g02080/laws.FnExactAreLocal", spec := "fnExactAreLocal", apart := false, narrowed := true }
def FnExactAreLocalUptoSaid : Prop := fnExactAreLocalUptoRow.holds Try.pinned (OpenSpec.upto fnExactAreLocalSpec)

/-- 'laws.FnExactStemCandidates', WHERE WHAT IT READS IS OF BULK AT MOST 1048576: true; the input reads as it did. -/
def fnExactStemCandidatesUptoRow : OpenClaim := { program := "ytfggefelohfgeaa", sum := "70b02dd033ec30f422a8ceb3ff2d1a3792ef62ffcec28b588b8931bf0c72ba9a", func := "loop.example/g02080/laws.FnExactStemCandidates", spec := "fnExactStemCandidates", inPlace := ["internal/bytealg.IndexByteString"], apart := false, narrowed := true }
def FnExactStemCandidatesUptoSaid : Prop := fnExactStemCandidatesUptoRow.holds Try.pinned (OpenSpec.upto fnExactStemCandidatesSpec)

/-- 'laws.FnExactPathCandidates', WHERE WHAT IT READS IS OF BULK AT MOST 1048576: true; the input reads as it did. -/
def fnExactPathCandidatesUptoRow : OpenClaim := { program := "ytfggefelohfgeaa", sum := "70b02dd033ec30f422a8ceb3ff2d1a3792ef62ffcec28b588b8931bf0c72ba9a", func := "loop.example/g02080/laws.FnExactPathCandidates", spec := "fnExactPathCandidates", inPlace := ["internal/bytealg.IndexByteString"], unfollowed := true, recurses := true, apart := false, narrowed := true }
def FnExactPathCandidatesUptoSaid : Prop := fnExactPathCandidatesUptoRow.holds Try.pinned (OpenSpec.upto fnExactPathCandidatesSpec)

end Rows
end Go.Proofs.Ytfggefelohfgeaa
