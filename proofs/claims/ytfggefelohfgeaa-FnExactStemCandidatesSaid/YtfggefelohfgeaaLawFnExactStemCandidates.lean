/- FnExactStemCandidates: whatever the arguments, the law answers true, and each argument reads behind the call as it read before. No condition. -/
import Derived.Test.YtfggefelohfgeaaRows
import Derived.Test.YtfggefelohfgeaaInstFnExactStemCandidates
import Derived.Test.YtfggefelohfgeaaAbLaw2
import Derived.WalkKit
import Derived.ProofKit
import Derived.SizedLaws
namespace Go.Proofs.Ytfggefelohfgeaa.fnExactStemCandidates
open Go.ChangeShapes Go.WideShapes Go.ChangeAt Go.RowKit Go.Ab
set_option linter.unusedVariables false
theorem own : ownKnob Try.prog.godebug = none := by kernel_rfl
theorem core : ∀ avs, HasArgs [(.st (.cons .str (.cons .str .nil)))] avs → Runs Try.prog 7 avs 0 [] (fun v _ _ => v = .bool true) := by
    intro avs h
    obtain ⟨cs, rest, rfl, h1, rfl⟩ := h
    obtain ⟨xs, ys, rfl, ⟨a, rfl, ha⟩, xs', ys', rfl, ⟨b, rfl, hb⟩, rfl⟩ := h1
    exact ((OfFnExactStemCandidates.K7_C_lawPara a b ha hb) 0 []).mono fun v n H h => h.1
set_option maxRecDepth 100000 in
theorem lifted (os : Os) (started : os.Started) (H : Type) (enc : TypeId × Value → H) :
    ReturnsInHanded {} Try.checked os 7 .any (Rows.fnExactStemCandidatesSpec.pre6 enc Try.prog Try.f7 Rows.fnExactStemCandidatesRow.domain false) (Rows.fnExactStemCandidatesSpec.post enc Try.prog Try.f7 false true false false) := by
  refine returnsInHanded_of_change_sized (C := Try.checked) own started (by kernel_rfl) Try.func7
    (ChangeSpec.witness6 (enc := enc) (C := Try.checked) false ⟨#[], #[.agg #[.string .empty, .string .empty]], []⟩ 8 (by kernel_rfl) (by kernel_rfl) (by kernel_rfl) (by kernel_rfl)) ?_
  intro W base args ds gs before hval0 hW hcnd hsz0 _
  exact law_calls (P := Try.prog) (f := 7) (fn := Try.f7) (s := Rows.fnExactStemCandidatesSpec) (m := 20) (shs := [(.st (.cons .str (.cons .str .nil)))]) (tb := 4) (by kernel_rfl) (by kernel_rfl) (by kernel_rfl) rfl (by kernel_rfl) rfl
    (fun H ds h => by match ds, h with | [_], _ => rfl) Try.func7 (by kernel_rfl) (by kernel_rfl) core hval0 hW
theorem over : Rows.fnExactStemCandidatesRow.holds Try.pinned (OpenSpec.ofChange Rows.fnExactStemCandidatesSpec) :=
  OpenClaim.holds_of_wide 7 Try.f7 rfl rfl rfl rfl rfl rfl rfl ⟨rfl, rfl, rfl, rfl, rfl⟩ rfl rfl rfl rfl rfl (by kernel_rfl) Try.func7 (by kernel_rfl)
    (of_decide_eq_true (by kernel_rfl)) (by unfold Func.isWrapper; first | (rw [if_pos (by decide +kernel)]; kernel_rfl) | (rw [if_neg (by decide +kernel)]; exact ⟨rfl, rfl⟩))
    (fun os started H enc _ => lifted os started H enc)
theorem proved : Rows.FnExactStemCandidatesSaid := over
#print axioms proved
end Go.Proofs.Ytfggefelohfgeaa.fnExactStemCandidates
namespace Go.Proofs.Ytfggefelohfgeaa
/-- The row, under a short name, for the claim. -/
theorem fnExactStemCandidates_holds : Rows.FnExactStemCandidatesSaid := fnExactStemCandidates.proved
end Go.Proofs.Ytfggefelohfgeaa
