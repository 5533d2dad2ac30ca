/- FnExactIsAlternating: whatever the arguments, the law answers true, and each argument reads behind the call as it read before. No condition. -/
import Derived.Test.YtfggefelohfgeaaRows
import Derived.Test.YtfggefelohfgeaaInstFnExactIsAlternating
import Derived.Test.YtfggefelohfgeaaAbLaw
import Derived.WalkKit
import Derived.ProofKit
import Derived.SizedLaws
namespace Go.Proofs.Ytfggefelohfgeaa.fnExactIsAlternating
open Go.ChangeShapes Go.WideShapes Go.ChangeAt Go.RowKit Go.Ab
set_option linter.unusedVariables false
theorem own : ownKnob Try.prog.godebug = none := by kernel_rfl
theorem core : ∀ avs, HasArgs [(.st (.cons .str (.cons .str .nil)))] avs → Runs Try.prog 5 avs 0 [] (fun v _ _ => v = .bool true) := by
    intro avs h
    obtain ⟨cs, rest, rfl, h1, rfl⟩ := h
    obtain ⟨xs, ys, rfl, ⟨a, rfl, ha⟩, xs', ys', rfl, ⟨b, rfl, hb⟩, rfl⟩ := h1
    exact ((OfFnExactIsAlternating.K5_C_lawPara a b ha hb) 0 []).mono fun v n H h => h.1
set_option maxRecDepth 100000 in
theorem lifted (os : Os) (started : os.Started) (H : Type) (enc : TypeId × Value → H) :
    ReturnsInHanded {} Try.checked os 5 .any (Rows.fnExactIsAlternatingSpec.pre6 enc Try.prog Try.f5 Rows.fnExactIsAlternatingRow.domain false) (Rows.fnExactIsAlternatingSpec.post enc Try.prog Try.f5 false true false false) := by
  refine returnsInHanded_of_change_sized (C := Try.checked) own started (by kernel_rfl) Try.func5
    (ChangeSpec.witness6 (enc := enc) (C := Try.checked) false ⟨#[], #[.agg #[.string .empty, .string .empty]], []⟩ 8 (by kernel_rfl) (by kernel_rfl) (by kernel_rfl) (by kernel_rfl)) ?_
  intro W base args ds gs before hval0 hW hcnd hsz0 _
  exact law_calls (P := Try.prog) (f := 5) (fn := Try.f5) (s := Rows.fnExactIsAlternatingSpec) (m := 20) (shs := [(.st (.cons .str (.cons .str .nil)))]) (tb := 4) (by kernel_rfl) (by kernel_rfl) (by kernel_rfl) rfl (by kernel_rfl) rfl
    (fun H ds h => by match ds, h with | [_], _ => rfl) Try.func5 (by kernel_rfl) (by kernel_rfl) core hval0 hW
theorem over : Rows.fnExactIsAlternatingRow.holds Try.pinned (OpenSpec.ofChange Rows.fnExactIsAlternatingSpec) :=
  OpenClaim.holds_of_wide 5 Try.f5 rfl rfl rfl rfl rfl rfl rfl ⟨rfl, rfl, rfl, rfl, rfl⟩ rfl rfl rfl rfl rfl (by kernel_rfl) Try.func5 (by kernel_rfl)
    (of_decide_eq_true (by kernel_rfl)) (by unfold Func.isWrapper; first | (rw [if_pos (by decide +kernel)]; kernel_rfl) | (rw [if_neg (by decide +kernel)]; exact ⟨rfl, rfl⟩))
    (fun os started H enc _ => lifted os started H enc)
theorem proved : Rows.FnExactIsAlternatingSaid := over
#print axioms proved
end Go.Proofs.Ytfggefelohfgeaa.fnExactIsAlternating
namespace Go.Proofs.Ytfggefelohfgeaa
/-- The row, under a short name, for the claim. -/
theorem fnExactIsAlternating_holds : Rows.FnExactIsAlternatingSaid := fnExactIsAlternating.proved
end Go.Proofs.Ytfggefelohfgeaa
