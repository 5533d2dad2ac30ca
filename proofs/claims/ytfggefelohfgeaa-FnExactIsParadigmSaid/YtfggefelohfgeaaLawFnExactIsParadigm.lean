/- FnExactIsParadigm: whatever the arguments, the law answers true, and each argument reads behind the call as it read before. No condition. -/
import Derived.Test.YtfggefelohfgeaaRows
import Derived.Test.YtfggefelohfgeaaInstFnExactIsParadigm
import Derived.Test.YtfggefelohfgeaaAbLaw
import Derived.WalkKit
import Derived.ProofKit
import Derived.SizedLaws
namespace Go.Proofs.Ytfggefelohfgeaa.fnExactIsParadigm
open Go.ChangeShapes Go.WideShapes Go.ChangeAt Go.RowKit Go.Ab
set_option linter.unusedVariables false
theorem own : ownKnob Try.prog.godebug = none := by kernel_rfl
theorem core : ∀ avs, HasArgs [(.st (.cons .str (.cons .str .nil)))] avs → Runs Try.prog 4 avs 0 [] (fun v _ _ => v = .bool true) := by
    intro avs h
    obtain ⟨cs, rest, rfl, h1, rfl⟩ := h
    obtain ⟨xs, ys, rfl, ⟨a, rfl, ha⟩, xs', ys', rfl, ⟨b, rfl, hb⟩, rfl⟩ := h1
    exact ((OfFnExactIsParadigm.K4_C_lawPara a b ha hb) 0 []).mono fun v n H h => h.1
set_option maxRecDepth 100000 in
theorem lifted (os : Os) (started : os.Started) (H : Type) (enc : TypeId × Value → H) :
    ReturnsInHanded {} Try.checked os 4 .any (Rows.fnExactIsParadigmSpec.pre6 enc Try.prog Try.f4 Rows.fnExactIsParadigmRow.domain false) (Rows.fnExactIsParadigmSpec.post enc Try.prog Try.f4 false true false false) := by
  refine returnsInHanded_of_change_sized (C := Try.checked) own started (by kernel_rfl) Try.func4
    (ChangeSpec.witness6 (enc := enc) (C := Try.checked) false ⟨#[], #[.agg #[.string .empty, .string .empty]], []⟩ 8 (by kernel_rfl) (by kernel_rfl) (by kernel_rfl) (by kernel_rfl)) ?_
  intro W base args ds gs before hval0 hW hcnd hsz0 _
  exact law_calls (P := Try.prog) (f := 4) (fn := Try.f4) (s := Rows.fnExactIsParadigmSpec) (m := 20) (shs := [(.st (.cons .str (.cons .str .nil)))]) (tb := 4) (by kernel_rfl) (by kernel_rfl) (by kernel_rfl) rfl (by kernel_rfl) rfl
    (fun H ds h => by match ds, h with | [_], _ => rfl) Try.func4 (by kernel_rfl) (by kernel_rfl) core hval0 hW
theorem over : Rows.fnExactIsParadigmRow.holds Try.pinned (OpenSpec.ofChange Rows.fnExactIsParadigmSpec) :=
  OpenClaim.holds_of_wide 4 Try.f4 rfl rfl rfl rfl rfl rfl rfl ⟨rfl, rfl, rfl, rfl, rfl⟩ rfl rfl rfl rfl rfl (by kernel_rfl) Try.func4 (by kernel_rfl)
    (of_decide_eq_true (by kernel_rfl)) (by unfold Func.isWrapper; first | (rw [if_pos (by decide +kernel)]; kernel_rfl) | (rw [if_neg (by decide +kernel)]; exact ⟨rfl, rfl⟩))
    (fun os started H enc _ => lifted os started H enc)
theorem proved : Rows.FnExactIsParadigmSaid := over
#print axioms proved
end Go.Proofs.Ytfggefelohfgeaa.fnExactIsParadigm
namespace Go.Proofs.Ytfggefelohfgeaa
/-- The row, under a short name, for the claim. -/
theorem fnExactIsParadigm_holds : Rows.FnExactIsParadigmSaid := fnExactIsParadigm.proved
end Go.Proofs.Ytfggefelohfgeaa
