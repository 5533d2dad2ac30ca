/- FnExactFormatLevels: whatever the arguments, the law answers true, and each argument reads behind the call as it read before. No condition. -/
import Derived.Test.YtobhjgipeepmoaaRows
import Derived.Test.YtobhjgipeepmoaaInstFnExactFormatLevels
import Derived.Test.YtobhjgipeepmoaaAbLaw3
import Derived.WalkKit
import Derived.ProofKit
import Derived.SizedLaws
namespace Go.Proofs.Ytobhjgipeepmoaa.fnExactFormatLevels
open Go.ChangeShapes Go.WideShapes Go.ChangeAt Go.RowKit Go.Ab
set_option linter.unusedVariables false
set_option maxRecDepth 100000
theorem own : ownKnob Try.prog.godebug = none := by kernel_rfl
theorem core : ∀ avs, HasArgs [(.sl 2 (.st (.cons (.sl 1 .str) (.cons (.sl 1 (.int .i64)) .nil))))] avs → Runs Try.prog 8 avs 0 [] (fun v _ _ => v = .bool true) := by
    intro avs h
    obtain ⟨c1, r1, rfl, h1, rfl⟩ := h
    obtain ⟨x1, rfl, o1⟩ := (show HK _ (List Lvl) from (HK.sl (HK.st (HK.cons (HK.sl HK.str) (HK.one (HK.sl HK.int)))))) _ h1
    exact (OfFnExactFormatLevels.K8_C_lawS_Lvl x1 o1 0 []).mono fun v n H h => h.1
set_option maxRecDepth 100000 in
theorem lifted (os : Os) (started : os.Started) (H : Type) (enc : TypeId × Value → H) :
    ReturnsInHanded {} Try.checked os 8 .any (Rows.fnExactFormatLevelsSpec.pre6 enc Try.prog Try.f8 Rows.fnExactFormatLevelsRow.domain false) (Rows.fnExactFormatLevelsSpec.post enc Try.prog Try.f8 false true false false) := by
  refine returnsInHanded_of_change_sized (C := Try.checked) own started (by kernel_rfl) Try.func8
    (ChangeSpec.witness6 (enc := enc) (C := Try.checked) false ⟨#[], #[.slice none 0 0], []⟩ 8 (by kernel_rfl) (by kernel_rfl) (by kernel_rfl) (by kernel_rfl)) ?_
  intro W base args ds gs before hval0 hW hcnd hsz0 _
  exact law_calls (P := Try.prog) (f := 8) (fn := Try.f8) (s := Rows.fnExactFormatLevelsSpec) (m := 20) (shs := [(.sl 2 (.st (.cons (.sl 1 .str) (.cons (.sl 1 (.int .i64)) .nil))))]) (tb := 4) (by kernel_rfl) (by kernel_rfl) (by kernel_rfl) rfl (by kernel_rfl) rfl
    (fun H ds h => by match ds, h with | [_], _ => rfl) Try.func8 (by kernel_rfl) (by kernel_rfl) core hval0 hW
theorem over : Rows.fnExactFormatLevelsRow.holds Try.pinned (OpenSpec.ofChange Rows.fnExactFormatLevelsSpec) :=
  OpenClaim.holds_of_wide 8 Try.f8 rfl rfl rfl rfl rfl rfl rfl ⟨rfl, rfl, rfl, rfl, rfl⟩ rfl rfl rfl rfl rfl (by kernel_rfl) Try.func8 (by kernel_rfl)
    (of_decide_eq_true (by kernel_rfl)) (by unfold Func.isWrapper; first | (rw [if_pos (by decide +kernel)]; kernel_rfl) | (rw [if_neg (by decide +kernel)]; exact ⟨rfl, rfl⟩))
    (fun os started H enc _ => lifted os started H enc)
theorem proved : Rows.FnExactFormatLevelsSaid := over
#print axioms proved
end Go.Proofs.Ytobhjgipeepmoaa.fnExactFormatLevels
namespace Go.Proofs.Ytobhjgipeepmoaa
/-- The row, under a short name, for the claim. -/
theorem fnExactFormatLevels_holds : Rows.FnExactFormatLevelsSaid := fnExactFormatLevels.proved
end Go.Proofs.Ytobhjgipeepmoaa
