/- FnExactStepMarks: whatever the arguments, the law answers true, and each argument reads behind the call as it read before. No condition. -/
import Derived.Test.YtobhjgipeepmoaaRows
import Derived.Test.YtobhjgipeepmoaaInstFnExactStepMarks
import Derived.Test.YtobhjgipeepmoaaAbLaw3
import Derived.WalkKit
import Derived.ProofKit
import Derived.SizedLaws
namespace Go.Proofs.Ytobhjgipeepmoaa.fnExactStepMarks
open Go.ChangeShapes Go.WideShapes Go.ChangeAt Go.RowKit Go.Ab
set_option linter.unusedVariables false
set_option maxRecDepth 100000
theorem own : ownKnob Try.prog.godebug = none := by kernel_rfl
theorem core : ∀ avs, HasArgs [(.sl 1 .str), (.int .u8), (.st (.cons (.int .u8) (.cons (.int .u8) .nil)))] avs → Runs Try.prog 4 avs 0 [] (fun v _ _ => v = .bool true) := by
    intro avs h
    obtain ⟨cs, rest, rfl, h1, ds, rest, rfl, h2, es, rest, rfl, h3, rfl⟩ := h
    obtain ⟨l, rfl, hl, hs⟩ := HD.sl HD.str _ h1
    obtain ⟨b, rfl, -⟩ := HD.u8 _ h2
    obtain ⟨x, rfl, -⟩ := HD.st2 HD.u8 HD.u8 _ h3
    exact (OfFnExactStepMarks.K4_C_lawStep l b x ⟨hl, fun i hi => hs _ (getD_mem hi)⟩).mono fun v n H h => h.1
set_option maxRecDepth 100000 in
theorem lifted (os : Os) (started : os.Started) (H : Type) (enc : TypeId × Value → H) :
    ReturnsInHanded {} Try.checked os 4 .any (Rows.fnExactStepMarksSpec.pre6 enc Try.prog Try.f4 Rows.fnExactStepMarksRow.domain false) (Rows.fnExactStepMarksSpec.post enc Try.prog Try.f4 false true false false) := by
  refine returnsInHanded_of_change_sized (C := Try.checked) own started (by kernel_rfl) Try.func4
    (ChangeSpec.witness6 (enc := enc) (C := Try.checked) false ⟨#[], #[.slice none 0 0, .int .u8 0, .agg #[.int .u8 0, .int .u8 0]], []⟩ 8 (by kernel_rfl) (by kernel_rfl) (by kernel_rfl) (by kernel_rfl)) ?_
  intro W base args ds gs before hval0 hW hcnd hsz0 _
  exact law_calls (P := Try.prog) (f := 4) (fn := Try.f4) (s := Rows.fnExactStepMarksSpec) (m := 20) (shs := [(.sl 1 .str), (.int .u8), (.st (.cons (.int .u8) (.cons (.int .u8) .nil)))]) (tb := 4) (by kernel_rfl) (by kernel_rfl) (by kernel_rfl) rfl (by kernel_rfl) rfl
    (fun H ds h => by match ds, h with | [_, _, _], _ => rfl) Try.func4 (by kernel_rfl) (by kernel_rfl) core hval0 hW
theorem over : Rows.fnExactStepMarksRow.holds Try.pinned (OpenSpec.ofChange Rows.fnExactStepMarksSpec) :=
  OpenClaim.holds_of_wide 4 Try.f4 rfl rfl rfl rfl rfl rfl rfl ⟨rfl, rfl, rfl, rfl, rfl⟩ rfl rfl rfl rfl rfl (by kernel_rfl) Try.func4 (by kernel_rfl)
    (of_decide_eq_true (by kernel_rfl)) (by unfold Func.isWrapper; first | (rw [if_pos (by decide +kernel)]; kernel_rfl) | (rw [if_neg (by decide +kernel)]; exact ⟨rfl, rfl⟩))
    (fun os started H enc _ => lifted os started H enc)
theorem proved : Rows.FnExactStepMarksSaid := over
#print axioms proved
end Go.Proofs.Ytobhjgipeepmoaa.fnExactStepMarks
namespace Go.Proofs.Ytobhjgipeepmoaa
/-- The row, under a short name, for the claim. -/
theorem fnExactStepMarks_holds : Rows.FnExactStepMarksSaid := fnExactStepMarks.proved
end Go.Proofs.Ytobhjgipeepmoaa
