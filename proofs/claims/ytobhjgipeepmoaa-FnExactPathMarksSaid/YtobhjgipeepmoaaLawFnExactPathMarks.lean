/- FnExactPathMarks: whatever the arguments, the law answers true, and each argument reads behind the call as it read before. No condition. -/
import Derived.Test.YtobhjgipeepmoaaRows
import Derived.Test.YtobhjgipeepmoaaInstFnExactPathMarks
import Derived.Test.YtobhjgipeepmoaaAbLaw3
import Derived.WalkKit
import Derived.ProofKit
import Derived.SizedLaws
namespace Go.Proofs.Ytobhjgipeepmoaa.fnExactPathMarks
open Go.ChangeShapes Go.WideShapes Go.ChangeAt Go.RowKit Go.Ab
set_option linter.unusedVariables false
set_option maxRecDepth 100000
theorem own : ownKnob Try.prog.godebug = none := by kernel_rfl
theorem core : ∀ avs, HasArgs [(.sl 1 .str), (.st (.cons (.sl 2 (.st (.cons (.int .u8) (.cons (.int .u8) .nil)))) .nil))] avs → Runs Try.prog 6 avs 0 [] (fun v _ _ => v = .bool true) := by
    intro avs h
    obtain ⟨cs, rest, rfl, h1, ds, rest, rfl, h2, rfl⟩ := h
    obtain ⟨l, rfl, hl, hs⟩ := HD.sl HD.str _ h1
    obtain ⟨c, rfl, hc, -⟩ := HD.st1 (HD.sl (HD.st2 HD.u8 HD.u8)) _ h2
    exact (OfFnExactPathMarks.K6_C_lawPath l c ⟨hl, fun i hi => hs _ (getD_mem hi)⟩ hc).mono fun v n H h => h.1
set_option maxRecDepth 100000 in
theorem lifted (os : Os) (started : os.Started) (H : Type) (enc : TypeId × Value → H) :
    ReturnsInHanded {} Try.checked os 6 .any (Rows.fnExactPathMarksSpec.pre6 enc Try.prog Try.f6 Rows.fnExactPathMarksRow.domain false) (Rows.fnExactPathMarksSpec.post enc Try.prog Try.f6 false true false false) := by
  refine returnsInHanded_of_change_sized (C := Try.checked) own started (by kernel_rfl) Try.func6
    (ChangeSpec.witness6 (enc := enc) (C := Try.checked) false ⟨#[], #[.slice none 0 0, .agg #[.slice none 0 0]], []⟩ 8 (by kernel_rfl) (by kernel_rfl) (by kernel_rfl) (by kernel_rfl)) ?_
  intro W base args ds gs before hval0 hW hcnd hsz0 _
  exact law_calls (P := Try.prog) (f := 6) (fn := Try.f6) (s := Rows.fnExactPathMarksSpec) (m := 20) (shs := [(.sl 1 .str), (.st (.cons (.sl 2 (.st (.cons (.int .u8) (.cons (.int .u8) .nil)))) .nil))]) (tb := 4) (by kernel_rfl) (by kernel_rfl) (by kernel_rfl) rfl (by kernel_rfl) rfl
    (fun H ds h => by match ds, h with | [_, _], _ => rfl) Try.func6 (by kernel_rfl) (by kernel_rfl) core hval0 hW
theorem over : Rows.fnExactPathMarksRow.holds Try.pinned (OpenSpec.ofChange Rows.fnExactPathMarksSpec) :=
  OpenClaim.holds_of_wide 6 Try.f6 rfl rfl rfl rfl rfl rfl rfl ⟨rfl, rfl, rfl, rfl, rfl⟩ rfl rfl rfl rfl rfl (by kernel_rfl) Try.func6 (by kernel_rfl)
    (of_decide_eq_true (by kernel_rfl)) (by unfold Func.isWrapper; first | (rw [if_pos (by decide +kernel)]; kernel_rfl) | (rw [if_neg (by decide +kernel)]; exact ⟨rfl, rfl⟩))
    (fun os started H enc _ => lifted os started H enc)
theorem proved : Rows.FnExactPathMarksSaid := over
#print axioms proved
end Go.Proofs.Ytobhjgipeepmoaa.fnExactPathMarks
namespace Go.Proofs.Ytobhjgipeepmoaa
/-- The row, under a short name, for the claim. -/
theorem fnExactPathMarks_holds : Rows.FnExactPathMarksSaid := fnExactPathMarks.proved
end Go.Proofs.Ytobhjgipeepmoaa
