/- FnExactEqualClaims: whatever the arguments, the law answers true, and each argument reads behind the call as it read before. No condition. -/
import Derived.Test.YtobhjgipeepmoaaRows
import Derived.Test.YtobhjgipeepmoaaInstFnExactEqualClaims
import Derived.Test.YtobhjgipeepmoaaAbLaw3
import Derived.WalkKit
import Derived.ProofKit
import Derived.SizedLaws
namespace Go.Proofs.Ytobhjgipeepmoaa.fnExactEqualClaims
open Go.ChangeShapes Go.WideShapes Go.ChangeAt Go.RowKit Go.Ab
set_option linter.unusedVariables false
set_option maxRecDepth 100000
theorem own : ownKnob Try.prog.godebug = none := by kernel_rfl
theorem core : ∀ avs, HasArgs [(.st (.cons (.int .i64) (.cons (.st (.cons .str (.cons (.sl 1 .str) (.cons (.sl 1 (.st (.cons (.sl 2 (.st (.cons (.int .u8) (.cons (.int .u8) .nil)))) .nil))) (.cons (.sl 1 (.sl 1 (.int .i64))) .nil))))) (.cons (.int .i64) (.cons (.sl 1 (.st (.cons (.sl 1 (.int .i64)) .nil))) (.cons (.sl 1 (.int .i64)) (.cons (.sl 1 (.int .i64)) (.cons (.sl 1 .str) .nil)))))))), (.st (.cons (.int .i64) (.cons (.st (.cons .str (.cons (.sl 1 .str) (.cons (.sl 1 (.st (.cons (.sl 2 (.st (.cons (.int .u8) (.cons (.int .u8) .nil)))) .nil))) (.cons (.sl 1 (.sl 1 (.int .i64))) .nil))))) (.cons (.int .i64) (.cons (.sl 1 (.st (.cons (.sl 1 (.int .i64)) .nil))) (.cons (.sl 1 (.int .i64)) (.cons (.sl 1 (.int .i64)) (.cons (.sl 1 .str) .nil))))))))] avs → Runs Try.prog 5 avs 0 [] (fun v _ _ => v = .bool true) := by
    intro avs h
    obtain ⟨c1, r1, rfl, h1, c2, r2, rfl, h2, rfl⟩ := h
    obtain ⟨x1, rfl, o1⟩ := (show HK _ Clm from (HK.st (HK.cons HK.int (HK.cons (HK.st (HK.cons HK.str (HK.cons (HK.sl HK.str) (HK.cons (HK.sl (HK.st (HK.one (HK.sl (HK.st (HK.cons HK.u8 (HK.one HK.u8))))))) (HK.one (HK.sl (HK.sl HK.int))))))) (HK.cons HK.int (HK.cons (HK.sl (HK.st (HK.one (HK.sl HK.int)))) (HK.cons (HK.sl HK.int) (HK.cons (HK.sl HK.int) (HK.one (HK.sl HK.str)))))))))) _ h1
    obtain ⟨x2, rfl, o2⟩ := (show HK _ Clm from (HK.st (HK.cons HK.int (HK.cons (HK.st (HK.cons HK.str (HK.cons (HK.sl HK.str) (HK.cons (HK.sl (HK.st (HK.one (HK.sl (HK.st (HK.cons HK.u8 (HK.one HK.u8))))))) (HK.one (HK.sl (HK.sl HK.int))))))) (HK.cons HK.int (HK.cons (HK.sl (HK.st (HK.one (HK.sl HK.int)))) (HK.cons (HK.sl HK.int) (HK.cons (HK.sl HK.int) (HK.one (HK.sl HK.str)))))))))) _ h2
    exact (OfFnExactEqualClaims.K5_C_law2_Clm_Clm x1 x2 o1 o2 0 []).mono fun v n H h => h.1
set_option maxRecDepth 100000 in
theorem lifted (os : Os) (started : os.Started) (H : Type) (enc : TypeId × Value → H) :
    ReturnsInHanded {} Try.checked os 5 .any (Rows.fnExactEqualClaimsSpec.pre6 enc Try.prog Try.f5 Rows.fnExactEqualClaimsRow.domain false) (Rows.fnExactEqualClaimsSpec.post enc Try.prog Try.f5 false true false false) := by
  refine returnsInHanded_of_change_sized (C := Try.checked) own started (by kernel_rfl) Try.func5
    (ChangeSpec.witness6 (enc := enc) (C := Try.checked) false ⟨#[], #[.agg #[.int .i64 0, .string .empty, .slice none 0 0, .slice none 0 0, .slice none 0 0, .int .i64 0, .slice none 0 0, .slice none 0 0, .slice none 0 0, .slice none 0 0], .agg #[.int .i64 0, .string .empty, .slice none 0 0, .slice none 0 0, .slice none 0 0, .int .i64 0, .slice none 0 0, .slice none 0 0, .slice none 0 0, .slice none 0 0]], []⟩ 8 (by kernel_rfl) (by kernel_rfl) (by kernel_rfl) (by kernel_rfl)) ?_
  intro W base args ds gs before hval0 hW hcnd hsz0 _
  exact law_calls (P := Try.prog) (f := 5) (fn := Try.f5) (s := Rows.fnExactEqualClaimsSpec) (m := 20) (shs := [(.st (.cons (.int .i64) (.cons (.st (.cons .str (.cons (.sl 1 .str) (.cons (.sl 1 (.st (.cons (.sl 2 (.st (.cons (.int .u8) (.cons (.int .u8) .nil)))) .nil))) (.cons (.sl 1 (.sl 1 (.int .i64))) .nil))))) (.cons (.int .i64) (.cons (.sl 1 (.st (.cons (.sl 1 (.int .i64)) .nil))) (.cons (.sl 1 (.int .i64)) (.cons (.sl 1 (.int .i64)) (.cons (.sl 1 .str) .nil)))))))), (.st (.cons (.int .i64) (.cons (.st (.cons .str (.cons (.sl 1 .str) (.cons (.sl 1 (.st (.cons (.sl 2 (.st (.cons (.int .u8) (.cons (.int .u8) .nil)))) .nil))) (.cons (.sl 1 (.sl 1 (.int .i64))) .nil))))) (.cons (.int .i64) (.cons (.sl 1 (.st (.cons (.sl 1 (.int .i64)) .nil))) (.cons (.sl 1 (.int .i64)) (.cons (.sl 1 (.int .i64)) (.cons (.sl 1 .str) .nil))))))))]) (tb := 4) (by kernel_rfl) (by kernel_rfl) (by kernel_rfl) rfl (by kernel_rfl) rfl
    (fun H ds h => by match ds, h with | [_, _], _ => rfl) Try.func5 (by kernel_rfl) (by kernel_rfl) core hval0 hW
theorem over : Rows.fnExactEqualClaimsRow.holds Try.pinned (OpenSpec.ofChange Rows.fnExactEqualClaimsSpec) :=
  OpenClaim.holds_of_wide 5 Try.f5 rfl rfl rfl rfl rfl rfl rfl ⟨rfl, rfl, rfl, rfl, rfl⟩ rfl rfl rfl rfl rfl (by kernel_rfl) Try.func5 (by kernel_rfl)
    (of_decide_eq_true (by kernel_rfl)) (by unfold Func.isWrapper; first | (rw [if_pos (by decide +kernel)]; kernel_rfl) | (rw [if_neg (by decide +kernel)]; exact ⟨rfl, rfl⟩))
    (fun os started H enc _ => lifted os started H enc)
theorem proved : Rows.FnExactEqualClaimsSaid := over
#print axioms proved
end Go.Proofs.Ytobhjgipeepmoaa.fnExactEqualClaims
namespace Go.Proofs.Ytobhjgipeepmoaa
/-- The row, under a short name, for the claim. -/
theorem fnExactEqualClaims_holds : Rows.FnExactEqualClaimsSaid := fnExactEqualClaims.proved
end Go.Proofs.Ytobhjgipeepmoaa
