/- FnExactSameByOrder: whatever the arguments, the law answers true, and each argument reads behind the call as it read before. No condition. -/
import Derived.Test.YtiaimihgfldfgaaGreatRows
import Derived.Test.YtiaimihgfldfgaaGreatInstFnExactSameByOrder
import Derived.Test.YtiaimihgfldfgaaGreatA4
import Derived.WalkKit
import Derived.ProofKit
import Derived.SizedLaws
namespace Go.Proofs.YtiaimihgfldfgaaGreat.fnExactSameByOrder
open Go.ChangeShapes Go.WideShapes Go.ChangeAt Go.RowKit Go.Ab
set_option linter.unusedVariables false
set_option maxRecDepth 100000
theorem own : ownKnob Tryz.prog.godebug = none := by kernel_rfl
theorem core : ∀ avs, HasArgs [.str, (.st (.cons (.sl 1 .str) (.cons (.sl 1 (.int .i64)) .nil))), (.st (.cons (.sl 1 .str) (.cons (.sl 1 (.int .i64)) .nil)))] avs → Runs Tryz.prog 5 avs 0 [] (fun v _ _ => v = .bool true) := by
    intro avs h
    obtain ⟨c1, r1, rfl, h1, c2, r2, rfl, h2, c3, r3, rfl, h3, rfl⟩ := h
    obtain ⟨x1, rfl, o1⟩ := (show HK _ (List UInt8) from HK.str) _ h1
    obtain ⟨x2, rfl, o2⟩ := (show HK _ Lvl from (HK.st (HK.cons (HK.sl HK.str) (HK.one (HK.sl HK.int))))) _ h2
    obtain ⟨x3, rfl, o3⟩ := (show HK _ Lvl from (HK.st (HK.cons (HK.sl HK.str) (HK.one (HK.sl HK.int))))) _ h3
    exact (OfFnExactSameByOrder.K5_C_lawSLL x1 x2 x3 o1 o2 o3 0 []).mono fun v n H h => h.1
set_option maxRecDepth 100000 in
theorem lifted (os : Os) (started : os.Started) (H : Type) (enc : TypeId × Value → H) :
    ReturnsInHanded {} Tryz.checked os 5 .any (Rows.fnExactSameByOrderSpec.pre6 enc Tryz.prog Tryz.f5 Rows.fnExactSameByOrderRow.domain false) (Rows.fnExactSameByOrderSpec.post enc Tryz.prog Tryz.f5 false true false false) := by
  refine returnsInHanded_of_change_sized (C := Tryz.checked) own started (by kernel_rfl) Tryz.func5
    (ChangeSpec.witness6 (enc := enc) (C := Tryz.checked) false ⟨#[], #[.string .empty, .agg #[.slice none 0 0, .slice none 0 0], .agg #[.slice none 0 0, .slice none 0 0]], []⟩ 8 (by kernel_rfl) (by kernel_rfl) (by kernel_rfl) (by kernel_rfl)) ?_
  intro W base args ds gs before hval0 hW hcnd hsz0 _
  exact law_calls (P := Tryz.prog) (f := 5) (fn := Tryz.f5) (s := Rows.fnExactSameByOrderSpec) (m := 20) (shs := [.str, (.st (.cons (.sl 1 .str) (.cons (.sl 1 (.int .i64)) .nil))), (.st (.cons (.sl 1 .str) (.cons (.sl 1 (.int .i64)) .nil)))]) (tb := 4) (by kernel_rfl) (by kernel_rfl) (by kernel_rfl) rfl (by kernel_rfl) rfl
    (fun H ds h => by match ds, h with | [_, _, _], _ => rfl) Tryz.func5 (by kernel_rfl) (by kernel_rfl) core hval0 hW
theorem over : Rows.fnExactSameByOrderRow.holds Tryz.pinned (OpenSpec.ofChange Rows.fnExactSameByOrderSpec) :=
  OpenClaim.holds_of_wide 5 Tryz.f5 rfl rfl rfl rfl rfl rfl rfl ⟨rfl, rfl, rfl, rfl, rfl⟩ rfl rfl rfl rfl rfl (by kernel_rfl) Tryz.func5 (by kernel_rfl)
    (of_decide_eq_true (by kernel_rfl)) (by unfold Func.isWrapper; first | (rw [if_pos (by decide +kernel)]; kernel_rfl) | (rw [if_neg (by decide +kernel)]; exact ⟨rfl, rfl⟩))
    (fun os started H enc _ => lifted os started H enc)
theorem proved : Rows.FnExactSameByOrderSaid := over
#print axioms proved
end Go.Proofs.YtiaimihgfldfgaaGreat.fnExactSameByOrder
namespace Go.Proofs.YtiaimihgfldfgaaGreat
/-- The row, under a short name, for the claim. -/
theorem fnExactSameByOrder_holds : Rows.FnExactSameByOrderSaid := fnExactSameByOrder.proved
end Go.Proofs.YtiaimihgfldfgaaGreat
