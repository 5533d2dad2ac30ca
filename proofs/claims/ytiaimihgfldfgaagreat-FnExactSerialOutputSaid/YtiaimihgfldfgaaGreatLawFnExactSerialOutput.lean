/- FnExactSerialOutput: whatever the arguments, the law answers true, and each argument reads behind the call as it read before. No condition. -/
import Derived.Test.YtiaimihgfldfgaaGreatRows
import Derived.Test.YtiaimihgfldfgaaGreatInstFnExactSerialOutput
import Derived.Test.YtiaimihgfldfgaaGreatA4
import Derived.WalkKit
import Derived.ProofKit
import Derived.SizedLaws
namespace Go.Proofs.YtiaimihgfldfgaaGreat.fnExactSerialOutput
open Go.ChangeShapes Go.WideShapes Go.ChangeAt Go.RowKit Go.Ab
set_option linter.unusedVariables false
set_option maxRecDepth 100000
theorem own : ownKnob Tryz.prog.godebug = none := by kernel_rfl
theorem core : ∀ avs, HasArgs [.str, (.sl 1 .str), (.sl 1 (.int .i64))] avs → Runs Tryz.prog 4 avs 0 [] (fun v _ _ => v = .bool true) := by
    intro avs h
    obtain ⟨c1, r1, rfl, h1, c2, r2, rfl, h2, c3, r3, rfl, h3, rfl⟩ := h
    obtain ⟨x1, rfl, o1⟩ := (show HK _ (List UInt8) from HK.str) _ h1
    obtain ⟨x2, rfl, o2⟩ := (show HK _ (List (List UInt8)) from (HK.sl HK.str)) _ h2
    obtain ⟨x3, rfl, o3⟩ := (show HK _ (List Int) from (HK.sl HK.int)) _ h3
    exact (OfFnExactSerialOutput.K4_C_lawSCR x1 x2 x3 o1 o2 o3 0 []).mono fun v n H h => h.1
set_option maxRecDepth 100000 in
theorem lifted (os : Os) (started : os.Started) (H : Type) (enc : TypeId × Value → H) :
    ReturnsInHanded {} Tryz.checked os 4 .any (Rows.fnExactSerialOutputSpec.pre6 enc Tryz.prog Tryz.f4 Rows.fnExactSerialOutputRow.domain false) (Rows.fnExactSerialOutputSpec.post enc Tryz.prog Tryz.f4 false true false false) := by
  refine returnsInHanded_of_change_sized (C := Tryz.checked) own started (by kernel_rfl) Tryz.func4
    (ChangeSpec.witness6 (enc := enc) (C := Tryz.checked) false ⟨#[], #[.string .empty, .slice none 0 0, .slice none 0 0], []⟩ 8 (by kernel_rfl) (by kernel_rfl) (by kernel_rfl) (by kernel_rfl)) ?_
  intro W base args ds gs before hval0 hW hcnd hsz0 _
  exact law_calls (P := Tryz.prog) (f := 4) (fn := Tryz.f4) (s := Rows.fnExactSerialOutputSpec) (m := 20) (shs := [.str, (.sl 1 .str), (.sl 1 (.int .i64))]) (tb := 4) (by kernel_rfl) (by kernel_rfl) (by kernel_rfl) rfl (by kernel_rfl) rfl
    (fun H ds h => by match ds, h with | [_, _, _], _ => rfl) Tryz.func4 (by kernel_rfl) (by kernel_rfl) core hval0 hW
theorem over : Rows.fnExactSerialOutputRow.holds Tryz.pinned (OpenSpec.ofChange Rows.fnExactSerialOutputSpec) :=
  OpenClaim.holds_of_wide 4 Tryz.f4 rfl rfl rfl rfl rfl rfl rfl ⟨rfl, rfl, rfl, rfl, rfl⟩ rfl rfl rfl rfl rfl (by kernel_rfl) Tryz.func4 (by kernel_rfl)
    (of_decide_eq_true (by kernel_rfl)) (by unfold Func.isWrapper; first | (rw [if_pos (by decide +kernel)]; kernel_rfl) | (rw [if_neg (by decide +kernel)]; exact ⟨rfl, rfl⟩))
    (fun os started H enc _ => lifted os started H enc)
theorem proved : Rows.FnExactSerialOutputSaid := over
#print axioms proved
end Go.Proofs.YtiaimihgfldfgaaGreat.fnExactSerialOutput
namespace Go.Proofs.YtiaimihgfldfgaaGreat
/-- The row, under a short name, for the claim. -/
theorem fnExactSerialOutput_holds : Rows.FnExactSerialOutputSaid := fnExactSerialOutput.proved
end Go.Proofs.YtiaimihgfldfgaaGreat
