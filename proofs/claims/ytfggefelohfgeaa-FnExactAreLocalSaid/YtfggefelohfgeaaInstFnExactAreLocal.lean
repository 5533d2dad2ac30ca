/- The given program's functions that FnExactAreLocal reaches have the form that the library proves of; so the law holds of them. No condition. -/
import Derived.Test.YtfggefelohfgeaaProg
import Derived.Test.YtfggefelohfgeaaL01
import Derived.Test.YtfggefelohfgeaaL03
namespace Go.Proofs.Ytfggefelohfgeaa.OfFnExactAreLocal
open Go.Ab Go.Proofs Go.Lib01 Go.Lib03
set_option linter.unusedVariables false
theorem mo : Try.prog.follows .mixedOrders = true := by kernel_rfl
theorem H17 : Has Try.prog 17 w_szStringS.X := ⟨mo, Try.f17, Try.func17, by kernel_rfl, by kernel_rfl, rfl, by kernel_rfl⟩
theorem K17_C_szStringS : C_szStringS Try.prog 17 := w_szStringS.ok H17
theorem H19 : Has Try.prog 19 w_toStringS.X := ⟨mo, Try.f19, Try.func19, by kernel_rfl, by kernel_rfl, rfl, by kernel_rfl⟩
theorem K19_C_toStringS : C_toStringS Try.prog 19 := w_toStringS.ok H19
theorem H36 : Has Try.prog 36 s_l3Has.X := ⟨mo, Try.f36, Try.func36, by kernel_rfl, by kernel_rfl, rfl, by kernel_rfl⟩
theorem K36_C_has : C_has Try.prog 36 := s_l3Has.ok H36
theorem H50 : Has Try.prog 50 s_ConstraintNames.X := ⟨mo, Try.f50, Try.func50, by kernel_rfl, by kernel_rfl, rfl, by kernel_rfl⟩
theorem K50_C_ConstraintNames : C_ConstraintNames Try.prog 50 := s_ConstraintNames.ok H50
theorem H31 : Has Try.prog 31 s_l1In.X := ⟨mo, Try.f31, Try.func31, by kernel_rfl, by kernel_rfl, rfl, by kernel_rfl⟩
theorem K31_C_within : C_within Try.prog 31 := s_l1In.ok H31
theorem H35 : Has Try.prog 35 (s_AreConstraints.X 50 36 31) := ⟨mo, Try.f35, Try.func35, by kernel_rfl, by kernel_rfl, rfl, by kernel_rfl⟩
theorem K35_C_AreConstraints : C_AreConstraints Try.prog 35 := s_AreConstraints.ok H35 K36_C_has K50_C_ConstraintNames K31_C_within
theorem H18 : Has Try.prog 18 (s_AreLocal.X 35 36) := ⟨mo, Try.f18, Try.func18, by kernel_rfl, by kernel_rfl, rfl, by kernel_rfl⟩
theorem K18_C_AreLocal : C_AreLocal Try.prog 18 := s_AreLocal.ok H18 K35_C_AreConstraints K36_C_has
theorem H52 : Has Try.prog 52 slices_Index_string_string.X := ⟨mo, Try.f52, Try.func52, by kernel_rfl, by kernel_rfl, rfl, by kernel_rfl⟩
theorem K52_C_indexStr : C_indexStr Try.prog 52 := slices_Index_string_string.ok H52
theorem H38 : Has Try.prog 38 (slices_Contains_string_string.X 52) := ⟨mo, Try.f38, Try.func38, by kernel_rfl, by kernel_rfl, rfl, by kernel_rfl⟩
theorem K38_C_has : C_has Try.prog 38 := slices_Contains_string_string.ok H38 K52_C_indexStr
theorem H51 : Has Try.prog 51 i_ConstraintNames.X := ⟨mo, Try.f51, Try.func51, by kernel_rfl, by kernel_rfl, rfl, by kernel_rfl⟩
theorem K51_C_ConstraintNames : C_ConstraintNames Try.prog 51 := i_ConstraintNames.ok H51
theorem H32 : Has Try.prog 32 i_within.X := ⟨mo, Try.f32, Try.func32, by kernel_rfl, by kernel_rfl, rfl, by kernel_rfl⟩
theorem K32_C_within : C_within Try.prog 32 := i_within.ok H32
theorem H37 : Has Try.prog 37 (i_AreConstraints.X 51 38 32) := ⟨mo, Try.f37, Try.func37, by kernel_rfl, by kernel_rfl, rfl, by kernel_rfl⟩
theorem K37_C_AreConstraints : C_AreConstraints Try.prog 37 := i_AreConstraints.ok H37 K38_C_has K51_C_ConstraintNames K32_C_within
theorem H20 : Has Try.prog 20 (i_AreLocal.X 37 38) := ⟨mo, Try.f20, Try.func20, by kernel_rfl, by kernel_rfl, rfl, by kernel_rfl⟩
theorem K20_C_AreLocal : C_AreLocal Try.prog 20 := i_AreLocal.ok H20 K37_C_AreConstraints K38_C_has
theorem H21 : Has Try.prog 21 w_eqStringS.X := ⟨mo, Try.f21, Try.func21, by kernel_rfl, by kernel_rfl, rfl, by kernel_rfl⟩
theorem K21_C_eqStringS : C_eqStringS Try.prog 21 := w_eqStringS.ok H21
theorem H6 : Has Try.prog 6 (w_FnExactAreLocal.X 17 19 18 20 21) := ⟨mo, Try.f6, Try.func6, by kernel_rfl, by kernel_rfl, rfl, by kernel_rfl⟩
theorem K6_C_lawAreLocal : C_lawAreLocal Try.prog 6 := w_FnExactAreLocal.ok H6 K17_C_szStringS K19_C_toStringS K18_C_AreLocal K20_C_AreLocal K21_C_eqStringS
end Go.Proofs.Ytfggefelohfgeaa.OfFnExactAreLocal
