/- The given program's functions that FnExactIsAlternating reaches have the form that the library proves of; so the law holds of them. No condition. -/
import Derived.Test.YtfggefelohfgeaaProg
import Derived.Test.YtfggefelohfgeaaL01
import Derived.Test.YtfggefelohfgeaaL02
namespace Go.Proofs.Ytfggefelohfgeaa.OfFnExactIsAlternating
open Go.Ab Go.Proofs Go.Lib01 Go.Lib02
set_option linter.unusedVariables false
theorem mo : Try.prog.follows .mixedOrders = true := by kernel_rfl
theorem H11 : Has Try.prog 11 w_szParadigm.X := ⟨mo, Try.f11, Try.func11, by kernel_rfl, by kernel_rfl, rfl, by kernel_rfl⟩
theorem K11_C_szParadigm : C_szParadigm Try.prog 11 := w_szParadigm.ok H11
theorem H13 : Has Try.prog 13 w_toParadigm.X := ⟨mo, Try.f13, Try.func13, by kernel_rfl, by kernel_rfl, rfl, by kernel_rfl⟩
theorem K13_C_toParadigm : C_toParadigm Try.prog 13 := w_toParadigm.ok H13
theorem H56 : Has Try.prog 56 s_IsSound.X := ⟨mo, Try.f56, Try.func56, by kernel_rfl, by kernel_rfl, rfl, by kernel_rfl⟩
theorem K56_C_IsSound : C_IsSound Try.prog 56 := s_IsSound.ok H56
theorem H48 : Has Try.prog 48 (s_l2Sounds.X 56) := ⟨mo, Try.f48, Try.func48, by kernel_rfl, by kernel_rfl, rfl, by kernel_rfl⟩
theorem K48_C_l2Sounds : C_l2Sounds Try.prog 48 := s_l2Sounds.ok H48 K56_C_IsSound
theorem H33 : Has Try.prog 33 (s_IsForm.X 48) := ⟨mo, Try.f33, Try.func33, by kernel_rfl, by kernel_rfl, rfl, by kernel_rfl⟩
theorem K33_C_IsForm : C_IsForm Try.prog 33 := s_IsForm.ok H33 K48_C_l2Sounds
theorem H31 : Has Try.prog 31 s_l1In.X := ⟨mo, Try.f31, Try.func31, by kernel_rfl, by kernel_rfl, rfl, by kernel_rfl⟩
theorem K31_C_within : C_within Try.prog 31 := s_l1In.ok H31
theorem H12 : Has Try.prog 12 (s_IsParadigm.X 33 31) := ⟨mo, Try.f12, Try.func12, by kernel_rfl, by kernel_rfl, rfl, by kernel_rfl⟩
theorem K12_C_IsParadigm : C_IsParadigm Try.prog 12 := s_IsParadigm.ok H12 K33_C_IsForm K31_C_within
theorem H15 : Has Try.prog 15 (s_IsAlternating.X 12) := ⟨mo, Try.f15, Try.func15, by kernel_rfl, by kernel_rfl, rfl, by kernel_rfl⟩
theorem K15_C_IsAlternating : C_IsAlternating Try.prog 15 := s_IsAlternating.ok H15 K12_C_IsParadigm
theorem K61_C_indexByte : C_indexByte Try.prog 61 := Go.Lib01.indexByte_ok Try.func61 (by kernel_rfl) (by kernel_rfl) (by kernel_rfl) (by kernel_rfl)
theorem H60 : Has Try.prog 60 (stringslite_IndexByte.X 61) := ⟨mo, Try.f60, Try.func60, by kernel_rfl, by kernel_rfl, rfl, by kernel_rfl⟩
theorem K60_C_indexByte : C_indexByte Try.prog 60 := stringslite_IndexByte.ok H60 K61_C_indexByte
theorem H58 : Has Try.prog 58 (strings_IndexByte.X 60) := ⟨mo, Try.f58, Try.func58, by kernel_rfl, by kernel_rfl, rfl, by kernel_rfl⟩
theorem K58_C_indexByte : C_indexByte Try.prog 58 := strings_IndexByte.ok H58 K60_C_indexByte
theorem H57 : Has Try.prog 57 (i_IsSound.X 58) := ⟨mo, Try.f57, Try.func57, by kernel_rfl, by kernel_rfl, rfl, by kernel_rfl⟩
theorem K57_C_IsSound : C_IsSound Try.prog 57 := i_IsSound.ok H57 K58_C_indexByte
theorem H32 : Has Try.prog 32 i_within.X := ⟨mo, Try.f32, Try.func32, by kernel_rfl, by kernel_rfl, rfl, by kernel_rfl⟩
theorem K32_C_within : C_within Try.prog 32 := i_within.ok H32
theorem H49 : Has Try.prog 49 (i_areSounds.X 57 32) := ⟨mo, Try.f49, Try.func49, by kernel_rfl, by kernel_rfl, rfl, by kernel_rfl⟩
theorem K49_C_areSounds : C_areSounds Try.prog 49 := i_areSounds.ok H49 K57_C_IsSound K32_C_within
theorem H34 : Has Try.prog 34 (i_IsForm.X 49) := ⟨mo, Try.f34, Try.func34, by kernel_rfl, by kernel_rfl, rfl, by kernel_rfl⟩
theorem K34_C_IsForm : C_IsForm Try.prog 34 := i_IsForm.ok H34 K49_C_areSounds
theorem H14 : Has Try.prog 14 (i_IsParadigm.X 34 32) := ⟨mo, Try.f14, Try.func14, by kernel_rfl, by kernel_rfl, rfl, by kernel_rfl⟩
theorem K14_C_IsParadigm : C_IsParadigm Try.prog 14 := i_IsParadigm.ok H14 K34_C_IsForm K32_C_within
theorem H16 : Has Try.prog 16 (i_IsAlternating.X 14) := ⟨mo, Try.f16, Try.func16, by kernel_rfl, by kernel_rfl, rfl, by kernel_rfl⟩
theorem K16_C_IsAlternating : C_IsAlternating Try.prog 16 := i_IsAlternating.ok H16 K14_C_IsParadigm
theorem H5 : Has Try.prog 5 (w_FnExactIsAlternating.X 11 13 15 16) := ⟨mo, Try.f5, Try.func5, by kernel_rfl, by kernel_rfl, rfl, by kernel_rfl⟩
theorem K5_C_lawPara : C_lawPara Try.prog 5 := w_FnExactIsAlternating.ok H5 K11_C_szParadigm K13_C_toParadigm K15_C_IsAlternating K16_C_IsAlternating
end Go.Proofs.Ytfggefelohfgeaa.OfFnExactIsAlternating
