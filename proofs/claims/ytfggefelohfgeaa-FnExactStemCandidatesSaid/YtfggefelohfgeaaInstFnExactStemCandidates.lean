/- The given program's functions that FnExactStemCandidates reaches have the form that the library proves of; so the law holds of them. No condition. -/
import Derived.Test.YtfggefelohfgeaaProg
import Derived.Test.YtfggefelohfgeaaL01
import Derived.Test.YtfggefelohfgeaaL02
import Derived.Test.YtfggefelohfgeaaL03
import Derived.Test.YtfggefelohfgeaaL04
import Derived.Test.YtfggefelohfgeaaL05
namespace Go.Proofs.Ytfggefelohfgeaa.OfFnExactStemCandidates
open Go.Ab Go.Proofs Go.Lib01 Go.Lib02 Go.Lib03 Go.Lib04 Go.Lib05
set_option linter.unusedVariables false
theorem mo : Try.prog.follows .mixedOrders = true := by kernel_rfl
theorem H11 : Has Try.prog 11 w_szParadigm.X := ⟨mo, Try.f11, Try.func11, by kernel_rfl, by kernel_rfl, rfl, by kernel_rfl⟩
theorem K11_C_szParadigm : C_szParadigm Try.prog 11 := w_szParadigm.ok H11
theorem H13 : Has Try.prog 13 w_toParadigm.X := ⟨mo, Try.f13, Try.func13, by kernel_rfl, by kernel_rfl, rfl, by kernel_rfl⟩
theorem K13_C_toParadigm : C_toParadigm Try.prog 13 := w_toParadigm.ok H13
theorem H56 : Has Try.prog 56 s_IsSound.X := ⟨mo, Try.f56, Try.func56, by kernel_rfl, by kernel_rfl, rfl, by kernel_rfl⟩
theorem K56_C_IsSound : C_IsSound Try.prog 56 := s_IsSound.ok H56
theorem H48 : Has Try.prog 48 (s_l2Sounds.X 56) := ⟨mo, Try.f48, Try.func48, by kernel_rfl, by kernel_rfl, rfl, by kernel_rfl⟩
theorem K48_C_l2Sounds : C_l2Sounds Try.prog 48 := s_l2Sounds.ok H48 K56_C_IsSound
theorem H33 : Has Try.prog 33 (s_IsForm.X 48) := ⟨mo, Try.f33, Try.func33, by kernel_rfl, by kernel_rfl, rfl, by kernel_rfl⟩
theorem K33_C_IsForm : C_IsForm Try.prog 33 := s_IsForm.ok H33 K48_C_l2Sounds
theorem H31 : Has Try.prog 31 s_l1In.X := ⟨mo, Try.f31, Try.func31, by kernel_rfl, by kernel_rfl, rfl, by kernel_rfl⟩
theorem K31_C_within : C_within Try.prog 31 := s_l1In.ok H31
theorem H12 : Has Try.prog 12 (s_IsParadigm.X 33 31) := ⟨mo, Try.f12, Try.func12, by kernel_rfl, by kernel_rfl, rfl, by kernel_rfl⟩
theorem K12_C_IsParadigm : C_IsParadigm Try.prog 12 := s_IsParadigm.ok H12 K33_C_IsForm K31_C_within
theorem H22 : Has Try.prog 22 (s_StemCandidates.X 12) := ⟨mo, Try.f22, Try.func22, by kernel_rfl, by kernel_rfl, rfl, by kernel_rfl⟩
theorem K22_C_StemCandidates : C_StemCandidates Try.prog 22 := s_StemCandidates.ok H22 K12_C_IsParadigm
theorem K61_C_indexByte : C_indexByte Try.prog 61 := Go.Lib01.indexByte_ok Try.func61 (by kernel_rfl) (by kernel_rfl) (by kernel_rfl) (by kernel_rfl)
theorem H60 : Has Try.prog 60 (stringslite_IndexByte.X 61) := ⟨mo, Try.f60, Try.func60, by kernel_rfl, by kernel_rfl, rfl, by kernel_rfl⟩
theorem K60_C_indexByte : C_indexByte Try.prog 60 := stringslite_IndexByte.ok H60 K61_C_indexByte
theorem H58 : Has Try.prog 58 (strings_IndexByte.X 60) := ⟨mo, Try.f58, Try.func58, by kernel_rfl, by kernel_rfl, rfl, by kernel_rfl⟩
theorem K58_C_indexByte : C_indexByte Try.prog 58 := strings_IndexByte.ok H58 K60_C_indexByte
theorem H57 : Has Try.prog 57 (i_IsSound.X 58) := ⟨mo, Try.f57, Try.func57, by kernel_rfl, by kernel_rfl, rfl, by kernel_rfl⟩
theorem K57_C_IsSound : C_IsSound Try.prog 57 := i_IsSound.ok H57 K58_C_indexByte
theorem H32 : Has Try.prog 32 i_within.X := ⟨mo, Try.f32, Try.func32, by kernel_rfl, by kernel_rfl, rfl, by kernel_rfl⟩
theorem K32_C_within : C_within Try.prog 32 := i_within.ok H32
theorem H49 : Has Try.prog 49 (i_areSounds.X 57 32) := ⟨mo, Try.f49, Try.func49, by kernel_rfl, by kernel_rfl, rfl, by kernel_rfl⟩
theorem K49_C_areSounds : C_areSounds Try.prog 49 := i_areSounds.ok H49 K57_C_IsSound K32_C_within
theorem H34 : Has Try.prog 34 (i_IsForm.X 49) := ⟨mo, Try.f34, Try.func34, by kernel_rfl, by kernel_rfl, rfl, by kernel_rfl⟩
theorem K34_C_IsForm : C_IsForm Try.prog 34 := i_IsForm.ok H34 K49_C_areSounds
theorem H14 : Has Try.prog 14 (i_IsParadigm.X 34 32) := ⟨mo, Try.f14, Try.func14, by kernel_rfl, by kernel_rfl, rfl, by kernel_rfl⟩
theorem K14_C_IsParadigm : C_IsParadigm Try.prog 14 := i_IsParadigm.ok H14 K34_C_IsForm K32_C_within
theorem H52 : Has Try.prog 52 slices_Index_string_string.X := ⟨mo, Try.f52, Try.func52, by kernel_rfl, by kernel_rfl, rfl, by kernel_rfl⟩
theorem K52_C_indexStr : C_indexStr Try.prog 52 := slices_Index_string_string.ok H52
theorem H38 : Has Try.prog 38 (slices_Contains_string_string.X 52) := ⟨mo, Try.f38, Try.func38, by kernel_rfl, by kernel_rfl, rfl, by kernel_rfl⟩
theorem K38_C_has : C_has Try.prog 38 := slices_Contains_string_string.ok H38 K52_C_indexStr
theorem H39 : Has Try.prog 39 (i_addOnce.X 38) := ⟨mo, Try.f39, Try.func39, by kernel_rfl, by kernel_rfl, rfl, by kernel_rfl⟩
theorem K39_C_addOnce : C_addOnce Try.prog 39 := i_addOnce.ok H39 K38_C_has
theorem H23 : Has Try.prog 23 (i_StemCandidates.X 14 39) := ⟨mo, Try.f23, Try.func23, by kernel_rfl, by kernel_rfl, rfl, by kernel_rfl⟩
theorem K23_C_iStem : C_iStem Try.prog 23 := i_StemCandidates.ok H23 K14_C_IsParadigm K39_C_addOnce
theorem H21 : Has Try.prog 21 w_eqStringS.X := ⟨mo, Try.f21, Try.func21, by kernel_rfl, by kernel_rfl, rfl, by kernel_rfl⟩
theorem K21_C_eqStringS : C_eqStringS Try.prog 21 := w_eqStringS.ok H21
theorem H40 : Has Try.prog 40 w_markText.X := ⟨mo, Try.f40, Try.func40, by kernel_rfl, by kernel_rfl, rfl, by kernel_rfl⟩
theorem K40_C_markText : C_markText Try.prog 40 := w_markText.ok H40
theorem H24 : Has Try.prog 24 (w_markStringS.X 40) := ⟨mo, Try.f24, Try.func24, by kernel_rfl, by kernel_rfl, rfl, by kernel_rfl⟩
theorem K24_C_markStringS : C_markStringS Try.prog 24 := w_markStringS.ok H24 K40_C_markText
theorem H25 : Has Try.prog 25 (w_heldStringS.X 40) := ⟨mo, Try.f25, Try.func25, by kernel_rfl, by kernel_rfl, rfl, by kernel_rfl⟩
theorem K25_C_heldStringS : C_heldStringS Try.prog 25 := w_heldStringS.ok H25 K40_C_markText
theorem K24_C_markStringS0 : C_markStringS0 Try.prog 24 := w_markStringS.ok0 H24
theorem H7 : Has Try.prog 7 (w_FnExactStemCandidates.X 11 13 22 23 21 24 25) := ⟨mo, Try.f7, Try.func7, by kernel_rfl, by kernel_rfl, rfl, by kernel_rfl⟩
theorem K7_C_lawPara : C_lawPara Try.prog 7 := w_FnExactStemCandidates.ok H7 K11_C_szParadigm K13_C_toParadigm K22_C_StemCandidates K23_C_iStem K21_C_eqStringS K24_C_markStringS K25_C_heldStringS K24_C_markStringS0
end Go.Proofs.Ytfggefelohfgeaa.OfFnExactStemCandidates
