/- The given program's functions that FnExactPathMarks reaches have the form that the library proves of; so the law holds of them. No condition. -/
import Derived.Test.YtobhjgipeepmoaaProg
import Derived.Test.YtobhjgipeepmoaaL01
import Derived.Test.YtobhjgipeepmoaaL03
import Derived.Test.YtobhjgipeepmoaaL04
import Derived.Test.YtobhjgipeepmoaaM01
import Derived.Test.YtobhjgipeepmoaaM02
import Derived.Test.YtobhjgipeepmoaaM03
import Derived.Test.YtobhjgipeepmoaaM04
import Derived.Test.YtobhjgipeepmoaaM06
import Derived.Test.YtobhjgipeepmoaaM07
import Derived.Test.YtobhjgipeepmoaaM08
namespace Go.Proofs.Ytobhjgipeepmoaa.OfFnExactPathMarks
open Go.Ab Go.Proofs Go.Lib01 Go.Lib03 Go.Lib04 Go.M01 Go.M02 Go.M03 Go.M04 Go.M06 Go.M07 Go.M08
set_option linter.unusedVariables false
set_option maxRecDepth 100000
theorem mo : Try.prog.follows .mixedOrders = true := by kernel_rfl
theorem H9 : Has Try.prog 9 w_szStringS.X := ⟨mo, Try.f9, Try.func9, by kernel_rfl, by kernel_rfl, rfl, by kernel_rfl⟩
theorem K9_C_szStringS : C_szStringS Try.prog 9 := w_szStringS.ok H9
theorem H75 : Has Try.prog 75 w_szLinkS.X := ⟨mo, Try.f75, Try.func75, by kernel_rfl, by kernel_rfl, rfl, by kernel_rfl⟩
theorem K75_C_szLinks : C_szLinks Try.prog 75 := w_szLinkS.ok H75
theorem H26 : Has Try.prog 26 (w_szCandidate.X 75) := ⟨mo, Try.f26, Try.func26, by kernel_rfl, by kernel_rfl, rfl, by kernel_rfl⟩
theorem K26_C_szCand : C_szCand Try.prog 26 := w_szCandidate.ok H26 K75_C_szLinks
theorem H11 : Has Try.prog 11 w_toStringS.X := ⟨mo, Try.f11, Try.func11, by kernel_rfl, by kernel_rfl, rfl, by kernel_rfl⟩
theorem K11_O_strs : O_strs Try.prog 11 := w_toStringS.okO H11
theorem H19 : Has Try.prog 19 w_toLink.X := ⟨mo, Try.f19, Try.func19, by kernel_rfl, by kernel_rfl, rfl, by kernel_rfl⟩
theorem K19_C_linkV : C_linkV Try.prog 19 := w_toLink.ok H19
theorem H77 : Has Try.prog 77 (w_toLinkS.X 19) := ⟨mo, Try.f77, Try.func77, by kernel_rfl, by kernel_rfl, rfl, by kernel_rfl⟩
theorem K77_O_links : O_links Try.prog 77 := w_toLinkS.ok H77 K19_C_linkV
theorem H28 : Has Try.prog 28 (w_toCandidate.X 77) := ⟨mo, Try.f28, Try.func28, by kernel_rfl, by kernel_rfl, rfl, by kernel_rfl⟩
theorem K28_O_cand : O_cand Try.prog 28 := w_toCandidate.ok H28 K77_O_links
theorem H88 : Has Try.prog 88 s_l3Has.X := ⟨mo, Try.f88, Try.func88, by kernel_rfl, by kernel_rfl, rfl, by kernel_rfl⟩
theorem K88_C_has : C_has Try.prog 88 := s_l3Has.ok H88
theorem H122 : Has Try.prog 122 s_ConstraintNames.X := ⟨mo, Try.f122, Try.func122, by kernel_rfl, by kernel_rfl, rfl, by kernel_rfl⟩
theorem K122_C_ConstraintNames : C_ConstraintNames Try.prog 122 := s_ConstraintNames.ok H122
theorem H123 : Has Try.prog 123 s_l1In.X := ⟨mo, Try.f123, Try.func123, by kernel_rfl, by kernel_rfl, rfl, by kernel_rfl⟩
theorem K123_C_within : C_within Try.prog 123 := s_l1In.ok H123
theorem H82 : Has Try.prog 82 (s_AreConstraints.X 122 88 123) := ⟨mo, Try.f82, Try.func82, by kernel_rfl, by kernel_rfl, rfl, by kernel_rfl⟩
theorem K82_C_AreConstraints : C_AreConstraints Try.prog 82 := s_AreConstraints.ok H82 K88_C_has K122_C_ConstraintNames K123_C_within
theorem H42 : Has Try.prog 42 (s_AreLocal.X 82 88) := ⟨mo, Try.f42, Try.func42, by kernel_rfl, by kernel_rfl, rfl, by kernel_rfl⟩
theorem K42_C_AreLocal : C_AreLocal Try.prog 42 := s_AreLocal.ok H42 K82_C_AreConstraints K88_C_has
theorem H96 : Has Try.prog 96 s_SwapVoice.X := ⟨mo, Try.f96, Try.func96, by kernel_rfl, by kernel_rfl, rfl, by kernel_rfl⟩
theorem K96_C_SwapVoice : C_SwapVoice Try.prog 96 := s_SwapVoice.ok H96
theorem H43 : Has Try.prog 43 s_IsSound.X := ⟨mo, Try.f43, Try.func43, by kernel_rfl, by kernel_rfl, rfl, by kernel_rfl⟩
theorem K43_C_IsSound : C_IsSound Try.prog 43 := s_IsSound.ok H43
theorem H98 : Has Try.prog 98 s_l6In.X := ⟨mo, Try.f98, Try.func98, by kernel_rfl, by kernel_rfl, rfl, by kernel_rfl⟩
theorem K98_Cs_insS : Cs insS Try.prog 98 := s_l6In.ok H98
theorem H99 : Has Try.prog 99 s_l6Out.X := ⟨mo, Try.f99, Try.func99, by kernel_rfl, by kernel_rfl, rfl, by kernel_rfl⟩
theorem K99_Cs_outS : Cs outS Try.prog 99 := s_l6Out.ok H99
theorem H131 : Has Try.prog 131 (s_l2Sounds.X 43) := ⟨mo, Try.f131, Try.func131, by kernel_rfl, by kernel_rfl, rfl, by kernel_rfl⟩
theorem K131_C_l2Sounds : C_l2Sounds Try.prog 131 := s_l2Sounds.ok H131 K43_C_IsSound
theorem H97 : Has Try.prog 97 (s_IsForm.X 131) := ⟨mo, Try.f97, Try.func97, by kernel_rfl, by kernel_rfl, rfl, by kernel_rfl⟩
theorem K97_C_IsForm : C_IsForm Try.prog 97 := s_IsForm.ok H97 K131_C_l2Sounds
theorem H53 : Has Try.prog 53 (s_IsCandidate.X 96 43 98 97 99) := ⟨mo, Try.f53, Try.func53, by kernel_rfl, by kernel_rfl, rfl, by kernel_rfl⟩
theorem K53_C_IsCandidate : C_IsCandidate Try.prog 53 := s_IsCandidate.ok H53 K96_C_SwapVoice K43_C_IsSound K98_Cs_insS K99_Cs_outS K97_C_IsForm
theorem H89 : Has Try.prog 89 s_HasFeature.X := ⟨mo, Try.f89, Try.func89, by kernel_rfl, by kernel_rfl, rfl, by kernel_rfl⟩
theorem K89_C_HasFeature : C_HasFeature Try.prog 89 := s_HasFeature.ok H89
theorem H100 : Has Try.prog 100 (s_l31Vowel.X 89) := ⟨mo, Try.f100, Try.func100, by kernel_rfl, by kernel_rfl, rfl, by kernel_rfl⟩
theorem K100_CB_fun_c_c_0_hasF_c_0 : CB (fun c => c != 0 && hasF c 0) Try.prog 100 := s_l31Vowel.ok H100 K89_C_HasFeature
theorem H44 : Has Try.prog 44 (s_l31Consonant.X 89) := ⟨mo, Try.f44, Try.func44, by kernel_rfl, by kernel_rfl, rfl, by kernel_rfl⟩
theorem K44_CB_fun_c_c_0_hasF_c_0 : CB (fun c => c != 0 && !hasF c 0) Try.prog 44 := s_l31Consonant.ok H44 K89_C_HasFeature
theorem H90 : Has Try.prog 90 s_IsObstruent.X := ⟨mo, Try.f90, Try.func90, by kernel_rfl, by kernel_rfl, rfl, by kernel_rfl⟩
theorem K90_CB_isObs : CB isObs Try.prog 90 := s_IsObstruent.ok H90
theorem H45 : Has Try.prog 45 (s_l8Voiced.X 90 89) := ⟨mo, Try.f45, Try.func45, by kernel_rfl, by kernel_rfl, rfl, by kernel_rfl⟩
theorem K45_CB_isVoi : CB isVoi Try.prog 45 := s_l8Voiced.ok H45 K90_CB_isObs K89_C_HasFeature
theorem H54 : Has Try.prog 54 (s_l31Step.X 100 44 45) := ⟨mo, Try.f54, Try.func54, by kernel_rfl, by kernel_rfl, rfl, by kernel_rfl⟩
theorem K54_C_step : C_step Try.prog 54 := s_l31Step.ok H54 K100_CB_fun_c_c_0_hasF_c_0 K44_CB_fun_c_c_0_hasF_c_0 K45_CB_isVoi
theorem H18 : Has Try.prog 18 (s_StepMarks.X 42 53 43 54) := ⟨mo, Try.f18, Try.func18, by kernel_rfl, by kernel_rfl, rfl, by kernel_rfl⟩
theorem K18_C_StepMarks : C_StepMarks Try.prog 18 := s_StepMarks.ok H18 K42_C_AreLocal K43_C_IsSound K53_C_IsCandidate K54_C_step
theorem H10 : Has Try.prog 10 (s_EndMarks.X 42 43 44 45) := ⟨mo, Try.f10, Try.func10, by kernel_rfl, by kernel_rfl, rfl, by kernel_rfl⟩
theorem K10_C_EndMarks : C_EndMarks Try.prog 10 := s_EndMarks.ok H10 K42_C_AreLocal K43_C_IsSound K44_CB_fun_c_c_0_hasF_c_0 K45_CB_isVoi
theorem H76 : Has Try.prog 76 s_l31Add.X := ⟨mo, Try.f76, Try.func76, by kernel_rfl, by kernel_rfl, rfl, by kernel_rfl⟩
theorem K76_C_addM : C_addM Try.prog 76 := s_l31Add.ok H76
theorem H27 : Has Try.prog 27 (s_PathMarks.X 42 53 18 76 10) := ⟨mo, Try.f27, Try.func27, by kernel_rfl, by kernel_rfl, rfl, by kernel_rfl⟩
theorem K27_C_PathMarks : C_PathMarks Try.prog 27 := s_PathMarks.ok H27 K42_C_AreLocal K53_C_IsCandidate K18_C_StepMarks K10_C_EndMarks K76_C_addM
theorem H129 : Has Try.prog 129 slices_Index_string_string.X := ⟨mo, Try.f129, Try.func129, by kernel_rfl, by kernel_rfl, rfl, by kernel_rfl⟩
theorem K129_C_indexStr : C_indexStr Try.prog 129 := slices_Index_string_string.ok H129
theorem H92 : Has Try.prog 92 (slices_Contains_string_string.X 129) := ⟨mo, Try.f92, Try.func92, by kernel_rfl, by kernel_rfl, rfl, by kernel_rfl⟩
theorem K92_C_has : C_has Try.prog 92 := slices_Contains_string_string.ok H92 K129_C_indexStr
theorem H127 : Has Try.prog 127 i_ConstraintNames.X := ⟨mo, Try.f127, Try.func127, by kernel_rfl, by kernel_rfl, rfl, by kernel_rfl⟩
theorem K127_C_ConstraintNames : C_ConstraintNames Try.prog 127 := i_ConstraintNames.ok H127
theorem H128 : Has Try.prog 128 i_within.X := ⟨mo, Try.f128, Try.func128, by kernel_rfl, by kernel_rfl, rfl, by kernel_rfl⟩
theorem K128_C_within : C_within Try.prog 128 := i_within.ok H128
theorem H91 : Has Try.prog 91 (i_AreConstraints.X 127 92 128) := ⟨mo, Try.f91, Try.func91, by kernel_rfl, by kernel_rfl, rfl, by kernel_rfl⟩
theorem K91_C_AreConstraints : C_AreConstraints Try.prog 91 := i_AreConstraints.ok H91 K92_C_has K127_C_ConstraintNames K128_C_within
theorem H46 : Has Try.prog 46 (i_AreLocal.X 91 92) := ⟨mo, Try.f46, Try.func46, by kernel_rfl, by kernel_rfl, rfl, by kernel_rfl⟩
theorem K46_C_AreLocal : C_AreLocal Try.prog 46 := i_AreLocal.ok H46 K91_C_AreConstraints K92_C_has
theorem K148_C_indexByte : C_indexByte Try.prog 148 := Go.Lib01.indexByte_ok Try.func148 (by kernel_rfl) (by kernel_rfl) (by kernel_rfl) (by kernel_rfl)
theorem H142 : Has Try.prog 142 (stringslite_IndexByte.X 148) := ⟨mo, Try.f142, Try.func142, by kernel_rfl, by kernel_rfl, rfl, by kernel_rfl⟩
theorem K142_C_indexByte : C_indexByte Try.prog 142 := stringslite_IndexByte.ok H142 K148_C_indexByte
theorem H130 : Has Try.prog 130 (strings_IndexByte.X 142) := ⟨mo, Try.f130, Try.func130, by kernel_rfl, by kernel_rfl, rfl, by kernel_rfl⟩
theorem K130_C_indexByte : C_indexByte Try.prog 130 := strings_IndexByte.ok H130 K142_C_indexByte
theorem H93 : Has Try.prog 93 (i_IsSound.X 130) := ⟨mo, Try.f93, Try.func93, by kernel_rfl, by kernel_rfl, rfl, by kernel_rfl⟩
theorem K93_C_IsSound : C_IsSound Try.prog 93 := i_IsSound.ok H93 K130_C_indexByte
theorem H101 : Has Try.prog 101 (i_SwapVoice.X 130) := ⟨mo, Try.f101, Try.func101, by kernel_rfl, by kernel_rfl, rfl, by kernel_rfl⟩
theorem K101_C_SwapVoice : C_SwapVoice Try.prog 101 := i_SwapVoice.ok H101 K130_C_indexByte
theorem H55 : Has Try.prog 55 (i_isLink.X 93 101) := ⟨mo, Try.f55, Try.func55, by kernel_rfl, by kernel_rfl, rfl, by kernel_rfl⟩
theorem K55_C_isLink : C_isLink Try.prog 55 := i_isLink.ok H55 K93_C_IsSound K101_C_SwapVoice
theorem H119 : Has Try.prog 119 i_sounds.X := ⟨mo, Try.f119, Try.func119, by kernel_rfl, by kernel_rfl, rfl, by kernel_rfl⟩
theorem K119_C_sounds : C_sounds Try.prog 119 := i_sounds.ok H119
theorem H135 : Has Try.prog 135 (i_areSounds.X 93 128) := ⟨mo, Try.f135, Try.func135, by kernel_rfl, by kernel_rfl, rfl, by kernel_rfl⟩
theorem K135_C_areSounds : C_areSounds Try.prog 135 := i_areSounds.ok H135 K93_C_IsSound K128_C_within
theorem H118 : Has Try.prog 118 (i_IsForm.X 135) := ⟨mo, Try.f118, Try.func118, by kernel_rfl, by kernel_rfl, rfl, by kernel_rfl⟩
theorem K118_C_IsForm : C_IsForm Try.prog 118 := i_IsForm.ok H118 K135_C_areSounds
theorem H78 : Has Try.prog 78 (i_IsCandidate.X 55 119 118) := ⟨mo, Try.f78, Try.func78, by kernel_rfl, by kernel_rfl, rfl, by kernel_rfl⟩
theorem K78_C_IsCandidate : C_IsCandidate Try.prog 78 := i_IsCandidate.ok H78 K55_C_isLink K119_C_sounds K118_C_IsForm
theorem H47 : Has Try.prog 47 (i_isLast.X 93) := ⟨mo, Try.f47, Try.func47, by kernel_rfl, by kernel_rfl, rfl, by kernel_rfl⟩
theorem K47_CB_isLastB : CB isLastB Try.prog 47 := i_isLast.ok H47 K93_C_IsSound
theorem H95 : Has Try.prog 95 (i_HasFeature.X 128 130) := ⟨mo, Try.f95, Try.func95, by kernel_rfl, by kernel_rfl, rfl, by kernel_rfl⟩
theorem K95_C_HasFeature : C_HasFeature Try.prog 95 := i_HasFeature.ok H95 K128_C_within K130_C_indexByte
theorem H57 : Has Try.prog 57 (i_isVowel.X 95) := ⟨mo, Try.f57, Try.func57, by kernel_rfl, by kernel_rfl, rfl, by kernel_rfl⟩
theorem K57_CB_fun_c_hasF_c_0 : CB (fun c => hasF c 0) Try.prog 57 := i_isVowel.ok H57 K95_C_HasFeature
theorem H50 : Has Try.prog 50 (i_isConsonant.X 93 57) := ⟨mo, Try.f50, Try.func50, by kernel_rfl, by kernel_rfl, rfl, by kernel_rfl⟩
theorem K50_CB_isCon : CB isCon Try.prog 50 := i_isConsonant.ok H50 K93_C_IsSound K57_CB_fun_c_hasF_c_0
theorem H94 : Has Try.prog 94 (i_IsObstruent.X 130) := ⟨mo, Try.f94, Try.func94, by kernel_rfl, by kernel_rfl, rfl, by kernel_rfl⟩
theorem K94_CB_isObs : CB isObs Try.prog 94 := i_IsObstruent.ok H94 K130_C_indexByte
theorem H51 : Has Try.prog 51 (i_isVoiced.X 94 95) := ⟨mo, Try.f51, Try.func51, by kernel_rfl, by kernel_rfl, rfl, by kernel_rfl⟩
theorem K51_CB_isVoi : CB isVoi Try.prog 51 := i_isVoiced.ok H51 K94_CB_isObs K95_C_HasFeature
theorem H58 : Has Try.prog 58 (i_isVoiceless.X 94 95) := ⟨mo, Try.f58, Try.func58, by kernel_rfl, by kernel_rfl, rfl, by kernel_rfl⟩
theorem K58_CB_isVls : CB isVls Try.prog 58 := i_isVoiceless.ok H58 K94_CB_isObs K95_C_HasFeature
theorem H56 : Has Try.prog 56 (i_StepMarks_1.X 57 50 51 58) := ⟨mo, Try.f56, Try.func56, by kernel_rfl, by kernel_rfl, rfl, by kernel_rfl⟩
theorem K56_C_stepB : C_stepB Try.prog 56 := i_StepMarks_1.ok H56 K57_CB_fun_c_hasF_c_0 K50_CB_isCon K51_CB_isVoi K58_CB_isVls
theorem H48 : Has Try.prog 48 i_marksBy.X := ⟨mo, Try.f48, Try.func48, by kernel_rfl, by kernel_rfl, rfl, by kernel_rfl⟩
theorem K48_C_marksBy : C_marksBy Try.prog 48 := i_marksBy.ok H48
theorem H20 : Has Try.prog 20 (i_StepMarks.X 46 55 47 56 48) := ⟨mo, Try.f20, Try.func20, by kernel_rfl, by kernel_rfl, rfl, by kernel_rfl⟩
theorem K20_C_StepMarks : C_StepMarks Try.prog 20 := i_StepMarks.ok H20 K46_C_AreLocal K47_CB_isLastB K55_C_isLink K56_C_stepB K48_C_marksBy
theorem H49 : Has Try.prog 49 (i_EndMarks_1.X 50 51) := ⟨mo, Try.f49, Try.func49, by kernel_rfl, by kernel_rfl, rfl, by kernel_rfl⟩
theorem K49_C_endB : C_endB Try.prog 49 := i_EndMarks_1.ok H49 K50_CB_isCon K51_CB_isVoi
theorem H12 : Has Try.prog 12 (i_EndMarks.X 46 47 49 48) := ⟨mo, Try.f12, Try.func12, by kernel_rfl, by kernel_rfl, rfl, by kernel_rfl⟩
theorem K12_C_EndMarks : C_EndMarks Try.prog 12 := i_EndMarks.ok H12 K46_C_AreLocal K47_CB_isLastB K49_C_endB K48_C_marksBy
theorem H120 : Has Try.prog 120 slices_Clone_int_int.X := ⟨mo, Try.f120, Try.func120, by kernel_rfl, by kernel_rfl, rfl, by kernel_rfl⟩
theorem K120_C_cloneI : C_cloneI Try.prog 120 := slices_Clone_int_int.ok H120
theorem H79 : Has Try.prog 79 (i_addMarks.X 120) := ⟨mo, Try.f79, Try.func79, by kernel_rfl, by kernel_rfl, rfl, by kernel_rfl⟩
theorem K79_C_addM : C_addM Try.prog 79 := i_addMarks.ok H79 K120_C_cloneI
theorem H29 : Has Try.prog 29 (i_PathMarks.X 46 78 20 79 12) := ⟨mo, Try.f29, Try.func29, by kernel_rfl, by kernel_rfl, rfl, by kernel_rfl⟩
theorem K29_C_PathMarks : C_PathMarks Try.prog 29 := i_PathMarks.ok H29 K46_C_AreLocal K78_C_IsCandidate K20_C_StepMarks K12_C_EndMarks K79_C_addM
theorem H13 : Has Try.prog 13 w_eqIntS.X := ⟨mo, Try.f13, Try.func13, by kernel_rfl, by kernel_rfl, rfl, by kernel_rfl⟩
theorem K13_C_eqInts : C_eqInts Try.prog 13 := w_eqIntS.ok H13
theorem H14 : Has Try.prog 14 w_eqStringS.X := ⟨mo, Try.f14, Try.func14, by kernel_rfl, by kernel_rfl, rfl, by kernel_rfl⟩
theorem K14_C_eqStringS : C_eqStringS Try.prog 14 := w_eqStringS.ok H14
theorem H121 : Has Try.prog 121 w_eqLink.X := ⟨mo, Try.f121, Try.func121, by kernel_rfl, by kernel_rfl, rfl, by kernel_rfl⟩
theorem K121_C_eqLink : C_eqLink Try.prog 121 := w_eqLink.ok H121
theorem H80 : Has Try.prog 80 (w_eqLinkS.X 121) := ⟨mo, Try.f80, Try.func80, by kernel_rfl, by kernel_rfl, rfl, by kernel_rfl⟩
theorem K80_C_eqLinks : C_eqLinks Try.prog 80 := w_eqLinkS.ok H80 K121_C_eqLink
theorem H30 : Has Try.prog 30 (w_eqCandidate.X 80) := ⟨mo, Try.f30, Try.func30, by kernel_rfl, by kernel_rfl, rfl, by kernel_rfl⟩
theorem K30_C_eqCand : C_eqCand Try.prog 30 := w_eqCandidate.ok H30 K80_C_eqLinks
theorem H52 : Has Try.prog 52 w_markText.X := ⟨mo, Try.f52, Try.func52, by kernel_rfl, by kernel_rfl, rfl, by kernel_rfl⟩
theorem K52_C_markText : C_markText Try.prog 52 := w_markText.ok H52
theorem H15 : Has Try.prog 15 (w_markStringS.X 52) := ⟨mo, Try.f15, Try.func15, by kernel_rfl, by kernel_rfl, rfl, by kernel_rfl⟩
theorem K15_C_markStringS : C_markStringS Try.prog 15 := w_markStringS.ok H15 K52_C_markText
theorem K15_C_markStringS0 : C_markStringS0 Try.prog 15 := w_markStringS.ok0 H15
theorem K15_C_markS : C_markS Try.prog 15 := w_markStringS.okT H15 K15_C_markStringS K15_C_markStringS0
theorem H81 : Has Try.prog 81 w_markLinkS.X := ⟨mo, Try.f81, Try.func81, by kernel_rfl, by kernel_rfl, rfl, by kernel_rfl⟩
theorem K81_C_markL1 : C_markL1 Try.prog 81 := w_markLinkS.ok1 H81
theorem K81_C_m0 : C_m0 Try.prog 81 := w_markLinkS.ok0 H81
theorem K81_C_markL : C_markL Try.prog 81 := w_markLinkS.ok H81 K81_C_markL1 K81_C_m0
theorem H31 : Has Try.prog 31 (w_markCandidate.X 81) := ⟨mo, Try.f31, Try.func31, by kernel_rfl, by kernel_rfl, rfl, by kernel_rfl⟩
theorem K31_C_markC : C_markC Try.prog 31 := w_markCandidate.ok H31 K81_C_markL
theorem K31_C_markCT : C_markCT Try.prog 31 := w_markCandidate.okT H31 K31_C_markC
theorem H16 : Has Try.prog 16 w_markIntS.X := ⟨mo, Try.f16, Try.func16, by kernel_rfl, by kernel_rfl, rfl, by kernel_rfl⟩
theorem K16_C_markI1 : C_markI1 Try.prog 16 := w_markIntS.ok1 H16
theorem K16_C_m0 : C_m0 Try.prog 16 := w_markIntS.ok0 H16
theorem K16_C_markI : C_markI Try.prog 16 := w_markIntS.ok H16 K16_C_markI1 K16_C_m0
theorem H17 : Has Try.prog 17 w_heldIntS.X := ⟨mo, Try.f17, Try.func17, by kernel_rfl, by kernel_rfl, rfl, by kernel_rfl⟩
theorem K17_C_heldI : C_heldI Try.prog 17 := w_heldIntS.ok H17
theorem H6 : Has Try.prog 6 (w_FnExactPathMarks.X 9 26 11 28 27 29 13 14 30 15 31 16 17) := ⟨mo, Try.f6, Try.func6, by kernel_rfl, by kernel_rfl, rfl, by kernel_rfl⟩
theorem K6_C_lawPath : C_lawPath Try.prog 6 := w_FnExactPathMarks.ok H6 K9_C_szStringS K26_C_szCand K11_O_strs K28_O_cand K27_C_PathMarks K29_C_PathMarks K13_C_eqInts K14_C_eqStringS K30_C_eqCand K15_C_markS K31_C_markCT K16_C_markI K17_C_heldI
end Go.Proofs.Ytobhjgipeepmoaa.OfFnExactPathMarks
