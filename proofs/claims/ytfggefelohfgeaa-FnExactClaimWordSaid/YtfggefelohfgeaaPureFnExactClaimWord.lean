/- The program's ClaimWord returns the reference's word for every whole number. No condition. -/
import Derived.Test.YtfggefelohfgeaaPFnExactClaimWordx1
set_option linter.unusedSimpArgs false
namespace Go.Proofs.Ytfggefelohfgeaa.Pure
open Go.RowKit Go.Proofs.Ytfggefelohfgeaa.PFnExactClaimWord Go.Proofs.YtfggefelohfgeaaW.PrintWords Go.Proofs.YtfggefelohfgeaaW.PrintLast

theorem FnExactClaimWord : laws_FnExactClaimWord.Pure := by
  intro a h
  unfold laws_FnExactClaimWord.f spec_ClaimWord.f impl_ClaimWord.f spec_l1In.f impl_within.f
  by_cases h1 : 1 ≤ a
  · by_cases h2 : a ≤ 6
    · have hw : wrap64 (a - 1) = a - 1 := by unfold wrap64; omega
      have h3 : 0 ≤ a - 1 := by omega
      have h4 : a - 1 < 6 := by omega
      simp [h1, h2, hw, h3, h4]
    · simp [h1, h2]
  · simp [h1]

end Go.Proofs.Ytfggefelohfgeaa.Pure
