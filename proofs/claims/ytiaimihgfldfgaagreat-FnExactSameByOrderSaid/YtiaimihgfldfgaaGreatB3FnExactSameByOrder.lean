/- Counts in forms. Over any program. Counts in links, violations, profiles, marks compared. Over any program. No condition. -/
import Derived.Test.YtiaimihgfldfgaaGreatB2FnExactSameByOrder
section
namespace Go.G05
open Go.Ab Siz Go.Lib01 Go.Lib03 Go.M01 Go.M02 Go.N02 Go.G02
set_option linter.unusedVariables false
set_option linter.unusedSimpArgs false
set_option maxRecDepth 2000
theorem getD_out {s : List UInt8} {i : Nat} (h : s.length ≤ i) : s.getD i 0 = 0 := by
  rw [List.getD_eq_getElem?_getD, List.getElem?_eq_none h]; rfl
def cp (p : Nat → Bool) : Nat → Nat
  | 0 => 0
  | k + 1 => cp p k + (if p k then 1 else 0)
theorem cp_le (p : Nat → Bool) : ∀ k, cp p k ≤ k
  | 0 => Nat.le_refl _
  | k + 1 => by have := cp_le p k; unfold cp; split <;> omega
theorem cp_yes {p : Nat → Bool} {i n : Nat} (hn : n = cp p i) (h : p i = true) : n + 1 = cp p (i + 1) := by rw [cp, if_pos h, hn]
theorem cp_no {p : Nat → Bool} {i n : Nat} (hn : n = cp p i) (h : p i = false) : n = cp p (i + 1) := by rw [cp, if_neg (by rw [h]; decide), hn]; rfl
theorem cp_cpt {p : Nat → Bool} {h : H3} {s : List UInt8} {m : Nat} (e : ∀ i, i < m → p i = h (bfr s i) (s.getD i 0) (s.getD (i + 1) 0)) : ∀ k, k ≤ m → cp p k = cpt h s k
  | 0, _ => rfl
  | k + 1, hk => by rw [cp, cpt, cp_cpt e k (by omega), e k (by omega)]
theorem cp_end {p : Nat → Bool} {h : H3} {s : List UInt8} {i n : Nat} (hn : n = cp p i) (hf : 0 < i → isForm s = true) (hx : s.length ≤ i ∨ isForm s = false) (hi : i ≤ s.length) (e : isForm s = true → ∀ i, i < s.length → p i = h (bfr s i) (s.getD i 0) (s.getD (i + 1) 0)) : n = pls h s := by
  unfold pls
  by_cases hs : isForm s = true
  · rw [if_pos hs, hn]
    have : i = s.length := by rcases hx with h | h; omega; (rw [hs] at h; cases h)
    subst this
    exact cp_cpt (e hs) _ (Nat.le_refl _)
  · rw [if_neg hs, hn]
    have : i = 0 := by
      rcases Nat.eq_zero_or_pos i with h | h
      · exact h
      · exact absurd (hf h) hs
    subst this; rfl
def CB3 (h : H3) (P : Program) (k : Nat) : Prop := ∀ a b c : UInt8, RunsF P k [.int .u8 (a.toNat : Int), .int .u8 (b.toNat : Int), .int .u8 (c.toNat : Int)] (.bool (h a b c))
def C_places (P : Program) (k : Nat) : Prop := ∀ (s : List UInt8) (f : FuncId) (h : H3), s.length ≤ 4294967296 → CB3 h P f → RunsF P k [.str s, .fn f []] (.int .i64 (pls h s : Int))
theorem pst {h : H3} {s : List UInt8} {i n : Nat} {b c : UInt8} (hn : n = if isForm s then cpt h s i else 0) (hb : b = bfr s i) (hv : c = s.getD (i + 1) 0) :
    ((isForm s = true ∧ h b (s.getD i 0) c = true) → n + 1 = if isForm s then cpt h s (i + 1) else 0) ∧ ((isForm s = false ∨ h b (s.getD i 0) c = false) → n = if isForm s then cpt h s (i + 1) else 0) := by
  subst hb hv
  constructor
  · rintro ⟨h1, h2⟩
    rw [hn, if_pos h1, if_pos h1, cpt, if_pos h2]
  · intro h2
    by_cases h1 : isForm s = true
    · rw [hn, if_pos h1, if_pos h1, cpt, if_neg]; rfl
      rcases h2 with h2 | h2
      · rw [h1] at h2; cases h2
      · rw [h2]; decide
    · rw [hn, if_neg h1, if_neg h1]
/-- impl.places -/
def i_places.x (c_i_IsForm : Nat) : XCode :=
  (.seq
    (.reg [⟨(some 4), .mv, [.k (.int .i64 0)], none⟩] [0, 1])
    (.seq
      (.reg [⟨(some 5), .mv, [.k (.int .i64 0)], none⟩] [0, 1, 5])
      (.seq
        (.seq
          (.reg [⟨(some 9), .mv, [.t 0], none⟩,
            ⟨(some 10), .lenS, [.t 9], none⟩,
            ⟨(some 11), .mv, [.k (.int .i64 0)], none⟩] [0, 1, 5, 10, 11])
          (.block 0
            (.loop
              (.seq
                (.reg [⟨(some 12), (.bin .lss), [.t 11, .t 10], none⟩] [0, 1, 5, 10, 11, 12])
                (.seq
                  (.cond (.t 12)
                    .skip
                    (.exit 0))
                  (.seq
                    (.block 1
                      (.seq
                        (.reg [⟨(some 13), .mv, [.t 11], none⟩,
                          ⟨(some 6), .mv, [.t 13], none⟩] [0, 1, 5, 6, 10, 11])
                        (.seq
                          (.reg [⟨(some 7), .mv, [.k (.int .u8 0)], none⟩,
                            ⟨(some 8), .mv, [.k (.int .u8 0)], none⟩] [0, 1, 5, 6, 7, 8, 10, 11])
                          (.seq
                            (.seq
                              (.reg [⟨(some 14), .mv, [.t 6], none⟩,
                                ⟨(some 15), (.bin .gtr), [.t 14, .k (.int .i64 0)], none⟩] [0, 1, 5, 6, 7, 8, 10, 11, 15])
                              (.cond (.t 15)
                                (.reg [⟨(some 16), .mv, [.t 0], none⟩,
                                  ⟨(some 17), .mv, [.t 6], none⟩,
                                  ⟨(some 18), (.bin .sub), [.t 17, .k (.int .i64 1)], none⟩,
                                  ⟨(some 19), .idxS, [.t 16, .t 18], none⟩,
                                  ⟨(some 7), .mv, [.t 19], none⟩] [0, 1, 5, 6, 7, 8, 10, 11])
                                .skip))
                            (.seq
                              (.seq
                                (.reg [⟨(some 20), .mv, [.t 6], none⟩,
                                  ⟨(some 21), (.bin .add), [.t 20, .k (.int .i64 1)], none⟩,
                                  ⟨(some 22), .mv, [.t 0], none⟩,
                                  ⟨(some 23), .lenS, [.t 22], none⟩,
                                  ⟨(some 24), (.bin .lss), [.t 21, .t 23], none⟩] [0, 1, 5, 6, 7, 8, 10, 11, 24])
                                (.cond (.t 24)
                                  (.reg [⟨(some 25), .mv, [.t 0], none⟩,
                                    ⟨(some 26), .mv, [.t 6], none⟩,
                                    ⟨(some 27), (.bin .add), [.t 26, .k (.int .i64 1)], none⟩,
                                    ⟨(some 28), .idxS, [.t 25, .t 27], none⟩,
                                    ⟨(some 8), .mv, [.t 28], none⟩] [0, 1, 5, 6, 7, 8, 10, 11])
                                  .skip))
                              (.seq
                                (.reg (flatNs none (nl [.op (some 29) .mv [.t 0], .op (some 30) .call [.k (.fn c_i_IsForm []), .t 29], .op (some 31) .mv [.t 30], .sc 31 true (nl [.op (some 32) .mv [.t 1], .op (some 33) .mv [.t 7], .op (some 34) .mv [.t 0], .op (some 35) .mv [.t 6], .op (some 36) .idxS [.t 34, .t 35], .op (some 37) .mv [.t 8], .op (some 38) .call [.t 32, .t 33, .t 36, .t 37]]) (.t 38) (some 39)])) [0, 1, 5, 10, 11, 39])
                                (.cond (.t 39)
                                  (.reg [⟨(some 40), .mv, [.t 5], none⟩,
                                    ⟨(some 41), (.bin .add), [.t 40, .k (.int .i64 1)], none⟩,
                                    ⟨(some 5), .mv, [.t 41], none⟩] [0, 1, 5, 10, 11])
                                  .skip)))))))
                    (.reg [⟨(some 42), (.bin .add), [.t 11, .k (.int .i64 1)], none⟩,
                      ⟨(some 11), .mv, [.t 42], none⟩] [0, 1, 5, 10, 11])))))))
        (.seq
          (.reg [⟨(some 43), .mv, [.t 5], none⟩,
            ⟨(some 4), .mv, [.t 43], none⟩] [4])
          .ret))))
def i_places.F : Cfg := ⟨fun _ => 0, fun r => match r with | 0 => [0, 1] | 1 => [0, 1, 5] | 2 => [0, 1, 5, 10, 11] | 3 => [0, 1, 5, 10, 11, 12] | 4 => [0, 1, 5, 6, 10, 11] | 5 => [0, 1, 5, 6, 7, 8, 10, 11] | 6 => [0, 1, 5, 6, 7, 8, 10, 11, 15] | 7 => [0, 1, 5, 6, 7, 8, 10, 11] | 8 => [0, 1, 5, 6, 7, 8, 10, 11, 24] | 9 => [0, 1, 5, 6, 7, 8, 10, 11] | 10 => [0, 1, 5, 10, 11, 39] | 11 => [0, 1, 5, 10, 11] | 12 => [0, 1, 5, 10, 11] | 13 => [4] | _ => []⟩
def i_places.X (c_i_IsForm : Nat) : FX := ⟨44, [.tmp 4], i_places.F, i_places.x c_i_IsForm⟩

set_option maxHeartbeats 1000000 in
theorem i_places.ok {P : Program} {k c_i_IsForm : Nat} (hk : Has P k (i_places.X c_i_IsForm)) (h1 : C_IsForm P c_i_IsForm) : C_places P k := by
  intro w f h hs hf n H
  refine S.ofX hk rfl fun hB fn hr => ?_
  unfold i_places.x
  repeat' (first
    | ((with_reducible refine S.go ?_); first | refine S.seq ?_ | refine S.skip ?_ | refine S.block ?_ | refine S.inBlock ?_ | refine S.exit rfl ?_ | refine S.regN ?_ | refine S.reg ?_ | refine S.drw hk.mo (by kernel_rfl) ?_ | (refine S.cond rfl (fun hc => ?_) (fun hc => ?_) <;> try simp only [HC] at hc) | refine S.retH hr rfl ?_ | refine S.finH hr rfl ?_ | (refine S.retK hr ?_; refine TRdt ?_) | fail)
    | ((first | with_reducible refine Ns.go ?_ | with_reducible refine XOs.go ?_ | with_reducible refine XDs.go ?_ | with_reducible refine OK.go ?_); (first | refine TTdt ?_ | (apply Ns.sc ⟨rfl, rfl⟩ rfl; intro hg) | (refine OK.tr ?_; refine TTdt ?_)); (try simp only [HC] at hg))
    | with_reducible exact rfl | exact ⟨rfl, rfl, rfl⟩
    | ((with_reducible refine Gd.go ?_); refine Gd.on (fun hg => ?_) (fun hg => ?_) <;> refine TGdt ?_ <;> (try simp only [HC] at hg))
    | ((with_reducible refine Fin.go ?_); first | (refine Fin.p ?_; first | exact FT | (try refine TTdt ?_; try simp only [LF])) | refine Fin.a0 ?_ | refine Fin.a ?_ | refine Fin.ni ?_ | refine Fin.v ?_ ?_ | refine Fin.r ?_ ?_ | exact Fin.th | (refine Fin.t ?_; try simp only [AV.sl.injEq]))
    | (refine And.go ?_; refine AndI ?_)
    | fail)
  refine S.loopV (σ := Nat × Nat) [0, 1, 5, 10, 11] (fun s => [(5, .int .i64 (s.2 : Int)), (11, .int .i64 (s.1 : Int))]) (fun s => s.1 ≤ w.length ∧ s.2 = (if isForm w then cpt h w s.1 else 0) ∧ s.2 ≤ s.1) (fun s => n) (fun s => H) (fun s => w.length - s.1) (0, 0) (⟨by omega, by simp [cpt], by omega⟩) ?_
  rintro ⟨i, q⟩ ⟨hi1, hi2, hi3⟩ ih
  try dsimp only at hi1 hi2 hi3
  repeat' (first
    | ((with_reducible refine S.go ?_); first | refine S.seq ?_ | refine S.skip ?_ | refine S.block ?_ | refine S.inBlock ?_ | refine S.exit rfl ?_ | refine S.regN ?_ | refine S.reg ?_ | refine S.drw hk.mo (by kernel_rfl) ?_ | refine S.ag (ih ((i + 1, _)) ?_ ?_) | (refine S.cond rfl (fun hc => ?_) (fun hc => ?_) <;> try simp only [HC] at hc) | refine S.retH hr rfl ?_ | refine S.finH hr rfl ?_ | (refine S.retK hr ?_; refine TRdt ?_) | fail)
    | ((first | with_reducible refine Ns.go ?_ | with_reducible refine XOs.go ?_ | with_reducible refine XDs.go ?_ | with_reducible refine OK.go ?_); (first | refine TTdt ?_ | (apply Ns.sc ⟨rfl, rfl⟩ rfl; intro hg) | (refine OK.tr ?_; refine TTdt ?_)); (try simp only [HC] at hg))
    | with_reducible exact rfl | exact ⟨rfl, rfl, rfl⟩
    | ((with_reducible refine RunsT.go ?_); first | refine RunsF.ap (hf 0 _ 0) ?_ | refine RunsF.ap (hf 0 _ _) ?_ | refine RunsF.ap (hf _ _ 0) ?_ | refine RunsF.ap (hf _ _ _) ?_ | refine RunsF.apf (h1 _ hs) rfl ?_ | fail)
    | ((with_reducible refine RunsD.go ?_); first | refine RunsF.apd (h1 _ hs) rfl ?_ | fail)
    | ((with_reducible refine Gd.go ?_); refine Gd.on (fun hg => ?_) (fun hg => ?_) <;> refine TGdt ?_ <;> (try simp only [HC] at hg))
    | ((with_reducible refine Fin.go ?_); first | (refine Fin.p ?_; first | exact FT | (try refine TTdt ?_; try simp only [LF])) | refine Fin.a0 ?_ | refine Fin.a ?_ | refine Fin.ni ?_ | refine Fin.v ?_ ?_ | refine Fin.r ?_ ?_ | exact Fin.th | (refine Fin.t ?_; try simp only [AV.sl.injEq]))
    | (refine And.go ?_; refine AndI ?_)
    | fail)
  all_goals (try clear ih)
  all_goals (try dsimp only)
  all_goals (repeat' apply And.intro)
  all_goals first | omega | (simp only [ZL]; omega) | skip
  all_goals (try clear hr hk hB)
  all_goals first | exact (pst hi2 (by rw [bfr, if_pos (by omega)]) rfl).1 hc | exact (pst hi2 (by rw [bfr, if_pos (by omega)]) rfl).2 hc | exact (pst hi2 (by rw [bfr, if_pos (by omega)]) (getD_out (by omega)).symm).1 hc | exact (pst hi2 (by rw [bfr, if_pos (by omega)]) (getD_out (by omega)).symm).2 hc | exact (pst hi2 (by rw [bfr, if_neg (by omega)]) rfl).1 hc | exact (pst hi2 (by rw [bfr, if_neg (by omega)]) rfl).2 hc | exact (pst hi2 (by rw [bfr, if_neg (by omega)]) (getD_out (by omega)).symm).1 hc | exact (pst hi2 (by rw [bfr, if_neg (by omega)]) (getD_out (by omega)).symm).2 hc | skip
  rw [show q = pls h w from by rw [hi2, pls, show i = w.length by omega]]
def hOns : H3 := fun b x a => hasF x 0 && !isCon b
def hCod : H3 := fun b x a => isCon x && !hasF a 0
def hClu : H3 := fun b x a => isCon b && isCon x
def hVoi : H3 := fun b x a => isVoi x
def hFin : H3 := fun b x a => isVoi x && a == 0
def hNas : H3 := fun b x a => hasF b 2 && isVls x
def C_cnt (h : H3) (P : Program) (k : Nat) : Prop := ∀ s : List UInt8, s.length ≤ 4294967296 → RunsF P k [.str s] (.int .i64 (pls h s : Int))
/-- impl.CountOnsetless$1 -/
def i_CountOnsetless_1.x (c_i_isVowel c_i_isConsonant : Nat) : XCode :=
  (.seq
    (.reg [⟨(some 6), .mv, [.k (.bool false)], none⟩] [0, 1])
    (.seq
      (.reg (flatNs none (nl [.op (some 7) .mv [.t 1], .op (some 8) .call [.k (.fn c_i_isVowel []), .t 7], .op (some 9) .mv [.t 8], .sc 9 true (nl [.op (some 10) .mv [.t 0], .op (some 11) .call [.k (.fn c_i_isConsonant []), .t 10], .op (some 12) (.un .not) [.t 11]]) (.t 12) (some 13), .op (some 6) .mv [.t 13]])) [6])
      .ret))
def i_CountOnsetless_1.F : Cfg := ⟨fun _ => 0, fun r => match r with | 0 => [0, 1] | 1 => [6] | _ => []⟩
def i_CountOnsetless_1.X (c_i_isVowel c_i_isConsonant : Nat) : FX := ⟨14, [.tmp 6], i_CountOnsetless_1.F, i_CountOnsetless_1.x c_i_isVowel c_i_isConsonant⟩

theorem i_CountOnsetless_1.ok {P : Program} {k c_i_isVowel c_i_isConsonant : Nat} (hk : Has P k (i_CountOnsetless_1.X c_i_isVowel c_i_isConsonant)) (h1 : CB (fun c => hasF c 0) P c_i_isVowel) (h2 : CB isCon P c_i_isConsonant) : CB3 hOns P k := by
  intro a b c n H
  refine S.ofX hk rfl fun hB fn hr => ?_
  unfold i_CountOnsetless_1.x
  repeat' (first
    | ((with_reducible refine S.go ?_); first | refine S.seq ?_ | refine S.skip ?_ | refine S.block ?_ | refine S.inBlock ?_ | refine S.exit rfl ?_ | refine S.regN ?_ | refine S.reg ?_ | refine S.drw hk.mo (by kernel_rfl) ?_ | (refine S.cond rfl (fun hc => ?_) (fun hc => ?_) <;> try simp only [HC] at hc) | refine S.retH hr rfl ?_ | refine S.finH hr rfl ?_ | (refine S.retK hr ?_; refine TRdt ?_) | fail)
    | ((first | with_reducible refine Ns.go ?_ | with_reducible refine XOs.go ?_ | with_reducible refine XDs.go ?_ | with_reducible refine OK.go ?_); (first | refine TTdt ?_ | (apply Ns.sc ⟨rfl, rfl⟩ rfl; intro hg) | (refine OK.tr ?_; refine TTdt ?_)); (try simp only [HC] at hg))
    | with_reducible exact rfl | exact ⟨rfl, rfl, rfl⟩
    | ((with_reducible refine RunsT.go ?_); first | refine RunsF.apf (h1 _) rfl ?_ | refine RunsF.apf (h2 _) rfl ?_ | fail)
    | ((with_reducible refine RunsD.go ?_); first | refine RunsF.apd (h1 _) rfl ?_ | refine RunsF.apd (h2 _) rfl ?_ | fail)
    | ((with_reducible refine Gd.go ?_); refine Gd.on (fun hg => ?_) (fun hg => ?_) <;> refine TGdt ?_ <;> (try simp only [HC] at hg))
    | ((with_reducible refine Fin.go ?_); first | (refine Fin.p ?_; first | exact FT | (try refine TTdt ?_; try simp only [LF])) | refine Fin.a0 ?_ | refine Fin.a ?_ | refine Fin.ni ?_ | refine Fin.v ?_ ?_ | refine Fin.r ?_ ?_ | exact Fin.th | (refine Fin.t ?_; try simp only [AV.sl.injEq]))
    | (refine And.go ?_; refine AndI ?_)
    | fail)
  all_goals (try clear hr hk hB)
  all_goals rfl
/-- impl.CountOnsetless -/
def i_CountOnsetless.x (c_i_places c_i_CountOnsetless_1 : Nat) : XCode :=
  (.seq
    (.reg [⟨(some 2), .mv, [.k (.int .i64 0)], none⟩] [0])
    (.seq
      (.reg [⟨(some 3), .mv, [.t 0], none⟩,
        ⟨(some 4), .call, [.k (.fn c_i_places []), .t 3, .k (.fn c_i_CountOnsetless_1 [])], none⟩,
        ⟨(some 2), .mv, [.t 4], none⟩] [2])
      .ret))
def i_CountOnsetless.F : Cfg := ⟨fun _ => 0, fun r => match r with | 0 => [0] | 1 => [2] | _ => []⟩
def i_CountOnsetless.X (c_i_places c_i_CountOnsetless_1 : Nat) : FX := ⟨5, [.tmp 2], i_CountOnsetless.F, i_CountOnsetless.x c_i_places c_i_CountOnsetless_1⟩

theorem i_CountOnsetless.ok {P : Program} {k c_i_places c_i_CountOnsetless_1 : Nat} (hk : Has P k (i_CountOnsetless.X c_i_places c_i_CountOnsetless_1)) (h1 : C_places P c_i_places) (h2 : CB3 hOns P c_i_CountOnsetless_1) : C_cnt hOns P k := by
  intro s hs n H
  refine S.ofX hk rfl fun hB fn hr => ?_
  unfold i_CountOnsetless.x
  repeat' (first
    | ((with_reducible refine S.go ?_); first | refine S.seq ?_ | refine S.skip ?_ | refine S.block ?_ | refine S.inBlock ?_ | refine S.exit rfl ?_ | refine S.regN ?_ | refine S.reg ?_ | refine S.drw hk.mo (by kernel_rfl) ?_ | (refine S.cond rfl (fun hc => ?_) (fun hc => ?_) <;> try simp only [HC] at hc) | refine S.retH hr rfl ?_ | refine S.finH hr rfl ?_ | (refine S.retK hr ?_; refine TRdt ?_) | fail)
    | ((first | with_reducible refine Ns.go ?_ | with_reducible refine XOs.go ?_ | with_reducible refine XDs.go ?_ | with_reducible refine OK.go ?_); (first | refine TTdt ?_ | (apply Ns.sc ⟨rfl, rfl⟩ rfl; intro hg) | (refine OK.tr ?_; refine TTdt ?_)); (try simp only [HC] at hg))
    | with_reducible exact rfl | exact ⟨rfl, rfl, rfl⟩
    | ((with_reducible refine RunsT.go ?_); first | refine RunsF.apf (h1 _ _ hOns hs h2) rfl ?_ | fail)
    | ((with_reducible refine RunsD.go ?_); first | refine RunsF.apd (h1 _ _ hOns hs h2) rfl ?_ | fail)
    | ((with_reducible refine Gd.go ?_); refine Gd.on (fun hg => ?_) (fun hg => ?_) <;> refine TGdt ?_ <;> (try simp only [HC] at hg))
    | ((with_reducible refine Fin.go ?_); first | (refine Fin.p ?_; first | exact FT | (try refine TTdt ?_; try simp only [LF])) | refine Fin.a0 ?_ | refine Fin.a ?_ | refine Fin.ni ?_ | refine Fin.v ?_ ?_ | refine Fin.r ?_ ?_ | exact Fin.th | (refine Fin.t ?_; try simp only [AV.sl.injEq]))
    | (refine And.go ?_; refine AndI ?_)
    | fail)
/-- impl.CountCodas$1 -/
def i_CountCodas_1.x (c_i_isConsonant c_i_isVowel : Nat) : XCode :=
  (.seq
    (.reg [⟨(some 6), .mv, [.k (.bool false)], none⟩] [1, 2])
    (.seq
      (.reg (flatNs none (nl [.op (some 7) .mv [.t 1], .op (some 8) .call [.k (.fn c_i_isConsonant []), .t 7], .op (some 9) .mv [.t 8], .sc 9 true (nl [.op (some 10) .mv [.t 2], .op (some 11) .call [.k (.fn c_i_isVowel []), .t 10], .op (some 12) (.un .not) [.t 11]]) (.t 12) (some 13), .op (some 6) .mv [.t 13]])) [6])
      .ret))
def i_CountCodas_1.F : Cfg := ⟨fun _ => 0, fun r => match r with | 0 => [1, 2] | 1 => [6] | _ => []⟩
def i_CountCodas_1.X (c_i_isConsonant c_i_isVowel : Nat) : FX := ⟨14, [.tmp 6], i_CountCodas_1.F, i_CountCodas_1.x c_i_isConsonant c_i_isVowel⟩

theorem i_CountCodas_1.ok {P : Program} {k c_i_isConsonant c_i_isVowel : Nat} (hk : Has P k (i_CountCodas_1.X c_i_isConsonant c_i_isVowel)) (h1 : CB (fun c => hasF c 0) P c_i_isVowel) (h2 : CB isCon P c_i_isConsonant) : CB3 hCod P k := by
  intro a b c n H
  refine S.ofX hk rfl fun hB fn hr => ?_
  unfold i_CountCodas_1.x
  repeat' (first
    | ((with_reducible refine S.go ?_); first | refine S.seq ?_ | refine S.skip ?_ | refine S.block ?_ | refine S.inBlock ?_ | refine S.exit rfl ?_ | refine S.regN ?_ | refine S.reg ?_ | refine S.drw hk.mo (by kernel_rfl) ?_ | (refine S.cond rfl (fun hc => ?_) (fun hc => ?_) <;> try simp only [HC] at hc) | refine S.retH hr rfl ?_ | refine S.finH hr rfl ?_ | (refine S.retK hr ?_; refine TRdt ?_) | fail)
    | ((first | with_reducible refine Ns.go ?_ | with_reducible refine XOs.go ?_ | with_reducible refine XDs.go ?_ | with_reducible refine OK.go ?_); (first | refine TTdt ?_ | (apply Ns.sc ⟨rfl, rfl⟩ rfl; intro hg) | (refine OK.tr ?_; refine TTdt ?_)); (try simp only [HC] at hg))
    | with_reducible exact rfl | exact ⟨rfl, rfl, rfl⟩
    | ((with_reducible refine RunsT.go ?_); first | refine RunsF.apf (h1 _) rfl ?_ | refine RunsF.apf (h2 _) rfl ?_ | fail)
    | ((with_reducible refine RunsD.go ?_); first | refine RunsF.apd (h1 _) rfl ?_ | refine RunsF.apd (h2 _) rfl ?_ | fail)
    | ((with_reducible refine Gd.go ?_); refine Gd.on (fun hg => ?_) (fun hg => ?_) <;> refine TGdt ?_ <;> (try simp only [HC] at hg))
    | ((with_reducible refine Fin.go ?_); first | (refine Fin.p ?_; first | exact FT | (try refine TTdt ?_; try simp only [LF])) | refine Fin.a0 ?_ | refine Fin.a ?_ | refine Fin.ni ?_ | refine Fin.v ?_ ?_ | refine Fin.r ?_ ?_ | exact Fin.th | (refine Fin.t ?_; try simp only [AV.sl.injEq]))
    | (refine And.go ?_; refine AndI ?_)
    | fail)
  all_goals (try clear hr hk hB)
  all_goals rfl
/-- impl.CountCodas -/
def i_CountCodas.x (c_i_places c_i_CountCodas_1 : Nat) : XCode :=
  (.seq
    (.reg [⟨(some 2), .mv, [.k (.int .i64 0)], none⟩] [0])
    (.seq
      (.reg [⟨(some 3), .mv, [.t 0], none⟩,
        ⟨(some 4), .call, [.k (.fn c_i_places []), .t 3, .k (.fn c_i_CountCodas_1 [])], none⟩,
        ⟨(some 2), .mv, [.t 4], none⟩] [2])
      .ret))
def i_CountCodas.F : Cfg := ⟨fun _ => 0, fun r => match r with | 0 => [0] | 1 => [2] | _ => []⟩
def i_CountCodas.X (c_i_places c_i_CountCodas_1 : Nat) : FX := ⟨5, [.tmp 2], i_CountCodas.F, i_CountCodas.x c_i_places c_i_CountCodas_1⟩

theorem i_CountCodas.ok {P : Program} {k c_i_places c_i_CountCodas_1 : Nat} (hk : Has P k (i_CountCodas.X c_i_places c_i_CountCodas_1)) (h1 : C_places P c_i_places) (h2 : CB3 hCod P c_i_CountCodas_1) : C_cnt hCod P k := by
  intro s hs n H
  refine S.ofX hk rfl fun hB fn hr => ?_
  unfold i_CountCodas.x
  repeat' (first
    | ((with_reducible refine S.go ?_); first | refine S.seq ?_ | refine S.skip ?_ | refine S.block ?_ | refine S.inBlock ?_ | refine S.exit rfl ?_ | refine S.regN ?_ | refine S.reg ?_ | refine S.drw hk.mo (by kernel_rfl) ?_ | (refine S.cond rfl (fun hc => ?_) (fun hc => ?_) <;> try simp only [HC] at hc) | refine S.retH hr rfl ?_ | refine S.finH hr rfl ?_ | (refine S.retK hr ?_; refine TRdt ?_) | fail)
    | ((first | with_reducible refine Ns.go ?_ | with_reducible refine XOs.go ?_ | with_reducible refine XDs.go ?_ | with_reducible refine OK.go ?_); (first | refine TTdt ?_ | (apply Ns.sc ⟨rfl, rfl⟩ rfl; intro hg) | (refine OK.tr ?_; refine TTdt ?_)); (try simp only [HC] at hg))
    | with_reducible exact rfl | exact ⟨rfl, rfl, rfl⟩
    | ((with_reducible refine RunsT.go ?_); first | refine RunsF.apf (h1 _ _ hCod hs h2) rfl ?_ | fail)
    | ((with_reducible refine RunsD.go ?_); first | refine RunsF.apd (h1 _ _ hCod hs h2) rfl ?_ | fail)
    | ((with_reducible refine Gd.go ?_); refine Gd.on (fun hg => ?_) (fun hg => ?_) <;> refine TGdt ?_ <;> (try simp only [HC] at hg))
    | ((with_reducible refine Fin.go ?_); first | (refine Fin.p ?_; first | exact FT | (try refine TTdt ?_; try simp only [LF])) | refine Fin.a0 ?_ | refine Fin.a ?_ | refine Fin.ni ?_ | refine Fin.v ?_ ?_ | refine Fin.r ?_ ?_ | exact Fin.th | (refine Fin.t ?_; try simp only [AV.sl.injEq]))
    | (refine And.go ?_; refine AndI ?_)
    | fail)
/-- impl.CountClusters$1 -/
def i_CountClusters_1.x (c_i_isConsonant : Nat) : XCode :=
  (.seq
    (.reg [⟨(some 6), .mv, [.k (.bool false)], none⟩] [0, 1])
    (.seq
      (.reg (flatNs none (nl [.op (some 7) .mv [.t 0], .op (some 8) .call [.k (.fn c_i_isConsonant []), .t 7], .op (some 9) .mv [.t 8], .sc 9 true (nl [.op (some 10) .mv [.t 1], .op (some 11) .call [.k (.fn c_i_isConsonant []), .t 10]]) (.t 11) (some 12), .op (some 6) .mv [.t 12]])) [6])
      .ret))
def i_CountClusters_1.F : Cfg := ⟨fun _ => 0, fun r => match r with | 0 => [0, 1] | 1 => [6] | _ => []⟩
def i_CountClusters_1.X (c_i_isConsonant : Nat) : FX := ⟨13, [.tmp 6], i_CountClusters_1.F, i_CountClusters_1.x c_i_isConsonant⟩

theorem i_CountClusters_1.ok {P : Program} {k c_i_isConsonant : Nat} (hk : Has P k (i_CountClusters_1.X c_i_isConsonant)) (h2 : CB isCon P c_i_isConsonant) : CB3 hClu P k := by
  intro a b c n H
  refine S.ofX hk rfl fun hB fn hr => ?_
  unfold i_CountClusters_1.x
  repeat' (first
    | ((with_reducible refine S.go ?_); first | refine S.seq ?_ | refine S.skip ?_ | refine S.block ?_ | refine S.inBlock ?_ | refine S.exit rfl ?_ | refine S.regN ?_ | refine S.reg ?_ | refine S.drw hk.mo (by kernel_rfl) ?_ | (refine S.cond rfl (fun hc => ?_) (fun hc => ?_) <;> try simp only [HC] at hc) | refine S.retH hr rfl ?_ | refine S.finH hr rfl ?_ | (refine S.retK hr ?_; refine TRdt ?_) | fail)
    | ((first | with_reducible refine Ns.go ?_ | with_reducible refine XOs.go ?_ | with_reducible refine XDs.go ?_ | with_reducible refine OK.go ?_); (first | refine TTdt ?_ | (apply Ns.sc ⟨rfl, rfl⟩ rfl; intro hg) | (refine OK.tr ?_; refine TTdt ?_)); (try simp only [HC] at hg))
    | with_reducible exact rfl | exact ⟨rfl, rfl, rfl⟩
    | ((with_reducible refine RunsT.go ?_); first | refine RunsF.apf (h2 _) rfl ?_ | fail)
    | ((with_reducible refine RunsD.go ?_); first | refine RunsF.apd (h2 _) rfl ?_ | fail)
    | ((with_reducible refine Gd.go ?_); refine Gd.on (fun hg => ?_) (fun hg => ?_) <;> refine TGdt ?_ <;> (try simp only [HC] at hg))
    | ((with_reducible refine Fin.go ?_); first | (refine Fin.p ?_; first | exact FT | (try refine TTdt ?_; try simp only [LF])) | refine Fin.a0 ?_ | refine Fin.a ?_ | refine Fin.ni ?_ | refine Fin.v ?_ ?_ | refine Fin.r ?_ ?_ | exact Fin.th | (refine Fin.t ?_; try simp only [AV.sl.injEq]))
    | (refine And.go ?_; refine AndI ?_)
    | fail)
  all_goals (try clear hr hk hB)
  all_goals rfl
/-- impl.CountClusters -/
def i_CountClusters.x (c_i_places c_i_CountClusters_1 : Nat) : XCode :=
  (.seq
    (.reg [⟨(some 2), .mv, [.k (.int .i64 0)], none⟩] [0])
    (.seq
      (.reg [⟨(some 3), .mv, [.t 0], none⟩,
        ⟨(some 4), .call, [.k (.fn c_i_places []), .t 3, .k (.fn c_i_CountClusters_1 [])], none⟩,
        ⟨(some 2), .mv, [.t 4], none⟩] [2])
      .ret))
def i_CountClusters.F : Cfg := ⟨fun _ => 0, fun r => match r with | 0 => [0] | 1 => [2] | _ => []⟩
def i_CountClusters.X (c_i_places c_i_CountClusters_1 : Nat) : FX := ⟨5, [.tmp 2], i_CountClusters.F, i_CountClusters.x c_i_places c_i_CountClusters_1⟩

theorem i_CountClusters.ok {P : Program} {k c_i_places c_i_CountClusters_1 : Nat} (hk : Has P k (i_CountClusters.X c_i_places c_i_CountClusters_1)) (h1 : C_places P c_i_places) (h2 : CB3 hClu P c_i_CountClusters_1) : C_cnt hClu P k := by
  intro s hs n H
  refine S.ofX hk rfl fun hB fn hr => ?_
  unfold i_CountClusters.x
  repeat' (first
    | ((with_reducible refine S.go ?_); first | refine S.seq ?_ | refine S.skip ?_ | refine S.block ?_ | refine S.inBlock ?_ | refine S.exit rfl ?_ | refine S.regN ?_ | refine S.reg ?_ | refine S.drw hk.mo (by kernel_rfl) ?_ | (refine S.cond rfl (fun hc => ?_) (fun hc => ?_) <;> try simp only [HC] at hc) | refine S.retH hr rfl ?_ | refine S.finH hr rfl ?_ | (refine S.retK hr ?_; refine TRdt ?_) | fail)
    | ((first | with_reducible refine Ns.go ?_ | with_reducible refine XOs.go ?_ | with_reducible refine XDs.go ?_ | with_reducible refine OK.go ?_); (first | refine TTdt ?_ | (apply Ns.sc ⟨rfl, rfl⟩ rfl; intro hg) | (refine OK.tr ?_; refine TTdt ?_)); (try simp only [HC] at hg))
    | with_reducible exact rfl | exact ⟨rfl, rfl, rfl⟩
    | ((with_reducible refine RunsT.go ?_); first | refine RunsF.apf (h1 _ _ hClu hs h2) rfl ?_ | fail)
    | ((with_reducible refine RunsD.go ?_); first | refine RunsF.apd (h1 _ _ hClu hs h2) rfl ?_ | fail)
    | ((with_reducible refine Gd.go ?_); refine Gd.on (fun hg => ?_) (fun hg => ?_) <;> refine TGdt ?_ <;> (try simp only [HC] at hg))
    | ((with_reducible refine Fin.go ?_); first | (refine Fin.p ?_; first | exact FT | (try refine TTdt ?_; try simp only [LF])) | refine Fin.a0 ?_ | refine Fin.a ?_ | refine Fin.ni ?_ | refine Fin.v ?_ ?_ | refine Fin.r ?_ ?_ | exact Fin.th | (refine Fin.t ?_; try simp only [AV.sl.injEq]))
    | (refine And.go ?_; refine AndI ?_)
    | fail)
/-- impl.CountVoiced$1 -/
def i_CountVoiced_1.x (c_i_isVoiced : Nat) : XCode :=
  (.seq
    (.reg [⟨(some 6), .mv, [.k (.bool false)], none⟩] [1])
    (.seq
      (.reg [⟨(some 7), .mv, [.t 1], none⟩,
        ⟨(some 8), .call, [.k (.fn c_i_isVoiced []), .t 7], none⟩,
        ⟨(some 6), .mv, [.t 8], none⟩] [6])
      .ret))
def i_CountVoiced_1.F : Cfg := ⟨fun _ => 0, fun r => match r with | 0 => [1] | 1 => [6] | _ => []⟩
def i_CountVoiced_1.X (c_i_isVoiced : Nat) : FX := ⟨9, [.tmp 6], i_CountVoiced_1.F, i_CountVoiced_1.x c_i_isVoiced⟩

theorem i_CountVoiced_1.ok {P : Program} {k c_i_isVoiced : Nat} (hk : Has P k (i_CountVoiced_1.X c_i_isVoiced)) (h1 : CB isVoi P c_i_isVoiced) : CB3 hVoi P k := by
  intro a b c n H
  refine S.ofX hk rfl fun hB fn hr => ?_
  unfold i_CountVoiced_1.x
  repeat' (first
    | ((with_reducible refine S.go ?_); first | refine S.seq ?_ | refine S.skip ?_ | refine S.block ?_ | refine S.inBlock ?_ | refine S.exit rfl ?_ | refine S.regN ?_ | refine S.reg ?_ | refine S.drw hk.mo (by kernel_rfl) ?_ | (refine S.cond rfl (fun hc => ?_) (fun hc => ?_) <;> try simp only [HC] at hc) | refine S.retH hr rfl ?_ | refine S.finH hr rfl ?_ | (refine S.retK hr ?_; refine TRdt ?_) | fail)
    | ((first | with_reducible refine Ns.go ?_ | with_reducible refine XOs.go ?_ | with_reducible refine XDs.go ?_ | with_reducible refine OK.go ?_); (first | refine TTdt ?_ | (apply Ns.sc ⟨rfl, rfl⟩ rfl; intro hg) | (refine OK.tr ?_; refine TTdt ?_)); (try simp only [HC] at hg))
    | with_reducible exact rfl | exact ⟨rfl, rfl, rfl⟩
    | ((with_reducible refine RunsT.go ?_); first | refine RunsF.apf (h1 _) rfl ?_ | fail)
    | ((with_reducible refine RunsD.go ?_); first | refine RunsF.apd (h1 _) rfl ?_ | fail)
    | ((with_reducible refine Gd.go ?_); refine Gd.on (fun hg => ?_) (fun hg => ?_) <;> refine TGdt ?_ <;> (try simp only [HC] at hg))
    | ((with_reducible refine Fin.go ?_); first | (refine Fin.p ?_; first | exact FT | (try refine TTdt ?_; try simp only [LF])) | refine Fin.a0 ?_ | refine Fin.a ?_ | refine Fin.ni ?_ | refine Fin.v ?_ ?_ | refine Fin.r ?_ ?_ | exact Fin.th | (refine Fin.t ?_; try simp only [AV.sl.injEq]))
    | (refine And.go ?_; refine AndI ?_)
    | fail)
  all_goals (try clear hr hk hB)
  all_goals rfl
/-- impl.CountVoiced -/
def i_CountVoiced.x (c_i_places c_i_CountVoiced_1 : Nat) : XCode :=
  (.seq
    (.reg [⟨(some 2), .mv, [.k (.int .i64 0)], none⟩] [0])
    (.seq
      (.reg [⟨(some 3), .mv, [.t 0], none⟩,
        ⟨(some 4), .call, [.k (.fn c_i_places []), .t 3, .k (.fn c_i_CountVoiced_1 [])], none⟩,
        ⟨(some 2), .mv, [.t 4], none⟩] [2])
      .ret))
def i_CountVoiced.F : Cfg := ⟨fun _ => 0, fun r => match r with | 0 => [0] | 1 => [2] | _ => []⟩
def i_CountVoiced.X (c_i_places c_i_CountVoiced_1 : Nat) : FX := ⟨5, [.tmp 2], i_CountVoiced.F, i_CountVoiced.x c_i_places c_i_CountVoiced_1⟩

theorem i_CountVoiced.ok {P : Program} {k c_i_places c_i_CountVoiced_1 : Nat} (hk : Has P k (i_CountVoiced.X c_i_places c_i_CountVoiced_1)) (h1 : C_places P c_i_places) (h2 : CB3 hVoi P c_i_CountVoiced_1) : C_cnt hVoi P k := by
  intro s hs n H
  refine S.ofX hk rfl fun hB fn hr => ?_
  unfold i_CountVoiced.x
  repeat' (first
    | ((with_reducible refine S.go ?_); first | refine S.seq ?_ | refine S.skip ?_ | refine S.block ?_ | refine S.inBlock ?_ | refine S.exit rfl ?_ | refine S.regN ?_ | refine S.reg ?_ | refine S.drw hk.mo (by kernel_rfl) ?_ | (refine S.cond rfl (fun hc => ?_) (fun hc => ?_) <;> try simp only [HC] at hc) | refine S.retH hr rfl ?_ | refine S.finH hr rfl ?_ | (refine S.retK hr ?_; refine TRdt ?_) | fail)
    | ((first | with_reducible refine Ns.go ?_ | with_reducible refine XOs.go ?_ | with_reducible refine XDs.go ?_ | with_reducible refine OK.go ?_); (first | refine TTdt ?_ | (apply Ns.sc ⟨rfl, rfl⟩ rfl; intro hg) | (refine OK.tr ?_; refine TTdt ?_)); (try simp only [HC] at hg))
    | with_reducible exact rfl | exact ⟨rfl, rfl, rfl⟩
    | ((with_reducible refine RunsT.go ?_); first | refine RunsF.apf (h1 _ _ hVoi hs h2) rfl ?_ | fail)
    | ((with_reducible refine RunsD.go ?_); first | refine RunsF.apd (h1 _ _ hVoi hs h2) rfl ?_ | fail)
    | ((with_reducible refine Gd.go ?_); refine Gd.on (fun hg => ?_) (fun hg => ?_) <;> refine TGdt ?_ <;> (try simp only [HC] at hg))
    | ((with_reducible refine Fin.go ?_); first | (refine Fin.p ?_; first | exact FT | (try refine TTdt ?_; try simp only [LF])) | refine Fin.a0 ?_ | refine Fin.a ?_ | refine Fin.ni ?_ | refine Fin.v ?_ ?_ | refine Fin.r ?_ ?_ | exact Fin.th | (refine Fin.t ?_; try simp only [AV.sl.injEq]))
    | (refine And.go ?_; refine AndI ?_)
    | fail)
/-- impl.CountFinalVoiced$1 -/
def i_CountFinalVoiced_1.x (c_i_isVoiced : Nat) : XCode :=
  (.seq
    (.reg [⟨(some 6), .mv, [.k (.bool false)], none⟩] [1, 2])
    (.seq
      (.reg (flatNs none (nl [.op (some 7) .mv [.t 1], .op (some 8) .call [.k (.fn c_i_isVoiced []), .t 7], .op (some 9) .mv [.t 8], .sc 9 true (nl [.op (some 10) .mv [.t 2], .op (some 11) (.bin .eql) [.t 10, .k (.int .u8 0)]]) (.t 11) (some 12), .op (some 6) .mv [.t 12]])) [6])
      .ret))
def i_CountFinalVoiced_1.F : Cfg := ⟨fun _ => 0, fun r => match r with | 0 => [1, 2] | 1 => [6] | _ => []⟩
def i_CountFinalVoiced_1.X (c_i_isVoiced : Nat) : FX := ⟨13, [.tmp 6], i_CountFinalVoiced_1.F, i_CountFinalVoiced_1.x c_i_isVoiced⟩

theorem i_CountFinalVoiced_1.ok {P : Program} {k c_i_isVoiced : Nat} (hk : Has P k (i_CountFinalVoiced_1.X c_i_isVoiced)) (h1 : CB isVoi P c_i_isVoiced) : CB3 hFin P k := by
  intro a b c n H
  refine S.ofX hk rfl fun hB fn hr => ?_
  unfold i_CountFinalVoiced_1.x
  repeat' (first
    | ((with_reducible refine S.go ?_); first | refine S.seq ?_ | refine S.skip ?_ | refine S.block ?_ | refine S.inBlock ?_ | refine S.exit rfl ?_ | refine S.regN ?_ | refine S.reg ?_ | refine S.drw hk.mo (by kernel_rfl) ?_ | (refine S.cond rfl (fun hc => ?_) (fun hc => ?_) <;> try simp only [HC] at hc) | refine S.retH hr rfl ?_ | refine S.finH hr rfl ?_ | (refine S.retK hr ?_; refine TRdt ?_) | fail)
    | ((first | with_reducible refine Ns.go ?_ | with_reducible refine XOs.go ?_ | with_reducible refine XDs.go ?_ | with_reducible refine OK.go ?_); (first | refine TTdt ?_ | (apply Ns.sc ⟨rfl, rfl⟩ rfl; intro hg) | (refine OK.tr ?_; refine TTdt ?_)); (try simp only [HC] at hg))
    | with_reducible exact rfl | exact ⟨rfl, rfl, rfl⟩
    | ((with_reducible refine RunsT.go ?_); first | refine RunsF.apf (h1 _) rfl ?_ | fail)
    | ((with_reducible refine RunsD.go ?_); first | refine RunsF.apd (h1 _) rfl ?_ | fail)
    | ((with_reducible refine Gd.go ?_); refine Gd.on (fun hg => ?_) (fun hg => ?_) <;> refine TGdt ?_ <;> (try simp only [HC] at hg))
    | ((with_reducible refine Fin.go ?_); first | (refine Fin.p ?_; first | exact FT | (try refine TTdt ?_; try simp only [LF])) | refine Fin.a0 ?_ | refine Fin.a ?_ | refine Fin.ni ?_ | refine Fin.v ?_ ?_ | refine Fin.r ?_ ?_ | exact Fin.th | (refine Fin.t ?_; try simp only [AV.sl.injEq]))
    | (refine And.go ?_; refine AndI ?_)
    | fail)
  all_goals (try clear hr hk hB)
  all_goals rfl
/-- impl.CountFinalVoiced -/
def i_CountFinalVoiced.x (c_i_places c_i_CountFinalVoiced_1 : Nat) : XCode :=
  (.seq
    (.reg [⟨(some 2), .mv, [.k (.int .i64 0)], none⟩] [0])
    (.seq
      (.reg [⟨(some 3), .mv, [.t 0], none⟩,
        ⟨(some 4), .call, [.k (.fn c_i_places []), .t 3, .k (.fn c_i_CountFinalVoiced_1 [])], none⟩,
        ⟨(some 2), .mv, [.t 4], none⟩] [2])
      .ret))
def i_CountFinalVoiced.F : Cfg := ⟨fun _ => 0, fun r => match r with | 0 => [0] | 1 => [2] | _ => []⟩
def i_CountFinalVoiced.X (c_i_places c_i_CountFinalVoiced_1 : Nat) : FX := ⟨5, [.tmp 2], i_CountFinalVoiced.F, i_CountFinalVoiced.x c_i_places c_i_CountFinalVoiced_1⟩

theorem i_CountFinalVoiced.ok {P : Program} {k c_i_places c_i_CountFinalVoiced_1 : Nat} (hk : Has P k (i_CountFinalVoiced.X c_i_places c_i_CountFinalVoiced_1)) (h1 : C_places P c_i_places) (h2 : CB3 hFin P c_i_CountFinalVoiced_1) : C_cnt hFin P k := by
  intro s hs n H
  refine S.ofX hk rfl fun hB fn hr => ?_
  unfold i_CountFinalVoiced.x
  repeat' (first
    | ((with_reducible refine S.go ?_); first | refine S.seq ?_ | refine S.skip ?_ | refine S.block ?_ | refine S.inBlock ?_ | refine S.exit rfl ?_ | refine S.regN ?_ | refine S.reg ?_ | refine S.drw hk.mo (by kernel_rfl) ?_ | (refine S.cond rfl (fun hc => ?_) (fun hc => ?_) <;> try simp only [HC] at hc) | refine S.retH hr rfl ?_ | refine S.finH hr rfl ?_ | (refine S.retK hr ?_; refine TRdt ?_) | fail)
    | ((first | with_reducible refine Ns.go ?_ | with_reducible refine XOs.go ?_ | with_reducible refine XDs.go ?_ | with_reducible refine OK.go ?_); (first | refine TTdt ?_ | (apply Ns.sc ⟨rfl, rfl⟩ rfl; intro hg) | (refine OK.tr ?_; refine TTdt ?_)); (try simp only [HC] at hg))
    | with_reducible exact rfl | exact ⟨rfl, rfl, rfl⟩
    | ((with_reducible refine RunsT.go ?_); first | refine RunsF.apf (h1 _ _ hFin hs h2) rfl ?_ | fail)
    | ((with_reducible refine RunsD.go ?_); first | refine RunsF.apd (h1 _ _ hFin hs h2) rfl ?_ | fail)
    | ((with_reducible refine Gd.go ?_); refine Gd.on (fun hg => ?_) (fun hg => ?_) <;> refine TGdt ?_ <;> (try simp only [HC] at hg))
    | ((with_reducible refine Fin.go ?_); first | (refine Fin.p ?_; first | exact FT | (try refine TTdt ?_; try simp only [LF])) | refine Fin.a0 ?_ | refine Fin.a ?_ | refine Fin.ni ?_ | refine Fin.v ?_ ?_ | refine Fin.r ?_ ?_ | exact Fin.th | (refine Fin.t ?_; try simp only [AV.sl.injEq]))
    | (refine And.go ?_; refine AndI ?_)
    | fail)
/-- impl.CountNasalVoiceless$1 -/
def i_CountNasalVoiceless_1.x (c_i_HasFeature c_i_isVoiceless : Nat) : XCode :=
  (.seq
    (.reg [⟨(some 6), .mv, [.k (.bool false)], none⟩] [0, 1])
    (.seq
      (.reg (flatNs none (nl [.op (some 7) .mv [.t 0], .op (some 8) .call [.k (.fn c_i_HasFeature []), .t 7, .k (.int .i64 2)], .op (some 9) .mv [.t 8], .sc 9 true (nl [.op (some 10) .mv [.t 1], .op (some 11) .call [.k (.fn c_i_isVoiceless []), .t 10]]) (.t 11) (some 12), .op (some 6) .mv [.t 12]])) [6])
      .ret))
def i_CountNasalVoiceless_1.F : Cfg := ⟨fun _ => 0, fun r => match r with | 0 => [0, 1] | 1 => [6] | _ => []⟩
def i_CountNasalVoiceless_1.X (c_i_HasFeature c_i_isVoiceless : Nat) : FX := ⟨13, [.tmp 6], i_CountNasalVoiceless_1.F, i_CountNasalVoiceless_1.x c_i_HasFeature c_i_isVoiceless⟩

theorem i_CountNasalVoiceless_1.ok {P : Program} {k c_i_HasFeature c_i_isVoiceless : Nat} (hk : Has P k (i_CountNasalVoiceless_1.X c_i_HasFeature c_i_isVoiceless)) (h1 : C_HasFeature P c_i_HasFeature) (h2 : CB isVls P c_i_isVoiceless) : CB3 hNas P k := by
  intro a b c n H
  refine S.ofX hk rfl fun hB fn hr => ?_
  unfold i_CountNasalVoiceless_1.x
  repeat' (first
    | ((with_reducible refine S.go ?_); first | refine S.seq ?_ | refine S.skip ?_ | refine S.block ?_ | refine S.inBlock ?_ | refine S.exit rfl ?_ | refine S.regN ?_ | refine S.reg ?_ | refine S.drw hk.mo (by kernel_rfl) ?_ | (refine S.cond rfl (fun hc => ?_) (fun hc => ?_) <;> try simp only [HC] at hc) | refine S.retH hr rfl ?_ | refine S.finH hr rfl ?_ | (refine S.retK hr ?_; refine TRdt ?_) | fail)
    | ((first | with_reducible refine Ns.go ?_ | with_reducible refine XOs.go ?_ | with_reducible refine XDs.go ?_ | with_reducible refine OK.go ?_); (first | refine TTdt ?_ | (apply Ns.sc ⟨rfl, rfl⟩ rfl; intro hg) | (refine OK.tr ?_; refine TTdt ?_)); (try simp only [HC] at hg))
    | with_reducible exact rfl | exact ⟨rfl, rfl, rfl⟩
    | ((with_reducible refine RunsT.go ?_); first | refine RunsF.apf (h1 _ _) rfl ?_ | refine RunsF.apf (h2 _) rfl ?_ | fail)
    | ((with_reducible refine RunsD.go ?_); first | refine RunsF.apd (h1 _ _) rfl ?_ | refine RunsF.apd (h2 _) rfl ?_ | fail)
    | ((with_reducible refine Gd.go ?_); refine Gd.on (fun hg => ?_) (fun hg => ?_) <;> refine TGdt ?_ <;> (try simp only [HC] at hg))
    | ((with_reducible refine Fin.go ?_); first | (refine Fin.p ?_; first | exact FT | (try refine TTdt ?_; try simp only [LF])) | refine Fin.a0 ?_ | refine Fin.a ?_ | refine Fin.ni ?_ | refine Fin.v ?_ ?_ | refine Fin.r ?_ ?_ | exact Fin.th | (refine Fin.t ?_; try simp only [AV.sl.injEq]))
    | (refine And.go ?_; refine AndI ?_)
    | fail)
  all_goals (try clear hr hk hB)
  all_goals rfl
/-- impl.CountNasalVoiceless -/
def i_CountNasalVoiceless.x (c_i_places c_i_CountNasalVoiceless_1 : Nat) : XCode :=
  (.seq
    (.reg [⟨(some 2), .mv, [.k (.int .i64 0)], none⟩] [0])
    (.seq
      (.reg [⟨(some 3), .mv, [.t 0], none⟩,
        ⟨(some 4), .call, [.k (.fn c_i_places []), .t 3, .k (.fn c_i_CountNasalVoiceless_1 [])], none⟩,
        ⟨(some 2), .mv, [.t 4], none⟩] [2])
      .ret))
def i_CountNasalVoiceless.F : Cfg := ⟨fun _ => 0, fun r => match r with | 0 => [0] | 1 => [2] | _ => []⟩
def i_CountNasalVoiceless.X (c_i_places c_i_CountNasalVoiceless_1 : Nat) : FX := ⟨5, [.tmp 2], i_CountNasalVoiceless.F, i_CountNasalVoiceless.x c_i_places c_i_CountNasalVoiceless_1⟩

theorem i_CountNasalVoiceless.ok {P : Program} {k c_i_places c_i_CountNasalVoiceless_1 : Nat} (hk : Has P k (i_CountNasalVoiceless.X c_i_places c_i_CountNasalVoiceless_1)) (h1 : C_places P c_i_places) (h2 : CB3 hNas P c_i_CountNasalVoiceless_1) : C_cnt hNas P k := by
  intro s hs n H
  refine S.ofX hk rfl fun hB fn hr => ?_
  unfold i_CountNasalVoiceless.x
  repeat' (first
    | ((with_reducible refine S.go ?_); first | refine S.seq ?_ | refine S.skip ?_ | refine S.block ?_ | refine S.inBlock ?_ | refine S.exit rfl ?_ | refine S.regN ?_ | refine S.reg ?_ | refine S.drw hk.mo (by kernel_rfl) ?_ | (refine S.cond rfl (fun hc => ?_) (fun hc => ?_) <;> try simp only [HC] at hc) | refine S.retH hr rfl ?_ | refine S.finH hr rfl ?_ | (refine S.retK hr ?_; refine TRdt ?_) | fail)
    | ((first | with_reducible refine Ns.go ?_ | with_reducible refine XOs.go ?_ | with_reducible refine XDs.go ?_ | with_reducible refine OK.go ?_); (first | refine TTdt ?_ | (apply Ns.sc ⟨rfl, rfl⟩ rfl; intro hg) | (refine OK.tr ?_; refine TTdt ?_)); (try simp only [HC] at hg))
    | with_reducible exact rfl | exact ⟨rfl, rfl, rfl⟩
    | ((with_reducible refine RunsT.go ?_); first | refine RunsF.apf (h1 _ _ hNas hs h2) rfl ?_ | fail)
    | ((with_reducible refine RunsD.go ?_); first | refine RunsF.apd (h1 _ _ hNas hs h2) rfl ?_ | fail)
    | ((with_reducible refine Gd.go ?_); refine Gd.on (fun hg => ?_) (fun hg => ?_) <;> refine TGdt ?_ <;> (try simp only [HC] at hg))
    | ((with_reducible refine Fin.go ?_); first | (refine Fin.p ?_; first | exact FT | (try refine TTdt ?_; try simp only [LF])) | refine Fin.a0 ?_ | refine Fin.a ?_ | refine Fin.ni ?_ | refine Fin.v ?_ ?_ | refine Fin.r ?_ ?_ | exact Fin.th | (refine Fin.t ?_; try simp only [AV.sl.injEq]))
    | (refine And.go ?_; refine AndI ?_)
    | fail)
def vowAt (s : List UInt8) (i : Int) : Bool := decide (0 ≤ i) && (decide (i < s.length) && hasF (s.getD i.toNat 0) 0)
def C_vowAt (P : Program) (k : Nat) : Prop := ∀ (s : List UInt8) (i : Int), s.length ≤ 4294967296 → RunsF P k [.str s, .int .i64 i] (.bool (vowAt s i))
/-- spec.IsVowelAt -/
def s_IsVowelAt.x (c_s_HasFeature : Nat) : XCode :=
  (.seq
    (.reg [⟨(some 4), .mv, [.k (.bool false)], none⟩] [0, 1])
    (.seq
      (.reg (flatNs none (nl [.op (some 5) .mv [.t 1], .op (some 6) (.bin .geq) [.t 5, .k (.int .i64 0)], .op (some 7) .mv [.t 6], .sc 7 true (nl [.op (some 8) .mv [.t 1], .op (some 9) .mv [.t 0], .op (some 10) .lenS [.t 9], .op (some 11) (.bin .lss) [.t 8, .t 10]]) (.t 11) (some 12), .op (some 13) .mv [.t 12], .sc 13 true (nl [.op (some 14) .mv [.t 0], .op (some 15) .mv [.t 1], .op (some 16) .idxS [.t 14, .t 15], .op (some 17) .call [.k (.fn c_s_HasFeature []), .t 16, .k (.int .i64 0)]]) (.t 17) (some 18), .op (some 4) .mv [.t 18]])) [4])
      .ret))
def s_IsVowelAt.F : Cfg := ⟨fun _ => 0, fun r => match r with | 0 => [0, 1] | 1 => [4] | _ => []⟩
def s_IsVowelAt.X (c_s_HasFeature : Nat) : FX := ⟨19, [.tmp 4], s_IsVowelAt.F, s_IsVowelAt.x c_s_HasFeature⟩

theorem s_IsVowelAt.ok {P : Program} {k c_s_HasFeature : Nat} (hk : Has P k (s_IsVowelAt.X c_s_HasFeature)) (h1 : C_HasFeature P c_s_HasFeature) : C_vowAt P k := by
  intro s i hs n H
  refine S.ofX hk rfl fun hB fn hr => ?_
  unfold s_IsVowelAt.x
  repeat' (first
    | ((with_reducible refine S.go ?_); first | refine S.seq ?_ | refine S.skip ?_ | refine S.block ?_ | refine S.inBlock ?_ | refine S.exit rfl ?_ | refine S.regN ?_ | refine S.reg ?_ | refine S.drw hk.mo (by kernel_rfl) ?_ | (refine S.cond rfl (fun hc => ?_) (fun hc => ?_) <;> try simp only [HC] at hc) | refine S.retH hr rfl ?_ | refine S.finH hr rfl ?_ | (refine S.retK hr ?_; refine TRdt ?_) | fail)
    | ((first | with_reducible refine Ns.go ?_ | with_reducible refine XOs.go ?_ | with_reducible refine XDs.go ?_ | with_reducible refine OK.go ?_); (first | refine TTdt ?_ | (apply Ns.sc ⟨rfl, rfl⟩ rfl; intro hg) | (refine OK.tr ?_; refine TTdt ?_)); (try simp only [HC] at hg))
    | with_reducible exact rfl | exact ⟨rfl, rfl, rfl⟩
    | ((with_reducible refine RunsT.go ?_); first | refine RunsF.apf (h1 _ _) rfl ?_ | fail)
    | ((with_reducible refine RunsD.go ?_); first | refine RunsF.apd (h1 _ _) rfl ?_ | fail)
    | ((with_reducible refine Gd.go ?_); refine Gd.on (fun hg => ?_) (fun hg => ?_) <;> refine TGdt ?_ <;> (try simp only [HC] at hg))
    | ((with_reducible refine Fin.go ?_); first | (refine Fin.p ?_; first | exact FT | (try refine TTdt ?_; try simp only [LF])) | refine Fin.a0 ?_ | refine Fin.a ?_ | refine Fin.ni ?_ | refine Fin.v ?_ ?_ | refine Fin.r ?_ ?_ | exact Fin.th | (refine Fin.t ?_; try simp only [AV.sl.injEq]))
    | (refine And.go ?_; refine AndI ?_)
    | fail)
  all_goals (try clear hr hk hB)
  all_goals (rw [vowAt, Bool.and_assoc])
theorem vowN (s : List UInt8) (i : Nat) : vowAt s (i : Int) = (decide (i < s.length) && hasF (s.getD i 0) 0) := by
  unfold vowAt
  rw [Int.toNat_natCast, decide_eq_true (show (0 : Int) ≤ i by omega), Bool.true_and]
  congr 1
  exact decide_eq_decide.mpr (by omega)
theorem con_snd {c : UInt8} (h : isSnd c = true) : isCon c = !hasF c 0 := by rw [isCon, h]; rfl
def pOns (s : List UInt8) (i : Nat) : Bool := vowAt s i && (decide (i = 0) || vowAt s ((i : Int) - 1))
def pCod (s : List UInt8) (i : Nat) : Bool := !vowAt s i && !vowAt s ((i : Int) + 1)
def pClu (s : List UInt8) (i : Nat) : Bool := decide (0 < i) && (!vowAt s ((i : Int) - 1) && !vowAt s i)
def pVoi (s : List UInt8) (i : Nat) : Bool := isVoi (s.getD i 0)
def pNas (s : List UInt8) (i : Nat) : Bool := decide (0 < i) && (hasF (s.getD (i - 1) 0) 2 && (isObs (s.getD i 0) && !hasF (s.getD i 0) 1))
theorem eOns {s : List UInt8} (h : isForm s = true) (i : Nat) (hi : i < s.length) : pOns s i = hOns (bfr s i) (s.getD i 0) (s.getD (i + 1) 0) := by
  unfold pOns hOns bfr
  rw [vowN, decide_eq_true hi, Bool.true_and]
  by_cases h0 : 0 < i
  · rw [if_pos h0, show ((i : Int) - 1) = ((i - 1 : Nat) : Int) by omega, vowN, con_snd (form_snd h (i := i - 1) (by omega)), decide_eq_true (show i - 1 < s.length by omega), decide_eq_false (show ¬ i = 0 by omega)]
    simp
  · rw [if_neg h0, decide_eq_true (show i = 0 by omega)]
    have : isCon 0 = false := rfl
    rw [this]; simp
theorem eCod {s : List UInt8} (h : isForm s = true) (i : Nat) (hi : i < s.length) : pCod s i = hCod (bfr s i) (s.getD i 0) (s.getD (i + 1) 0) := by
  unfold pCod hCod
  rw [vowN, decide_eq_true hi, Bool.true_and, con_snd (form_snd h hi), show ((i : Int) + 1) = ((i + 1 : Nat) : Int) by omega, vowN]
  by_cases h1 : i + 1 < s.length
  · rw [decide_eq_true h1, Bool.true_and]
  · rw [decide_eq_false h1, getD_out (i := i + 1) (by omega)]; rfl
theorem eClu {s : List UInt8} (h : isForm s = true) (i : Nat) (hi : i < s.length) : pClu s i = hClu (bfr s i) (s.getD i 0) (s.getD (i + 1) 0) := by
  unfold pClu hClu bfr
  rw [vowN, decide_eq_true hi, Bool.true_and]
  by_cases h0 : 0 < i
  · rw [if_pos h0, decide_eq_true h0, show ((i : Int) - 1) = ((i - 1 : Nat) : Int) by omega, vowN, con_snd (form_snd h (i := i - 1) (by omega)), con_snd (form_snd h hi), decide_eq_true (show i - 1 < s.length by omega)]
    simp
  · rw [if_neg h0, decide_eq_false h0]; rfl
theorem eVoi {s : List UInt8} (h : isForm s = true) (i : Nat) (hi : i < s.length) : pVoi s i = hVoi (bfr s i) (s.getD i 0) (s.getD (i + 1) 0) := rfl
theorem eNas {s : List UInt8} (h : isForm s = true) (i : Nat) (hi : i < s.length) : pNas s i = hNas (bfr s i) (s.getD i 0) (s.getD (i + 1) 0) := by
  unfold pNas hNas bfr isVls
  by_cases h0 : 0 < i
  · rw [if_pos h0, decide_eq_true h0, Bool.true_and]
  · rw [if_neg h0, decide_eq_false h0]; rfl
theorem cp_end1 {p : Nat → Bool} {h : H3} {s : List UInt8} {i n : Nat} (h0 : p 0 = false) (hn : n = cp p i) (h1 : 1 ≤ i) (hf : 1 < i → isForm s = true) (hx : s.length ≤ i ∨ isForm s = false) (hi : i ≤ s.length ∨ i = 1) (e : isForm s = true → ∀ i, i < s.length → p i = h (bfr s i) (s.getD i 0) (s.getD (i + 1) 0)) : n = pls h s := by
  by_cases hl : i ≤ s.length
  · by_cases h2 : 1 < i
    · exact cp_end hn (fun _ => hf h2) hx hl e
    · have : i = 1 := by omega
      subst this
      have hz : cp p 1 = 0 := by rw [cp, cp, h0]; rfl
      by_cases hs : isForm s = true
      · exact cp_end hn (fun _ => hs) hx hl e
      · rw [hn, hz, pls, if_neg hs]
  · have : i = 1 := by omega
    subst this
    have hz : cp p 1 = 0 := by rw [cp, cp, h0]; rfl
    have hl0 : s.length = 0 := by omega
    rw [hn, hz, pls, hl0]; simp [cpt]
/-- spec.CountOnsetless -/
def s_CountOnsetless.x (c_s_IsForm c_s_IsVowelAt : Nat) : XCode :=
  (.seq
    (.reg [⟨(some 2), .mv, [.k (.int .i64 0)], none⟩] [0])
    (.seq
      (.reg [⟨(some 3), .mv, [.k (.int .i64 0)], none⟩] [0, 3])
      (.seq
        (.seq
          (.reg [⟨(some 4), .mv, [.k (.int .i64 0)], none⟩] [0, 3, 4])
          (.block 0
            (.loop
              (.seq
                (.seq
                  (.reg (flatNs none (nl [.op (some 5) .mv [.t 4], .op (some 6) .mv [.t 0], .op (some 7) .lenS [.t 6], .op (some 8) (.bin .lss) [.t 5, .t 7], .op (some 9) .mv [.t 8], .sc 9 true (nl [.op (some 10) .mv [.t 0], .op (some 11) .call [.k (.fn c_s_IsForm []), .t 10]]) (.t 11) (some 12)])) [0, 3, 4, 12])
                  (.cond (.t 12)
                    .skip
                    (.exit 0)))
                (.seq
                  (.block 1
                    (.seq
                      (.reg (flatNs none (nl [.op (some 15) .mv [.t 0], .op (some 16) .mv [.t 4], .op (some 17) .call [.k (.fn c_s_IsVowelAt []), .t 15, .t 16], .op (some 18) .mv [.t 17], .sc 18 true (nl [.op (some 19) .mv [.t 4], .op (some 20) (.bin .eql) [.t 19, .k (.int .i64 0)], .op (some 21) .mv [.t 20], .sc 21 false (nl [.op (some 22) .mv [.t 0], .op (some 23) .mv [.t 4], .op (some 24) (.bin .sub) [.t 23, .k (.int .i64 1)], .op (some 25) .call [.k (.fn c_s_IsVowelAt []), .t 22, .t 24]]) (.t 25) (some 26)]) (.t 26) (some 27)])) [0, 3, 4, 27])
                      (.cond (.t 27)
                        (.reg [⟨(some 28), .mv, [.t 3], none⟩,
                          ⟨(some 29), (.bin .add), [.t 28, .k (.int .i64 1)], none⟩,
                          ⟨(some 3), .mv, [.t 29], none⟩] [0, 3, 4])
                        .skip)))
                  (.reg [⟨(some 13), .mv, [.t 4], none⟩,
                    ⟨(some 14), (.bin .add), [.t 13, .k (.int .i64 1)], none⟩,
                    ⟨(some 4), .mv, [.t 14], none⟩] [0, 3, 4]))))))
        (.seq
          (.reg [⟨(some 30), .mv, [.t 3], none⟩,
            ⟨(some 2), .mv, [.t 30], none⟩] [2])
          .ret))))
def s_CountOnsetless.F : Cfg := ⟨fun _ => 0, fun r => match r with | 0 => [0] | 1 => [0, 3] | 2 => [0, 3, 4] | 3 => [0, 3, 4, 12] | 4 => [0, 3, 4] | 5 => [0, 3, 4, 27] | 6 => [0, 3, 4] | 7 => [2] | _ => []⟩
def s_CountOnsetless.X (c_s_IsForm c_s_IsVowelAt : Nat) : FX := ⟨31, [.tmp 2], s_CountOnsetless.F, s_CountOnsetless.x c_s_IsForm c_s_IsVowelAt⟩

theorem s_CountOnsetless.ok {P : Program} {k c_s_IsForm c_s_IsVowelAt : Nat} (hk : Has P k (s_CountOnsetless.X c_s_IsForm c_s_IsVowelAt)) (h0 : C_IsForm P c_s_IsForm) (h1 : C_vowAt P c_s_IsVowelAt) : C_cnt hOns P k := by
  intro w hs n H
  refine S.ofX hk rfl fun hB fn hr => ?_
  unfold s_CountOnsetless.x
  repeat' (first
    | ((with_reducible refine S.go ?_); first | refine S.seq ?_ | refine S.skip ?_ | refine S.block ?_ | refine S.inBlock ?_ | refine S.exit rfl ?_ | refine S.regN ?_ | refine S.reg ?_ | refine S.drw hk.mo (by kernel_rfl) ?_ | (refine S.cond rfl (fun hc => ?_) (fun hc => ?_) <;> try simp only [HC] at hc) | refine S.retH hr rfl ?_ | refine S.finH hr rfl ?_ | (refine S.retK hr ?_; refine TRdt ?_) | fail)
    | ((first | with_reducible refine Ns.go ?_ | with_reducible refine XOs.go ?_ | with_reducible refine XDs.go ?_ | with_reducible refine OK.go ?_); (first | refine TTdt ?_ | (apply Ns.sc ⟨rfl, rfl⟩ rfl; intro hg) | (refine OK.tr ?_; refine TTdt ?_)); (try simp only [HC] at hg))
    | with_reducible exact rfl | exact ⟨rfl, rfl, rfl⟩
    | ((with_reducible refine Gd.go ?_); refine Gd.on (fun hg => ?_) (fun hg => ?_) <;> refine TGdt ?_ <;> (try simp only [HC] at hg))
    | ((with_reducible refine Fin.go ?_); first | (refine Fin.p ?_; first | exact FT | (try refine TTdt ?_; try simp only [LF])) | refine Fin.a0 ?_ | refine Fin.a ?_ | refine Fin.ni ?_ | refine Fin.v ?_ ?_ | refine Fin.r ?_ ?_ | exact Fin.th | (refine Fin.t ?_; try simp only [AV.sl.injEq]))
    | (refine And.go ?_; refine AndI ?_)
    | fail)
  refine S.loopV (σ := Nat × Nat) [0, 3, 4] (fun s => [(3, .int .i64 (s.2 : Int)), (4, .int .i64 (s.1 : Int))]) (fun s => s.1 ≤ w.length ∧ s.2 = cp (pOns w) s.1 ∧ (0 < s.1 → isForm w = true) ∧ s.2 ≤ s.1) (fun s => n) (fun s => H) (fun s => w.length - s.1) (0, 0) (⟨by omega, rfl, fun h => absurd h (by omega), by omega⟩) ?_
  rintro ⟨i, q⟩ ⟨hi1, hi2, hi3, hi4⟩ ih
  try dsimp only at hi1 hi2 hi3 hi4
  repeat' (first
    | ((with_reducible refine S.go ?_); first | refine S.seq ?_ | refine S.skip ?_ | refine S.block ?_ | refine S.inBlock ?_ | refine S.exit rfl ?_ | refine S.regN ?_ | refine S.reg ?_ | refine S.drw hk.mo (by kernel_rfl) ?_ | refine S.ag (ih ((i + 1, _)) ?_ ?_) | (refine S.cond rfl (fun hc => ?_) (fun hc => ?_) <;> try simp only [HC] at hc) | refine S.retH hr rfl ?_ | refine S.finH hr rfl ?_ | (refine S.retK hr ?_; refine TRdt ?_) | fail)
    | ((first | with_reducible refine Ns.go ?_ | with_reducible refine XOs.go ?_ | with_reducible refine XDs.go ?_ | with_reducible refine OK.go ?_); (first | refine TTdt ?_ | (apply Ns.sc ⟨rfl, rfl⟩ rfl; intro hg) | (refine OK.tr ?_; refine TTdt ?_)); (try simp only [HC] at hg))
    | with_reducible exact rfl | exact ⟨rfl, rfl, rfl⟩
    | ((with_reducible refine RunsT.go ?_); first | refine RunsF.apf (h0 _ hs) rfl ?_ | refine RunsF.apf (h1 _ _ hs) rfl ?_ | fail)
    | ((with_reducible refine RunsD.go ?_); first | refine RunsF.apd (h0 _ hs) rfl ?_ | refine RunsF.apd (h1 _ _ hs) rfl ?_ | fail)
    | ((with_reducible refine Gd.go ?_); refine Gd.on (fun hg => ?_) (fun hg => ?_) <;> refine TGdt ?_ <;> (try simp only [HC] at hg))
    | ((with_reducible refine Fin.go ?_); first | (refine Fin.p ?_; first | exact FT | (try refine TTdt ?_; try simp only [LF])) | refine Fin.a0 ?_ | refine Fin.a ?_ | refine Fin.ni ?_ | refine Fin.v ?_ ?_ | refine Fin.r ?_ ?_ | exact Fin.th | (refine Fin.t ?_; try simp only [AV.sl.injEq]))
    | (refine And.go ?_; refine AndI ?_)
    | fail)
  all_goals (try clear ih)
  all_goals (try dsimp only)
  all_goals (repeat' apply And.intro)
  all_goals first | omega | (simp only [ZL]; omega) | skip
  all_goals (try clear hr hk hB)
  all_goals first | (exact hc.2) | (intro _; exact (‹_ ∧ isForm w = true› : _ ∧ _).2) | (exact cp_yes hi2 (by simp only [pOns]; grind)) | (exact cp_no hi2 (by simp only [pOns]; grind)) | (rw [show q = pls hOns w from cp_end hi2 hi3 (by omega) (by omega) (fun h => eOns h)]) | (rw [show q = pls hOns w from cp_end hi2 hi3 (by rcases hc with h | h; (left; omega); (exact .inr h)) (by omega) (fun h => eOns h)]) | skip
/-- spec.CountCodas -/
def s_CountCodas.x (c_s_IsForm c_s_IsVowelAt : Nat) : XCode :=
  (.seq
    (.reg [⟨(some 2), .mv, [.k (.int .i64 0)], none⟩] [0])
    (.seq
      (.reg [⟨(some 3), .mv, [.k (.int .i64 0)], none⟩] [0, 3])
      (.seq
        (.seq
          (.reg [⟨(some 4), .mv, [.k (.int .i64 0)], none⟩] [0, 3, 4])
          (.block 0
            (.loop
              (.seq
                (.seq
                  (.reg (flatNs none (nl [.op (some 5) .mv [.t 4], .op (some 6) .mv [.t 0], .op (some 7) .lenS [.t 6], .op (some 8) (.bin .lss) [.t 5, .t 7], .op (some 9) .mv [.t 8], .sc 9 true (nl [.op (some 10) .mv [.t 0], .op (some 11) .call [.k (.fn c_s_IsForm []), .t 10]]) (.t 11) (some 12)])) [0, 3, 4, 12])
                  (.cond (.t 12)
                    .skip
                    (.exit 0)))
                (.seq
                  (.block 1
                    (.seq
                      (.reg (flatNs none (nl [.op (some 15) .mv [.t 0], .op (some 16) .mv [.t 4], .op (some 17) .call [.k (.fn c_s_IsVowelAt []), .t 15, .t 16], .op (some 18) (.un .not) [.t 17], .op (some 19) .mv [.t 18], .sc 19 true (nl [.op (some 20) .mv [.t 0], .op (some 21) .mv [.t 4], .op (some 22) (.bin .add) [.t 21, .k (.int .i64 1)], .op (some 23) .call [.k (.fn c_s_IsVowelAt []), .t 20, .t 22], .op (some 24) (.un .not) [.t 23]]) (.t 24) (some 25)])) [0, 3, 4, 25])
                      (.cond (.t 25)
                        (.reg [⟨(some 26), .mv, [.t 3], none⟩,
                          ⟨(some 27), (.bin .add), [.t 26, .k (.int .i64 1)], none⟩,
                          ⟨(some 3), .mv, [.t 27], none⟩] [0, 3, 4])
                        .skip)))
                  (.reg [⟨(some 13), .mv, [.t 4], none⟩,
                    ⟨(some 14), (.bin .add), [.t 13, .k (.int .i64 1)], none⟩,
                    ⟨(some 4), .mv, [.t 14], none⟩] [0, 3, 4]))))))
        (.seq
          (.reg [⟨(some 28), .mv, [.t 3], none⟩,
            ⟨(some 2), .mv, [.t 28], none⟩] [2])
          .ret))))
def s_CountCodas.F : Cfg := ⟨fun _ => 0, fun r => match r with | 0 => [0] | 1 => [0, 3] | 2 => [0, 3, 4] | 3 => [0, 3, 4, 12] | 4 => [0, 3, 4] | 5 => [0, 3, 4, 25] | 6 => [0, 3, 4] | 7 => [2] | _ => []⟩
def s_CountCodas.X (c_s_IsForm c_s_IsVowelAt : Nat) : FX := ⟨29, [.tmp 2], s_CountCodas.F, s_CountCodas.x c_s_IsForm c_s_IsVowelAt⟩

theorem s_CountCodas.ok {P : Program} {k c_s_IsForm c_s_IsVowelAt : Nat} (hk : Has P k (s_CountCodas.X c_s_IsForm c_s_IsVowelAt)) (h0 : C_IsForm P c_s_IsForm) (h1 : C_vowAt P c_s_IsVowelAt) : C_cnt hCod P k := by
  intro w hs n H
  refine S.ofX hk rfl fun hB fn hr => ?_
  unfold s_CountCodas.x
  repeat' (first
    | ((with_reducible refine S.go ?_); first | refine S.seq ?_ | refine S.skip ?_ | refine S.block ?_ | refine S.inBlock ?_ | refine S.exit rfl ?_ | refine S.regN ?_ | refine S.reg ?_ | refine S.drw hk.mo (by kernel_rfl) ?_ | (refine S.cond rfl (fun hc => ?_) (fun hc => ?_) <;> try simp only [HC] at hc) | refine S.retH hr rfl ?_ | refine S.finH hr rfl ?_ | (refine S.retK hr ?_; refine TRdt ?_) | fail)
    | ((first | with_reducible refine Ns.go ?_ | with_reducible refine XOs.go ?_ | with_reducible refine XDs.go ?_ | with_reducible refine OK.go ?_); (first | refine TTdt ?_ | (apply Ns.sc ⟨rfl, rfl⟩ rfl; intro hg) | (refine OK.tr ?_; refine TTdt ?_)); (try simp only [HC] at hg))
    | with_reducible exact rfl | exact ⟨rfl, rfl, rfl⟩
    | ((with_reducible refine Gd.go ?_); refine Gd.on (fun hg => ?_) (fun hg => ?_) <;> refine TGdt ?_ <;> (try simp only [HC] at hg))
    | ((with_reducible refine Fin.go ?_); first | (refine Fin.p ?_; first | exact FT | (try refine TTdt ?_; try simp only [LF])) | refine Fin.a0 ?_ | refine Fin.a ?_ | refine Fin.ni ?_ | refine Fin.v ?_ ?_ | refine Fin.r ?_ ?_ | exact Fin.th | (refine Fin.t ?_; try simp only [AV.sl.injEq]))
    | (refine And.go ?_; refine AndI ?_)
    | fail)
  refine S.loopV (σ := Nat × Nat) [0, 3, 4] (fun s => [(3, .int .i64 (s.2 : Int)), (4, .int .i64 (s.1 : Int))]) (fun s => s.1 ≤ w.length ∧ s.2 = cp (pCod w) s.1 ∧ (0 < s.1 → isForm w = true) ∧ s.2 ≤ s.1) (fun s => n) (fun s => H) (fun s => w.length - s.1) (0, 0) (⟨by omega, rfl, fun h => absurd h (by omega), by omega⟩) ?_
  rintro ⟨i, q⟩ ⟨hi1, hi2, hi3, hi4⟩ ih
  try dsimp only at hi1 hi2 hi3 hi4
  repeat' (first
    | ((with_reducible refine S.go ?_); first | refine S.seq ?_ | refine S.skip ?_ | refine S.block ?_ | refine S.inBlock ?_ | refine S.exit rfl ?_ | refine S.regN ?_ | refine S.reg ?_ | refine S.drw hk.mo (by kernel_rfl) ?_ | refine S.ag (ih ((i + 1, _)) ?_ ?_) | (refine S.cond rfl (fun hc => ?_) (fun hc => ?_) <;> try simp only [HC] at hc) | refine S.retH hr rfl ?_ | refine S.finH hr rfl ?_ | (refine S.retK hr ?_; refine TRdt ?_) | fail)
    | ((first | with_reducible refine Ns.go ?_ | with_reducible refine XOs.go ?_ | with_reducible refine XDs.go ?_ | with_reducible refine OK.go ?_); (first | refine TTdt ?_ | (apply Ns.sc ⟨rfl, rfl⟩ rfl; intro hg) | (refine OK.tr ?_; refine TTdt ?_)); (try simp only [HC] at hg))
    | with_reducible exact rfl | exact ⟨rfl, rfl, rfl⟩
    | ((with_reducible refine RunsT.go ?_); first | refine RunsF.apf (h0 _ hs) rfl ?_ | refine RunsF.apf (h1 _ _ hs) rfl ?_ | fail)
    | ((with_reducible refine RunsD.go ?_); first | refine RunsF.apd (h0 _ hs) rfl ?_ | refine RunsF.apd (h1 _ _ hs) rfl ?_ | fail)
    | ((with_reducible refine Gd.go ?_); refine Gd.on (fun hg => ?_) (fun hg => ?_) <;> refine TGdt ?_ <;> (try simp only [HC] at hg))
    | ((with_reducible refine Fin.go ?_); first | (refine Fin.p ?_; first | exact FT | (try refine TTdt ?_; try simp only [LF])) | refine Fin.a0 ?_ | refine Fin.a ?_ | refine Fin.ni ?_ | refine Fin.v ?_ ?_ | refine Fin.r ?_ ?_ | exact Fin.th | (refine Fin.t ?_; try simp only [AV.sl.injEq]))
    | (refine And.go ?_; refine AndI ?_)
    | fail)
  all_goals (try clear ih)
  all_goals (try dsimp only)
  all_goals (repeat' apply And.intro)
  all_goals first | omega | (simp only [ZL]; omega) | skip
  all_goals (try clear hr hk hB)
  all_goals first | (exact hc.2) | (intro _; exact (‹_ ∧ isForm w = true› : _ ∧ _).2) | (exact cp_yes hi2 (by simp only [pCod]; grind)) | (exact cp_no hi2 (by simp only [pCod]; grind)) | (rw [show q = pls hCod w from cp_end hi2 hi3 (by omega) (by omega) (fun h => eCod h)]) | (rw [show q = pls hCod w from cp_end hi2 hi3 (by rcases hc with h | h; (left; omega); (exact .inr h)) (by omega) (fun h => eCod h)]) | skip
/-- spec.CountVoiced -/
def s_CountVoiced.x (c_s_IsForm c_s_l8Voiced : Nat) : XCode :=
  (.seq
    (.reg [⟨(some 2), .mv, [.k (.int .i64 0)], none⟩] [0])
    (.seq
      (.reg [⟨(some 3), .mv, [.k (.int .i64 0)], none⟩] [0, 3])
      (.seq
        (.seq
          (.reg [⟨(some 4), .mv, [.k (.int .i64 0)], none⟩] [0, 3, 4])
          (.block 0
            (.loop
              (.seq
                (.seq
                  (.reg (flatNs none (nl [.op (some 5) .mv [.t 4], .op (some 6) .mv [.t 0], .op (some 7) .lenS [.t 6], .op (some 8) (.bin .lss) [.t 5, .t 7], .op (some 9) .mv [.t 8], .sc 9 true (nl [.op (some 10) .mv [.t 0], .op (some 11) .call [.k (.fn c_s_IsForm []), .t 10]]) (.t 11) (some 12)])) [0, 3, 4, 12])
                  (.cond (.t 12)
                    .skip
                    (.exit 0)))
                (.seq
                  (.block 1
                    (.seq
                      (.reg [⟨(some 15), .mv, [.t 0], none⟩,
                        ⟨(some 16), .mv, [.t 4], none⟩,
                        ⟨(some 17), .idxS, [.t 15, .t 16], none⟩,
                        ⟨(some 18), .call, [.k (.fn c_s_l8Voiced []), .t 17], none⟩] [0, 3, 4, 18])
                      (.cond (.t 18)
                        (.reg [⟨(some 19), .mv, [.t 3], none⟩,
                          ⟨(some 20), (.bin .add), [.t 19, .k (.int .i64 1)], none⟩,
                          ⟨(some 3), .mv, [.t 20], none⟩] [0, 3, 4])
                        .skip)))
                  (.reg [⟨(some 13), .mv, [.t 4], none⟩,
                    ⟨(some 14), (.bin .add), [.t 13, .k (.int .i64 1)], none⟩,
                    ⟨(some 4), .mv, [.t 14], none⟩] [0, 3, 4]))))))
        (.seq
          (.reg [⟨(some 21), .mv, [.t 3], none⟩,
            ⟨(some 2), .mv, [.t 21], none⟩] [2])
          .ret))))
def s_CountVoiced.F : Cfg := ⟨fun _ => 0, fun r => match r with | 0 => [0] | 1 => [0, 3] | 2 => [0, 3, 4] | 3 => [0, 3, 4, 12] | 4 => [0, 3, 4] | 5 => [0, 3, 4, 18] | 6 => [0, 3, 4] | 7 => [2] | _ => []⟩
def s_CountVoiced.X (c_s_IsForm c_s_l8Voiced : Nat) : FX := ⟨22, [.tmp 2], s_CountVoiced.F, s_CountVoiced.x c_s_IsForm c_s_l8Voiced⟩

theorem s_CountVoiced.ok {P : Program} {k c_s_IsForm c_s_l8Voiced : Nat} (hk : Has P k (s_CountVoiced.X c_s_IsForm c_s_l8Voiced)) (h0 : C_IsForm P c_s_IsForm) (h1 : CB isVoi P c_s_l8Voiced) : C_cnt hVoi P k := by
  intro w hs n H
  refine S.ofX hk rfl fun hB fn hr => ?_
  unfold s_CountVoiced.x
  repeat' (first
    | ((with_reducible refine S.go ?_); first | refine S.seq ?_ | refine S.skip ?_ | refine S.block ?_ | refine S.inBlock ?_ | refine S.exit rfl ?_ | refine S.regN ?_ | refine S.reg ?_ | refine S.drw hk.mo (by kernel_rfl) ?_ | (refine S.cond rfl (fun hc => ?_) (fun hc => ?_) <;> try simp only [HC] at hc) | refine S.retH hr rfl ?_ | refine S.finH hr rfl ?_ | (refine S.retK hr ?_; refine TRdt ?_) | fail)
    | ((first | with_reducible refine Ns.go ?_ | with_reducible refine XOs.go ?_ | with_reducible refine XDs.go ?_ | with_reducible refine OK.go ?_); (first | refine TTdt ?_ | (apply Ns.sc ⟨rfl, rfl⟩ rfl; intro hg) | (refine OK.tr ?_; refine TTdt ?_)); (try simp only [HC] at hg))
    | with_reducible exact rfl | exact ⟨rfl, rfl, rfl⟩
    | ((with_reducible refine Gd.go ?_); refine Gd.on (fun hg => ?_) (fun hg => ?_) <;> refine TGdt ?_ <;> (try simp only [HC] at hg))
    | ((with_reducible refine Fin.go ?_); first | (refine Fin.p ?_; first | exact FT | (try refine TTdt ?_; try simp only [LF])) | refine Fin.a0 ?_ | refine Fin.a ?_ | refine Fin.ni ?_ | refine Fin.v ?_ ?_ | refine Fin.r ?_ ?_ | exact Fin.th | (refine Fin.t ?_; try simp only [AV.sl.injEq]))
    | (refine And.go ?_; refine AndI ?_)
    | fail)
  refine S.loopV (σ := Nat × Nat) [0, 3, 4] (fun s => [(3, .int .i64 (s.2 : Int)), (4, .int .i64 (s.1 : Int))]) (fun s => s.1 ≤ w.length ∧ s.2 = cp (pVoi w) s.1 ∧ (0 < s.1 → isForm w = true) ∧ s.2 ≤ s.1) (fun s => n) (fun s => H) (fun s => w.length - s.1) (0, 0) (⟨by omega, rfl, fun h => absurd h (by omega), by omega⟩) ?_
  rintro ⟨i, q⟩ ⟨hi1, hi2, hi3, hi4⟩ ih
  try dsimp only at hi1 hi2 hi3 hi4
  repeat' (first
    | ((with_reducible refine S.go ?_); first | refine S.seq ?_ | refine S.skip ?_ | refine S.block ?_ | refine S.inBlock ?_ | refine S.exit rfl ?_ | refine S.regN ?_ | refine S.reg ?_ | refine S.drw hk.mo (by kernel_rfl) ?_ | refine S.ag (ih ((i + 1, _)) ?_ ?_) | (refine S.cond rfl (fun hc => ?_) (fun hc => ?_) <;> try simp only [HC] at hc) | refine S.retH hr rfl ?_ | refine S.finH hr rfl ?_ | (refine S.retK hr ?_; refine TRdt ?_) | fail)
    | ((first | with_reducible refine Ns.go ?_ | with_reducible refine XOs.go ?_ | with_reducible refine XDs.go ?_ | with_reducible refine OK.go ?_); (first | refine TTdt ?_ | (apply Ns.sc ⟨rfl, rfl⟩ rfl; intro hg) | (refine OK.tr ?_; refine TTdt ?_)); (try simp only [HC] at hg))
    | with_reducible exact rfl | exact ⟨rfl, rfl, rfl⟩
    | ((with_reducible refine RunsT.go ?_); first | refine RunsF.apf (h0 _ hs) rfl ?_ | refine RunsF.apf (h1 _) rfl ?_ | fail)
    | ((with_reducible refine RunsD.go ?_); first | refine RunsF.apd (h0 _ hs) rfl ?_ | refine RunsF.apd (h1 _) rfl ?_ | fail)
    | ((with_reducible refine Gd.go ?_); refine Gd.on (fun hg => ?_) (fun hg => ?_) <;> refine TGdt ?_ <;> (try simp only [HC] at hg))
    | ((with_reducible refine Fin.go ?_); first | (refine Fin.p ?_; first | exact FT | (try refine TTdt ?_; try simp only [LF])) | refine Fin.a0 ?_ | refine Fin.a ?_ | refine Fin.ni ?_ | refine Fin.v ?_ ?_ | refine Fin.r ?_ ?_ | exact Fin.th | (refine Fin.t ?_; try simp only [AV.sl.injEq]))
    | (refine And.go ?_; refine AndI ?_)
    | fail)
  all_goals (try clear ih)
  all_goals (try dsimp only)
  all_goals (repeat' apply And.intro)
  all_goals first | omega | (simp only [ZL]; omega) | skip
  all_goals (try clear hr hk hB)
  all_goals first | (exact hc.2) | (intro _; exact (‹_ ∧ isForm w = true› : _ ∧ _).2) | (exact cp_yes hi2 (by simp only [pVoi]; grind)) | (exact cp_no hi2 (by simp only [pVoi]; grind)) | (rw [show q = pls hVoi w from cp_end hi2 hi3 (by omega) (by omega) (fun h => eVoi h)]) | (rw [show q = pls hVoi w from cp_end hi2 hi3 (by rcases hc with h | h; (left; omega); (exact .inr h)) (by omega) (fun h => eVoi h)]) | skip
/-- spec.CountClusters -/
def s_CountClusters.x (c_s_IsForm c_s_IsVowelAt : Nat) : XCode :=
  (.seq
    (.reg [⟨(some 2), .mv, [.k (.int .i64 0)], none⟩] [0])
    (.seq
      (.reg [⟨(some 3), .mv, [.k (.int .i64 0)], none⟩] [0, 3])
      (.seq
        (.seq
          (.reg [⟨(some 4), .mv, [.k (.int .i64 1)], none⟩] [0, 3, 4])
          (.block 0
            (.loop
              (.seq
                (.seq
                  (.reg (flatNs none (nl [.op (some 5) .mv [.t 4], .op (some 6) .mv [.t 0], .op (some 7) .lenS [.t 6], .op (some 8) (.bin .lss) [.t 5, .t 7], .op (some 9) .mv [.t 8], .sc 9 true (nl [.op (some 10) .mv [.t 0], .op (some 11) .call [.k (.fn c_s_IsForm []), .t 10]]) (.t 11) (some 12)])) [0, 3, 4, 12])
                  (.cond (.t 12)
                    .skip
                    (.exit 0)))
                (.seq
                  (.block 1
                    (.seq
                      (.reg (flatNs none (nl [.op (some 15) .mv [.t 0], .op (some 16) .mv [.t 4], .op (some 17) (.bin .sub) [.t 16, .k (.int .i64 1)], .op (some 18) .call [.k (.fn c_s_IsVowelAt []), .t 15, .t 17], .op (some 19) (.un .not) [.t 18], .op (some 20) .mv [.t 19], .sc 20 true (nl [.op (some 21) .mv [.t 0], .op (some 22) .mv [.t 4], .op (some 23) .call [.k (.fn c_s_IsVowelAt []), .t 21, .t 22], .op (some 24) (.un .not) [.t 23]]) (.t 24) (some 25)])) [0, 3, 4, 25])
                      (.cond (.t 25)
                        (.reg [⟨(some 26), .mv, [.t 3], none⟩,
                          ⟨(some 27), (.bin .add), [.t 26, .k (.int .i64 1)], none⟩,
                          ⟨(some 3), .mv, [.t 27], none⟩] [0, 3, 4])
                        .skip)))
                  (.reg [⟨(some 13), .mv, [.t 4], none⟩,
                    ⟨(some 14), (.bin .add), [.t 13, .k (.int .i64 1)], none⟩,
                    ⟨(some 4), .mv, [.t 14], none⟩] [0, 3, 4]))))))
        (.seq
          (.reg [⟨(some 28), .mv, [.t 3], none⟩,
            ⟨(some 2), .mv, [.t 28], none⟩] [2])
          .ret))))
def s_CountClusters.F : Cfg := ⟨fun _ => 0, fun r => match r with | 0 => [0] | 1 => [0, 3] | 2 => [0, 3, 4] | 3 => [0, 3, 4, 12] | 4 => [0, 3, 4] | 5 => [0, 3, 4, 25] | 6 => [0, 3, 4] | 7 => [2] | _ => []⟩
def s_CountClusters.X (c_s_IsForm c_s_IsVowelAt : Nat) : FX := ⟨29, [.tmp 2], s_CountClusters.F, s_CountClusters.x c_s_IsForm c_s_IsVowelAt⟩

theorem s_CountClusters.ok {P : Program} {k c_s_IsForm c_s_IsVowelAt : Nat} (hk : Has P k (s_CountClusters.X c_s_IsForm c_s_IsVowelAt)) (h0 : C_IsForm P c_s_IsForm) (h1 : C_vowAt P c_s_IsVowelAt) : C_cnt hClu P k := by
  intro w hs n H
  refine S.ofX hk rfl fun hB fn hr => ?_
  unfold s_CountClusters.x
  repeat' (first
    | ((with_reducible refine S.go ?_); first | refine S.seq ?_ | refine S.skip ?_ | refine S.block ?_ | refine S.inBlock ?_ | refine S.exit rfl ?_ | refine S.regN ?_ | refine S.reg ?_ | refine S.drw hk.mo (by kernel_rfl) ?_ | (refine S.cond rfl (fun hc => ?_) (fun hc => ?_) <;> try simp only [HC] at hc) | refine S.retH hr rfl ?_ | refine S.finH hr rfl ?_ | (refine S.retK hr ?_; refine TRdt ?_) | fail)
    | ((first | with_reducible refine Ns.go ?_ | with_reducible refine XOs.go ?_ | with_reducible refine XDs.go ?_ | with_reducible refine OK.go ?_); (first | refine TTdt ?_ | (apply Ns.sc ⟨rfl, rfl⟩ rfl; intro hg) | (refine OK.tr ?_; refine TTdt ?_)); (try simp only [HC] at hg))
    | with_reducible exact rfl | exact ⟨rfl, rfl, rfl⟩
    | ((with_reducible refine Gd.go ?_); refine Gd.on (fun hg => ?_) (fun hg => ?_) <;> refine TGdt ?_ <;> (try simp only [HC] at hg))
    | ((with_reducible refine Fin.go ?_); first | (refine Fin.p ?_; first | exact FT | (try refine TTdt ?_; try simp only [LF])) | refine Fin.a0 ?_ | refine Fin.a ?_ | refine Fin.ni ?_ | refine Fin.v ?_ ?_ | refine Fin.r ?_ ?_ | exact Fin.th | (refine Fin.t ?_; try simp only [AV.sl.injEq]))
    | (refine And.go ?_; refine AndI ?_)
    | fail)
  refine S.loopV (σ := Nat × Nat) [0, 3, 4] (fun s => [(3, .int .i64 (s.2 : Int)), (4, .int .i64 (s.1 : Int))]) (fun s => 1 ≤ s.1 ∧ (s.1 ≤ w.length ∨ s.1 = 1) ∧ s.2 = cp (pClu w) s.1 ∧ (1 < s.1 → isForm w = true) ∧ s.2 ≤ s.1) (fun s => n) (fun s => H) (fun s => w.length - s.1) (1, 0) (⟨by omega, by omega, by simp [cp, pClu], fun h => absurd h (by omega), by omega⟩) ?_
  rintro ⟨i, q⟩ ⟨hi1, hi2, hi3, hi4, hi5⟩ ih
  try dsimp only at hi1 hi2 hi3 hi4 hi5
  repeat' (first
    | ((with_reducible refine S.go ?_); first | refine S.seq ?_ | refine S.skip ?_ | refine S.block ?_ | refine S.inBlock ?_ | refine S.exit rfl ?_ | refine S.regN ?_ | refine S.reg ?_ | refine S.drw hk.mo (by kernel_rfl) ?_ | refine S.ag (ih ((i + 1, _)) ?_ ?_) | (refine S.cond rfl (fun hc => ?_) (fun hc => ?_) <;> try simp only [HC] at hc) | refine S.retH hr rfl ?_ | refine S.finH hr rfl ?_ | (refine S.retK hr ?_; refine TRdt ?_) | fail)
    | ((first | with_reducible refine Ns.go ?_ | with_reducible refine XOs.go ?_ | with_reducible refine XDs.go ?_ | with_reducible refine OK.go ?_); (first | refine TTdt ?_ | (apply Ns.sc ⟨rfl, rfl⟩ rfl; intro hg) | (refine OK.tr ?_; refine TTdt ?_)); (try simp only [HC] at hg))
    | with_reducible exact rfl | exact ⟨rfl, rfl, rfl⟩
    | ((with_reducible refine RunsT.go ?_); first | refine RunsF.apf (h0 _ hs) rfl ?_ | refine RunsF.apf (h1 _ _ hs) rfl ?_ | fail)
    | ((with_reducible refine RunsD.go ?_); first | refine RunsF.apd (h0 _ hs) rfl ?_ | refine RunsF.apd (h1 _ _ hs) rfl ?_ | fail)
    | ((with_reducible refine Gd.go ?_); refine Gd.on (fun hg => ?_) (fun hg => ?_) <;> refine TGdt ?_ <;> (try simp only [HC] at hg))
    | ((with_reducible refine Fin.go ?_); first | (refine Fin.p ?_; first | exact FT | (try refine TTdt ?_; try simp only [LF])) | refine Fin.a0 ?_ | refine Fin.a ?_ | refine Fin.ni ?_ | refine Fin.v ?_ ?_ | refine Fin.r ?_ ?_ | exact Fin.th | (refine Fin.t ?_; try simp only [AV.sl.injEq]))
    | (refine And.go ?_; refine AndI ?_)
    | fail)
  all_goals (try clear ih)
  all_goals (try dsimp only)
  all_goals (repeat' apply And.intro)
  all_goals first | omega | (simp only [ZL]; omega) | skip
  all_goals (try clear hr hk hB)
  all_goals first | (intro _; exact (‹_ ∧ isForm w = true› : _ ∧ _).2) | (exact cp_yes hi3 (by simp only [pClu]; grind)) | (exact cp_no hi3 (by simp only [pClu]; grind)) | (rw [show q = pls hClu w from cp_end1 rfl hi3 hi1 hi4 (by rcases hc with h | h; (left; omega); (exact .inr h)) hi2 (fun h => eClu h)]) | skip
/-- spec.CountNasalVoiceless -/
def s_CountNasalVoiceless.x (c_s_IsForm c_s_HasFeature c_s_IsObstruent : Nat) : XCode :=
  (.seq
    (.reg [⟨(some 2), .mv, [.k (.int .i64 0)], none⟩] [0])
    (.seq
      (.reg [⟨(some 3), .mv, [.k (.int .i64 0)], none⟩] [0, 3])
      (.seq
        (.seq
          (.reg [⟨(some 4), .mv, [.k (.int .i64 1)], none⟩] [0, 3, 4])
          (.block 0
            (.loop
              (.seq
                (.seq
                  (.reg (flatNs none (nl [.op (some 5) .mv [.t 4], .op (some 6) .mv [.t 0], .op (some 7) .lenS [.t 6], .op (some 8) (.bin .lss) [.t 5, .t 7], .op (some 9) .mv [.t 8], .sc 9 true (nl [.op (some 10) .mv [.t 0], .op (some 11) .call [.k (.fn c_s_IsForm []), .t 10]]) (.t 11) (some 12)])) [0, 3, 4, 12])
                  (.cond (.t 12)
                    .skip
                    (.exit 0)))
                (.seq
                  (.block 1
                    (.seq
                      (.reg (flatNs none (nl [.op (some 15) .mv [.t 0], .op (some 16) .mv [.t 4], .op (some 17) (.bin .sub) [.t 16, .k (.int .i64 1)], .op (some 18) .idxS [.t 15, .t 17], .op (some 19) .call [.k (.fn c_s_HasFeature []), .t 18, .k (.int .i64 2)], .op (some 20) .mv [.t 19], .sc 20 true (nl [.op (some 21) .mv [.t 0], .op (some 22) .mv [.t 4], .op (some 23) .idxS [.t 21, .t 22], .op (some 24) .call [.k (.fn c_s_IsObstruent []), .t 23]]) (.t 24) (some 25), .op (some 26) .mv [.t 25], .sc 26 true (nl [.op (some 27) .mv [.t 0], .op (some 28) .mv [.t 4], .op (some 29) .idxS [.t 27, .t 28], .op (some 30) .call [.k (.fn c_s_HasFeature []), .t 29, .k (.int .i64 1)], .op (some 31) (.un .not) [.t 30]]) (.t 31) (some 32)])) [0, 3, 4, 32])
                      (.cond (.t 32)
                        (.reg [⟨(some 33), .mv, [.t 3], none⟩,
                          ⟨(some 34), (.bin .add), [.t 33, .k (.int .i64 1)], none⟩,
                          ⟨(some 3), .mv, [.t 34], none⟩] [0, 3, 4])
                        .skip)))
                  (.reg [⟨(some 13), .mv, [.t 4], none⟩,
                    ⟨(some 14), (.bin .add), [.t 13, .k (.int .i64 1)], none⟩,
                    ⟨(some 4), .mv, [.t 14], none⟩] [0, 3, 4]))))))
        (.seq
          (.reg [⟨(some 35), .mv, [.t 3], none⟩,
            ⟨(some 2), .mv, [.t 35], none⟩] [2])
          .ret))))
def s_CountNasalVoiceless.F : Cfg := ⟨fun _ => 0, fun r => match r with | 0 => [0] | 1 => [0, 3] | 2 => [0, 3, 4] | 3 => [0, 3, 4, 12] | 4 => [0, 3, 4] | 5 => [0, 3, 4, 32] | 6 => [0, 3, 4] | 7 => [2] | _ => []⟩
def s_CountNasalVoiceless.X (c_s_IsForm c_s_HasFeature c_s_IsObstruent : Nat) : FX := ⟨36, [.tmp 2], s_CountNasalVoiceless.F, s_CountNasalVoiceless.x c_s_IsForm c_s_HasFeature c_s_IsObstruent⟩

theorem s_CountNasalVoiceless.ok {P : Program} {k c_s_IsForm c_s_HasFeature c_s_IsObstruent : Nat} (hk : Has P k (s_CountNasalVoiceless.X c_s_IsForm c_s_HasFeature c_s_IsObstruent)) (h0 : C_IsForm P c_s_IsForm) (h1 : C_HasFeature P c_s_HasFeature) (h2 : CB isObs P c_s_IsObstruent) : C_cnt hNas P k := by
  intro w hs n H
  refine S.ofX hk rfl fun hB fn hr => ?_
  unfold s_CountNasalVoiceless.x
  repeat' (first
    | ((with_reducible refine S.go ?_); first | refine S.seq ?_ | refine S.skip ?_ | refine S.block ?_ | refine S.inBlock ?_ | refine S.exit rfl ?_ | refine S.regN ?_ | refine S.reg ?_ | refine S.drw hk.mo (by kernel_rfl) ?_ | (refine S.cond rfl (fun hc => ?_) (fun hc => ?_) <;> try simp only [HC] at hc) | refine S.retH hr rfl ?_ | refine S.finH hr rfl ?_ | (refine S.retK hr ?_; refine TRdt ?_) | fail)
    | ((first | with_reducible refine Ns.go ?_ | with_reducible refine XOs.go ?_ | with_reducible refine XDs.go ?_ | with_reducible refine OK.go ?_); (first | refine TTdt ?_ | (apply Ns.sc ⟨rfl, rfl⟩ rfl; intro hg) | (refine OK.tr ?_; refine TTdt ?_)); (try simp only [HC] at hg))
    | with_reducible exact rfl | exact ⟨rfl, rfl, rfl⟩
    | ((with_reducible refine Gd.go ?_); refine Gd.on (fun hg => ?_) (fun hg => ?_) <;> refine TGdt ?_ <;> (try simp only [HC] at hg))
    | ((with_reducible refine Fin.go ?_); first | (refine Fin.p ?_; first | exact FT | (try refine TTdt ?_; try simp only [LF])) | refine Fin.a0 ?_ | refine Fin.a ?_ | refine Fin.ni ?_ | refine Fin.v ?_ ?_ | refine Fin.r ?_ ?_ | exact Fin.th | (refine Fin.t ?_; try simp only [AV.sl.injEq]))
    | (refine And.go ?_; refine AndI ?_)
    | fail)
  refine S.loopV (σ := Nat × Nat) [0, 3, 4] (fun s => [(3, .int .i64 (s.2 : Int)), (4, .int .i64 (s.1 : Int))]) (fun s => 1 ≤ s.1 ∧ (s.1 ≤ w.length ∨ s.1 = 1) ∧ s.2 = cp (pNas w) s.1 ∧ (1 < s.1 → isForm w = true) ∧ s.2 ≤ s.1) (fun s => n) (fun s => H) (fun s => w.length - s.1) (1, 0) (⟨by omega, by omega, by simp [cp, pNas], fun h => absurd h (by omega), by omega⟩) ?_
  rintro ⟨i, q⟩ ⟨hi1, hi2, hi3, hi4, hi5⟩ ih
  try dsimp only at hi1 hi2 hi3 hi4 hi5
  repeat' (first
    | ((with_reducible refine S.go ?_); first | refine S.seq ?_ | refine S.skip ?_ | refine S.block ?_ | refine S.inBlock ?_ | refine S.exit rfl ?_ | refine S.regN ?_ | refine S.reg ?_ | refine S.drw hk.mo (by kernel_rfl) ?_ | refine S.ag (ih ((i + 1, _)) ?_ ?_) | (refine S.cond rfl (fun hc => ?_) (fun hc => ?_) <;> try simp only [HC] at hc) | refine S.retH hr rfl ?_ | refine S.finH hr rfl ?_ | (refine S.retK hr ?_; refine TRdt ?_) | fail)
    | ((first | with_reducible refine Ns.go ?_ | with_reducible refine XOs.go ?_ | with_reducible refine XDs.go ?_ | with_reducible refine OK.go ?_); (first | refine TTdt ?_ | (apply Ns.sc ⟨rfl, rfl⟩ rfl; intro hg) | (refine OK.tr ?_; refine TTdt ?_)); (try simp only [HC] at hg))
    | with_reducible exact rfl | exact ⟨rfl, rfl, rfl⟩
    | ((with_reducible refine RunsT.go ?_); first | refine RunsF.apf (h0 _ hs) rfl ?_ | refine RunsF.apf (h1 _ _) rfl ?_ | refine RunsF.apf (h2 _) rfl ?_ | fail)
    | ((with_reducible refine RunsD.go ?_); first | refine RunsF.apd (h0 _ hs) rfl ?_ | refine RunsF.apd (h1 _ _) rfl ?_ | refine RunsF.apd (h2 _) rfl ?_ | fail)
    | ((with_reducible refine Gd.go ?_); refine Gd.on (fun hg => ?_) (fun hg => ?_) <;> refine TGdt ?_ <;> (try simp only [HC] at hg))
    | ((with_reducible refine Fin.go ?_); first | (refine Fin.p ?_; first | exact FT | (try refine TTdt ?_; try simp only [LF])) | refine Fin.a0 ?_ | refine Fin.a ?_ | refine Fin.ni ?_ | refine Fin.v ?_ ?_ | refine Fin.r ?_ ?_ | exact Fin.th | (refine Fin.t ?_; try simp only [AV.sl.injEq]))
    | (refine And.go ?_; refine AndI ?_)
    | fail)
  all_goals (try clear ih)
  all_goals (try dsimp only)
  all_goals (repeat' apply And.intro)
  all_goals first | omega | (simp only [ZL]; omega) | skip
  all_goals (try clear hr hk hB)
  all_goals first | (intro _; exact (‹_ ∧ isForm w = true› : _ ∧ _).2) | (exact cp_yes hi3 (by simp only [pNas]; grind)) | (exact cp_no hi3 (by simp only [pNas]; grind)) | (rw [show q = pls hNas w from cp_end1 rfl hi3 hi1 hi4 (by rcases hc with h | h; (left; omega); (exact .inr h)) hi2 (fun h => eNas h)]) | skip
theorem fin_cnt {s : List UInt8} (h : isForm s = true) : ∀ k, k < s.length → cpt hFin s k = 0
  | 0, _ => rfl
  | k + 1, hk => by
    have h1 := form_snd h (i := k + 1) hk
    rw [cpt, fin_cnt h k (by omega), if_neg]
    simp only [hFin, Bool.and_eq_true, beq_iff_eq]
    rintro ⟨-, h2⟩
    rw [h2] at h1; cases h1
theorem fin_pls (s : List UInt8) : pls hFin s = if isForm s = true ∧ s ≠ [] ∧ isVoi (s.getD (s.length - 1) 0) = true then 1 else 0 := by
  unfold pls
  by_cases h : isForm s = true
  · rw [if_pos h]
    cases hl : s.length with
    | zero =>
      have : s = [] := List.eq_nil_of_length_eq_zero hl
      rw [if_neg (by rintro ⟨-, h2, -⟩; exact h2 this)]; rfl
    | succ m =>
      have hne : s ≠ [] := by rintro rfl; cases hl
      rw [cpt, fin_cnt h m (by omega), getD_out (i := m + 1) (by omega)]
      simp only [hFin, Nat.add_sub_cancel, h, hne, true_and, ne_eq, not_false_eq_true]
      simp
  · rw [if_neg h, if_neg (fun e => h e.1)]
/-- spec.CountFinalVoiced -/
def s_CountFinalVoiced.x (c_s_IsForm c_s_l8Voiced : Nat) : XCode :=
  (.seq
    (.reg [⟨(some 2), .mv, [.k (.int .i64 0)], none⟩] [0])
    (.seq
      (.seq
        (.reg (flatNs none (nl [.op (some 3) .mv [.t 0], .op (some 4) .call [.k (.fn c_s_IsForm []), .t 3], .op (some 5) .mv [.t 4], .sc 5 true (nl [.op (some 6) .mv [.t 0], .op (some 7) (.bin .neq) [.t 6, .k (.str [])]]) (.t 7) (some 8), .op (some 9) .mv [.t 8], .sc 9 true (nl [.op (some 10) .mv [.t 0], .op (some 11) .mv [.t 0], .op (some 12) .lenS [.t 11], .op (some 13) (.bin .sub) [.t 12, .k (.int .i64 1)], .op (some 14) .idxS [.t 10, .t 13], .op (some 15) .call [.k (.fn c_s_l8Voiced []), .t 14]]) (.t 15) (some 16)])) [16])
        (.cond (.t 16)
          (.seq
            (.reg [⟨(some 2), .mv, [.k (.int .i64 1)], none⟩] [2])
            .ret)
          .skip))
      (.seq
        (.reg [⟨(some 2), .mv, [.k (.int .i64 0)], none⟩] [2])
        .ret)))
def s_CountFinalVoiced.F : Cfg := ⟨fun _ => 0, fun r => match r with | 0 => [0] | 1 => [16] | 2 => [2] | 3 => [2] | _ => []⟩
def s_CountFinalVoiced.X (c_s_IsForm c_s_l8Voiced : Nat) : FX := ⟨17, [.tmp 2], s_CountFinalVoiced.F, s_CountFinalVoiced.x c_s_IsForm c_s_l8Voiced⟩

theorem s_CountFinalVoiced.ok {P : Program} {k c_s_IsForm c_s_l8Voiced : Nat} (hk : Has P k (s_CountFinalVoiced.X c_s_IsForm c_s_l8Voiced)) (h0 : C_IsForm P c_s_IsForm) (h1 : CB isVoi P c_s_l8Voiced) : C_cnt hFin P k := by
  intro w hs n H
  have hf := fin_pls w
  refine S.ofX hk rfl fun hB fn hr => ?_
  unfold s_CountFinalVoiced.x
  repeat' (first
    | ((with_reducible refine S.go ?_); first | refine S.seq ?_ | refine S.skip ?_ | refine S.block ?_ | refine S.inBlock ?_ | refine S.exit rfl ?_ | refine S.regN ?_ | refine S.reg ?_ | refine S.drw hk.mo (by kernel_rfl) ?_ | (refine S.cond rfl (fun hc => ?_) (fun hc => ?_) <;> try simp only [HC] at hc) | refine S.retH hr rfl ?_ | refine S.finH hr rfl ?_ | (refine S.retK hr ?_; refine TRdt ?_) | fail)
    | ((first | with_reducible refine Ns.go ?_ | with_reducible refine XOs.go ?_ | with_reducible refine XDs.go ?_ | with_reducible refine OK.go ?_); (first | refine TTdt ?_ | (apply Ns.sc ⟨rfl, rfl⟩ rfl; intro hg) | (refine OK.tr ?_; refine TTdt ?_)); (try simp only [HC] at hg))
    | with_reducible exact rfl | exact ⟨rfl, rfl, rfl⟩
    | ((with_reducible refine RunsT.go ?_); first | refine RunsF.apf (h0 _ hs) rfl ?_ | refine RunsF.apf (h1 _) rfl ?_ | fail)
    | ((with_reducible refine RunsD.go ?_); first | refine RunsF.apd (h0 _ hs) rfl ?_ | refine RunsF.apd (h1 _) rfl ?_ | fail)
    | (refine And.intro (by have := List.length_pos_iff.mpr hg.2; omega) ?_)
    | ((with_reducible refine Gd.go ?_); refine Gd.on (fun hg => ?_) (fun hg => ?_) <;> refine TGdt ?_ <;> (try simp only [HC] at hg))
    | ((with_reducible refine Fin.go ?_); first | (refine Fin.p ?_; first | exact FT | (try refine TTdt ?_; try simp only [LF])) | refine Fin.a0 ?_ | refine Fin.a ?_ | refine Fin.ni ?_ | refine Fin.v ?_ ?_ | refine Fin.r ?_ ?_ | exact Fin.th | (refine Fin.t ?_; try simp only [AV.sl.injEq]))
    | (refine And.go ?_; refine AndI ?_)
    | fail)
  all_goals (try clear hr hk hB)
  · rw [hf, if_pos ⟨hc.1.1, hc.1.2, hc.2⟩]; rfl
  · rw [hf, if_neg (by rintro ⟨e1, e2, e3⟩; rcases hc with (h | h) | h; (rw [h] at e1; cases e1); (exact e2 h); (rw [h] at e3; cases e3))]; rfl
end Go.G05
end
section
namespace Go.G06
open Go.Ab Siz Go.Lib01 Go.Lib03 Go.M01 Go.M02 Go.N02 Go.G02 Go.G05
set_option linter.unusedVariables false
set_option linter.unusedSimpArgs false
set_option maxRecDepth 2000
def CBl (h : Lnk → Bool) (P : Program) (k : Nat) : Prop := ∀ x : Lnk, RunsF P k [.agg (Dat.row x)] (.bool (h x))
def C_links (P : Program) (k : Nat) : Prop := ∀ (c : List Lnk) (f : FuncId) (h : Lnk → Bool), c.length ≤ 4294967295 → CBl h P f → RunsF P k [.agg [.sl (enc c)], .fn f []] (.int .i64 (lks h c : Int))
def C_lks (h : Lnk → Bool) (P : Program) (k : Nat) : Prop := ∀ c : List Lnk, c.length ≤ 4294967295 → RunsF P k [.agg [.sl (enc c)]] (.int .i64 (lks h c : Int))
theorem lst {h : Lnk → Bool} {c : List Lnk} {i n : Nat} (hn : n = if isCand c then cln h c i else 0) :
    ((isCand c = true ∧ h (c.getD i default) = true) → n + 1 = if isCand c then cln h c (i + 1) else 0) ∧ ((isCand c = false ∨ h (c.getD i default) = false) → n = if isCand c then cln h c (i + 1) else 0) := by
  constructor
  · rintro ⟨h1, h2⟩
    rw [hn, if_pos h1, if_pos h1, cln, if_pos h2]
  · intro h2
    by_cases h1 : isCand c = true
    · rw [hn, if_pos h1, if_pos h1, cln, if_neg]; rfl
      rcases h2 with h2 | h2
      · rw [h1] at h2; cases h2
      · rw [h2]; decide
    · rw [hn, if_neg h1, if_neg h1]
/-- impl.links -/
def i_links.x (c_i_IsCandidate : Nat) : XCode :=
  (.seq
    (.reg [⟨(some 2), .boxF, [.t 0], none⟩,
      ⟨(some 4), .mv, [.k (.int .i64 0)], none⟩] [1, 2])
    (.seq
      (.reg [⟨(some 5), .mv, [.k (.int .i64 0)], none⟩] [1, 2, 5])
      (.seq
        (.seq
          (.reg [⟨(some 8), (.fldA 0), [.t 2], none⟩,
            ⟨(some 9), (.ld none), [.t 8], none⟩,
            ⟨(some 10), .lenL, [.t 9], none⟩,
            ⟨(some 11), .mv, [.k (.int .i64 0)], none⟩] [1, 2, 5, 9, 10, 11])
          (.block 0
            (.loop
              (.seq
                (.reg [⟨(some 12), (.bin .lss), [.t 11, .t 10], none⟩] [1, 2, 5, 9, 10, 11, 12])
                (.seq
                  (.cond (.t 12)
                    .skip
                    (.exit 0))
                  (.seq
                    (.block 1
                      (.seq
                        (.reg [⟨(some 13), (.idxA 2), [.t 9, .t 11], none⟩,
                          ⟨(some 14), (.ld (some 2)), [.t 13], none⟩,
                          ⟨(some 7), (.alloc [.int .u8 0, .int .u8 0]), [], none⟩,
                          ⟨none, (.st (some 2)), [.t 7, .t 14], none⟩] [1, 2, 5, 7, 9, 10, 11])
                        (.seq
                          (.reg (flatNs none (nl [.op (some 15) (.ld (some 1)) [.t 2], .op (some 16) .call [.k (.fn c_i_IsCandidate []), .t 15], .op (some 17) .mv [.t 16], .sc 17 true (nl [.op (some 18) .mv [.t 1], .op (some 19) (.ld (some 2)) [.t 7], .op (some 20) .call [.t 18, .t 19]]) (.t 20) (some 21)])) [1, 2, 5, 9, 10, 11, 21])
                          (.cond (.t 21)
                            (.reg [⟨(some 22), .mv, [.t 5], none⟩,
                              ⟨(some 23), (.bin .add), [.t 22, .k (.int .i64 1)], none⟩,
                              ⟨(some 5), .mv, [.t 23], none⟩] [1, 2, 5, 9, 10, 11])
                            .skip))))
                    (.reg [⟨(some 24), (.bin .add), [.t 11, .k (.int .i64 1)], none⟩,
                      ⟨(some 11), .mv, [.t 24], none⟩] [1, 2, 5, 9, 10, 11])))))))
        (.seq
          (.reg [⟨(some 25), .mv, [.t 5], none⟩,
            ⟨(some 4), .mv, [.t 25], none⟩] [4])
          .ret))))
def i_links.F : Cfg := ⟨fun _ => 0, fun r => match r with | 0 => [1, 2] | 1 => [1, 2, 5] | 2 => [1, 2, 5, 9, 10, 11] | 3 => [1, 2, 5, 9, 10, 11, 12] | 4 => [1, 2, 5, 7, 9, 10, 11] | 5 => [1, 2, 5, 9, 10, 11, 21] | 6 => [1, 2, 5, 9, 10, 11] | 7 => [1, 2, 5, 9, 10, 11] | 8 => [4] | _ => []⟩
def i_links.X (c_i_IsCandidate : Nat) : FX := ⟨26, [.tmp 4], i_links.F, i_links.x c_i_IsCandidate⟩

theorem i_links.ok {P : Program} {k c_i_IsCandidate : Nat} (hk : Has P k (i_links.X c_i_IsCandidate)) (h1 : C_IsCandidate P c_i_IsCandidate) : C_links P k := by
  intro w f h hs hf n H
  refine S.ofX hk rfl fun hB fn hr => ?_
  unfold i_links.x
  repeat' (first
    | ((with_reducible refine S.go ?_); first | refine S.seq ?_ | refine S.skip ?_ | refine S.block ?_ | refine S.inBlock ?_ | refine S.exit rfl ?_ | refine S.regN ?_ | refine S.reg ?_ | refine S.drw hk.mo (by kernel_rfl) ?_ | (refine S.cond rfl (fun hc => ?_) (fun hc => ?_) <;> try simp only [HC] at hc) | refine S.retH hr rfl ?_ | refine S.finH hr rfl ?_ | (refine S.retK hr ?_; refine TRdt ?_) | fail)
    | ((first | with_reducible refine Ns.go ?_ | with_reducible refine XOs.go ?_ | with_reducible refine XDs.go ?_ | with_reducible refine OK.go ?_); (first | refine TTdt ?_ | (apply Ns.sc ⟨rfl, rfl⟩ rfl; intro hg) | (refine OK.tr ?_; refine TTdt ?_)); (try simp only [HC] at hg))
    | with_reducible exact rfl | exact ⟨rfl, rfl, rfl⟩
    | ((with_reducible refine Gd.go ?_); refine Gd.on (fun hg => ?_) (fun hg => ?_) <;> refine TGdt ?_ <;> (try simp only [HC] at hg))
    | ((with_reducible refine Fin.go ?_); first | (refine Fin.p ?_; first | exact FT | (try refine TTdt ?_; try simp only [LF])) | refine Fin.a0 ?_ | refine Fin.a ?_ | refine Fin.ni ?_ | refine Fin.v ?_ ?_ | refine Fin.r ?_ ?_ | exact Fin.th | (refine Fin.t ?_; try simp only [AV.sl.injEq]))
    | (refine And.go ?_; refine AndI ?_)
    | fail)
  refine S.loopV (σ := Nat × Nat) [1, 2, 5, 9, 10, 11] (fun s => [(5, .int .i64 (s.2 : Int)), (11, .int .i64 (s.1 : Int))]) (fun s => s.1 ≤ w.length ∧ s.2 = (if isCand w then cln h w s.1 else 0) ∧ s.2 ≤ s.1) (fun s => n + s.1) (fun s => H) (fun s => w.length - s.1) (0, 0) (⟨by omega, by simp [cln], by omega⟩) ?_
  rintro ⟨i, q⟩ ⟨hi1, hi2, hi3⟩ ih
  try dsimp only at hi1 hi2 hi3
  repeat' (first
    | ((with_reducible refine S.go ?_); first | refine S.seq ?_ | refine S.skip ?_ | refine S.block ?_ | refine S.inBlock ?_ | refine S.exit rfl ?_ | refine S.regN ?_ | refine S.reg ?_ | refine S.drw hk.mo (by kernel_rfl) ?_ | refine S.ag (ih ((i + 1, _)) ?_ ?_) | (refine S.cond rfl (fun hc => ?_) (fun hc => ?_) <;> try simp only [HC] at hc) | refine S.retH hr rfl ?_ | refine S.finH hr rfl ?_ | (refine S.retK hr ?_; refine TRdt ?_) | fail)
    | ((first | with_reducible refine Ns.go ?_ | with_reducible refine XOs.go ?_ | with_reducible refine XDs.go ?_ | with_reducible refine OK.go ?_); (first | refine TTdt ?_ | (apply Ns.sc ⟨rfl, rfl⟩ rfl; intro hg) | (refine OK.tr ?_; refine TTdt ?_)); (try simp only [HC] at hg))
    | with_reducible exact rfl | exact ⟨rfl, rfl, rfl⟩
    | ((with_reducible refine RunsT.go ?_); first | refine RunsF.ap (hf _) ?_ | refine RunsF.apf (h1 _ hs) rfl ?_ | fail)
    | ((with_reducible refine RunsD.go ?_); first | refine RunsF.apd (h1 _ hs) rfl ?_ | fail)
    | ((with_reducible refine Gd.go ?_); refine Gd.on (fun hg => ?_) (fun hg => ?_) <;> refine TGdt ?_ <;> (try simp only [HC] at hg))
    | ((with_reducible refine Fin.go ?_); first | (refine Fin.p ?_; first | exact FT | (try refine TTdt ?_; try simp only [LF])) | refine Fin.a0 ?_ | refine Fin.a ?_ | refine Fin.ni ?_ | refine Fin.v ?_ ?_ | refine Fin.r ?_ ?_ | exact Fin.th | (refine Fin.t ?_; try simp only [AV.sl.injEq]))
    | (refine And.go ?_; refine AndI ?_)
    | fail)
  all_goals (try clear ih)
  all_goals (try dsimp only)
  all_goals (repeat' apply And.intro)
  all_goals first | omega | (simp only [ZL]; omega) | skip
  all_goals (try clear hr hk hB)
  all_goals first | exact (lst hi2).1 hc | exact (lst hi2).2 hc | (rw [show q = lks h w from by rw [hi2, lks, show i = w.length by omega]])
def hDel : Lnk → Bool := fun x => x.2 == 0
def hIns : Lnk → Bool := fun x => x.1 == 0
def hVch : Lnk → Bool := fun x => kept x && x.1 != x.2
/-- impl.CountDeleted$1 -/
def i_CountDeleted_1.x : XCode :=
  (.seq
    (.reg [⟨(some 1), .boxF, [.t 0], none⟩,
      ⟨(some 2), .mv, [.k (.bool false)], none⟩] [1])
    (.seq
      (.reg [⟨(some 3), (.fldA 1), [.t 1], none⟩,
        ⟨(some 4), (.ld none), [.t 3], none⟩,
        ⟨(some 5), (.bin .eql), [.t 4, .k (.int .u8 0)], none⟩,
        ⟨(some 2), .mv, [.t 5], none⟩] [2])
      .ret))
def i_CountDeleted_1.F : Cfg := ⟨fun _ => 0, fun r => match r with | 0 => [1] | 1 => [2] | _ => []⟩
def i_CountDeleted_1.X : FX := ⟨6, [.tmp 2], i_CountDeleted_1.F, i_CountDeleted_1.x⟩

theorem i_CountDeleted_1.ok {P : Program} {k : Nat} (hk : Has P k (i_CountDeleted_1.X)) : CBl hDel P k := by
  intro x n H
  refine S.ofX hk rfl fun hB fn hr => ?_
  unfold i_CountDeleted_1.x
  repeat' (first
    | ((with_reducible refine S.go ?_); first | refine S.seq ?_ | refine S.skip ?_ | refine S.block ?_ | refine S.inBlock ?_ | refine S.exit rfl ?_ | refine S.regN ?_ | refine S.reg ?_ | refine S.drw hk.mo (by kernel_rfl) ?_ | (refine S.cond rfl (fun hc => ?_) (fun hc => ?_) <;> try simp only [HC] at hc) | refine S.retH hr rfl ?_ | refine S.finH hr rfl ?_ | (refine S.retK hr ?_; refine TRdt ?_) | fail)
    | ((first | with_reducible refine Ns.go ?_ | with_reducible refine XOs.go ?_ | with_reducible refine XDs.go ?_ | with_reducible refine OK.go ?_); (first | refine TTdt ?_ | (apply Ns.sc ⟨rfl, rfl⟩ rfl; intro hg) | (refine OK.tr ?_; refine TTdt ?_)); (try simp only [HC] at hg))
    | with_reducible exact rfl | exact ⟨rfl, rfl, rfl⟩
    | ((with_reducible refine Gd.go ?_); refine Gd.on (fun hg => ?_) (fun hg => ?_) <;> refine TGdt ?_ <;> (try simp only [HC] at hg))
    | ((with_reducible refine Fin.go ?_); first | (refine Fin.p ?_; first | exact FT | (try refine TTdt ?_; try simp only [LF])) | refine Fin.a0 ?_ | refine Fin.a ?_ | refine Fin.ni ?_ | refine Fin.v ?_ ?_ | refine Fin.r ?_ ?_ | exact Fin.th | (refine Fin.t ?_; try simp only [AV.sl.injEq]))
    | (refine And.go ?_; refine AndI ?_)
    | fail)
  all_goals (try clear hr hk hB)
  all_goals rfl
/-- impl.CountDeleted -/
def i_CountDeleted.x (c_i_links c_i_CountDeleted_1 : Nat) : XCode :=
  (.seq
    (.reg [⟨(some 1), .boxF, [.t 0], none⟩,
      ⟨(some 2), .mv, [.k (.int .i64 0)], none⟩] [1])
    (.seq
      (.reg [⟨(some 3), (.ld (some 1)), [.t 1], none⟩,
        ⟨(some 4), .call, [.k (.fn c_i_links []), .t 3, .k (.fn c_i_CountDeleted_1 [])], none⟩,
        ⟨(some 2), .mv, [.t 4], none⟩] [2])
      .ret))
def i_CountDeleted.F : Cfg := ⟨fun _ => 0, fun r => match r with | 0 => [1] | 1 => [2] | _ => []⟩
def i_CountDeleted.X (c_i_links c_i_CountDeleted_1 : Nat) : FX := ⟨5, [.tmp 2], i_CountDeleted.F, i_CountDeleted.x c_i_links c_i_CountDeleted_1⟩

theorem i_CountDeleted.ok {P : Program} {k c_i_links c_i_CountDeleted_1 : Nat} (hk : Has P k (i_CountDeleted.X c_i_links c_i_CountDeleted_1)) (h1 : C_links P c_i_links) (h2 : CBl hDel P c_i_CountDeleted_1) : C_lks hDel P k := by
  intro s hs n H
  refine S.ofX hk rfl fun hB fn hr => ?_
  unfold i_CountDeleted.x
  repeat' (first
    | ((with_reducible refine S.go ?_); first | refine S.seq ?_ | refine S.skip ?_ | refine S.block ?_ | refine S.inBlock ?_ | refine S.exit rfl ?_ | refine S.regN ?_ | refine S.reg ?_ | refine S.drw hk.mo (by kernel_rfl) ?_ | (refine S.cond rfl (fun hc => ?_) (fun hc => ?_) <;> try simp only [HC] at hc) | refine S.retH hr rfl ?_ | refine S.finH hr rfl ?_ | (refine S.retK hr ?_; refine TRdt ?_) | fail)
    | ((first | with_reducible refine Ns.go ?_ | with_reducible refine XOs.go ?_ | with_reducible refine XDs.go ?_ | with_reducible refine OK.go ?_); (first | refine TTdt ?_ | (apply Ns.sc ⟨rfl, rfl⟩ rfl; intro hg) | (refine OK.tr ?_; refine TTdt ?_)); (try simp only [HC] at hg))
    | with_reducible exact rfl | exact ⟨rfl, rfl, rfl⟩
    | ((with_reducible refine RunsT.go ?_); first | refine RunsF.apf (h1 _ _ hDel hs h2) rfl ?_ | fail)
    | ((with_reducible refine RunsD.go ?_); first | refine RunsF.apd (h1 _ _ hDel hs h2) rfl ?_ | fail)
    | ((with_reducible refine Gd.go ?_); refine Gd.on (fun hg => ?_) (fun hg => ?_) <;> refine TGdt ?_ <;> (try simp only [HC] at hg))
    | ((with_reducible refine Fin.go ?_); first | (refine Fin.p ?_; first | exact FT | (try refine TTdt ?_; try simp only [LF])) | refine Fin.a0 ?_ | refine Fin.a ?_ | refine Fin.ni ?_ | refine Fin.v ?_ ?_ | refine Fin.r ?_ ?_ | exact Fin.th | (refine Fin.t ?_; try simp only [AV.sl.injEq]))
    | (refine And.go ?_; refine AndI ?_)
    | fail)
/-- impl.CountInserted$1 -/
def i_CountInserted_1.x : XCode :=
  (.seq
    (.reg [⟨(some 1), .boxF, [.t 0], none⟩,
      ⟨(some 2), .mv, [.k (.bool false)], none⟩] [1])
    (.seq
      (.reg [⟨(some 3), (.fldA 0), [.t 1], none⟩,
        ⟨(some 4), (.ld none), [.t 3], none⟩,
        ⟨(some 5), (.bin .eql), [.t 4, .k (.int .u8 0)], none⟩,
        ⟨(some 2), .mv, [.t 5], none⟩] [2])
      .ret))
def i_CountInserted_1.F : Cfg := ⟨fun _ => 0, fun r => match r with | 0 => [1] | 1 => [2] | _ => []⟩
def i_CountInserted_1.X : FX := ⟨6, [.tmp 2], i_CountInserted_1.F, i_CountInserted_1.x⟩

theorem i_CountInserted_1.ok {P : Program} {k : Nat} (hk : Has P k (i_CountInserted_1.X)) : CBl hIns P k := by
  intro x n H
  refine S.ofX hk rfl fun hB fn hr => ?_
  unfold i_CountInserted_1.x
  repeat' (first
    | ((with_reducible refine S.go ?_); first | refine S.seq ?_ | refine S.skip ?_ | refine S.block ?_ | refine S.inBlock ?_ | refine S.exit rfl ?_ | refine S.regN ?_ | refine S.reg ?_ | refine S.drw hk.mo (by kernel_rfl) ?_ | (refine S.cond rfl (fun hc => ?_) (fun hc => ?_) <;> try simp only [HC] at hc) | refine S.retH hr rfl ?_ | refine S.finH hr rfl ?_ | (refine S.retK hr ?_; refine TRdt ?_) | fail)
    | ((first | with_reducible refine Ns.go ?_ | with_reducible refine XOs.go ?_ | with_reducible refine XDs.go ?_ | with_reducible refine OK.go ?_); (first | refine TTdt ?_ | (apply Ns.sc ⟨rfl, rfl⟩ rfl; intro hg) | (refine OK.tr ?_; refine TTdt ?_)); (try simp only [HC] at hg))
    | with_reducible exact rfl | exact ⟨rfl, rfl, rfl⟩
    | ((with_reducible refine Gd.go ?_); refine Gd.on (fun hg => ?_) (fun hg => ?_) <;> refine TGdt ?_ <;> (try simp only [HC] at hg))
    | ((with_reducible refine Fin.go ?_); first | (refine Fin.p ?_; first | exact FT | (try refine TTdt ?_; try simp only [LF])) | refine Fin.a0 ?_ | refine Fin.a ?_ | refine Fin.ni ?_ | refine Fin.v ?_ ?_ | refine Fin.r ?_ ?_ | exact Fin.th | (refine Fin.t ?_; try simp only [AV.sl.injEq]))
    | (refine And.go ?_; refine AndI ?_)
    | fail)
  all_goals (try clear hr hk hB)
  all_goals rfl
/-- impl.CountInserted -/
def i_CountInserted.x (c_i_links c_i_CountInserted_1 : Nat) : XCode :=
  (.seq
    (.reg [⟨(some 1), .boxF, [.t 0], none⟩,
      ⟨(some 2), .mv, [.k (.int .i64 0)], none⟩] [1])
    (.seq
      (.reg [⟨(some 3), (.ld (some 1)), [.t 1], none⟩,
        ⟨(some 4), .call, [.k (.fn c_i_links []), .t 3, .k (.fn c_i_CountInserted_1 [])], none⟩,
        ⟨(some 2), .mv, [.t 4], none⟩] [2])
      .ret))
def i_CountInserted.F : Cfg := ⟨fun _ => 0, fun r => match r with | 0 => [1] | 1 => [2] | _ => []⟩
def i_CountInserted.X (c_i_links c_i_CountInserted_1 : Nat) : FX := ⟨5, [.tmp 2], i_CountInserted.F, i_CountInserted.x c_i_links c_i_CountInserted_1⟩

theorem i_CountInserted.ok {P : Program} {k c_i_links c_i_CountInserted_1 : Nat} (hk : Has P k (i_CountInserted.X c_i_links c_i_CountInserted_1)) (h1 : C_links P c_i_links) (h2 : CBl hIns P c_i_CountInserted_1) : C_lks hIns P k := by
  intro s hs n H
  refine S.ofX hk rfl fun hB fn hr => ?_
  unfold i_CountInserted.x
  repeat' (first
    | ((with_reducible refine S.go ?_); first | refine S.seq ?_ | refine S.skip ?_ | refine S.block ?_ | refine S.inBlock ?_ | refine S.exit rfl ?_ | refine S.regN ?_ | refine S.reg ?_ | refine S.drw hk.mo (by kernel_rfl) ?_ | (refine S.cond rfl (fun hc => ?_) (fun hc => ?_) <;> try simp only [HC] at hc) | refine S.retH hr rfl ?_ | refine S.finH hr rfl ?_ | (refine S.retK hr ?_; refine TRdt ?_) | fail)
    | ((first | with_reducible refine Ns.go ?_ | with_reducible refine XOs.go ?_ | with_reducible refine XDs.go ?_ | with_reducible refine OK.go ?_); (first | refine TTdt ?_ | (apply Ns.sc ⟨rfl, rfl⟩ rfl; intro hg) | (refine OK.tr ?_; refine TTdt ?_)); (try simp only [HC] at hg))
    | with_reducible exact rfl | exact ⟨rfl, rfl, rfl⟩
    | ((with_reducible refine RunsT.go ?_); first | refine RunsF.apf (h1 _ _ hIns hs h2) rfl ?_ | fail)
    | ((with_reducible refine RunsD.go ?_); first | refine RunsF.apd (h1 _ _ hIns hs h2) rfl ?_ | fail)
    | ((with_reducible refine Gd.go ?_); refine Gd.on (fun hg => ?_) (fun hg => ?_) <;> refine TGdt ?_ <;> (try simp only [HC] at hg))
    | ((with_reducible refine Fin.go ?_); first | (refine Fin.p ?_; first | exact FT | (try refine TTdt ?_; try simp only [LF])) | refine Fin.a0 ?_ | refine Fin.a ?_ | refine Fin.ni ?_ | refine Fin.v ?_ ?_ | refine Fin.r ?_ ?_ | exact Fin.th | (refine Fin.t ?_; try simp only [AV.sl.injEq]))
    | (refine And.go ?_; refine AndI ?_)
    | fail)
/-- impl.CountVoiceChanged$1 -/
def i_CountVoiceChanged_1.x : XCode :=
  (.seq
    (.reg [⟨(some 1), .boxF, [.t 0], none⟩,
      ⟨(some 2), .mv, [.k (.bool false)], none⟩] [1])
    (.seq
      (.reg (flatNs none (nl [.op (some 3) (.fldA 0) [.t 1], .op (some 4) (.ld none) [.t 3], .op (some 5) (.bin .neq) [.t 4, .k (.int .u8 0)], .op (some 6) .mv [.t 5], .sc 6 true (nl [.op (some 7) (.fldA 1) [.t 1], .op (some 8) (.ld none) [.t 7], .op (some 9) (.bin .neq) [.t 8, .k (.int .u8 0)]]) (.t 9) (some 10), .op (some 11) .mv [.t 10], .sc 11 true (nl [.op (some 12) (.fldA 0) [.t 1], .op (some 13) (.ld none) [.t 12], .op (some 14) (.fldA 1) [.t 1], .op (some 15) (.ld none) [.t 14], .op (some 16) (.bin .neq) [.t 13, .t 15]]) (.t 16) (some 17), .op (some 2) .mv [.t 17]])) [2])
      .ret))
def i_CountVoiceChanged_1.F : Cfg := ⟨fun _ => 0, fun r => match r with | 0 => [1] | 1 => [2] | _ => []⟩
def i_CountVoiceChanged_1.X : FX := ⟨18, [.tmp 2], i_CountVoiceChanged_1.F, i_CountVoiceChanged_1.x⟩

theorem i_CountVoiceChanged_1.ok {P : Program} {k : Nat} (hk : Has P k (i_CountVoiceChanged_1.X)) : CBl hVch P k := by
  intro x n H
  refine S.ofX hk rfl fun hB fn hr => ?_
  unfold i_CountVoiceChanged_1.x
  repeat' (first
    | ((with_reducible refine S.go ?_); first | refine S.seq ?_ | refine S.skip ?_ | refine S.block ?_ | refine S.inBlock ?_ | refine S.exit rfl ?_ | refine S.regN ?_ | refine S.reg ?_ | refine S.drw hk.mo (by kernel_rfl) ?_ | (refine S.cond rfl (fun hc => ?_) (fun hc => ?_) <;> try simp only [HC] at hc) | refine S.retH hr rfl ?_ | refine S.finH hr rfl ?_ | (refine S.retK hr ?_; refine TRdt ?_) | fail)
    | ((first | with_reducible refine Ns.go ?_ | with_reducible refine XOs.go ?_ | with_reducible refine XDs.go ?_ | with_reducible refine OK.go ?_); (first | refine TTdt ?_ | (apply Ns.sc ⟨rfl, rfl⟩ rfl; intro hg) | (refine OK.tr ?_; refine TTdt ?_)); (try simp only [HC] at hg))
    | with_reducible exact rfl | exact ⟨rfl, rfl, rfl⟩
    | ((with_reducible refine Gd.go ?_); refine Gd.on (fun hg => ?_) (fun hg => ?_) <;> refine TGdt ?_ <;> (try simp only [HC] at hg))
    | ((with_reducible refine Fin.go ?_); first | (refine Fin.p ?_; first | exact FT | (try refine TTdt ?_; try simp only [LF])) | refine Fin.a0 ?_ | refine Fin.a ?_ | refine Fin.ni ?_ | refine Fin.v ?_ ?_ | refine Fin.r ?_ ?_ | exact Fin.th | (refine Fin.t ?_; try simp only [AV.sl.injEq]))
    | (refine And.go ?_; refine AndI ?_)
    | fail)
  all_goals (try clear hr hk hB)
  all_goals rfl
/-- impl.CountVoiceChanged -/
def i_CountVoiceChanged.x (c_i_links c_i_CountVoiceChanged_1 : Nat) : XCode :=
  (.seq
    (.reg [⟨(some 1), .boxF, [.t 0], none⟩,
      ⟨(some 2), .mv, [.k (.int .i64 0)], none⟩] [1])
    (.seq
      (.reg [⟨(some 3), (.ld (some 1)), [.t 1], none⟩,
        ⟨(some 4), .call, [.k (.fn c_i_links []), .t 3, .k (.fn c_i_CountVoiceChanged_1 [])], none⟩,
        ⟨(some 2), .mv, [.t 4], none⟩] [2])
      .ret))
def i_CountVoiceChanged.F : Cfg := ⟨fun _ => 0, fun r => match r with | 0 => [1] | 1 => [2] | _ => []⟩
def i_CountVoiceChanged.X (c_i_links c_i_CountVoiceChanged_1 : Nat) : FX := ⟨5, [.tmp 2], i_CountVoiceChanged.F, i_CountVoiceChanged.x c_i_links c_i_CountVoiceChanged_1⟩

theorem i_CountVoiceChanged.ok {P : Program} {k c_i_links c_i_CountVoiceChanged_1 : Nat} (hk : Has P k (i_CountVoiceChanged.X c_i_links c_i_CountVoiceChanged_1)) (h1 : C_links P c_i_links) (h2 : CBl hVch P c_i_CountVoiceChanged_1) : C_lks hVch P k := by
  intro s hs n H
  refine S.ofX hk rfl fun hB fn hr => ?_
  unfold i_CountVoiceChanged.x
  repeat' (first
    | ((with_reducible refine S.go ?_); first | refine S.seq ?_ | refine S.skip ?_ | refine S.block ?_ | refine S.inBlock ?_ | refine S.exit rfl ?_ | refine S.regN ?_ | refine S.reg ?_ | refine S.drw hk.mo (by kernel_rfl) ?_ | (refine S.cond rfl (fun hc => ?_) (fun hc => ?_) <;> try simp only [HC] at hc) | refine S.retH hr rfl ?_ | refine S.finH hr rfl ?_ | (refine S.retK hr ?_; refine TRdt ?_) | fail)
    | ((first | with_reducible refine Ns.go ?_ | with_reducible refine XOs.go ?_ | with_reducible refine XDs.go ?_ | with_reducible refine OK.go ?_); (first | refine TTdt ?_ | (apply Ns.sc ⟨rfl, rfl⟩ rfl; intro hg) | (refine OK.tr ?_; refine TTdt ?_)); (try simp only [HC] at hg))
    | with_reducible exact rfl | exact ⟨rfl, rfl, rfl⟩
    | ((with_reducible refine RunsT.go ?_); first | refine RunsF.apf (h1 _ _ hVch hs h2) rfl ?_ | fail)
    | ((with_reducible refine RunsD.go ?_); first | refine RunsF.apd (h1 _ _ hVch hs h2) rfl ?_ | fail)
    | ((with_reducible refine Gd.go ?_); refine Gd.on (fun hg => ?_) (fun hg => ?_) <;> refine TGdt ?_ <;> (try simp only [HC] at hg))
    | ((with_reducible refine Fin.go ?_); first | (refine Fin.p ?_; first | exact FT | (try refine TTdt ?_; try simp only [LF])) | refine Fin.a0 ?_ | refine Fin.a ?_ | refine Fin.ni ?_ | refine Fin.v ?_ ?_ | refine Fin.r ?_ ?_ | exact Fin.th | (refine Fin.t ?_; try simp only [AV.sl.injEq]))
    | (refine And.go ?_; refine AndI ?_)
    | fail)
theorem cln_yes {h : Lnk → Bool} {c : List Lnk} {i n : Nat} (hn : n = cln h c i) (hx : h (c.getD i default) = true) : n + 1 = cln h c (i + 1) := by rw [cln, if_pos hx, hn]
theorem cln_no {h : Lnk → Bool} {c : List Lnk} {i n : Nat} (hn : n = cln h c i) (hx : h (c.getD i default) = false) : n = cln h c (i + 1) := by rw [cln, if_neg (by rw [hx]; decide), hn]; rfl
theorem cln_end {h : Lnk → Bool} {c : List Lnk} {i n : Nat} (hn : n = cln h c i) (hf : 0 < i → isCand c = true) (hi : i ≤ c.length) (hx : c.length ≤ i ∨ isCand c = false) : n = lks h c := by
  unfold lks
  by_cases hs : isCand c = true
  · rw [if_pos hs, hn]
    have : i = c.length := by rcases hx with h | h; omega; (rw [hs] at h; cases h)
    rw [this]
  · rw [if_neg hs, hn]
    have : i = 0 := by
      rcases Nat.eq_zero_or_pos i with h | h
      · exact h
      · exact absurd (hf h) hs
    subst this; rfl
/-- spec.CountDeleted -/
def s_CountDeleted.x (c_s_IsCandidate : Nat) : XCode :=
  (.seq
    (.reg [⟨(some 1), .boxF, [.t 0], none⟩,
      ⟨(some 2), .mv, [.k (.int .i64 0)], none⟩] [1])
    (.seq
      (.reg [⟨(some 3), .mv, [.k (.int .i64 0)], none⟩] [1, 3])
      (.seq
        (.seq
          (.reg [⟨(some 4), .mv, [.k (.int .i64 0)], none⟩] [1, 3, 4])
          (.block 0
            (.loop
              (.seq
                (.seq
                  (.reg (flatNs none (nl [.op (some 5) .mv [.t 4], .op (some 6) (.fldA 0) [.t 1], .op (some 7) (.ld none) [.t 6], .op (some 8) .lenL [.t 7], .op (some 9) (.bin .lss) [.t 5, .t 8], .op (some 10) .mv [.t 9], .sc 10 true (nl [.op (some 11) (.ld (some 1)) [.t 1], .op (some 12) .call [.k (.fn c_s_IsCandidate []), .t 11]]) (.t 12) (some 13)])) [1, 3, 4, 13])
                  (.cond (.t 13)
                    .skip
                    (.exit 0)))
                (.seq
                  (.block 1
                    (.seq
                      (.reg [⟨(some 16), (.fldA 0), [.t 1], none⟩,
                        ⟨(some 17), (.ld none), [.t 16], none⟩,
                        ⟨(some 18), .mv, [.t 4], none⟩,
                        ⟨(some 19), (.idxA 2), [.t 17, .t 18], none⟩,
                        ⟨(some 20), (.fldA 1), [.t 19], none⟩,
                        ⟨(some 21), (.ld none), [.t 20], none⟩,
                        ⟨(some 22), (.bin .eql), [.t 21, .k (.int .u8 0)], none⟩] [1, 3, 4, 22])
                      (.cond (.t 22)
                        (.reg [⟨(some 23), .mv, [.t 3], none⟩,
                          ⟨(some 24), (.bin .add), [.t 23, .k (.int .i64 1)], none⟩,
                          ⟨(some 3), .mv, [.t 24], none⟩] [1, 3, 4])
                        .skip)))
                  (.reg [⟨(some 14), .mv, [.t 4], none⟩,
                    ⟨(some 15), (.bin .add), [.t 14, .k (.int .i64 1)], none⟩,
                    ⟨(some 4), .mv, [.t 15], none⟩] [1, 3, 4]))))))
        (.seq
          (.reg [⟨(some 25), .mv, [.t 3], none⟩,
            ⟨(some 2), .mv, [.t 25], none⟩] [2])
          .ret))))
def s_CountDeleted.F : Cfg := ⟨fun _ => 0, fun r => match r with | 0 => [1] | 1 => [1, 3] | 2 => [1, 3, 4] | 3 => [1, 3, 4, 13] | 4 => [1, 3, 4] | 5 => [1, 3, 4, 22] | 6 => [1, 3, 4] | 7 => [2] | _ => []⟩
def s_CountDeleted.X (c_s_IsCandidate : Nat) : FX := ⟨26, [.tmp 2], s_CountDeleted.F, s_CountDeleted.x c_s_IsCandidate⟩

theorem s_CountDeleted.ok {P : Program} {k c_s_IsCandidate : Nat} (hk : Has P k (s_CountDeleted.X c_s_IsCandidate)) (h1 : C_IsCandidate P c_s_IsCandidate) : C_lks hDel P k := by
  intro w hs n H
  refine S.ofX hk rfl fun hB fn hr => ?_
  unfold s_CountDeleted.x
  repeat' (first
    | ((with_reducible refine S.go ?_); first | refine S.seq ?_ | refine S.skip ?_ | refine S.block ?_ | refine S.inBlock ?_ | refine S.exit rfl ?_ | refine S.regN ?_ | refine S.reg ?_ | refine S.drw hk.mo (by kernel_rfl) ?_ | (refine S.cond rfl (fun hc => ?_) (fun hc => ?_) <;> try simp only [HC] at hc) | refine S.retH hr rfl ?_ | refine S.finH hr rfl ?_ | (refine S.retK hr ?_; refine TRdt ?_) | fail)
    | ((first | with_reducible refine Ns.go ?_ | with_reducible refine XOs.go ?_ | with_reducible refine XDs.go ?_ | with_reducible refine OK.go ?_); (first | refine TTdt ?_ | (apply Ns.sc ⟨rfl, rfl⟩ rfl; intro hg) | (refine OK.tr ?_; refine TTdt ?_)); (try simp only [HC] at hg))
    | with_reducible exact rfl | exact ⟨rfl, rfl, rfl⟩
    | ((with_reducible refine Gd.go ?_); refine Gd.on (fun hg => ?_) (fun hg => ?_) <;> refine TGdt ?_ <;> (try simp only [HC] at hg))
    | ((with_reducible refine Fin.go ?_); first | (refine Fin.p ?_; first | exact FT | (try refine TTdt ?_; try simp only [LF])) | refine Fin.a0 ?_ | refine Fin.a ?_ | refine Fin.ni ?_ | refine Fin.v ?_ ?_ | refine Fin.r ?_ ?_ | exact Fin.th | (refine Fin.t ?_; try simp only [AV.sl.injEq]))
    | (refine And.go ?_; refine AndI ?_)
    | fail)
  refine S.loopV (σ := Nat × Nat) [1, 3, 4] (fun s => [(3, .int .i64 (s.2 : Int)), (4, .int .i64 (s.1 : Int))]) (fun s => s.1 ≤ w.length ∧ s.2 = cln hDel w s.1 ∧ (0 < s.1 → isCand w = true) ∧ s.2 ≤ s.1) (fun s => n) (fun s => H) (fun s => w.length - s.1) (0, 0) (⟨by omega, rfl, fun h => absurd h (by omega), by omega⟩) ?_
  rintro ⟨i, q⟩ ⟨hi1, hi2, hi3, hi4⟩ ih
  try dsimp only at hi1 hi2 hi3 hi4
  repeat' (first
    | ((with_reducible refine S.go ?_); first | refine S.seq ?_ | refine S.skip ?_ | refine S.block ?_ | refine S.inBlock ?_ | refine S.exit rfl ?_ | refine S.regN ?_ | refine S.reg ?_ | refine S.drw hk.mo (by kernel_rfl) ?_ | refine S.ag (ih ((i + 1, _)) ?_ ?_) | (refine S.cond rfl (fun hc => ?_) (fun hc => ?_) <;> try simp only [HC] at hc) | refine S.retH hr rfl ?_ | refine S.finH hr rfl ?_ | (refine S.retK hr ?_; refine TRdt ?_) | fail)
    | ((first | with_reducible refine Ns.go ?_ | with_reducible refine XOs.go ?_ | with_reducible refine XDs.go ?_ | with_reducible refine OK.go ?_); (first | refine TTdt ?_ | (apply Ns.sc ⟨rfl, rfl⟩ rfl; intro hg) | (refine OK.tr ?_; refine TTdt ?_)); (try simp only [HC] at hg))
    | with_reducible exact rfl | exact ⟨rfl, rfl, rfl⟩
    | ((with_reducible refine RunsT.go ?_); first | refine RunsF.apf (h1 _ hs) rfl ?_ | fail)
    | ((with_reducible refine RunsD.go ?_); first | refine RunsF.apd (h1 _ hs) rfl ?_ | fail)
    | ((with_reducible refine Gd.go ?_); refine Gd.on (fun hg => ?_) (fun hg => ?_) <;> refine TGdt ?_ <;> (try simp only [HC] at hg))
    | ((with_reducible refine Fin.go ?_); first | (refine Fin.p ?_; first | exact FT | (try refine TTdt ?_; try simp only [LF])) | refine Fin.a0 ?_ | refine Fin.a ?_ | refine Fin.ni ?_ | refine Fin.v ?_ ?_ | refine Fin.r ?_ ?_ | exact Fin.th | (refine Fin.t ?_; try simp only [AV.sl.injEq]))
    | (refine And.go ?_; refine AndI ?_)
    | fail)
  all_goals (try clear ih)
  all_goals (try dsimp only)
  all_goals (repeat' apply And.intro)
  all_goals first | omega | (simp only [ZL]; omega) | skip
  all_goals (try clear hr hk hB)
  all_goals first | (intro _; exact (‹_ ∧ isCand w = true› : _ ∧ _).2) | (exact cln_yes hi2 (by simp only [hDel, kept]; grind)) | (exact cln_no hi2 (by simp only [hDel, kept]; grind)) | (rw [show q = lks hDel w from cln_end hi2 hi3 (by omega) (by rcases hc with h | h; (left; omega); (exact .inr h))]) | skip
/-- spec.CountInserted -/
def s_CountInserted.x (c_s_IsCandidate : Nat) : XCode :=
  (.seq
    (.reg [⟨(some 1), .boxF, [.t 0], none⟩,
      ⟨(some 2), .mv, [.k (.int .i64 0)], none⟩] [1])
    (.seq
      (.reg [⟨(some 3), .mv, [.k (.int .i64 0)], none⟩] [1, 3])
      (.seq
        (.seq
          (.reg [⟨(some 4), .mv, [.k (.int .i64 0)], none⟩] [1, 3, 4])
          (.block 0
            (.loop
              (.seq
                (.seq
                  (.reg (flatNs none (nl [.op (some 5) .mv [.t 4], .op (some 6) (.fldA 0) [.t 1], .op (some 7) (.ld none) [.t 6], .op (some 8) .lenL [.t 7], .op (some 9) (.bin .lss) [.t 5, .t 8], .op (some 10) .mv [.t 9], .sc 10 true (nl [.op (some 11) (.ld (some 1)) [.t 1], .op (some 12) .call [.k (.fn c_s_IsCandidate []), .t 11]]) (.t 12) (some 13)])) [1, 3, 4, 13])
                  (.cond (.t 13)
                    .skip
                    (.exit 0)))
                (.seq
                  (.block 1
                    (.seq
                      (.reg [⟨(some 16), (.fldA 0), [.t 1], none⟩,
                        ⟨(some 17), (.ld none), [.t 16], none⟩,
                        ⟨(some 18), .mv, [.t 4], none⟩,
                        ⟨(some 19), (.idxA 2), [.t 17, .t 18], none⟩,
                        ⟨(some 20), (.fldA 0), [.t 19], none⟩,
                        ⟨(some 21), (.ld none), [.t 20], none⟩,
                        ⟨(some 22), (.bin .eql), [.t 21, .k (.int .u8 0)], none⟩] [1, 3, 4, 22])
                      (.cond (.t 22)
                        (.reg [⟨(some 23), .mv, [.t 3], none⟩,
                          ⟨(some 24), (.bin .add), [.t 23, .k (.int .i64 1)], none⟩,
                          ⟨(some 3), .mv, [.t 24], none⟩] [1, 3, 4])
                        .skip)))
                  (.reg [⟨(some 14), .mv, [.t 4], none⟩,
                    ⟨(some 15), (.bin .add), [.t 14, .k (.int .i64 1)], none⟩,
                    ⟨(some 4), .mv, [.t 15], none⟩] [1, 3, 4]))))))
        (.seq
          (.reg [⟨(some 25), .mv, [.t 3], none⟩,
            ⟨(some 2), .mv, [.t 25], none⟩] [2])
          .ret))))
def s_CountInserted.F : Cfg := ⟨fun _ => 0, fun r => match r with | 0 => [1] | 1 => [1, 3] | 2 => [1, 3, 4] | 3 => [1, 3, 4, 13] | 4 => [1, 3, 4] | 5 => [1, 3, 4, 22] | 6 => [1, 3, 4] | 7 => [2] | _ => []⟩
def s_CountInserted.X (c_s_IsCandidate : Nat) : FX := ⟨26, [.tmp 2], s_CountInserted.F, s_CountInserted.x c_s_IsCandidate⟩

theorem s_CountInserted.ok {P : Program} {k c_s_IsCandidate : Nat} (hk : Has P k (s_CountInserted.X c_s_IsCandidate)) (h1 : C_IsCandidate P c_s_IsCandidate) : C_lks hIns P k := by
  intro w hs n H
  refine S.ofX hk rfl fun hB fn hr => ?_
  unfold s_CountInserted.x
  repeat' (first
    | ((with_reducible refine S.go ?_); first | refine S.seq ?_ | refine S.skip ?_ | refine S.block ?_ | refine S.inBlock ?_ | refine S.exit rfl ?_ | refine S.regN ?_ | refine S.reg ?_ | refine S.drw hk.mo (by kernel_rfl) ?_ | (refine S.cond rfl (fun hc => ?_) (fun hc => ?_) <;> try simp only [HC] at hc) | refine S.retH hr rfl ?_ | refine S.finH hr rfl ?_ | (refine S.retK hr ?_; refine TRdt ?_) | fail)
    | ((first | with_reducible refine Ns.go ?_ | with_reducible refine XOs.go ?_ | with_reducible refine XDs.go ?_ | with_reducible refine OK.go ?_); (first | refine TTdt ?_ | (apply Ns.sc ⟨rfl, rfl⟩ rfl; intro hg) | (refine OK.tr ?_; refine TTdt ?_)); (try simp only [HC] at hg))
    | with_reducible exact rfl | exact ⟨rfl, rfl, rfl⟩
    | ((with_reducible refine Gd.go ?_); refine Gd.on (fun hg => ?_) (fun hg => ?_) <;> refine TGdt ?_ <;> (try simp only [HC] at hg))
    | ((with_reducible refine Fin.go ?_); first | (refine Fin.p ?_; first | exact FT | (try refine TTdt ?_; try simp only [LF])) | refine Fin.a0 ?_ | refine Fin.a ?_ | refine Fin.ni ?_ | refine Fin.v ?_ ?_ | refine Fin.r ?_ ?_ | exact Fin.th | (refine Fin.t ?_; try simp only [AV.sl.injEq]))
    | (refine And.go ?_; refine AndI ?_)
    | fail)
  refine S.loopV (σ := Nat × Nat) [1, 3, 4] (fun s => [(3, .int .i64 (s.2 : Int)), (4, .int .i64 (s.1 : Int))]) (fun s => s.1 ≤ w.length ∧ s.2 = cln hIns w s.1 ∧ (0 < s.1 → isCand w = true) ∧ s.2 ≤ s.1) (fun s => n) (fun s => H) (fun s => w.length - s.1) (0, 0) (⟨by omega, rfl, fun h => absurd h (by omega), by omega⟩) ?_
  rintro ⟨i, q⟩ ⟨hi1, hi2, hi3, hi4⟩ ih
  try dsimp only at hi1 hi2 hi3 hi4
  repeat' (first
    | ((with_reducible refine S.go ?_); first | refine S.seq ?_ | refine S.skip ?_ | refine S.block ?_ | refine S.inBlock ?_ | refine S.exit rfl ?_ | refine S.regN ?_ | refine S.reg ?_ | refine S.drw hk.mo (by kernel_rfl) ?_ | refine S.ag (ih ((i + 1, _)) ?_ ?_) | (refine S.cond rfl (fun hc => ?_) (fun hc => ?_) <;> try simp only [HC] at hc) | refine S.retH hr rfl ?_ | refine S.finH hr rfl ?_ | (refine S.retK hr ?_; refine TRdt ?_) | fail)
    | ((first | with_reducible refine Ns.go ?_ | with_reducible refine XOs.go ?_ | with_reducible refine XDs.go ?_ | with_reducible refine OK.go ?_); (first | refine TTdt ?_ | (apply Ns.sc ⟨rfl, rfl⟩ rfl; intro hg) | (refine OK.tr ?_; refine TTdt ?_)); (try simp only [HC] at hg))
    | with_reducible exact rfl | exact ⟨rfl, rfl, rfl⟩
    | ((with_reducible refine RunsT.go ?_); first | refine RunsF.apf (h1 _ hs) rfl ?_ | fail)
    | ((with_reducible refine RunsD.go ?_); first | refine RunsF.apd (h1 _ hs) rfl ?_ | fail)
    | ((with_reducible refine Gd.go ?_); refine Gd.on (fun hg => ?_) (fun hg => ?_) <;> refine TGdt ?_ <;> (try simp only [HC] at hg))
    | ((with_reducible refine Fin.go ?_); first | (refine Fin.p ?_; first | exact FT | (try refine TTdt ?_; try simp only [LF])) | refine Fin.a0 ?_ | refine Fin.a ?_ | refine Fin.ni ?_ | refine Fin.v ?_ ?_ | refine Fin.r ?_ ?_ | exact Fin.th | (refine Fin.t ?_; try simp only [AV.sl.injEq]))
    | (refine And.go ?_; refine AndI ?_)
    | fail)
  all_goals (try clear ih)
  all_goals (try dsimp only)
  all_goals (repeat' apply And.intro)
  all_goals first | omega | (simp only [ZL]; omega) | skip
  all_goals (try clear hr hk hB)
  all_goals first | (intro _; exact (‹_ ∧ isCand w = true› : _ ∧ _).2) | (exact cln_yes hi2 (by simp only [hIns, kept]; grind)) | (exact cln_no hi2 (by simp only [hIns, kept]; grind)) | (rw [show q = lks hIns w from cln_end hi2 hi3 (by omega) (by rcases hc with h | h; (left; omega); (exact .inr h))]) | skip
/-- spec.CountVoiceChanged -/
def s_CountVoiceChanged.x (c_s_IsCandidate : Nat) : XCode :=
  (.seq
    (.reg [⟨(some 1), .boxF, [.t 0], none⟩,
      ⟨(some 2), .mv, [.k (.int .i64 0)], none⟩] [1])
    (.seq
      (.reg [⟨(some 3), .mv, [.k (.int .i64 0)], none⟩] [1, 3])
      (.seq
        (.seq
          (.reg [⟨(some 4), .mv, [.k (.int .i64 0)], none⟩] [1, 3, 4])
          (.block 0
            (.loop
              (.seq
                (.seq
                  (.reg (flatNs none (nl [.op (some 6) .mv [.t 4], .op (some 7) (.fldA 0) [.t 1], .op (some 8) (.ld none) [.t 7], .op (some 9) .lenL [.t 8], .op (some 10) (.bin .lss) [.t 6, .t 9], .op (some 11) .mv [.t 10], .sc 11 true (nl [.op (some 12) (.ld (some 1)) [.t 1], .op (some 13) .call [.k (.fn c_s_IsCandidate []), .t 12]]) (.t 13) (some 14)])) [1, 3, 4, 14])
                  (.cond (.t 14)
                    .skip
                    (.exit 0)))
                (.seq
                  (.block 1
                    (.seq
                      (.reg [⟨(some 17), (.fldA 0), [.t 1], none⟩,
                        ⟨(some 18), (.ld none), [.t 17], none⟩,
                        ⟨(some 19), .mv, [.t 4], none⟩,
                        ⟨(some 20), (.idxA 2), [.t 18, .t 19], none⟩,
                        ⟨(some 21), (.ld (some 2)), [.t 20], none⟩,
                        ⟨(some 5), (.alloc [.int .u8 0, .int .u8 0]), [], none⟩,
                        ⟨none, (.st (some 2)), [.t 5, .t 21], none⟩] [1, 3, 4, 5])
                      (.seq
                        (.reg (flatNs none (nl [.op (some 22) (.fldA 0) [.t 5], .op (some 23) (.ld none) [.t 22], .op (some 24) (.bin .neq) [.t 23, .k (.int .u8 0)], .op (some 25) .mv [.t 24], .sc 25 true (nl [.op (some 26) (.fldA 1) [.t 5], .op (some 27) (.ld none) [.t 26], .op (some 28) (.bin .neq) [.t 27, .k (.int .u8 0)]]) (.t 28) (some 29), .op (some 30) .mv [.t 29], .sc 30 true (nl [.op (some 31) (.fldA 0) [.t 5], .op (some 32) (.ld none) [.t 31], .op (some 33) (.fldA 1) [.t 5], .op (some 34) (.ld none) [.t 33], .op (some 35) (.bin .neq) [.t 32, .t 34]]) (.t 35) (some 36)])) [1, 3, 4, 36])
                        (.cond (.t 36)
                          (.reg [⟨(some 37), .mv, [.t 3], none⟩,
                            ⟨(some 38), (.bin .add), [.t 37, .k (.int .i64 1)], none⟩,
                            ⟨(some 3), .mv, [.t 38], none⟩] [1, 3, 4])
                          .skip))))
                  (.reg [⟨(some 15), .mv, [.t 4], none⟩,
                    ⟨(some 16), (.bin .add), [.t 15, .k (.int .i64 1)], none⟩,
                    ⟨(some 4), .mv, [.t 16], none⟩] [1, 3, 4]))))))
        (.seq
          (.reg [⟨(some 39), .mv, [.t 3], none⟩,
            ⟨(some 2), .mv, [.t 39], none⟩] [2])
          .ret))))
def s_CountVoiceChanged.F : Cfg := ⟨fun _ => 0, fun r => match r with | 0 => [1] | 1 => [1, 3] | 2 => [1, 3, 4] | 3 => [1, 3, 4, 14] | 4 => [1, 3, 4] | 5 => [1, 3, 4, 5] | 6 => [1, 3, 4, 36] | 7 => [1, 3, 4] | 8 => [2] | _ => []⟩
def s_CountVoiceChanged.X (c_s_IsCandidate : Nat) : FX := ⟨40, [.tmp 2], s_CountVoiceChanged.F, s_CountVoiceChanged.x c_s_IsCandidate⟩

theorem s_CountVoiceChanged.ok {P : Program} {k c_s_IsCandidate : Nat} (hk : Has P k (s_CountVoiceChanged.X c_s_IsCandidate)) (h1 : C_IsCandidate P c_s_IsCandidate) : C_lks hVch P k := by
  intro w hs n H
  refine S.ofX hk rfl fun hB fn hr => ?_
  unfold s_CountVoiceChanged.x
  repeat' (first
    | ((with_reducible refine S.go ?_); first | refine S.seq ?_ | refine S.skip ?_ | refine S.block ?_ | refine S.inBlock ?_ | refine S.exit rfl ?_ | refine S.regN ?_ | refine S.reg ?_ | refine S.drw hk.mo (by kernel_rfl) ?_ | (refine S.cond rfl (fun hc => ?_) (fun hc => ?_) <;> try simp only [HC] at hc) | refine S.retH hr rfl ?_ | refine S.finH hr rfl ?_ | (refine S.retK hr ?_; refine TRdt ?_) | fail)
    | ((first | with_reducible refine Ns.go ?_ | with_reducible refine XOs.go ?_ | with_reducible refine XDs.go ?_ | with_reducible refine OK.go ?_); (first | refine TTdt ?_ | (apply Ns.sc ⟨rfl, rfl⟩ rfl; intro hg) | (refine OK.tr ?_; refine TTdt ?_)); (try simp only [HC] at hg))
    | with_reducible exact rfl | exact ⟨rfl, rfl, rfl⟩
    | ((with_reducible refine Gd.go ?_); refine Gd.on (fun hg => ?_) (fun hg => ?_) <;> refine TGdt ?_ <;> (try simp only [HC] at hg))
    | ((with_reducible refine Fin.go ?_); first | (refine Fin.p ?_; first | exact FT | (try refine TTdt ?_; try simp only [LF])) | refine Fin.a0 ?_ | refine Fin.a ?_ | refine Fin.ni ?_ | refine Fin.v ?_ ?_ | refine Fin.r ?_ ?_ | exact Fin.th | (refine Fin.t ?_; try simp only [AV.sl.injEq]))
    | (refine And.go ?_; refine AndI ?_)
    | fail)
  refine S.loopV (σ := Nat × Nat) [1, 3, 4] (fun s => [(3, .int .i64 (s.2 : Int)), (4, .int .i64 (s.1 : Int))]) (fun s => s.1 ≤ w.length ∧ s.2 = cln hVch w s.1 ∧ (0 < s.1 → isCand w = true) ∧ s.2 ≤ s.1) (fun s => n + s.1) (fun s => H) (fun s => w.length - s.1) (0, 0) (⟨by omega, rfl, fun h => absurd h (by omega), by omega⟩) ?_
  rintro ⟨i, q⟩ ⟨hi1, hi2, hi3, hi4⟩ ih
  try dsimp only at hi1 hi2 hi3 hi4
  repeat' (first
    | ((with_reducible refine S.go ?_); first | refine S.seq ?_ | refine S.skip ?_ | refine S.block ?_ | refine S.inBlock ?_ | refine S.exit rfl ?_ | refine S.regN ?_ | refine S.reg ?_ | refine S.drw hk.mo (by kernel_rfl) ?_ | refine S.ag (ih ((i + 1, _)) ?_ ?_) | (refine S.cond rfl (fun hc => ?_) (fun hc => ?_) <;> try simp only [HC] at hc) | refine S.retH hr rfl ?_ | refine S.finH hr rfl ?_ | (refine S.retK hr ?_; refine TRdt ?_) | fail)
    | ((first | with_reducible refine Ns.go ?_ | with_reducible refine XOs.go ?_ | with_reducible refine XDs.go ?_ | with_reducible refine OK.go ?_); (first | refine TTdt ?_ | (apply Ns.sc ⟨rfl, rfl⟩ rfl; intro hg) | (refine OK.tr ?_; refine TTdt ?_)); (try simp only [HC] at hg))
    | with_reducible exact rfl | exact ⟨rfl, rfl, rfl⟩
    | ((with_reducible refine RunsT.go ?_); first | refine RunsF.apf (h1 _ hs) rfl ?_ | fail)
    | ((with_reducible refine RunsD.go ?_); first | refine RunsF.apd (h1 _ hs) rfl ?_ | fail)
    | ((with_reducible refine Gd.go ?_); refine Gd.on (fun hg => ?_) (fun hg => ?_) <;> refine TGdt ?_ <;> (try simp only [HC] at hg))
    | ((with_reducible refine Fin.go ?_); first | (refine Fin.p ?_; first | exact FT | (try refine TTdt ?_; try simp only [LF])) | refine Fin.a0 ?_ | refine Fin.a ?_ | refine Fin.ni ?_ | refine Fin.v ?_ ?_ | refine Fin.r ?_ ?_ | exact Fin.th | (refine Fin.t ?_; try simp only [AV.sl.injEq]))
    | (refine And.go ?_; refine AndI ?_)
    | fail)
  all_goals (try clear ih)
  all_goals (try dsimp only)
  all_goals (repeat' apply And.intro)
  all_goals first | omega | (simp only [ZL]; omega) | skip
  all_goals (try clear hr hk hB)
  all_goals first | (intro _; exact (‹_ ∧ isCand w = true› : _ ∧ _).2) | (exact cln_yes hi2 (by simp only [hVch, kept]; grind)) | (exact cln_no hi2 (by simp only [hVch, kept]; grind)) | (rw [show q = lks hVch w from cln_end hi2 hi3 (by omega) (by rcases hc with h | h; (left; omega); (exact .inr h))]) | skip
def bq (c : List Lnk) (i : Nat) : Nat × Nat × Bool := if isCand c then bst c i else (0, 0, false)
theorem bq_no {c : List Lnk} {i : Nat} (h : isCand c = false) : bq c (i + 1) = bq c i := by rw [bq, bq, if_neg (by rw [h]; decide), if_neg (by rw [h]; decide)]
theorem bq_st {c : List Lnk} {i : Nat} (h : isCand c = true) : bq c (i + 1) = stp (bq c i) (c.getD i default) := by rw [bq, bq, if_pos h, if_pos h, bst]
theorem bq_end {c : List Lnk} : (bq c c.length).1 = brk c := by unfold bq brk; split <;> rfl
def C_brk (P : Program) (k : Nat) : Prop := ∀ c : List Lnk, c.length ≤ 4294967295 → RunsF P k [.agg [.sl (enc c)]] (.int .i64 (brk c : Int))
/-- impl.CountBreaks -/
def i_CountBreaks.x (c_i_IsCandidate : Nat) : XCode :=
  (.seq
    (.reg [⟨(some 1), .boxF, [.t 0], none⟩,
      ⟨(some 2), .mv, [.k (.int .i64 0)], none⟩] [1])
    (.seq
      (.reg [⟨(some 3), .mv, [.k (.int .i64 0)], none⟩,
        ⟨(some 4), .mv, [.k (.int .i64 0)], none⟩,
        ⟨(some 5), .mv, [.k (.bool false)], none⟩] [1, 3, 4, 5])
      (.seq
        (.seq
          (.reg [⟨(some 8), (.fldA 0), [.t 1], none⟩,
            ⟨(some 9), (.ld none), [.t 8], none⟩,
            ⟨(some 10), .lenL, [.t 9], none⟩,
            ⟨(some 11), .mv, [.k (.int .i64 0)], none⟩] [1, 3, 4, 5, 9, 10, 11])
          (.block 0
            (.loop
              (.seq
                (.reg [⟨(some 12), (.bin .lss), [.t 11, .t 10], none⟩] [1, 3, 4, 5, 9, 10, 11, 12])
                (.seq
                  (.cond (.t 12)
                    .skip
                    (.exit 0))
                  (.seq
                    (.block 1
                      (.seq
                        (.reg [⟨(some 13), (.idxA 2), [.t 9, .t 11], none⟩,
                          ⟨(some 14), (.ld (some 2)), [.t 13], none⟩,
                          ⟨(some 7), (.alloc [.int .u8 0, .int .u8 0]), [], none⟩,
                          ⟨none, (.st (some 2)), [.t 7, .t 14], none⟩] [1, 3, 4, 5, 7, 9, 10, 11])
                        (.block 2
                          (.seq
                            (.reg [⟨(some 16), (.ld (some 1)), [.t 1], none⟩,
                              ⟨(some 17), .call, [.k (.fn c_i_IsCandidate []), .t 16], none⟩,
                              ⟨(some 18), (.un .not), [.t 17], none⟩,
                              ⟨(some 15), .mv, [.t 18], none⟩] [1, 3, 4, 5, 7, 9, 10, 11, 15])
                            (.cond (.t 15)
                              .skip
                              (.seq
                                (.reg (flatNs none (nl [.op (some 20) (.fldA 0) [.t 7], .op (some 21) (.ld none) [.t 20], .op (some 22) (.bin .neq) [.t 21, .k (.int .u8 0)], .op (some 23) .mv [.t 22], .sc 23 true (nl [.op (some 24) (.fldA 1) [.t 7], .op (some 25) (.ld none) [.t 24], .op (some 26) (.bin .neq) [.t 25, .k (.int .u8 0)]]) (.t 26) (some 27), .op (some 19) .mv [.t 27]])) [1, 3, 4, 5, 9, 10, 11, 19])
                                (.cond (.t 19)
                                  (.seq
                                    (.reg [⟨(some 28), .mv, [.t 3], none⟩,
                                      ⟨(some 29), .mv, [.t 4], none⟩,
                                      ⟨(some 30), (.bin .add), [.t 28, .t 29], none⟩,
                                      ⟨(some 3), .mv, [.t 30], none⟩] [1, 3, 9, 10, 11])
                                    (.reg [⟨(some 4), .mv, [.k (.int .i64 0)], none⟩,
                                      ⟨(some 5), .mv, [.k (.bool true)], none⟩] [1, 3, 4, 5, 9, 10, 11]))
                                  (.seq
                                    (.reg [⟨(some 32), .mv, [.t 5], none⟩,
                                      ⟨(some 31), .mv, [.t 32], none⟩] [1, 3, 4, 5, 9, 10, 11, 31])
                                    (.cond (.t 31)
                                      (.reg [⟨(some 33), .mv, [.t 4], none⟩,
                                        ⟨(some 34), (.bin .add), [.t 33, .k (.int .i64 1)], none⟩,
                                        ⟨(some 4), .mv, [.t 34], none⟩] [1, 3, 4, 5, 9, 10, 11])
                                      .skip)))))))))
                    (.reg [⟨(some 35), (.bin .add), [.t 11, .k (.int .i64 1)], none⟩,
                      ⟨(some 11), .mv, [.t 35], none⟩] [1, 3, 4, 5, 9, 10, 11])))))))
        (.seq
          (.reg [⟨(some 36), .mv, [.t 3], none⟩,
            ⟨(some 2), .mv, [.t 36], none⟩] [2])
          .ret))))
def i_CountBreaks.F : Cfg := ⟨fun _ => 0, fun r => match r with | 0 => [1] | 1 => [1, 3, 4, 5] | 2 => [1, 3, 4, 5, 9, 10, 11] | 3 => [1, 3, 4, 5, 9, 10, 11, 12] | 4 => [1, 3, 4, 5, 7, 9, 10, 11] | 5 => [1, 3, 4, 5, 7, 9, 10, 11, 15] | 6 => [1, 3, 4, 5, 9, 10, 11, 19] | 7 => [1, 3, 9, 10, 11] | 8 => [1, 3, 4, 5, 9, 10, 11] | 9 => [1, 3, 4, 5, 9, 10, 11, 31] | 10 => [1, 3, 4, 5, 9, 10, 11] | 11 => [1, 3, 4, 5, 9, 10, 11] | 12 => [2] | _ => []⟩
def i_CountBreaks.X (c_i_IsCandidate : Nat) : FX := ⟨37, [.tmp 2], i_CountBreaks.F, i_CountBreaks.x c_i_IsCandidate⟩

theorem i_CountBreaks.ok {P : Program} {k c_i_IsCandidate : Nat} (hk : Has P k (i_CountBreaks.X c_i_IsCandidate)) (h1 : C_IsCandidate P c_i_IsCandidate) : C_brk P k := by
  intro w hs n H
  refine S.ofX hk rfl fun hB fn hr => ?_
  unfold i_CountBreaks.x
  repeat' (first
    | ((with_reducible refine S.go ?_); first | refine S.seq ?_ | refine S.skip ?_ | refine S.block ?_ | refine S.inBlock ?_ | refine S.exit rfl ?_ | refine S.regN ?_ | refine S.reg ?_ | refine S.drw hk.mo (by kernel_rfl) ?_ | (refine S.cond rfl (fun hc => ?_) (fun hc => ?_) <;> try simp only [HC] at hc) | refine S.retH hr rfl ?_ | refine S.finH hr rfl ?_ | (refine S.retK hr ?_; refine TRdt ?_) | fail)
    | ((first | with_reducible refine Ns.go ?_ | with_reducible refine XOs.go ?_ | with_reducible refine XDs.go ?_ | with_reducible refine OK.go ?_); (first | refine TTdt ?_ | (apply Ns.sc ⟨rfl, rfl⟩ rfl; intro hg) | (refine OK.tr ?_; refine TTdt ?_)); (try simp only [HC] at hg))
    | with_reducible exact rfl | exact ⟨rfl, rfl, rfl⟩
    | ((with_reducible refine Gd.go ?_); refine Gd.on (fun hg => ?_) (fun hg => ?_) <;> refine TGdt ?_ <;> (try simp only [HC] at hg))
    | ((with_reducible refine Fin.go ?_); first | (refine Fin.p ?_; first | exact FT | (try refine TTdt ?_; try simp only [LF])) | refine Fin.a0 ?_ | refine Fin.a ?_ | refine Fin.ni ?_ | refine Fin.v ?_ ?_ | refine Fin.r ?_ ?_ | exact Fin.th | (refine Fin.t ?_; try simp only [AV.sl.injEq]))
    | (refine And.go ?_; refine AndI ?_)
    | fail)
  refine S.loopV (σ := Nat × Nat × Nat × Bool) [1, 3, 4, 5, 9, 10, 11] (fun s => [(3, .int .i64 (s.2.1 : Int)), (4, .int .i64 (s.2.2.1 : Int)), (5, .bool s.2.2.2), (11, .int .i64 (s.1 : Int))]) (fun s => s.1 ≤ w.length ∧ (s.2.1, s.2.2.1, s.2.2.2) = bq w s.1 ∧ s.2.1 + s.2.2.1 ≤ s.1) (fun s => n + s.1) (fun s => H) (fun s => w.length - s.1) (0, 0, 0, false) (⟨by omega, by unfold bq; split <;> rfl, by decide⟩) ?_
  rintro ⟨i, a, b, z⟩ ⟨hi1, hi2, hi3⟩ ih
  try dsimp only at hi1 hi2 hi3
  repeat' (first
    | ((with_reducible refine S.go ?_); first | refine S.seq ?_ | refine S.skip ?_ | refine S.block ?_ | refine S.inBlock ?_ | refine S.exit rfl ?_ | refine S.regN ?_ | refine S.reg ?_ | refine S.drw hk.mo (by kernel_rfl) ?_ | refine S.ag (ih ((i + 1, _, _, _)) ?_ ?_) | (refine S.cond rfl (fun hc => ?_) (fun hc => ?_) <;> try simp only [HC] at hc) | refine S.retH hr rfl ?_ | refine S.finH hr rfl ?_ | (refine S.retK hr ?_; refine TRdt ?_) | fail)
    | ((first | with_reducible refine Ns.go ?_ | with_reducible refine XOs.go ?_ | with_reducible refine XDs.go ?_ | with_reducible refine OK.go ?_); (first | refine TTdt ?_ | (apply Ns.sc ⟨rfl, rfl⟩ rfl; intro hg) | (refine OK.tr ?_; refine TTdt ?_)); (try simp only [HC] at hg))
    | with_reducible exact rfl | exact ⟨rfl, rfl, rfl⟩
    | ((with_reducible refine RunsT.go ?_); first | refine RunsF.apf (h1 _ hs) rfl ?_ | fail)
    | ((with_reducible refine RunsD.go ?_); first | refine RunsF.apd (h1 _ hs) rfl ?_ | fail)
    | ((with_reducible refine Gd.go ?_); refine Gd.on (fun hg => ?_) (fun hg => ?_) <;> refine TGdt ?_ <;> (try simp only [HC] at hg))
    | ((with_reducible refine Fin.go ?_); first | (refine Fin.p ?_; first | exact FT | (try refine TTdt ?_; try simp only [LF])) | refine Fin.a0 ?_ | refine Fin.a ?_ | refine Fin.ni ?_ | refine Fin.v ?_ ?_ | refine Fin.r ?_ ?_ | exact Fin.th | (refine Fin.t ?_; try simp only [AV.sl.injEq]))
    | (refine And.go ?_; refine AndI ?_)
    | fail)
  all_goals (try clear ih)
  all_goals (try dsimp only)
  all_goals (repeat' apply And.intro)
  all_goals first | omega | (simp only [ZL]; omega) | skip
  all_goals (try clear hr hk hB)
  all_goals first | (rw [bq_no hc, ← hi2]) | (rw [bq_st ‹isCand w = true›, ← hi2, stp, if_pos (by simp only [kept]; grind)]) | (rw [bq_st ‹isCand w = true›, ← hi2, stp, if_neg (by simp only [kept]; grind)]; simp [hc]; done) | (have := @bq_end w; rw [show w.length = i by omega, ← hi2] at this; rw [← this]) | skip
/-- spec.l9Kept -/
def s_l9Kept.x : XCode :=
  (.seq
    (.reg [⟨(some 1), .boxF, [.t 0], none⟩,
      ⟨(some 2), .mv, [.k (.bool false)], none⟩] [1])
    (.seq
      (.reg (flatNs none (nl [.op (some 3) (.fldA 0) [.t 1], .op (some 4) (.ld none) [.t 3], .op (some 5) (.bin .neq) [.t 4, .k (.int .u8 0)], .op (some 6) .mv [.t 5], .sc 6 true (nl [.op (some 7) (.fldA 1) [.t 1], .op (some 8) (.ld none) [.t 7], .op (some 9) (.bin .neq) [.t 8, .k (.int .u8 0)]]) (.t 9) (some 10), .op (some 2) .mv [.t 10]])) [2])
      .ret))
def s_l9Kept.F : Cfg := ⟨fun _ => 0, fun r => match r with | 0 => [1] | 1 => [2] | _ => []⟩
def s_l9Kept.X : FX := ⟨11, [.tmp 2], s_l9Kept.F, s_l9Kept.x⟩

theorem s_l9Kept.ok {P : Program} {k : Nat} (hk : Has P k (s_l9Kept.X)) : CBl kept P k := by
  intro x n H
  refine S.ofX hk rfl fun hB fn hr => ?_
  unfold s_l9Kept.x
  repeat' (first
    | ((with_reducible refine S.go ?_); first | refine S.seq ?_ | refine S.skip ?_ | refine S.block ?_ | refine S.inBlock ?_ | refine S.exit rfl ?_ | refine S.regN ?_ | refine S.reg ?_ | refine S.drw hk.mo (by kernel_rfl) ?_ | (refine S.cond rfl (fun hc => ?_) (fun hc => ?_) <;> try simp only [HC] at hc) | refine S.retH hr rfl ?_ | refine S.finH hr rfl ?_ | (refine S.retK hr ?_; refine TRdt ?_) | fail)
    | ((first | with_reducible refine Ns.go ?_ | with_reducible refine XOs.go ?_ | with_reducible refine XDs.go ?_ | with_reducible refine OK.go ?_); (first | refine TTdt ?_ | (apply Ns.sc ⟨rfl, rfl⟩ rfl; intro hg) | (refine OK.tr ?_; refine TTdt ?_)); (try simp only [HC] at hg))
    | with_reducible exact rfl | exact ⟨rfl, rfl, rfl⟩
    | ((with_reducible refine Gd.go ?_); refine Gd.on (fun hg => ?_) (fun hg => ?_) <;> refine TGdt ?_ <;> (try simp only [HC] at hg))
    | ((with_reducible refine Fin.go ?_); first | (refine Fin.p ?_; first | exact FT | (try refine TTdt ?_; try simp only [LF])) | refine Fin.a0 ?_ | refine Fin.a ?_ | refine Fin.ni ?_ | refine Fin.v ?_ ?_ | refine Fin.r ?_ ?_ | exact Fin.th | (refine Fin.t ?_; try simp only [AV.sl.injEq]))
    | (refine And.go ?_; refine AndI ?_)
    | fail)
  all_goals (try clear hr hk hB)
  all_goals rfl
theorem brk_fin {w : List Lnk} {f l : Int} {i : Nat} (e : (f, l) = fst2 w i) (hf : 0 < i → isCand w = true) (hi : i ≤ w.length) (hx : w.length ≤ i ∨ isCand w = false) :
    (f = -1 ∧ l = -1 ∧ brk w = 0) ∨ (0 ≤ f ∧ f ≤ l ∧ l < w.length ∧ brk w + cnk w f.toNat = cnk w l.toNat) := by
  have e1 : f = (fst2 w i).1 := congrArg Prod.fst e
  have e2 : l = (fst2 w i).2 := congrArg Prod.snd e
  by_cases hs : isCand w = true
  · have : i = w.length := by rcases hx with h | h; omega; (rw [hs] at h; cases h)
    subst this
    unfold brk
    rw [if_pos hs, e1, e2]
    rcases brk_inv w w.length with ⟨h1, h2⟩ | ⟨h1, h2, h3, h4, h5, -⟩
    · left; rw [h1, h2]; exact ⟨rfl, rfl, rfl⟩
    · right; exact ⟨h2, h3, h4, h5⟩
  · have : i = 0 := by
      rcases Nat.eq_zero_or_pos i with h | h
      · exact h
      · exact absurd (hf h) hs
    subst this
    left; unfold brk; rw [if_neg hs, e1, e2]; exact ⟨rfl, rfl, rfl⟩
theorem cnk_le (w : List Lnk) : ∀ k, cnk w k ≤ k
  | 0 => Nat.le_refl _
  | k + 1 => by have := cnk_le w k; unfold cnk; split <;> omega
/-- spec.CountBreaks -/
def s_CountBreaks.x (c_s_IsCandidate c_s_l9Kept : Nat) : XCode :=
  (.seq
    (.reg [⟨(some 1), .boxF, [.t 0], none⟩,
      ⟨(some 2), .mv, [.k (.int .i64 0)], none⟩] [1])
    (.seq
      (.reg [⟨(some 3), .mv, [.k (.int .i64 (-1))], none⟩] [1, 3])
      (.seq
        (.reg [⟨(some 4), .mv, [.k (.int .i64 (-1))], none⟩] [1, 3, 4])
        (.seq
          (.seq
            (.reg [⟨(some 5), .mv, [.k (.int .i64 0)], none⟩] [1, 3, 4, 5])
            (.block 0
              (.loop
                (.seq
                  (.seq
                    (.reg (flatNs none (nl [.op (some 8) .mv [.t 5], .op (some 9) (.fldA 0) [.t 1], .op (some 10) (.ld none) [.t 9], .op (some 11) .lenL [.t 10], .op (some 12) (.bin .lss) [.t 8, .t 11], .op (some 13) .mv [.t 12], .sc 13 true (nl [.op (some 14) (.ld (some 1)) [.t 1], .op (some 15) .call [.k (.fn c_s_IsCandidate []), .t 14]]) (.t 15) (some 16)])) [1, 3, 4, 5, 16])
                    (.cond (.t 16)
                      .skip
                      (.exit 0)))
                  (.seq
                    (.block 1
                      (.seq
                        (.reg [⟨(some 19), (.fldA 0), [.t 1], none⟩,
                          ⟨(some 20), (.ld none), [.t 19], none⟩,
                          ⟨(some 21), .mv, [.t 5], none⟩,
                          ⟨(some 22), (.idxA 2), [.t 20, .t 21], none⟩,
                          ⟨(some 23), (.ld (some 2)), [.t 22], none⟩,
                          ⟨(some 24), .call, [.k (.fn c_s_l9Kept []), .t 23], none⟩] [1, 3, 4, 5, 24])
                        (.cond (.t 24)
                          (.seq
                            (.seq
                              (.reg [⟨(some 25), .mv, [.t 3], none⟩,
                                ⟨(some 26), (.bin .lss), [.t 25, .k (.int .i64 0)], none⟩] [1, 3, 5, 26])
                              (.cond (.t 26)
                                (.reg [⟨(some 27), .mv, [.t 5], none⟩,
                                  ⟨(some 3), .mv, [.t 27], none⟩] [1, 3, 5])
                                .skip))
                            (.reg [⟨(some 28), .mv, [.t 5], none⟩,
                              ⟨(some 4), .mv, [.t 28], none⟩] [1, 3, 4, 5]))
                          .skip)))
                    (.reg [⟨(some 17), .mv, [.t 5], none⟩,
                      ⟨(some 18), (.bin .add), [.t 17, .k (.int .i64 1)], none⟩,
                      ⟨(some 5), .mv, [.t 18], none⟩] [1, 3, 4, 5]))))))
          (.seq
            (.reg [⟨(some 6), .mv, [.k (.int .i64 0)], none⟩] [1, 3, 4, 6])
            (.seq
              (.seq
                (.reg [⟨(some 29), .mv, [.t 3], none⟩,
                  ⟨(some 30), (.mnx true), [.k (.int .i64 0), .t 29], none⟩,
                  ⟨(some 7), .mv, [.t 30], none⟩] [1, 4, 6, 7])
                (.block 2
                  (.loop
                    (.seq
                      (.seq
                        (.reg [⟨(some 31), .mv, [.t 7], none⟩,
                          ⟨(some 32), .mv, [.t 4], none⟩,
                          ⟨(some 33), (.bin .lss), [.t 31, .t 32], none⟩] [1, 4, 6, 7, 33])
                        (.cond (.t 33)
                          .skip
                          (.exit 2)))
                      (.seq
                        (.block 3
                          (.seq
                            (.reg [⟨(some 36), (.fldA 0), [.t 1], none⟩,
                              ⟨(some 37), (.ld none), [.t 36], none⟩,
                              ⟨(some 38), .mv, [.t 7], none⟩,
                              ⟨(some 39), (.idxA 2), [.t 37, .t 38], none⟩,
                              ⟨(some 40), (.ld (some 2)), [.t 39], none⟩,
                              ⟨(some 41), .call, [.k (.fn c_s_l9Kept []), .t 40], none⟩,
                              ⟨(some 42), (.un .not), [.t 41], none⟩] [1, 4, 6, 7, 42])
                            (.cond (.t 42)
                              (.reg [⟨(some 43), .mv, [.t 6], none⟩,
                                ⟨(some 44), (.bin .add), [.t 43, .k (.int .i64 1)], none⟩,
                                ⟨(some 6), .mv, [.t 44], none⟩] [1, 4, 6, 7])
                              .skip)))
                        (.reg [⟨(some 34), .mv, [.t 7], none⟩,
                          ⟨(some 35), (.bin .add), [.t 34, .k (.int .i64 1)], none⟩,
                          ⟨(some 7), .mv, [.t 35], none⟩] [1, 4, 6, 7]))))))
              (.seq
                (.reg [⟨(some 45), .mv, [.t 6], none⟩,
                  ⟨(some 2), .mv, [.t 45], none⟩] [2])
                .ret)))))))
def s_CountBreaks.F : Cfg := ⟨fun _ => 0, fun r => match r with | 0 => [1] | 1 => [1, 3] | 2 => [1, 3, 4] | 3 => [1, 3, 4, 5] | 4 => [1, 3, 4, 5, 16] | 5 => [1, 3, 4, 5] | 6 => [1, 3, 4, 5, 24] | 7 => [1, 3, 5, 26] | 8 => [1, 3, 5] | 9 => [1, 3, 4, 5] | 10 => [1, 3, 4, 6] | 11 => [1, 4, 6, 7] | 12 => [1, 4, 6, 7, 33] | 13 => [1, 4, 6, 7] | 14 => [1, 4, 6, 7, 42] | 15 => [1, 4, 6, 7] | 16 => [2] | _ => []⟩
def s_CountBreaks.X (c_s_IsCandidate c_s_l9Kept : Nat) : FX := ⟨46, [.tmp 2], s_CountBreaks.F, s_CountBreaks.x c_s_IsCandidate c_s_l9Kept⟩

theorem s_CountBreaks.ok {P : Program} {k c_s_IsCandidate c_s_l9Kept : Nat} (hk : Has P k (s_CountBreaks.X c_s_IsCandidate c_s_l9Kept)) (h0 : C_IsCandidate P c_s_IsCandidate) (h1 : CBl kept P c_s_l9Kept) : C_brk P k := by
  intro w hs n H
  refine S.ofX hk rfl fun hB fn hr => ?_
  unfold s_CountBreaks.x
  repeat' (first
    | ((with_reducible refine S.go ?_); first | refine S.seq ?_ | refine S.skip ?_ | refine S.block ?_ | refine S.inBlock ?_ | refine S.exit rfl ?_ | refine S.regN ?_ | refine S.reg ?_ | refine S.drw hk.mo (by kernel_rfl) ?_ | (refine S.cond rfl (fun hc => ?_) (fun hc => ?_) <;> try simp only [HC] at hc) | refine S.retH hr rfl ?_ | refine S.finH hr rfl ?_ | (refine S.retK hr ?_; refine TRdt ?_) | fail)
    | ((first | with_reducible refine Ns.go ?_ | with_reducible refine XOs.go ?_ | with_reducible refine XDs.go ?_ | with_reducible refine OK.go ?_); (first | refine TTdt ?_ | (apply Ns.sc ⟨rfl, rfl⟩ rfl; intro hg) | (refine OK.tr ?_; refine TTdt ?_)); (try simp only [HC] at hg))
    | with_reducible exact rfl | exact ⟨rfl, rfl, rfl⟩
    | ((with_reducible refine Gd.go ?_); refine Gd.on (fun hg => ?_) (fun hg => ?_) <;> refine TGdt ?_ <;> (try simp only [HC] at hg))
    | ((with_reducible refine Fin.go ?_); first | (refine Fin.p ?_; first | exact FT | (try refine TTdt ?_; try simp only [LF])) | refine Fin.a0 ?_ | refine Fin.a ?_ | refine Fin.ni ?_ | refine Fin.v ?_ ?_ | refine Fin.r ?_ ?_ | exact Fin.th | (refine Fin.t ?_; try simp only [AV.sl.injEq]))
    | (refine And.go ?_; refine AndI ?_)
    | fail)
  refine S.loopV (σ := Nat × Int × Int) [1, 3, 4, 5] (fun s => [(3, .int .i64 s.2.1), (4, .int .i64 s.2.2), (5, .int .i64 (s.1 : Int))]) (fun s => s.1 ≤ w.length ∧ (s.2.1, s.2.2) = fst2 w s.1 ∧ (0 < s.1 → isCand w = true) ∧ -1 ≤ s.2.1 ∧ s.2.1 < s.1 ∧ -1 ≤ s.2.2 ∧ s.2.2 < s.1) (fun s => n) (fun s => H) (fun s => w.length - s.1) (0, (-1), (-1)) (⟨by omega, rfl, fun h => absurd h (by omega), by decide, by decide, by decide, by decide⟩) ?_
  rintro ⟨i, f, l⟩ ⟨hi1, hi2, hi3, hi4, hi5, hi6, hi7⟩ ih
  try dsimp only at hi1 hi2 hi3 hi4 hi5 hi6 hi7
  repeat' (first
    | ((with_reducible refine S.go ?_); first | refine S.seq ?_ | refine S.skip ?_ | refine S.block ?_ | refine S.inBlock ?_ | refine S.exit rfl ?_ | refine S.regN ?_ | refine S.reg ?_ | refine S.drw hk.mo (by kernel_rfl) ?_ | refine S.ag (ih ((i + 1, _, _)) ?_ ?_) | (refine S.cond rfl (fun hc => ?_) (fun hc => ?_) <;> try simp only [HC] at hc) | refine S.retH hr rfl ?_ | refine S.finH hr rfl ?_ | (refine S.retK hr ?_; refine TRdt ?_) | fail)
    | ((first | with_reducible refine Ns.go ?_ | with_reducible refine XOs.go ?_ | with_reducible refine XDs.go ?_ | with_reducible refine OK.go ?_); (first | refine TTdt ?_ | (apply Ns.sc ⟨rfl, rfl⟩ rfl; intro hg) | (refine OK.tr ?_; refine TTdt ?_)); (try simp only [HC] at hg))
    | with_reducible exact rfl | exact ⟨rfl, rfl, rfl⟩
    | ((with_reducible refine RunsT.go ?_); first | refine RunsF.apf (h0 _ hs) rfl ?_ | refine RunsF.apf (h1 _) rfl ?_ | fail)
    | ((with_reducible refine RunsD.go ?_); first | refine RunsF.apd (h0 _ hs) rfl ?_ | refine RunsF.apd (h1 _) rfl ?_ | fail)
    | ((with_reducible refine Gd.go ?_); refine Gd.on (fun hg => ?_) (fun hg => ?_) <;> refine TGdt ?_ <;> (try simp only [HC] at hg))
    | ((with_reducible refine Fin.go ?_); first | (refine Fin.p ?_; first | exact FT | (try refine TTdt ?_; try simp only [LF])) | refine Fin.a0 ?_ | refine Fin.a ?_ | refine Fin.ni ?_ | refine Fin.v ?_ ?_ | refine Fin.r ?_ ?_ | exact Fin.th | (refine Fin.t ?_; try simp only [AV.sl.injEq]))
    | (refine And.go ?_; refine AndI ?_)
    | fail)
  all_goals (try clear ih)
  all_goals (try dsimp only)
  all_goals (repeat' apply And.intro)
  all_goals first | omega | (simp only [ZL]; omega) | skip
  all_goals first | (intro _; exact (‹_ ∧ isCand w = true› : _ ∧ _).2) | (rw [fst2, if_pos ‹kept _ = true›, ← hi2]; simp only []; first | rw [if_pos hc] | rw [if_neg (by omega)]; done) | (rw [fst2, if_neg (by rw [hc]; decide), ← hi2]; done) | (revert hi4; intro hi4; omega) | (exact Int.le_trans (by decide) (Int.natCast_nonneg i)) | (exact Int.ofNat_lt.mpr (Nat.lt_succ_self i)) | exact Int.lt_trans ‹_› (Int.ofNat_lt.mpr (Nat.lt_succ_self i)) | skip
  have hD := brk_fin hi2 hi3 hi1 (hc.imp (fun h => by omega) id)
  have hm : max 0 f = ((f.toNat : Nat) : Int) := by omega
  rw [hm]
  clear hi2 hi3 hc
  have hz := cnk_le w f.toNat
  generalize hg0 : f.toNat = g at *
  refine S.loopV (σ := Nat × Nat) [1, 4, 6, 7] (fun s => [(6, .int .i64 (s.2 : Int)), (7, .int .i64 (s.1 : Int))]) (fun s => s.2 + cnk w g = cnk w s.1 ∧ g ≤ s.1 ∧ s.1 ≤ l.toNat ∧ s.2 ≤ s.1) (fun s => n) (fun s => H) (fun s => l.toNat - s.1) (g, 0) (⟨by simp, by omega, by omega, by omega⟩) ?_
  rintro ⟨j, q⟩ ⟨hi1, hi2, hi3, hi4⟩ ih
  try dsimp only at hi1 hi2 hi3 hi4
  repeat' (first
    | ((with_reducible refine S.go ?_); first | refine S.seq ?_ | refine S.skip ?_ | refine S.block ?_ | refine S.inBlock ?_ | refine S.exit rfl ?_ | refine S.regN ?_ | refine S.reg ?_ | refine S.drw hk.mo (by kernel_rfl) ?_ | refine S.ag (ih ((j + 1, _)) ?_ ?_) | (refine S.cond rfl (fun hc => ?_) (fun hc => ?_) <;> try simp only [HC] at hc) | refine S.retH hr rfl ?_ | refine S.finH hr rfl ?_ | (refine S.retK hr ?_; refine TRdt ?_) | fail)
    | ((first | with_reducible refine Ns.go ?_ | with_reducible refine XOs.go ?_ | with_reducible refine XDs.go ?_ | with_reducible refine OK.go ?_); (first | refine TTdt ?_ | (apply Ns.sc ⟨rfl, rfl⟩ rfl; intro hg) | (refine OK.tr ?_; refine TTdt ?_)); (try simp only [HC] at hg))
    | with_reducible exact rfl | exact ⟨rfl, rfl, rfl⟩
    | ((with_reducible refine RunsT.go ?_); first | refine RunsF.apf (h1 _) rfl ?_ | fail)
    | ((with_reducible refine RunsD.go ?_); first | refine RunsF.apd (h1 _) rfl ?_ | fail)
    | ((with_reducible refine Gd.go ?_); refine Gd.on (fun hg => ?_) (fun hg => ?_) <;> refine TGdt ?_ <;> (try simp only [HC] at hg))
    | ((with_reducible refine Fin.go ?_); first | (refine Fin.p ?_; first | exact FT | (try refine TTdt ?_; try simp only [LF])) | refine Fin.a0 ?_ | refine Fin.a ?_ | refine Fin.ni ?_ | refine Fin.v ?_ ?_ | refine Fin.r ?_ ?_ | exact Fin.th | (refine Fin.t ?_; try simp only [AV.sl.injEq]))
    | (refine And.go ?_; refine AndI ?_)
    | fail)
  all_goals (try clear ih)
  all_goals (try dsimp only)
  all_goals (repeat' apply And.intro)
  all_goals first | omega | (simp only [ZL]; omega) | skip
  all_goals (try clear hr hk hB)
  all_goals first | (rw [cnk, if_neg (by rw [hc]; decide)]; omega) | (rw [cnk, if_pos hc]; omega) | skip
  rcases hD with ⟨h1, h2, h3⟩ | ⟨h1, h2, h3, h4⟩
  · have : j = g := by omega
    subst this; omega
  · have : j = l.toNat := by omega
    subst this; omega
end Go.G06
end
