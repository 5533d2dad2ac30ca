/- Data of Go's: sizes, copies, equality, by value. Over any program. -/
import Derived.Test.YtobhjgipeepmoaaAbSiz
namespace Go.D01
open Go.Ab Siz 
set_option linter.unusedVariables false
set_option linter.unusedSimpArgs false
set_option maxRecDepth 2000
/-- laws.szIntS -/
def w_szIntS.x : XCode :=
  (.seq
    (.reg [⟨(some 4), .mv, [.k (.int .i64 0)], none⟩] [0, 1])
    (.seq
      (.reg [⟨(some 5), .mv, [.t 1], none⟩,
        ⟨(some 6), .mv, [.t 0], none⟩,
        ⟨(some 7), .lenL, [.t 6], none⟩,
        ⟨(some 8), (.bin .sub), [.t 5, .t 7], none⟩,
        ⟨(some 1), .mv, [.t 8], none⟩] [1])
      (.seq
        (.seq
          (.reg [⟨(some 9), .mv, [.t 1], none⟩,
            ⟨(some 10), (.bin .lss), [.t 9, .k (.int .i64 0)], none⟩] [1, 10])
          (.cond (.t 10)
            (.seq
              (.reg [⟨(some 4), .mv, [.k (.int .i64 (-1))], none⟩] [4])
              .ret)
            .skip))
        (.seq
          (.reg [⟨(some 11), .mv, [.t 1], none⟩,
            ⟨(some 4), .mv, [.t 11], none⟩] [4])
          .ret))))
def w_szIntS.F : Cfg := ⟨fun _ => 0, fun r => match r with | 0 => [0, 1] | 1 => [1] | 2 => [1, 10] | 3 => [4] | 4 => [4] | _ => []⟩
def w_szIntS.X : FX := ⟨12, [.tmp 4], w_szIntS.F, w_szIntS.x⟩

theorem w_szIntS.ok {P : Program} {k : Nat} (hk : Has P k (w_szIntS.X)) : C_szS Int P k := by
  intro l a hl ha1 ha2 n H
  obtain ⟨hl1, hl2⟩ := hl
  unfold mxi at hl1
  refine S.ofX hk rfl fun hB fn hr => ?_
  unfold w_szIntS.x
  repeat' (first
    | refine S.seq ?_ | refine S.skip ?_ | refine S.block ?_ | refine S.inBlock ?_ | refine S.exit rfl ?_ | refine S.regN ?_ | refine S.reg ?_ | refine S.drw hk.mo (by kernel_rfl) ?_
    | ((first | refine Ns.go ?_ | refine XOs.go ?_ | refine XDs.go ?_ | refine OK.go ?_); (first | refine TTdt ?_ | (apply Ns.sc ⟨rfl, rfl⟩ rfl; intro hg) | (refine OK.tr ?_; refine TTdt ?_)); (try simp only [HC] at hg))
    | with_reducible exact rfl | exact ⟨rfl, rfl, rfl⟩
    | (refine S.cond rfl (fun hc => ?_) (fun hc => ?_) <;> try simp only [HC] at hc)
    | (refine Gd.on (fun hg => ?_) (fun hg => ?_) <;> refine TGdt ?_ <;> (try simp only [HC] at hg))
    | refine S.retH hr rfl ?_ | refine S.finH hr rfl ?_ | (refine S.retK hr ?_; refine TRdt ?_)
    | (refine Fin.go ?_; first | (refine Fin.p ?_; first | exact FT | (try refine TTdt ?_; try simp only [LF])) | refine Fin.a0 ?_ | refine Fin.a ?_ | refine Fin.ni ?_ | refine Fin.v ?_ ?_ | refine Fin.r ?_ ?_ | exact Fin.th | (refine Fin.t ?_; try simp only [AV.sl.injEq]))
    | (refine And.go ?_; refine AndI ?_)
    | fail)
  all_goals first | exact (szS_neg hc).symm | exact (szS_0 hc).symm
/-- laws.toIntS -/
def w_toIntS.x : XCode :=
  (.seq
    (.reg [⟨(some 2), .mv, [.k (.nilsl)], none⟩] [0])
    (.seq
      (.reg [⟨(some 5), .mv, [.t 0], none⟩,
        ⟨(some 6), .lenL, [.t 5], none⟩,
        ⟨(some 7), (.mks 2 1 8 [.int .i64 0]), [.t 6, .t 6], none⟩,
        ⟨(some 3), .mv, [.t 7], none⟩] [0, 3])
      (.seq
        (.seq
          (.reg [⟨(some 4), .mv, [.k (.int .i64 0)], none⟩] [0, 3, 4])
          (.block 0
            (.loop
              (.seq
                (.seq
                  (.reg [⟨(some 8), .mv, [.t 4], none⟩,
                    ⟨(some 9), .mv, [.t 0], none⟩,
                    ⟨(some 10), .lenL, [.t 9], none⟩,
                    ⟨(some 11), (.bin .lss), [.t 8, .t 10], none⟩] [0, 3, 4, 11])
                  (.cond (.t 11)
                    .skip
                    (.exit 0)))
                (.seq
                  (.block 1
                    (.reg [⟨(some 14), .mv, [.t 3], none⟩,
                      ⟨(some 15), .mv, [.t 4], none⟩,
                      ⟨(some 16), .mv, [.t 0], none⟩,
                      ⟨(some 17), .mv, [.t 4], none⟩,
                      ⟨(some 18), (.idxA 1), [.t 16, .t 17], none⟩,
                      ⟨(some 19), (.ld none), [.t 18], none⟩,
                      ⟨(some 20), (.idxA 1), [.t 14, .t 15], none⟩,
                      ⟨none, (.st none), [.t 20, .t 19], none⟩] [0, 3, 4]))
                  (.reg [⟨(some 12), .mv, [.t 4], none⟩,
                    ⟨(some 13), (.bin .add), [.t 12, .k (.int .i64 1)], none⟩,
                    ⟨(some 4), .mv, [.t 13], none⟩] [0, 3, 4]))))))
        (.seq
          (.reg [⟨(some 21), .mv, [.t 3], none⟩,
            ⟨(some 2), .mv, [.t 21], none⟩] [2])
          .ret))))
def w_toIntS.F : Cfg := ⟨fun d => if d = 7 then 2 else 0, fun r => match r with | 0 => [0] | 1 => [0, 3] | 2 => [0, 3, 4] | 3 => [0, 3, 4, 11] | 4 => [0, 3, 4] | 5 => [0, 3, 4] | 6 => [2] | _ => []⟩
def w_toIntS.X : FX := ⟨22, [.tmp 2], w_toIntS.F, w_toIntS.x⟩

theorem w_toIntS.ok {P : Program} {k : Nat} (hk : Has P k (w_toIntS.X)) : C_toS Int P k := by
  intro l hl n H
  obtain ⟨hl1, hl2⟩ := hl
  unfold mxs at hl1
  refine S.ofX hk rfl fun hB fn hr => ?_
  unfold w_toIntS.x
  repeat' (first
    | refine S.seq ?_ | refine S.skip ?_ | refine S.block ?_ | refine S.inBlock ?_ | refine S.exit rfl ?_ | refine S.regN ?_ | refine S.reg ?_ | refine S.drw hk.mo (by kernel_rfl) ?_
    | ((first | refine Ns.go ?_ | refine XOs.go ?_ | refine XDs.go ?_ | refine OK.go ?_); (first | refine TTdt ?_ | (apply Ns.sc ⟨rfl, rfl⟩ rfl; intro hg) | (refine OK.tr ?_; refine TTdt ?_)); (try simp only [HC] at hg))
    | with_reducible exact rfl | exact ⟨rfl, rfl, rfl⟩
    | (refine S.cond rfl (fun hc => ?_) (fun hc => ?_) <;> try simp only [HC] at hc)
    | (refine Gd.on (fun hg => ?_) (fun hg => ?_) <;> refine TGdt ?_ <;> (try simp only [HC] at hg))
    | refine S.retH hr rfl ?_ | refine S.finH hr rfl ?_ | (refine S.retK hr ?_; refine TRdt ?_)
    | (refine Fin.go ?_; first | (refine Fin.p ?_; first | exact FT | (try refine TTdt ?_; try simp only [LF])) | refine Fin.a0 ?_ | refine Fin.a ?_ | refine Fin.ni ?_ | refine Fin.v ?_ ?_ | refine Fin.r ?_ ?_ | exact Fin.th | (refine Fin.t ?_; try simp only [AV.sl.injEq]))
    | (refine And.go ?_; refine AndI ?_)
    | fail)
  refine S.loopV (σ := Nat × (List AV)) [0, 3, 4] (fun s => [(3, .ref n 1 0 l.length), (4, .int .i64 (s.1 : Int))]) (fun s => s.1 ≤ l.length ∧ s.2.length = l.length * 1 ∧ s.2.take (s.1 * 1) = (enc (l.take s.1)).flatten) (fun s => n + 1) (fun s => (n, .own s.2) :: H) (fun s => l.length - s.1) (0, _) (⟨by omega, ?_, fc_0⟩) ?_
  · first | rfl | omega | (simp; done) | (simp; omega) | skip
  rintro ⟨i, out⟩ ⟨hi1, hi2, hi3⟩ ih
  try dsimp only at hi1 hi2 hi3
  repeat' (first
    | refine S.seq ?_ | refine S.skip ?_ | refine S.block ?_ | refine S.inBlock ?_ | refine S.exit rfl ?_ | refine S.regN ?_ | refine S.reg ?_ | refine S.drw hk.mo (by kernel_rfl) ?_
    | ((first | refine Ns.go ?_ | refine XOs.go ?_ | refine XDs.go ?_ | refine OK.go ?_); (first | refine TTdt ?_ | (apply Ns.sc ⟨rfl, rfl⟩ rfl; intro hg) | (refine OK.tr ?_; refine TTdt ?_)); (try simp only [HC] at hg))
    | with_reducible exact rfl | exact ⟨rfl, rfl, rfl⟩
    | (refine Fin.fc hi3 (by omega) hi2)
    | refine S.ag (ih ((i + 1, _)) ?_ ?_)
    | (refine S.cond rfl (fun hc => ?_) (fun hc => ?_) <;> try simp only [HC] at hc)
    | (refine Gd.on (fun hg => ?_) (fun hg => ?_) <;> refine TGdt ?_ <;> (try simp only [HC] at hg))
    | refine S.retH hr rfl ?_ | refine S.finH hr rfl ?_ | (refine S.retK hr ?_; refine TRdt ?_)
    | (refine Fin.go ?_; first | (refine Fin.p ?_; first | exact FT | (try refine TTdt ?_; try simp only [LF])) | refine Fin.a0 ?_ | refine Fin.a ?_ | refine Fin.ni ?_ | refine Fin.v ?_ ?_ | refine Fin.r ?_ ?_ | exact Fin.th | (refine Fin.t ?_; try simp only [AV.sl.injEq]))
    | (refine And.go ?_; refine AndI ?_)
    | fail)
  all_goals (try clear ih)
  all_goals (try dsimp only)
  all_goals (repeat' apply And.intro)
  all_goals first | omega | (simp only [ZL]; omega) | skip
  all_goals (try clear hr hk hB)
  all_goals first | exact fc_len hi2 (by omega) rfl | exact fc_next hi3 hi2 (by omega) rfl rfl
/-- laws.eqIntS -/
def w_eqIntS.x : XCode :=
  (.seq
    (.reg [⟨(some 4), .mv, [.k (.bool false)], none⟩] [0, 1])
    (.seq
      (.seq
        (.reg [⟨(some 6), .mv, [.t 0], none⟩,
          ⟨(some 7), .lenL, [.t 6], none⟩,
          ⟨(some 8), .mv, [.t 1], none⟩,
          ⟨(some 9), .lenL, [.t 8], none⟩,
          ⟨(some 10), (.bin .neq), [.t 7, .t 9], none⟩] [0, 1, 10])
        (.cond (.t 10)
          (.seq
            (.reg [⟨(some 4), .mv, [.k (.bool false)], none⟩] [4])
            .ret)
          .skip))
      (.seq
        (.seq
          (.reg [⟨(some 5), .mv, [.k (.int .i64 0)], none⟩] [0, 1, 5])
          (.block 0
            (.loop
              (.seq
                (.seq
                  (.reg [⟨(some 11), .mv, [.t 5], none⟩,
                    ⟨(some 12), .mv, [.t 0], none⟩,
                    ⟨(some 13), .lenL, [.t 12], none⟩,
                    ⟨(some 14), (.bin .lss), [.t 11, .t 13], none⟩] [0, 1, 5, 14])
                  (.cond (.t 14)
                    .skip
                    (.exit 0)))
                (.seq
                  (.block 1
                    (.seq
                      (.drw [(⟨(some 17), .mv, [.t 0], none⟩, []),
                        (⟨(some 18), .mv, [.t 5], none⟩, []),
                        (⟨(some 19), (.idxA 1), [.t 17, .t 18], none⟩, [0, 1]),
                        (⟨(some 20), (.ld none), [.t 19], none⟩, [2]),
                        (⟨(some 21), .mv, [.t 1], none⟩, []),
                        (⟨(some 22), .mv, [.t 5], none⟩, []),
                        (⟨(some 23), (.idxA 1), [.t 21, .t 22], none⟩, [4, 5]),
                        (⟨(some 24), (.ld none), [.t 23], none⟩, [6]),
                        (⟨(some 25), (.bin .neq), [.t 20, .t 24], none⟩, [3, 7])] [0, 1, 5, 25] [0, 0, 0, 0, 0, 0, 0, 0, 0])
                      (.cond (.t 25)
                        (.seq
                          (.reg [⟨(some 4), .mv, [.k (.bool false)], none⟩] [4])
                          .ret)
                        .skip)))
                  (.reg [⟨(some 15), .mv, [.t 5], none⟩,
                    ⟨(some 16), (.bin .add), [.t 15, .k (.int .i64 1)], none⟩,
                    ⟨(some 5), .mv, [.t 16], none⟩] [0, 1, 5]))))))
        (.seq
          (.reg [⟨(some 4), .mv, [.k (.bool true)], none⟩] [4])
          .ret))))
def w_eqIntS.F : Cfg := ⟨fun _ => 0, fun r => match r with | 0 => [0, 1] | 1 => [0, 1, 10] | 2 => [4] | 3 => [0, 1, 5] | 4 => [0, 1, 5, 14] | 5 => [0, 1, 5] | 6 => [0, 1, 5, 25] | 7 => [4] | 8 => [4] | 1000006 => [0, 0, 0, 0, 0, 0, 0, 0, 0] | _ => []⟩
def w_eqIntS.X : FX := ⟨26, [.tmp 4], w_eqIntS.F, w_eqIntS.x⟩

theorem w_eqIntS.ok {P : Program} {k : Nat} (hk : Has P k (w_eqIntS.X)) : C_eqS Int P k := by
  intro l m hl hm n H
  obtain ⟨hl1, hl2⟩ := hl
  obtain ⟨hm1, hm2⟩ := hm
  unfold mxs at hl1 hm1
  refine S.ofX hk rfl fun hB fn hr => ?_
  unfold w_eqIntS.x
  repeat' (first
    | refine S.seq ?_ | refine S.skip ?_ | refine S.block ?_ | refine S.inBlock ?_ | refine S.exit rfl ?_ | refine S.regN ?_ | refine S.reg ?_ | refine S.drw hk.mo (by kernel_rfl) ?_
    | ((first | refine Ns.go ?_ | refine XOs.go ?_ | refine XDs.go ?_ | refine OK.go ?_); (first | refine TTdt ?_ | (apply Ns.sc ⟨rfl, rfl⟩ rfl; intro hg) | (refine OK.tr ?_; refine TTdt ?_)); (try simp only [HC] at hg))
    | with_reducible exact rfl | exact ⟨rfl, rfl, rfl⟩
    | (refine S.cond rfl (fun hc => ?_) (fun hc => ?_) <;> try simp only [HC] at hc)
    | (refine Gd.on (fun hg => ?_) (fun hg => ?_) <;> refine TGdt ?_ <;> (try simp only [HC] at hg))
    | refine S.retH hr rfl ?_ | refine S.finH hr rfl ?_ | (refine S.retK hr ?_; refine TRdt ?_)
    | (refine Fin.go ?_; first | (refine Fin.p ?_; first | exact FT | (try refine TTdt ?_; try simp only [LF])) | refine Fin.a0 ?_ | refine Fin.a ?_ | refine Fin.ni ?_ | refine Fin.v ?_ ?_ | refine Fin.r ?_ ?_ | exact Fin.th | (refine Fin.t ?_; try simp only [AV.sl.injEq]))
    | (refine And.go ?_; refine AndI ?_)
    | fail)
  · exact (decL (by omega)).symm
  refine S.loopV (σ := Nat) [0, 1, 5] (fun s => [(5, .int .i64 (s : Int))]) (fun s => s ≤ l.length ∧ ∀ j, j < s → l.getD j default = m.getD j default) (fun s => n) (fun s => H) (fun s => l.length - s) (0) (⟨by omega, ?_⟩) ?_
  · first | rfl | omega | (simp; done) | (simp; omega) | skip
  rintro i ⟨hi1, hi2⟩ ih
  try dsimp only at hi1 hi2
  repeat' (first
    | refine S.seq ?_ | refine S.skip ?_ | refine S.block ?_ | refine S.inBlock ?_ | refine S.exit rfl ?_ | refine S.regN ?_ | refine S.reg ?_ | refine S.drw hk.mo (by kernel_rfl) ?_
    | ((first | refine Ns.go ?_ | refine XOs.go ?_ | refine XDs.go ?_ | refine OK.go ?_); (first | refine TTdt ?_ | (apply Ns.sc ⟨rfl, rfl⟩ rfl; intro hg) | (refine OK.tr ?_; refine TTdt ?_)); (try simp only [HC] at hg))
    | with_reducible exact rfl | exact ⟨rfl, rfl, rfl⟩
    | refine S.ag (ih (i + 1) ?_ ?_)
    | (refine S.cond rfl (fun hc => ?_) (fun hc => ?_) <;> try simp only [HC] at hc)
    | (refine Gd.on (fun hg => ?_) (fun hg => ?_) <;> refine TGdt ?_ <;> (try simp only [HC] at hg))
    | refine S.retH hr rfl ?_ | refine S.finH hr rfl ?_ | (refine S.retK hr ?_; refine TRdt ?_)
    | (refine Fin.go ?_; first | (refine Fin.p ?_; first | exact FT | (try refine TTdt ?_; try simp only [LF])) | refine Fin.a0 ?_ | refine Fin.a ?_ | refine Fin.ni ?_ | refine Fin.v ?_ ?_ | refine Fin.r ?_ ?_ | exact Fin.th | (refine Fin.t ?_; try simp only [AV.sl.injEq]))
    | (refine And.go ?_; refine AndI ?_)
    | fail)
  all_goals (try clear ih)
  all_goals (try dsimp only)
  all_goals (repeat' apply And.intro)
  all_goals first | omega | (simp only [ZL]; omega) | skip
  all_goals (try clear hr hk hB)
  all_goals first | (exact (decG hc).symm) | (exact (decA (by omega) (fun j hj => hi2 j (by omega))).symm) | (exact decN hi2 hc)
/-- laws.szIntSS -/
def w_szIntSS.x (c_w_szIntS : Nat) : XCode :=
  (.seq
    (.reg [⟨(some 4), .mv, [.k (.int .i64 0)], none⟩] [0, 1])
    (.seq
      (.reg [⟨(some 6), .mv, [.t 1], none⟩,
        ⟨(some 7), .mv, [.t 0], none⟩,
        ⟨(some 8), .lenL, [.t 7], none⟩,
        ⟨(some 9), (.bin .sub), [.t 6, .t 8], none⟩,
        ⟨(some 1), .mv, [.t 9], none⟩] [0, 1])
      (.seq
        (.seq
          (.reg [⟨(some 10), .mv, [.t 1], none⟩,
            ⟨(some 11), (.bin .lss), [.t 10, .k (.int .i64 0)], none⟩] [0, 1, 11])
          (.cond (.t 11)
            (.seq
              (.reg [⟨(some 4), .mv, [.k (.int .i64 (-1))], none⟩] [4])
              .ret)
            .skip))
        (.seq
          (.seq
            (.reg [⟨(some 5), .mv, [.k (.int .i64 0)], none⟩] [0, 1, 5])
            (.block 0
              (.loop
                (.seq
                  (.seq
                    (.reg [⟨(some 12), .mv, [.t 5], none⟩,
                      ⟨(some 13), .mv, [.t 0], none⟩,
                      ⟨(some 14), .lenL, [.t 13], none⟩,
                      ⟨(some 15), (.bin .lss), [.t 12, .t 14], none⟩] [0, 1, 5, 15])
                    (.cond (.t 15)
                      .skip
                      (.exit 0)))
                  (.seq
                    (.block 1
                      (.seq
                        (.reg [⟨(some 18), .mv, [.t 0], none⟩,
                          ⟨(some 19), .mv, [.t 5], none⟩,
                          ⟨(some 20), (.idxA 1), [.t 18, .t 19], none⟩,
                          ⟨(some 21), (.ld none), [.t 20], none⟩,
                          ⟨(some 22), .mv, [.t 1], none⟩,
                          ⟨(some 23), .call, [.k (.fn c_w_szIntS []), .t 21, .t 22], none⟩,
                          ⟨(some 1), .mv, [.t 23], none⟩] [0, 1, 5])
                        (.seq
                          (.reg [⟨(some 24), .mv, [.t 1], none⟩,
                            ⟨(some 25), (.bin .lss), [.t 24, .k (.int .i64 0)], none⟩] [0, 1, 5, 25])
                          (.cond (.t 25)
                            (.seq
                              (.reg [⟨(some 4), .mv, [.k (.int .i64 (-1))], none⟩] [4])
                              .ret)
                            .skip))))
                    (.reg [⟨(some 16), .mv, [.t 5], none⟩,
                      ⟨(some 17), (.bin .add), [.t 16, .k (.int .i64 1)], none⟩,
                      ⟨(some 5), .mv, [.t 17], none⟩] [0, 1, 5]))))))
          (.seq
            (.reg [⟨(some 26), .mv, [.t 1], none⟩,
              ⟨(some 4), .mv, [.t 26], none⟩] [4])
            .ret)))))
def w_szIntSS.F : Cfg := ⟨fun _ => 0, fun r => match r with | 0 => [0, 1] | 1 => [0, 1] | 2 => [0, 1, 11] | 3 => [4] | 4 => [0, 1, 5] | 5 => [0, 1, 5, 15] | 6 => [0, 1, 5] | 7 => [0, 1, 5] | 8 => [0, 1, 5, 25] | 9 => [4] | 10 => [4] | _ => []⟩
def w_szIntSS.X (c_w_szIntS : Nat) : FX := ⟨27, [.tmp 4], w_szIntSS.F, w_szIntSS.x c_w_szIntS⟩

theorem w_szIntSS.ok {P : Program} {k c_w_szIntS : Nat} (hk : Has P k (w_szIntSS.X c_w_szIntS)) (h1 : C_szS Int P c_w_szIntS) : C_szS (List Int) P k := by
  intro l a hl ha1 ha2 n H
  obtain ⟨hl1, hl2⟩ := hl
  unfold mxi at hl1
  refine S.ofX hk rfl fun hB fn hr => ?_
  unfold w_szIntSS.x
  repeat' (first
    | refine S.seq ?_ | refine S.skip ?_ | refine S.block ?_ | refine S.inBlock ?_ | refine S.exit rfl ?_ | refine S.regN ?_ | refine S.reg ?_ | refine S.drw hk.mo (by kernel_rfl) ?_
    | ((first | refine Ns.go ?_ | refine XOs.go ?_ | refine XDs.go ?_ | refine OK.go ?_); (first | refine TTdt ?_ | (apply Ns.sc ⟨rfl, rfl⟩ rfl; intro hg) | (refine OK.tr ?_; refine TTdt ?_)); (try simp only [HC] at hg))
    | with_reducible exact rfl | exact ⟨rfl, rfl, rfl⟩
    | (refine S.cond rfl (fun hc => ?_) (fun hc => ?_) <;> try simp only [HC] at hc)
    | (refine Gd.on (fun hg => ?_) (fun hg => ?_) <;> refine TGdt ?_ <;> (try simp only [HC] at hg))
    | refine S.retH hr rfl ?_ | refine S.finH hr rfl ?_ | (refine S.retK hr ?_; refine TRdt ?_)
    | (refine Fin.go ?_; first | (refine Fin.p ?_; first | exact FT | (try refine TTdt ?_; try simp only [LF])) | refine Fin.a0 ?_ | refine Fin.a ?_ | refine Fin.ni ?_ | refine Fin.v ?_ ?_ | refine Fin.r ?_ ?_ | exact Fin.th | (refine Fin.t ?_; try simp only [AV.sl.injEq]))
    | (refine And.go ?_; refine AndI ?_)
    | fail)
  · exact (szS_neg hc).symm
  refine S.loopV (σ := Nat × Int) [0, 1, 5] (fun s => [(1, .int .i64 s.2), (5, .int .i64 (s.1 : Int))]) (fun s => s.1 ≤ l.length ∧ 0 ≤ s.2 ∧ s.2 ≤ 1048576 ∧ szl (l.drop s.1) s.2 = sz l a) (fun s => n) (fun s => H) (fun s => l.length - s.1) (0, (a - l.length)) (⟨by omega, by omega, by omega, szS_init (by omega)⟩) ?_
  rintro ⟨i, b⟩ ⟨hi1, hi2, hi3, hi4⟩ ih
  try dsimp only at hi1 hi2 hi3 hi4
  repeat' (first
    | refine S.seq ?_ | refine S.skip ?_ | refine S.block ?_ | refine S.inBlock ?_ | refine S.exit rfl ?_ | refine S.regN ?_ | refine S.reg ?_ | refine S.drw hk.mo (by kernel_rfl) ?_
    | ((first | refine Ns.go ?_ | refine XOs.go ?_ | refine XDs.go ?_ | refine OK.go ?_); (first | refine TTdt ?_ | (apply Ns.sc ⟨rfl, rfl⟩ rfl; intro hg) | (refine OK.tr ?_; refine TTdt ?_)); (try simp only [HC] at hg))
    | with_reducible exact rfl | exact ⟨rfl, rfl, rfl⟩
    | refine S.ag (ih ((i + 1, _)) ?_ ?_)
    | refine RunsF.apf (h1 _ _ (ok_at hl2 (by omega)) (by omega) (by omega)) rfl ?_ | refine RunsF.apd (h1 _ _ (ok_at hl2 (by omega)) (by omega) (by omega)) rfl ?_
    | (refine S.cond rfl (fun hc => ?_) (fun hc => ?_) <;> try simp only [HC] at hc)
    | (refine Gd.on (fun hg => ?_) (fun hg => ?_) <;> refine TGdt ?_ <;> (try simp only [HC] at hg))
    | refine S.retH hr rfl ?_ | refine S.finH hr rfl ?_ | (refine S.retK hr ?_; refine TRdt ?_)
    | (refine Fin.go ?_; first | (refine Fin.p ?_; first | exact FT | (try refine TTdt ?_; try simp only [LF])) | refine Fin.a0 ?_ | refine Fin.a ?_ | refine Fin.ni ?_ | refine Fin.v ?_ ?_ | refine Fin.r ?_ ?_ | exact Fin.th | (refine Fin.t ?_; try simp only [AV.sl.injEq]))
    | (refine And.go ?_; refine AndI ?_)
    | fail)
  all_goals (try clear ih)
  all_goals (try dsimp only)
  all_goals (repeat' apply And.intro)
  all_goals first | omega | (simp only [ZL]; omega) | skip
  all_goals (try clear hr hk hB)
  all_goals first | exact (szS_stop hi4 (by omega) hc (by omega)).symm | exact szS_end hi4 (by omega) | exact szS_next hi4 (by omega) | exact Int.le_trans (up _ _ (by omega)) (by omega)
/-- laws.toIntSS -/
def w_toIntSS.x (c_w_toIntS : Nat) : XCode :=
  (.seq
    (.reg [⟨(some 2), .mv, [.k (.nilsl)], none⟩] [0])
    (.seq
      (.reg [⟨(some 5), .mv, [.t 0], none⟩,
        ⟨(some 6), .lenL, [.t 5], none⟩,
        ⟨(some 7), (.mks 2 1 24 [.nilsl]), [.t 6, .t 6], none⟩,
        ⟨(some 3), .mv, [.t 7], none⟩] [0, 3])
      (.seq
        (.seq
          (.reg [⟨(some 4), .mv, [.k (.int .i64 0)], none⟩] [0, 3, 4])
          (.block 0
            (.loop
              (.seq
                (.seq
                  (.reg [⟨(some 8), .mv, [.t 4], none⟩,
                    ⟨(some 9), .mv, [.t 0], none⟩,
                    ⟨(some 10), .lenL, [.t 9], none⟩,
                    ⟨(some 11), (.bin .lss), [.t 8, .t 10], none⟩] [0, 3, 4, 11])
                  (.cond (.t 11)
                    .skip
                    (.exit 0)))
                (.seq
                  (.block 1
                    (.reg [⟨(some 14), .mv, [.t 3], none⟩,
                      ⟨(some 15), .mv, [.t 4], none⟩,
                      ⟨(some 16), .mv, [.t 0], none⟩,
                      ⟨(some 17), .mv, [.t 4], none⟩,
                      ⟨(some 18), (.idxA 1), [.t 16, .t 17], none⟩,
                      ⟨(some 19), (.ld none), [.t 18], none⟩,
                      ⟨(some 20), .call, [.k (.fn c_w_toIntS []), .t 19], none⟩,
                      ⟨(some 21), (.idxA 1), [.t 14, .t 15], none⟩,
                      ⟨none, (.st none), [.t 21, .t 20], none⟩] [0, 3, 4]))
                  (.reg [⟨(some 12), .mv, [.t 4], none⟩,
                    ⟨(some 13), (.bin .add), [.t 12, .k (.int .i64 1)], none⟩,
                    ⟨(some 4), .mv, [.t 13], none⟩] [0, 3, 4]))))))
        (.seq
          (.reg [⟨(some 22), .mv, [.t 3], none⟩,
            ⟨(some 2), .mv, [.t 22], none⟩] [2])
          .ret))))
def w_toIntSS.F : Cfg := ⟨fun d => if d = 7 then 2 else 0, fun r => match r with | 0 => [0] | 1 => [0, 3] | 2 => [0, 3, 4] | 3 => [0, 3, 4, 11] | 4 => [0, 3, 4] | 5 => [0, 3, 4] | 6 => [2] | _ => []⟩
def w_toIntSS.X (c_w_toIntS : Nat) : FX := ⟨23, [.tmp 2], w_toIntSS.F, w_toIntSS.x c_w_toIntS⟩

theorem w_toIntSS.ok {P : Program} {k c_w_toIntS : Nat} (hk : Has P k (w_toIntSS.X c_w_toIntS)) (h1 : C_toS Int P c_w_toIntS) : C_toS (List Int) P k := by
  intro l hl n H
  obtain ⟨hl1, hl2⟩ := hl
  unfold mxs at hl1
  refine S.ofX hk rfl fun hB fn hr => ?_
  unfold w_toIntSS.x
  repeat' (first
    | refine S.seq ?_ | refine S.skip ?_ | refine S.block ?_ | refine S.inBlock ?_ | refine S.exit rfl ?_ | refine S.regN ?_ | refine S.reg ?_ | refine S.drw hk.mo (by kernel_rfl) ?_
    | ((first | refine Ns.go ?_ | refine XOs.go ?_ | refine XDs.go ?_ | refine OK.go ?_); (first | refine TTdt ?_ | (apply Ns.sc ⟨rfl, rfl⟩ rfl; intro hg) | (refine OK.tr ?_; refine TTdt ?_)); (try simp only [HC] at hg))
    | with_reducible exact rfl | exact ⟨rfl, rfl, rfl⟩
    | (refine S.cond rfl (fun hc => ?_) (fun hc => ?_) <;> try simp only [HC] at hc)
    | (refine Gd.on (fun hg => ?_) (fun hg => ?_) <;> refine TGdt ?_ <;> (try simp only [HC] at hg))
    | refine S.retH hr rfl ?_ | refine S.finH hr rfl ?_ | (refine S.retK hr ?_; refine TRdt ?_)
    | (refine Fin.go ?_; first | (refine Fin.p ?_; first | exact FT | (try refine TTdt ?_; try simp only [LF])) | refine Fin.a0 ?_ | refine Fin.a ?_ | refine Fin.ni ?_ | refine Fin.v ?_ ?_ | refine Fin.r ?_ ?_ | exact Fin.th | (refine Fin.t ?_; try simp only [AV.sl.injEq]))
    | (refine And.go ?_; refine AndI ?_)
    | fail)
  refine S.loopV (σ := Nat × (List AV)) [0, 3, 4] (fun s => [(3, .ref n 1 0 l.length), (4, .int .i64 (s.1 : Int))]) (fun s => s.1 ≤ l.length ∧ s.2.length = l.length * 1 ∧ s.2.take (s.1 * 1) = (enc (l.take s.1)).flatten) (fun s => n + 1) (fun s => (n, .own s.2) :: H) (fun s => l.length - s.1) (0, _) (⟨by omega, ?_, fc_0⟩) ?_
  · first | rfl | omega | (simp; done) | (simp; omega) | skip
  rintro ⟨i, out⟩ ⟨hi1, hi2, hi3⟩ ih
  try dsimp only at hi1 hi2 hi3
  repeat' (first
    | refine S.seq ?_ | refine S.skip ?_ | refine S.block ?_ | refine S.inBlock ?_ | refine S.exit rfl ?_ | refine S.regN ?_ | refine S.reg ?_ | refine S.drw hk.mo (by kernel_rfl) ?_
    | ((first | refine Ns.go ?_ | refine XOs.go ?_ | refine XDs.go ?_ | refine OK.go ?_); (first | refine TTdt ?_ | (apply Ns.sc ⟨rfl, rfl⟩ rfl; intro hg) | (refine OK.tr ?_; refine TTdt ?_)); (try simp only [HC] at hg))
    | with_reducible exact rfl | exact ⟨rfl, rfl, rfl⟩
    | (refine Fin.fc hi3 (by omega) hi2)
    | refine S.ag (ih ((i + 1, _)) ?_ ?_)
    | refine RunsF.apf (h1 _ (ok_at hl2 (by omega))) rfl ?_ | refine RunsF.apd (h1 _ (ok_at hl2 (by omega))) rfl ?_
    | (refine S.cond rfl (fun hc => ?_) (fun hc => ?_) <;> try simp only [HC] at hc)
    | (refine Gd.on (fun hg => ?_) (fun hg => ?_) <;> refine TGdt ?_ <;> (try simp only [HC] at hg))
    | refine S.retH hr rfl ?_ | refine S.finH hr rfl ?_ | (refine S.retK hr ?_; refine TRdt ?_)
    | (refine Fin.go ?_; first | (refine Fin.p ?_; first | exact FT | (try refine TTdt ?_; try simp only [LF])) | refine Fin.a0 ?_ | refine Fin.a ?_ | refine Fin.ni ?_ | refine Fin.v ?_ ?_ | refine Fin.r ?_ ?_ | exact Fin.th | (refine Fin.t ?_; try simp only [AV.sl.injEq]))
    | (refine And.go ?_; refine AndI ?_)
    | fail)
  all_goals (try clear ih)
  all_goals (try dsimp only)
  all_goals (repeat' apply And.intro)
  all_goals first | omega | (simp only [ZL]; omega) | skip
  all_goals (try clear hr hk hB)
  all_goals first | exact fc_len hi2 (by omega) rfl | exact fc_next hi3 hi2 (by omega) rfl rfl
/-- laws.eqIntSS -/
def w_eqIntSS.x (c_w_eqIntS : Nat) : XCode :=
  (.seq
    (.reg [⟨(some 4), .mv, [.k (.bool false)], none⟩] [0, 1])
    (.seq
      (.seq
        (.reg [⟨(some 6), .mv, [.t 0], none⟩,
          ⟨(some 7), .lenL, [.t 6], none⟩,
          ⟨(some 8), .mv, [.t 1], none⟩,
          ⟨(some 9), .lenL, [.t 8], none⟩,
          ⟨(some 10), (.bin .neq), [.t 7, .t 9], none⟩] [0, 1, 10])
        (.cond (.t 10)
          (.seq
            (.reg [⟨(some 4), .mv, [.k (.bool false)], none⟩] [4])
            .ret)
          .skip))
      (.seq
        (.seq
          (.reg [⟨(some 5), .mv, [.k (.int .i64 0)], none⟩] [0, 1, 5])
          (.block 0
            (.loop
              (.seq
                (.seq
                  (.reg [⟨(some 11), .mv, [.t 5], none⟩,
                    ⟨(some 12), .mv, [.t 0], none⟩,
                    ⟨(some 13), .lenL, [.t 12], none⟩,
                    ⟨(some 14), (.bin .lss), [.t 11, .t 13], none⟩] [0, 1, 5, 14])
                  (.cond (.t 14)
                    .skip
                    (.exit 0)))
                (.seq
                  (.block 1
                    (.seq
                      (.drw [(⟨(some 17), .mv, [.t 0], none⟩, []),
                        (⟨(some 18), .mv, [.t 5], none⟩, []),
                        (⟨(some 19), (.idxA 1), [.t 17, .t 18], none⟩, [0, 1]),
                        (⟨(some 20), (.ld none), [.t 19], none⟩, [2]),
                        (⟨(some 21), .mv, [.t 1], none⟩, []),
                        (⟨(some 22), .mv, [.t 5], none⟩, []),
                        (⟨(some 23), (.idxA 1), [.t 21, .t 22], none⟩, [4, 5]),
                        (⟨(some 24), (.ld none), [.t 23], none⟩, [6]),
                        (⟨(some 25), .call, [.k (.fn c_w_eqIntS []), .t 20, .t 24], none⟩, [3, 7]),
                        (⟨(some 26), (.un .not), [.t 25], none⟩, [8])] [0, 1, 5, 26] [0, 0, 0, 0, 0, 0, 0, 0, 0, 0])
                      (.cond (.t 26)
                        (.seq
                          (.reg [⟨(some 4), .mv, [.k (.bool false)], none⟩] [4])
                          .ret)
                        .skip)))
                  (.reg [⟨(some 15), .mv, [.t 5], none⟩,
                    ⟨(some 16), (.bin .add), [.t 15, .k (.int .i64 1)], none⟩,
                    ⟨(some 5), .mv, [.t 16], none⟩] [0, 1, 5]))))))
        (.seq
          (.reg [⟨(some 4), .mv, [.k (.bool true)], none⟩] [4])
          .ret))))
def w_eqIntSS.F : Cfg := ⟨fun _ => 0, fun r => match r with | 0 => [0, 1] | 1 => [0, 1, 10] | 2 => [4] | 3 => [0, 1, 5] | 4 => [0, 1, 5, 14] | 5 => [0, 1, 5] | 6 => [0, 1, 5, 26] | 7 => [4] | 8 => [4] | 1000006 => [0, 0, 0, 0, 0, 0, 0, 0, 0, 0] | _ => []⟩
def w_eqIntSS.X (c_w_eqIntS : Nat) : FX := ⟨27, [.tmp 4], w_eqIntSS.F, w_eqIntSS.x c_w_eqIntS⟩

theorem w_eqIntSS.ok {P : Program} {k c_w_eqIntS : Nat} (hk : Has P k (w_eqIntSS.X c_w_eqIntS)) (h1 : C_eqS Int P c_w_eqIntS) : C_eqS (List Int) P k := by
  intro l m hl hm n H
  obtain ⟨hl1, hl2⟩ := hl
  obtain ⟨hm1, hm2⟩ := hm
  unfold mxs at hl1 hm1
  refine S.ofX hk rfl fun hB fn hr => ?_
  unfold w_eqIntSS.x
  repeat' (first
    | refine S.seq ?_ | refine S.skip ?_ | refine S.block ?_ | refine S.inBlock ?_ | refine S.exit rfl ?_ | refine S.regN ?_ | refine S.reg ?_ | refine S.drw hk.mo (by kernel_rfl) ?_
    | ((first | refine Ns.go ?_ | refine XOs.go ?_ | refine XDs.go ?_ | refine OK.go ?_); (first | refine TTdt ?_ | (apply Ns.sc ⟨rfl, rfl⟩ rfl; intro hg) | (refine OK.tr ?_; refine TTdt ?_)); (try simp only [HC] at hg))
    | with_reducible exact rfl | exact ⟨rfl, rfl, rfl⟩
    | (refine S.cond rfl (fun hc => ?_) (fun hc => ?_) <;> try simp only [HC] at hc)
    | (refine Gd.on (fun hg => ?_) (fun hg => ?_) <;> refine TGdt ?_ <;> (try simp only [HC] at hg))
    | refine S.retH hr rfl ?_ | refine S.finH hr rfl ?_ | (refine S.retK hr ?_; refine TRdt ?_)
    | (refine Fin.go ?_; first | (refine Fin.p ?_; first | exact FT | (try refine TTdt ?_; try simp only [LF])) | refine Fin.a0 ?_ | refine Fin.a ?_ | refine Fin.ni ?_ | refine Fin.v ?_ ?_ | refine Fin.r ?_ ?_ | exact Fin.th | (refine Fin.t ?_; try simp only [AV.sl.injEq]))
    | (refine And.go ?_; refine AndI ?_)
    | fail)
  · exact (decL (by omega)).symm
  refine S.loopV (σ := Nat) [0, 1, 5] (fun s => [(5, .int .i64 (s : Int))]) (fun s => s ≤ l.length ∧ ∀ j, j < s → l.getD j default = m.getD j default) (fun s => n) (fun s => H) (fun s => l.length - s) (0) (⟨by omega, ?_⟩) ?_
  · first | rfl | omega | (simp; done) | (simp; omega) | skip
  rintro i ⟨hi1, hi2⟩ ih
  try dsimp only at hi1 hi2
  repeat' (first
    | refine S.seq ?_ | refine S.skip ?_ | refine S.block ?_ | refine S.inBlock ?_ | refine S.exit rfl ?_ | refine S.regN ?_ | refine S.reg ?_ | refine S.drw hk.mo (by kernel_rfl) ?_
    | ((first | refine Ns.go ?_ | refine XOs.go ?_ | refine XDs.go ?_ | refine OK.go ?_); (first | refine TTdt ?_ | (apply Ns.sc ⟨rfl, rfl⟩ rfl; intro hg) | (refine OK.tr ?_; refine TTdt ?_)); (try simp only [HC] at hg))
    | with_reducible exact rfl | exact ⟨rfl, rfl, rfl⟩
    | refine S.ag (ih (i + 1) ?_ ?_)
    | refine RunsF.apf (h1 _ _ (ok_at hl2 (by omega)) (ok_at hm2 (by omega))) rfl ?_ | refine RunsF.apd (h1 _ _ (ok_at hl2 (by omega)) (ok_at hm2 (by omega))) rfl ?_
    | (refine S.cond rfl (fun hc => ?_) (fun hc => ?_) <;> try simp only [HC] at hc)
    | (refine Gd.on (fun hg => ?_) (fun hg => ?_) <;> refine TGdt ?_ <;> (try simp only [HC] at hg))
    | refine S.retH hr rfl ?_ | refine S.finH hr rfl ?_ | (refine S.retK hr ?_; refine TRdt ?_)
    | (refine Fin.go ?_; first | (refine Fin.p ?_; first | exact FT | (try refine TTdt ?_; try simp only [LF])) | refine Fin.a0 ?_ | refine Fin.a ?_ | refine Fin.ni ?_ | refine Fin.v ?_ ?_ | refine Fin.r ?_ ?_ | exact Fin.th | (refine Fin.t ?_; try simp only [AV.sl.injEq]))
    | (refine And.go ?_; refine AndI ?_)
    | fail)
  all_goals (try clear ih)
  all_goals (try dsimp only)
  all_goals (repeat' apply And.intro)
  all_goals first | omega | (simp only [ZL]; omega) | skip
  all_goals (try clear hr hk hB)
  all_goals first | (exact (decG hc).symm) | (exact (decA (by omega) (fun j hj => hi2 j (by omega))).symm) | (exact decN hi2 hc)
/-- laws.szStringS -/
def w_szStringS.x : XCode :=
  (.seq
    (.reg [⟨(some 4), .mv, [.k (.int .i64 0)], none⟩] [0, 1])
    (.seq
      (.reg [⟨(some 6), .mv, [.t 1], none⟩,
        ⟨(some 7), .mv, [.t 0], none⟩,
        ⟨(some 8), .lenL, [.t 7], none⟩,
        ⟨(some 9), (.bin .sub), [.t 6, .t 8], none⟩,
        ⟨(some 1), .mv, [.t 9], none⟩] [0, 1])
      (.seq
        (.seq
          (.reg [⟨(some 10), .mv, [.t 1], none⟩,
            ⟨(some 11), (.bin .lss), [.t 10, .k (.int .i64 0)], none⟩] [0, 1, 11])
          (.cond (.t 11)
            (.seq
              (.reg [⟨(some 4), .mv, [.k (.int .i64 (-1))], none⟩] [4])
              .ret)
            .skip))
        (.seq
          (.seq
            (.reg [⟨(some 5), .mv, [.k (.int .i64 0)], none⟩] [0, 1, 5])
            (.block 0
              (.loop
                (.seq
                  (.seq
                    (.reg [⟨(some 12), .mv, [.t 5], none⟩,
                      ⟨(some 13), .mv, [.t 0], none⟩,
                      ⟨(some 14), .lenL, [.t 13], none⟩,
                      ⟨(some 15), (.bin .lss), [.t 12, .t 14], none⟩] [0, 1, 5, 15])
                    (.cond (.t 15)
                      .skip
                      (.exit 0)))
                  (.seq
                    (.block 1
                      (.seq
                        (.reg [⟨(some 18), .mv, [.t 1], none⟩,
                          ⟨(some 19), .mv, [.t 0], none⟩,
                          ⟨(some 20), .mv, [.t 5], none⟩,
                          ⟨(some 21), (.idxA 1), [.t 19, .t 20], none⟩,
                          ⟨(some 22), (.ld none), [.t 21], none⟩,
                          ⟨(some 23), .lenS, [.t 22], none⟩,
                          ⟨(some 24), (.bin .sub), [.t 18, .t 23], none⟩,
                          ⟨(some 1), .mv, [.t 24], none⟩] [0, 1, 5])
                        (.seq
                          (.reg [⟨(some 25), .mv, [.t 1], none⟩,
                            ⟨(some 26), (.bin .lss), [.t 25, .k (.int .i64 0)], none⟩] [0, 1, 5, 26])
                          (.cond (.t 26)
                            (.seq
                              (.reg [⟨(some 4), .mv, [.k (.int .i64 (-1))], none⟩] [4])
                              .ret)
                            .skip))))
                    (.reg [⟨(some 16), .mv, [.t 5], none⟩,
                      ⟨(some 17), (.bin .add), [.t 16, .k (.int .i64 1)], none⟩,
                      ⟨(some 5), .mv, [.t 17], none⟩] [0, 1, 5]))))))
          (.seq
            (.reg [⟨(some 27), .mv, [.t 1], none⟩,
              ⟨(some 4), .mv, [.t 27], none⟩] [4])
            .ret)))))
def w_szStringS.F : Cfg := ⟨fun _ => 0, fun r => match r with | 0 => [0, 1] | 1 => [0, 1] | 2 => [0, 1, 11] | 3 => [4] | 4 => [0, 1, 5] | 5 => [0, 1, 5, 15] | 6 => [0, 1, 5] | 7 => [0, 1, 5] | 8 => [0, 1, 5, 26] | 9 => [4] | 10 => [4] | _ => []⟩
def w_szStringS.X : FX := ⟨28, [.tmp 4], w_szStringS.F, w_szStringS.x⟩

theorem w_szStringS.ok {P : Program} {k : Nat} (hk : Has P k (w_szStringS.X)) : C_szS (List UInt8) P k := by
  intro l a hl ha1 ha2 n H
  obtain ⟨hl1, hl2⟩ := hl
  unfold mxi at hl1
  refine S.ofX hk rfl fun hB fn hr => ?_
  unfold w_szStringS.x
  repeat' (first
    | refine S.seq ?_ | refine S.skip ?_ | refine S.block ?_ | refine S.inBlock ?_ | refine S.exit rfl ?_ | refine S.regN ?_ | refine S.reg ?_ | refine S.drw hk.mo (by kernel_rfl) ?_
    | ((first | refine Ns.go ?_ | refine XOs.go ?_ | refine XDs.go ?_ | refine OK.go ?_); (first | refine TTdt ?_ | (apply Ns.sc ⟨rfl, rfl⟩ rfl; intro hg) | (refine OK.tr ?_; refine TTdt ?_)); (try simp only [HC] at hg))
    | with_reducible exact rfl | exact ⟨rfl, rfl, rfl⟩
    | (refine S.cond rfl (fun hc => ?_) (fun hc => ?_) <;> try simp only [HC] at hc)
    | (refine Gd.on (fun hg => ?_) (fun hg => ?_) <;> refine TGdt ?_ <;> (try simp only [HC] at hg))
    | refine S.retH hr rfl ?_ | refine S.finH hr rfl ?_ | (refine S.retK hr ?_; refine TRdt ?_)
    | (refine Fin.go ?_; first | (refine Fin.p ?_; first | exact FT | (try refine TTdt ?_; try simp only [LF])) | refine Fin.a0 ?_ | refine Fin.a ?_ | refine Fin.ni ?_ | refine Fin.v ?_ ?_ | refine Fin.r ?_ ?_ | exact Fin.th | (refine Fin.t ?_; try simp only [AV.sl.injEq]))
    | (refine And.go ?_; refine AndI ?_)
    | fail)
  · exact (szS_neg hc).symm
  refine S.loopV (σ := Nat × Int) [0, 1, 5] (fun s => [(1, .int .i64 s.2), (5, .int .i64 (s.1 : Int))]) (fun s => s.1 ≤ l.length ∧ 0 ≤ s.2 ∧ s.2 ≤ 1048576 ∧ szl (l.drop s.1) s.2 = sz l a) (fun s => n) (fun s => H) (fun s => l.length - s.1) (0, (a - l.length)) (⟨by omega, by omega, by omega, szS_init (by omega)⟩) ?_
  rintro ⟨i, b⟩ ⟨hi1, hi2, hi3, hi4⟩ ih
  try dsimp only at hi1 hi2 hi3 hi4
  all_goals (try (have hq : i < l.length → (l.getD i default).length ≤ 9223372036854775807 := fun h => ok_at hl2 h))
  repeat' (first
    | refine S.seq ?_ | refine S.skip ?_ | refine S.block ?_ | refine S.inBlock ?_ | refine S.exit rfl ?_ | refine S.regN ?_ | refine S.reg ?_ | refine S.drw hk.mo (by kernel_rfl) ?_
    | ((first | refine Ns.go ?_ | refine XOs.go ?_ | refine XDs.go ?_ | refine OK.go ?_); (first | refine TTdt ?_ | (apply Ns.sc ⟨rfl, rfl⟩ rfl; intro hg) | (refine OK.tr ?_; refine TTdt ?_)); (try simp only [HC] at hg))
    | with_reducible exact rfl | exact ⟨rfl, rfl, rfl⟩
    | refine S.ag (ih ((i + 1, _)) ?_ ?_)
    | (refine S.cond rfl (fun hc => ?_) (fun hc => ?_) <;> try simp only [HC] at hc)
    | (refine Gd.on (fun hg => ?_) (fun hg => ?_) <;> refine TGdt ?_ <;> (try simp only [HC] at hg))
    | refine S.retH hr rfl ?_ | refine S.finH hr rfl ?_ | (refine S.retK hr ?_; refine TRdt ?_)
    | (refine Fin.go ?_; first | (refine Fin.p ?_; first | exact FT | (try refine TTdt ?_; try simp only [LF])) | refine Fin.a0 ?_ | refine Fin.a ?_ | refine Fin.ni ?_ | refine Fin.v ?_ ?_ | refine Fin.r ?_ ?_ | exact Fin.th | (refine Fin.t ?_; try simp only [AV.sl.injEq]))
    | (refine And.go ?_; refine AndI ?_)
    | fail)
  all_goals (try clear ih)
  all_goals (try dsimp only)
  all_goals (repeat' apply And.intro)
  all_goals first | omega | (simp only [ZL]; omega) | skip
  all_goals (try clear hr hk hB)
  all_goals first | exact (szS_stop hi4 (by omega) (by rw [szStr_neg hc]; omega) (by omega)).symm | exact szS_end hi4 (by omega) | (rw [← szStr_pos hc]; exact szS_next hi4 (by omega)) | exact Int.le_trans (up _ _ (by omega)) (by omega)
/-- laws.toStringS -/
def w_toStringS.x : XCode :=
  (.seq
    (.reg [⟨(some 2), .mv, [.k (.nilsl)], none⟩] [0])
    (.seq
      (.reg [⟨(some 5), .mv, [.t 0], none⟩,
        ⟨(some 6), .lenL, [.t 5], none⟩,
        ⟨(some 7), (.mks 2 1 16 [.str []]), [.t 6, .t 6], none⟩,
        ⟨(some 3), .mv, [.t 7], none⟩] [0, 3])
      (.seq
        (.seq
          (.reg [⟨(some 4), .mv, [.k (.int .i64 0)], none⟩] [0, 3, 4])
          (.block 0
            (.loop
              (.seq
                (.seq
                  (.reg [⟨(some 8), .mv, [.t 4], none⟩,
                    ⟨(some 9), .mv, [.t 0], none⟩,
                    ⟨(some 10), .lenL, [.t 9], none⟩,
                    ⟨(some 11), (.bin .lss), [.t 8, .t 10], none⟩] [0, 3, 4, 11])
                  (.cond (.t 11)
                    .skip
                    (.exit 0)))
                (.seq
                  (.block 1
                    (.reg [⟨(some 14), .mv, [.t 3], none⟩,
                      ⟨(some 15), .mv, [.t 4], none⟩,
                      ⟨(some 16), .mv, [.t 0], none⟩,
                      ⟨(some 17), .mv, [.t 4], none⟩,
                      ⟨(some 18), (.idxA 1), [.t 16, .t 17], none⟩,
                      ⟨(some 19), (.ld none), [.t 18], none⟩,
                      ⟨(some 20), (.idxA 1), [.t 14, .t 15], none⟩,
                      ⟨none, (.st none), [.t 20, .t 19], none⟩] [0, 3, 4]))
                  (.reg [⟨(some 12), .mv, [.t 4], none⟩,
                    ⟨(some 13), (.bin .add), [.t 12, .k (.int .i64 1)], none⟩,
                    ⟨(some 4), .mv, [.t 13], none⟩] [0, 3, 4]))))))
        (.seq
          (.reg [⟨(some 21), .mv, [.t 3], none⟩,
            ⟨(some 2), .mv, [.t 21], none⟩] [2])
          .ret))))
def w_toStringS.F : Cfg := ⟨fun d => if d = 7 then 2 else 0, fun r => match r with | 0 => [0] | 1 => [0, 3] | 2 => [0, 3, 4] | 3 => [0, 3, 4, 11] | 4 => [0, 3, 4] | 5 => [0, 3, 4] | 6 => [2] | _ => []⟩
def w_toStringS.X : FX := ⟨22, [.tmp 2], w_toStringS.F, w_toStringS.x⟩

theorem w_toStringS.ok {P : Program} {k : Nat} (hk : Has P k (w_toStringS.X)) : C_toS (List UInt8) P k := by
  intro l hl n H
  obtain ⟨hl1, hl2⟩ := hl
  unfold mxs at hl1
  refine S.ofX hk rfl fun hB fn hr => ?_
  unfold w_toStringS.x
  repeat' (first
    | refine S.seq ?_ | refine S.skip ?_ | refine S.block ?_ | refine S.inBlock ?_ | refine S.exit rfl ?_ | refine S.regN ?_ | refine S.reg ?_ | refine S.drw hk.mo (by kernel_rfl) ?_
    | ((first | refine Ns.go ?_ | refine XOs.go ?_ | refine XDs.go ?_ | refine OK.go ?_); (first | refine TTdt ?_ | (apply Ns.sc ⟨rfl, rfl⟩ rfl; intro hg) | (refine OK.tr ?_; refine TTdt ?_)); (try simp only [HC] at hg))
    | with_reducible exact rfl | exact ⟨rfl, rfl, rfl⟩
    | (refine S.cond rfl (fun hc => ?_) (fun hc => ?_) <;> try simp only [HC] at hc)
    | (refine Gd.on (fun hg => ?_) (fun hg => ?_) <;> refine TGdt ?_ <;> (try simp only [HC] at hg))
    | refine S.retH hr rfl ?_ | refine S.finH hr rfl ?_ | (refine S.retK hr ?_; refine TRdt ?_)
    | (refine Fin.go ?_; first | (refine Fin.p ?_; first | exact FT | (try refine TTdt ?_; try simp only [LF])) | refine Fin.a0 ?_ | refine Fin.a ?_ | refine Fin.ni ?_ | refine Fin.v ?_ ?_ | refine Fin.r ?_ ?_ | exact Fin.th | (refine Fin.t ?_; try simp only [AV.sl.injEq]))
    | (refine And.go ?_; refine AndI ?_)
    | fail)
  refine S.loopV (σ := Nat × (List AV)) [0, 3, 4] (fun s => [(3, .ref n 1 0 l.length), (4, .int .i64 (s.1 : Int))]) (fun s => s.1 ≤ l.length ∧ s.2.length = l.length * 1 ∧ s.2.take (s.1 * 1) = (enc (l.take s.1)).flatten) (fun s => n + 1) (fun s => (n, .own s.2) :: H) (fun s => l.length - s.1) (0, _) (⟨by omega, ?_, fc_0⟩) ?_
  · first | rfl | omega | (simp; done) | (simp; omega) | skip
  rintro ⟨i, out⟩ ⟨hi1, hi2, hi3⟩ ih
  try dsimp only at hi1 hi2 hi3
  repeat' (first
    | refine S.seq ?_ | refine S.skip ?_ | refine S.block ?_ | refine S.inBlock ?_ | refine S.exit rfl ?_ | refine S.regN ?_ | refine S.reg ?_ | refine S.drw hk.mo (by kernel_rfl) ?_
    | ((first | refine Ns.go ?_ | refine XOs.go ?_ | refine XDs.go ?_ | refine OK.go ?_); (first | refine TTdt ?_ | (apply Ns.sc ⟨rfl, rfl⟩ rfl; intro hg) | (refine OK.tr ?_; refine TTdt ?_)); (try simp only [HC] at hg))
    | with_reducible exact rfl | exact ⟨rfl, rfl, rfl⟩
    | (refine Fin.fc hi3 (by omega) hi2)
    | refine S.ag (ih ((i + 1, _)) ?_ ?_)
    | (refine S.cond rfl (fun hc => ?_) (fun hc => ?_) <;> try simp only [HC] at hc)
    | (refine Gd.on (fun hg => ?_) (fun hg => ?_) <;> refine TGdt ?_ <;> (try simp only [HC] at hg))
    | refine S.retH hr rfl ?_ | refine S.finH hr rfl ?_ | (refine S.retK hr ?_; refine TRdt ?_)
    | (refine Fin.go ?_; first | (refine Fin.p ?_; first | exact FT | (try refine TTdt ?_; try simp only [LF])) | refine Fin.a0 ?_ | refine Fin.a ?_ | refine Fin.ni ?_ | refine Fin.v ?_ ?_ | refine Fin.r ?_ ?_ | exact Fin.th | (refine Fin.t ?_; try simp only [AV.sl.injEq]))
    | (refine And.go ?_; refine AndI ?_)
    | fail)
  all_goals (try clear ih)
  all_goals (try dsimp only)
  all_goals (repeat' apply And.intro)
  all_goals first | omega | (simp only [ZL]; omega) | skip
  all_goals (try clear hr hk hB)
  all_goals first | exact fc_len hi2 (by omega) rfl | exact fc_next hi3 hi2 (by omega) rfl rfl
/-- laws.eqStringS -/
def w_eqStringS.x : XCode :=
  (.seq
    (.reg [⟨(some 4), .mv, [.k (.bool false)], none⟩] [0, 1])
    (.seq
      (.seq
        (.reg [⟨(some 6), .mv, [.t 0], none⟩,
          ⟨(some 7), .lenL, [.t 6], none⟩,
          ⟨(some 8), .mv, [.t 1], none⟩,
          ⟨(some 9), .lenL, [.t 8], none⟩,
          ⟨(some 10), (.bin .neq), [.t 7, .t 9], none⟩] [0, 1, 10])
        (.cond (.t 10)
          (.seq
            (.reg [⟨(some 4), .mv, [.k (.bool false)], none⟩] [4])
            .ret)
          .skip))
      (.seq
        (.seq
          (.reg [⟨(some 5), .mv, [.k (.int .i64 0)], none⟩] [0, 1, 5])
          (.block 0
            (.loop
              (.seq
                (.seq
                  (.reg [⟨(some 11), .mv, [.t 5], none⟩,
                    ⟨(some 12), .mv, [.t 0], none⟩,
                    ⟨(some 13), .lenL, [.t 12], none⟩,
                    ⟨(some 14), (.bin .lss), [.t 11, .t 13], none⟩] [0, 1, 5, 14])
                  (.cond (.t 14)
                    .skip
                    (.exit 0)))
                (.seq
                  (.block 1
                    (.seq
                      (.drw [(⟨(some 17), .mv, [.t 0], none⟩, []),
                        (⟨(some 18), .mv, [.t 5], none⟩, []),
                        (⟨(some 19), (.idxA 1), [.t 17, .t 18], none⟩, [0, 1]),
                        (⟨(some 20), (.ld none), [.t 19], none⟩, [2]),
                        (⟨(some 21), .mv, [.t 1], none⟩, []),
                        (⟨(some 22), .mv, [.t 5], none⟩, []),
                        (⟨(some 23), (.idxA 1), [.t 21, .t 22], none⟩, [4, 5]),
                        (⟨(some 24), (.ld none), [.t 23], none⟩, [6]),
                        (⟨(some 25), (.bin .neq), [.t 20, .t 24], none⟩, [3, 7])] [0, 1, 5, 25] [0, 0, 0, 0, 0, 0, 0, 0, 0])
                      (.cond (.t 25)
                        (.seq
                          (.reg [⟨(some 4), .mv, [.k (.bool false)], none⟩] [4])
                          .ret)
                        .skip)))
                  (.reg [⟨(some 15), .mv, [.t 5], none⟩,
                    ⟨(some 16), (.bin .add), [.t 15, .k (.int .i64 1)], none⟩,
                    ⟨(some 5), .mv, [.t 16], none⟩] [0, 1, 5]))))))
        (.seq
          (.reg [⟨(some 4), .mv, [.k (.bool true)], none⟩] [4])
          .ret))))
def w_eqStringS.F : Cfg := ⟨fun _ => 0, fun r => match r with | 0 => [0, 1] | 1 => [0, 1, 10] | 2 => [4] | 3 => [0, 1, 5] | 4 => [0, 1, 5, 14] | 5 => [0, 1, 5] | 6 => [0, 1, 5, 25] | 7 => [4] | 8 => [4] | 1000006 => [0, 0, 0, 0, 0, 0, 0, 0, 0] | _ => []⟩
def w_eqStringS.X : FX := ⟨26, [.tmp 4], w_eqStringS.F, w_eqStringS.x⟩

theorem w_eqStringS.ok {P : Program} {k : Nat} (hk : Has P k (w_eqStringS.X)) : C_eqS (List UInt8) P k := by
  intro l m hl hm n H
  obtain ⟨hl1, hl2⟩ := hl
  obtain ⟨hm1, hm2⟩ := hm
  unfold mxs at hl1 hm1
  refine S.ofX hk rfl fun hB fn hr => ?_
  unfold w_eqStringS.x
  repeat' (first
    | refine S.seq ?_ | refine S.skip ?_ | refine S.block ?_ | refine S.inBlock ?_ | refine S.exit rfl ?_ | refine S.regN ?_ | refine S.reg ?_ | refine S.drw hk.mo (by kernel_rfl) ?_
    | ((first | refine Ns.go ?_ | refine XOs.go ?_ | refine XDs.go ?_ | refine OK.go ?_); (first | refine TTdt ?_ | (apply Ns.sc ⟨rfl, rfl⟩ rfl; intro hg) | (refine OK.tr ?_; refine TTdt ?_)); (try simp only [HC] at hg))
    | with_reducible exact rfl | exact ⟨rfl, rfl, rfl⟩
    | (refine S.cond rfl (fun hc => ?_) (fun hc => ?_) <;> try simp only [HC] at hc)
    | (refine Gd.on (fun hg => ?_) (fun hg => ?_) <;> refine TGdt ?_ <;> (try simp only [HC] at hg))
    | refine S.retH hr rfl ?_ | refine S.finH hr rfl ?_ | (refine S.retK hr ?_; refine TRdt ?_)
    | (refine Fin.go ?_; first | (refine Fin.p ?_; first | exact FT | (try refine TTdt ?_; try simp only [LF])) | refine Fin.a0 ?_ | refine Fin.a ?_ | refine Fin.ni ?_ | refine Fin.v ?_ ?_ | refine Fin.r ?_ ?_ | exact Fin.th | (refine Fin.t ?_; try simp only [AV.sl.injEq]))
    | (refine And.go ?_; refine AndI ?_)
    | fail)
  · exact (decL (by omega)).symm
  refine S.loopV (σ := Nat) [0, 1, 5] (fun s => [(5, .int .i64 (s : Int))]) (fun s => s ≤ l.length ∧ ∀ j, j < s → l.getD j default = m.getD j default) (fun s => n) (fun s => H) (fun s => l.length - s) (0) (⟨by omega, ?_⟩) ?_
  · first | rfl | omega | (simp; done) | (simp; omega) | skip
  rintro i ⟨hi1, hi2⟩ ih
  try dsimp only at hi1 hi2
  repeat' (first
    | refine S.seq ?_ | refine S.skip ?_ | refine S.block ?_ | refine S.inBlock ?_ | refine S.exit rfl ?_ | refine S.regN ?_ | refine S.reg ?_ | refine S.drw hk.mo (by kernel_rfl) ?_
    | ((first | refine Ns.go ?_ | refine XOs.go ?_ | refine XDs.go ?_ | refine OK.go ?_); (first | refine TTdt ?_ | (apply Ns.sc ⟨rfl, rfl⟩ rfl; intro hg) | (refine OK.tr ?_; refine TTdt ?_)); (try simp only [HC] at hg))
    | with_reducible exact rfl | exact ⟨rfl, rfl, rfl⟩
    | refine S.ag (ih (i + 1) ?_ ?_)
    | (refine S.cond rfl (fun hc => ?_) (fun hc => ?_) <;> try simp only [HC] at hc)
    | (refine Gd.on (fun hg => ?_) (fun hg => ?_) <;> refine TGdt ?_ <;> (try simp only [HC] at hg))
    | refine S.retH hr rfl ?_ | refine S.finH hr rfl ?_ | (refine S.retK hr ?_; refine TRdt ?_)
    | (refine Fin.go ?_; first | (refine Fin.p ?_; first | exact FT | (try refine TTdt ?_; try simp only [LF])) | refine Fin.a0 ?_ | refine Fin.a ?_ | refine Fin.ni ?_ | refine Fin.v ?_ ?_ | refine Fin.r ?_ ?_ | exact Fin.th | (refine Fin.t ?_; try simp only [AV.sl.injEq]))
    | (refine And.go ?_; refine AndI ?_)
    | fail)
  all_goals (try clear ih)
  all_goals (try dsimp only)
  all_goals (repeat' apply And.intro)
  all_goals first | omega | (simp only [ZL]; omega) | skip
  all_goals (try clear hr hk hB)
  all_goals first | (exact (decG hc).symm) | (exact (decA (by omega) (fun j hj => hi2 j (by omega))).symm) | (exact decN hi2 hc)
/-- laws.toLink -/
def w_toLink.x : XCode :=
  (.seq
    (.reg [⟨(some 1), .boxF, [.t 0], none⟩,
      ⟨(some 2), (.alloc [.int .u8 0, .int .u8 0]), [], none⟩] [1, 2])
    (.seq
      (.reg [⟨(some 3), (.alloc [.int .u8 0, .int .u8 0]), [], none⟩] [1, 2, 3])
      (.seq
        (.reg [⟨(some 4), (.fldA 0), [.t 1], none⟩,
          ⟨(some 5), (.ld none), [.t 4], none⟩,
          ⟨(some 6), (.fldA 0), [.t 3], none⟩,
          ⟨none, (.st none), [.t 6, .t 5], none⟩] [1, 2, 3])
        (.seq
          (.reg [⟨(some 7), (.fldA 1), [.t 1], none⟩,
            ⟨(some 8), (.ld none), [.t 7], none⟩,
            ⟨(some 9), (.fldA 1), [.t 3], none⟩,
            ⟨none, (.st none), [.t 9, .t 8], none⟩] [2, 3])
          (.seq
            (.reg [⟨(some 10), (.ld (some 2)), [.t 3], none⟩,
              ⟨none, (.st (some 2)), [.t 2, .t 10], none⟩] [2])
            .ret)))))
def w_toLink.F : Cfg := ⟨fun _ => 0, fun r => match r with | 0 => [1, 2] | 1 => [1, 2, 3] | 2 => [1, 2, 3] | 3 => [2, 3] | 4 => [2] | _ => []⟩
def w_toLink.X : FX := ⟨11, [.cell 2 (some 2)], w_toLink.F, w_toLink.x⟩

theorem w_toLink.ok {P : Program} {k : Nat} (hk : Has P k (w_toLink.X)) : C_toT Lnk P k := by
  intro x hl n H
  obtain ⟨x1, x2⟩ := x
  obtain ⟨hl1, hl2⟩ := hl
  refine S.ofX hk rfl fun hB fn hr => ?_
  unfold w_toLink.x
  repeat' (first
    | refine S.seq ?_ | refine S.skip ?_ | refine S.block ?_ | refine S.inBlock ?_ | refine S.exit rfl ?_ | refine S.regN ?_ | refine S.reg ?_ | refine S.drw hk.mo (by kernel_rfl) ?_
    | ((first | refine Ns.go ?_ | refine XOs.go ?_ | refine XDs.go ?_ | refine OK.go ?_); (first | refine TTdt ?_ | (apply Ns.sc ⟨rfl, rfl⟩ rfl; intro hg) | (refine OK.tr ?_; refine TTdt ?_)); (try simp only [HC] at hg))
    | with_reducible exact rfl | exact ⟨rfl, rfl, rfl⟩
    | (refine S.cond rfl (fun hc => ?_) (fun hc => ?_) <;> try simp only [HC] at hc)
    | (refine Gd.on (fun hg => ?_) (fun hg => ?_) <;> refine TGdt ?_ <;> (try simp only [HC] at hg))
    | refine S.retH hr rfl ?_ | refine S.finH hr rfl ?_ | (refine S.retK hr ?_; refine TRdt ?_)
    | (refine Fin.go ?_; first | (refine Fin.p ?_; first | exact FT | (try refine TTdt ?_; try simp only [LF])) | refine Fin.a0 ?_ | refine Fin.a ?_ | refine Fin.ni ?_ | refine Fin.v ?_ ?_ | refine Fin.r ?_ ?_ | exact Fin.th | (refine Fin.t ?_; try simp only [AV.sl.injEq]))
    | (refine And.go ?_; refine AndI ?_)
    | fail)
  all_goals rfl
/-- laws.eqLink -/
def w_eqLink.x : XCode :=
  (.seq
    (.reg [⟨(some 2), .boxF, [.t 0], none⟩,
      ⟨(some 3), .boxF, [.t 1], none⟩,
      ⟨(some 4), .mv, [.k (.bool false)], none⟩] [2, 3])
    (.seq
      (.seq
        (.reg [⟨(some 5), (.fldA 0), [.t 2], none⟩,
          ⟨(some 6), (.ld none), [.t 5], none⟩,
          ⟨(some 7), (.fldA 0), [.t 3], none⟩,
          ⟨(some 8), (.ld none), [.t 7], none⟩,
          ⟨(some 9), (.bin .neq), [.t 6, .t 8], none⟩] [2, 3, 9])
        (.cond (.t 9)
          (.seq
            (.reg [⟨(some 4), .mv, [.k (.bool false)], none⟩] [4])
            .ret)
          .skip))
      (.seq
        (.seq
          (.reg [⟨(some 10), (.fldA 1), [.t 2], none⟩,
            ⟨(some 11), (.ld none), [.t 10], none⟩,
            ⟨(some 12), (.fldA 1), [.t 3], none⟩,
            ⟨(some 13), (.ld none), [.t 12], none⟩,
            ⟨(some 14), (.bin .neq), [.t 11, .t 13], none⟩] [14])
          (.cond (.t 14)
            (.seq
              (.reg [⟨(some 4), .mv, [.k (.bool false)], none⟩] [4])
              .ret)
            .skip))
        (.seq
          (.reg [⟨(some 4), .mv, [.k (.bool true)], none⟩] [4])
          .ret))))
def w_eqLink.F : Cfg := ⟨fun _ => 0, fun r => match r with | 0 => [2, 3] | 1 => [2, 3, 9] | 2 => [4] | 3 => [14] | 4 => [4] | 5 => [4] | _ => []⟩
def w_eqLink.X : FX := ⟨15, [.tmp 4], w_eqLink.F, w_eqLink.x⟩

theorem w_eqLink.ok {P : Program} {k : Nat} (hk : Has P k (w_eqLink.X)) : C_eqT Lnk P k := by
  intro x y hl hm n H
  obtain ⟨x1, x2⟩ := x
  obtain ⟨hl1, hl2⟩ := hl
  obtain ⟨y1, y2⟩ := y
  obtain ⟨hm1, hm2⟩ := hm
  refine S.ofX hk rfl fun hB fn hr => ?_
  unfold w_eqLink.x
  repeat' (first
    | refine S.seq ?_ | refine S.skip ?_ | refine S.block ?_ | refine S.inBlock ?_ | refine S.exit rfl ?_ | refine S.regN ?_ | refine S.reg ?_ | refine S.drw hk.mo (by kernel_rfl) ?_
    | ((first | refine Ns.go ?_ | refine XOs.go ?_ | refine XDs.go ?_ | refine OK.go ?_); (first | refine TTdt ?_ | (apply Ns.sc ⟨rfl, rfl⟩ rfl; intro hg) | (refine OK.tr ?_; refine TTdt ?_)); (try simp only [HC] at hg))
    | with_reducible exact rfl | exact ⟨rfl, rfl, rfl⟩
    | (refine S.cond rfl (fun hc => ?_) (fun hc => ?_) <;> try simp only [HC] at hc)
    | (refine Gd.on (fun hg => ?_) (fun hg => ?_) <;> refine TGdt ?_ <;> (try simp only [HC] at hg))
    | refine S.retH hr rfl ?_ | refine S.finH hr rfl ?_ | (refine S.retK hr ?_; refine TRdt ?_)
    | (refine Fin.go ?_; first | (refine Fin.p ?_; first | exact FT | (try refine TTdt ?_; try simp only [LF])) | refine Fin.a0 ?_ | refine Fin.a ?_ | refine Fin.ni ?_ | refine Fin.v ?_ ?_ | refine Fin.r ?_ ?_ | exact Fin.th | (refine Fin.t ?_; try simp only [AV.sl.injEq]))
    | (refine And.go ?_; refine AndI ?_)
    | fail)
  all_goals (try clear hr hk hB)
  all_goals (try clear hl1 hm1 hl2 hm2)
  all_goals (rw [Bool.eq_iff_iff]; simp_all)
/-- laws.szLinkS -/
def w_szLinkS.x : XCode :=
  (.seq
    (.reg [⟨(some 4), .mv, [.k (.int .i64 0)], none⟩] [0, 1])
    (.seq
      (.reg [⟨(some 5), .mv, [.t 1], none⟩,
        ⟨(some 6), .mv, [.t 0], none⟩,
        ⟨(some 7), .lenL, [.t 6], none⟩,
        ⟨(some 8), (.bin .sub), [.t 5, .t 7], none⟩,
        ⟨(some 1), .mv, [.t 8], none⟩] [1])
      (.seq
        (.seq
          (.reg [⟨(some 9), .mv, [.t 1], none⟩,
            ⟨(some 10), (.bin .lss), [.t 9, .k (.int .i64 0)], none⟩] [1, 10])
          (.cond (.t 10)
            (.seq
              (.reg [⟨(some 4), .mv, [.k (.int .i64 (-1))], none⟩] [4])
              .ret)
            .skip))
        (.seq
          (.reg [⟨(some 11), .mv, [.t 1], none⟩,
            ⟨(some 4), .mv, [.t 11], none⟩] [4])
          .ret))))
def w_szLinkS.F : Cfg := ⟨fun _ => 0, fun r => match r with | 0 => [0, 1] | 1 => [1] | 2 => [1, 10] | 3 => [4] | 4 => [4] | _ => []⟩
def w_szLinkS.X : FX := ⟨12, [.tmp 4], w_szLinkS.F, w_szLinkS.x⟩

theorem w_szLinkS.ok {P : Program} {k : Nat} (hk : Has P k (w_szLinkS.X)) : C_szS Lnk P k := by
  intro l a hl ha1 ha2 n H
  obtain ⟨hl1, hl2⟩ := hl
  unfold mxi at hl1
  refine S.ofX hk rfl fun hB fn hr => ?_
  unfold w_szLinkS.x
  repeat' (first
    | refine S.seq ?_ | refine S.skip ?_ | refine S.block ?_ | refine S.inBlock ?_ | refine S.exit rfl ?_ | refine S.regN ?_ | refine S.reg ?_ | refine S.drw hk.mo (by kernel_rfl) ?_
    | ((first | refine Ns.go ?_ | refine XOs.go ?_ | refine XDs.go ?_ | refine OK.go ?_); (first | refine TTdt ?_ | (apply Ns.sc ⟨rfl, rfl⟩ rfl; intro hg) | (refine OK.tr ?_; refine TTdt ?_)); (try simp only [HC] at hg))
    | with_reducible exact rfl | exact ⟨rfl, rfl, rfl⟩
    | (refine S.cond rfl (fun hc => ?_) (fun hc => ?_) <;> try simp only [HC] at hc)
    | (refine Gd.on (fun hg => ?_) (fun hg => ?_) <;> refine TGdt ?_ <;> (try simp only [HC] at hg))
    | refine S.retH hr rfl ?_ | refine S.finH hr rfl ?_ | (refine S.retK hr ?_; refine TRdt ?_)
    | (refine Fin.go ?_; first | (refine Fin.p ?_; first | exact FT | (try refine TTdt ?_; try simp only [LF])) | refine Fin.a0 ?_ | refine Fin.a ?_ | refine Fin.ni ?_ | refine Fin.v ?_ ?_ | refine Fin.r ?_ ?_ | exact Fin.th | (refine Fin.t ?_; try simp only [AV.sl.injEq]))
    | (refine And.go ?_; refine AndI ?_)
    | fail)
  all_goals first | exact (szS_neg hc).symm | exact (szS_0 hc).symm
/-- laws.toLinkS -/
def w_toLinkS.x (c_w_toLink : Nat) : XCode :=
  (.seq
    (.reg [⟨(some 2), .mv, [.k (.nilsl)], none⟩] [0])
    (.seq
      (.reg [⟨(some 5), .mv, [.t 0], none⟩,
        ⟨(some 6), .lenL, [.t 5], none⟩,
        ⟨(some 7), (.mks 2 2 2 [.int .u8 0, .int .u8 0]), [.t 6, .t 6], none⟩,
        ⟨(some 3), .mv, [.t 7], none⟩] [0, 3])
      (.seq
        (.seq
          (.reg [⟨(some 4), .mv, [.k (.int .i64 0)], none⟩] [0, 3, 4])
          (.block 0
            (.loop
              (.seq
                (.seq
                  (.reg [⟨(some 8), .mv, [.t 4], none⟩,
                    ⟨(some 9), .mv, [.t 0], none⟩,
                    ⟨(some 10), .lenL, [.t 9], none⟩,
                    ⟨(some 11), (.bin .lss), [.t 8, .t 10], none⟩] [0, 3, 4, 11])
                  (.cond (.t 11)
                    .skip
                    (.exit 0)))
                (.seq
                  (.block 1
                    (.reg [⟨(some 14), .mv, [.t 3], none⟩,
                      ⟨(some 15), .mv, [.t 4], none⟩,
                      ⟨(some 16), .mv, [.t 0], none⟩,
                      ⟨(some 17), .mv, [.t 4], none⟩,
                      ⟨(some 18), (.idxA 2), [.t 16, .t 17], none⟩,
                      ⟨(some 19), (.ld (some 2)), [.t 18], none⟩,
                      ⟨(some 20), .call, [.k (.fn c_w_toLink []), .t 19], none⟩,
                      ⟨(some 21), (.idxA 2), [.t 14, .t 15], none⟩,
                      ⟨none, (.st (some 2)), [.t 21, .t 20], none⟩] [0, 3, 4]))
                  (.reg [⟨(some 12), .mv, [.t 4], none⟩,
                    ⟨(some 13), (.bin .add), [.t 12, .k (.int .i64 1)], none⟩,
                    ⟨(some 4), .mv, [.t 13], none⟩] [0, 3, 4]))))))
        (.seq
          (.reg [⟨(some 22), .mv, [.t 3], none⟩,
            ⟨(some 2), .mv, [.t 22], none⟩] [2])
          .ret))))
def w_toLinkS.F : Cfg := ⟨fun d => if d = 7 then 2 else 0, fun r => match r with | 0 => [0] | 1 => [0, 3] | 2 => [0, 3, 4] | 3 => [0, 3, 4, 11] | 4 => [0, 3, 4] | 5 => [0, 3, 4] | 6 => [2] | _ => []⟩
def w_toLinkS.X (c_w_toLink : Nat) : FX := ⟨23, [.tmp 2], w_toLinkS.F, w_toLinkS.x c_w_toLink⟩

theorem w_toLinkS.ok {P : Program} {k c_w_toLink : Nat} (hk : Has P k (w_toLinkS.X c_w_toLink)) (h1 : C_toT Lnk P c_w_toLink) : C_toS Lnk P k := by
  intro l hl n H
  obtain ⟨hl1, hl2⟩ := hl
  unfold mxs at hl1
  refine S.ofX hk rfl fun hB fn hr => ?_
  unfold w_toLinkS.x
  repeat' (first
    | refine S.seq ?_ | refine S.skip ?_ | refine S.block ?_ | refine S.inBlock ?_ | refine S.exit rfl ?_ | refine S.regN ?_ | refine S.reg ?_ | refine S.drw hk.mo (by kernel_rfl) ?_
    | ((first | refine Ns.go ?_ | refine XOs.go ?_ | refine XDs.go ?_ | refine OK.go ?_); (first | refine TTdt ?_ | (apply Ns.sc ⟨rfl, rfl⟩ rfl; intro hg) | (refine OK.tr ?_; refine TTdt ?_)); (try simp only [HC] at hg))
    | with_reducible exact rfl | exact ⟨rfl, rfl, rfl⟩
    | (refine S.cond rfl (fun hc => ?_) (fun hc => ?_) <;> try simp only [HC] at hc)
    | (refine Gd.on (fun hg => ?_) (fun hg => ?_) <;> refine TGdt ?_ <;> (try simp only [HC] at hg))
    | refine S.retH hr rfl ?_ | refine S.finH hr rfl ?_ | (refine S.retK hr ?_; refine TRdt ?_)
    | (refine Fin.go ?_; first | (refine Fin.p ?_; first | exact FT | (try refine TTdt ?_; try simp only [LF])) | refine Fin.a0 ?_ | refine Fin.a ?_ | refine Fin.ni ?_ | refine Fin.v ?_ ?_ | refine Fin.r ?_ ?_ | exact Fin.th | (refine Fin.t ?_; try simp only [AV.sl.injEq]))
    | (refine And.go ?_; refine AndI ?_)
    | fail)
  refine S.loopV (σ := Nat × (List AV)) [0, 3, 4] (fun s => [(3, .ref n 2 0 l.length), (4, .int .i64 (s.1 : Int))]) (fun s => s.1 ≤ l.length ∧ s.2.length = l.length * 2 ∧ s.2.take (s.1 * 2) = (enc (l.take s.1)).flatten) (fun s => n + 1) (fun s => (n, .own s.2) :: H) (fun s => l.length - s.1) (0, _) (⟨by omega, ?_, fc_0⟩) ?_
  · first | rfl | omega | (simp; done) | (simp; omega) | skip
  rintro ⟨i, out⟩ ⟨hi1, hi2, hi3⟩ ih
  try dsimp only at hi1 hi2 hi3
  repeat' (first
    | refine S.seq ?_ | refine S.skip ?_ | refine S.block ?_ | refine S.inBlock ?_ | refine S.exit rfl ?_ | refine S.regN ?_ | refine S.reg ?_ | refine S.drw hk.mo (by kernel_rfl) ?_
    | ((first | refine Ns.go ?_ | refine XOs.go ?_ | refine XDs.go ?_ | refine OK.go ?_); (first | refine TTdt ?_ | (apply Ns.sc ⟨rfl, rfl⟩ rfl; intro hg) | (refine OK.tr ?_; refine TTdt ?_)); (try simp only [HC] at hg))
    | with_reducible exact rfl | exact ⟨rfl, rfl, rfl⟩
    | (refine Fin.fc hi3 (by omega) hi2)
    | refine S.ag (ih ((i + 1, _)) ?_ ?_)
    | refine RunsF.apf (h1 _ (ok_at hl2 (by omega))) rfl ?_ | refine RunsF.apd (h1 _ (ok_at hl2 (by omega))) rfl ?_
    | (refine S.cond rfl (fun hc => ?_) (fun hc => ?_) <;> try simp only [HC] at hc)
    | (refine Gd.on (fun hg => ?_) (fun hg => ?_) <;> refine TGdt ?_ <;> (try simp only [HC] at hg))
    | refine S.retH hr rfl ?_ | refine S.finH hr rfl ?_ | (refine S.retK hr ?_; refine TRdt ?_)
    | (refine Fin.go ?_; first | (refine Fin.p ?_; first | exact FT | (try refine TTdt ?_; try simp only [LF])) | refine Fin.a0 ?_ | refine Fin.a ?_ | refine Fin.ni ?_ | refine Fin.v ?_ ?_ | refine Fin.r ?_ ?_ | exact Fin.th | (refine Fin.t ?_; try simp only [AV.sl.injEq]))
    | (refine And.go ?_; refine AndI ?_)
    | fail)
  all_goals (try clear ih)
  all_goals (try dsimp only)
  all_goals (repeat' apply And.intro)
  all_goals first | omega | (simp only [ZL]; omega) | skip
  all_goals (try clear hr hk hB)
  all_goals first | exact fc_len hi2 (by omega) rfl | exact fc_next hi3 hi2 (by omega) rfl rfl
/-- laws.eqLinkS -/
def w_eqLinkS.x (c_w_eqLink : Nat) : XCode :=
  (.seq
    (.reg [⟨(some 4), .mv, [.k (.bool false)], none⟩] [0, 1])
    (.seq
      (.seq
        (.reg [⟨(some 6), .mv, [.t 0], none⟩,
          ⟨(some 7), .lenL, [.t 6], none⟩,
          ⟨(some 8), .mv, [.t 1], none⟩,
          ⟨(some 9), .lenL, [.t 8], none⟩,
          ⟨(some 10), (.bin .neq), [.t 7, .t 9], none⟩] [0, 1, 10])
        (.cond (.t 10)
          (.seq
            (.reg [⟨(some 4), .mv, [.k (.bool false)], none⟩] [4])
            .ret)
          .skip))
      (.seq
        (.seq
          (.reg [⟨(some 5), .mv, [.k (.int .i64 0)], none⟩] [0, 1, 5])
          (.block 0
            (.loop
              (.seq
                (.seq
                  (.reg [⟨(some 11), .mv, [.t 5], none⟩,
                    ⟨(some 12), .mv, [.t 0], none⟩,
                    ⟨(some 13), .lenL, [.t 12], none⟩,
                    ⟨(some 14), (.bin .lss), [.t 11, .t 13], none⟩] [0, 1, 5, 14])
                  (.cond (.t 14)
                    .skip
                    (.exit 0)))
                (.seq
                  (.block 1
                    (.seq
                      (.drw [(⟨(some 17), .mv, [.t 0], none⟩, []),
                        (⟨(some 18), .mv, [.t 5], none⟩, []),
                        (⟨(some 19), (.idxA 2), [.t 17, .t 18], none⟩, [0, 1]),
                        (⟨(some 20), (.ld (some 2)), [.t 19], none⟩, [2]),
                        (⟨(some 21), .mv, [.t 1], none⟩, []),
                        (⟨(some 22), .mv, [.t 5], none⟩, []),
                        (⟨(some 23), (.idxA 2), [.t 21, .t 22], none⟩, [4, 5]),
                        (⟨(some 24), (.ld (some 2)), [.t 23], none⟩, [6]),
                        (⟨(some 25), .call, [.k (.fn c_w_eqLink []), .t 20, .t 24], none⟩, [3, 7]),
                        (⟨(some 26), (.un .not), [.t 25], none⟩, [8])] [0, 1, 5, 26] [0, 0, 0, 0, 0, 0, 0, 0, 0, 0])
                      (.cond (.t 26)
                        (.seq
                          (.reg [⟨(some 4), .mv, [.k (.bool false)], none⟩] [4])
                          .ret)
                        .skip)))
                  (.reg [⟨(some 15), .mv, [.t 5], none⟩,
                    ⟨(some 16), (.bin .add), [.t 15, .k (.int .i64 1)], none⟩,
                    ⟨(some 5), .mv, [.t 16], none⟩] [0, 1, 5]))))))
        (.seq
          (.reg [⟨(some 4), .mv, [.k (.bool true)], none⟩] [4])
          .ret))))
def w_eqLinkS.F : Cfg := ⟨fun _ => 0, fun r => match r with | 0 => [0, 1] | 1 => [0, 1, 10] | 2 => [4] | 3 => [0, 1, 5] | 4 => [0, 1, 5, 14] | 5 => [0, 1, 5] | 6 => [0, 1, 5, 26] | 7 => [4] | 8 => [4] | 1000006 => [0, 0, 0, 0, 0, 0, 0, 0, 0, 0] | _ => []⟩
def w_eqLinkS.X (c_w_eqLink : Nat) : FX := ⟨27, [.tmp 4], w_eqLinkS.F, w_eqLinkS.x c_w_eqLink⟩

theorem w_eqLinkS.ok {P : Program} {k c_w_eqLink : Nat} (hk : Has P k (w_eqLinkS.X c_w_eqLink)) (h1 : C_eqT Lnk P c_w_eqLink) : C_eqS Lnk P k := by
  intro l m hl hm n H
  obtain ⟨hl1, hl2⟩ := hl
  obtain ⟨hm1, hm2⟩ := hm
  unfold mxs at hl1 hm1
  refine S.ofX hk rfl fun hB fn hr => ?_
  unfold w_eqLinkS.x
  repeat' (first
    | refine S.seq ?_ | refine S.skip ?_ | refine S.block ?_ | refine S.inBlock ?_ | refine S.exit rfl ?_ | refine S.regN ?_ | refine S.reg ?_ | refine S.drw hk.mo (by kernel_rfl) ?_
    | ((first | refine Ns.go ?_ | refine XOs.go ?_ | refine XDs.go ?_ | refine OK.go ?_); (first | refine TTdt ?_ | (apply Ns.sc ⟨rfl, rfl⟩ rfl; intro hg) | (refine OK.tr ?_; refine TTdt ?_)); (try simp only [HC] at hg))
    | with_reducible exact rfl | exact ⟨rfl, rfl, rfl⟩
    | (refine S.cond rfl (fun hc => ?_) (fun hc => ?_) <;> try simp only [HC] at hc)
    | (refine Gd.on (fun hg => ?_) (fun hg => ?_) <;> refine TGdt ?_ <;> (try simp only [HC] at hg))
    | refine S.retH hr rfl ?_ | refine S.finH hr rfl ?_ | (refine S.retK hr ?_; refine TRdt ?_)
    | (refine Fin.go ?_; first | (refine Fin.p ?_; first | exact FT | (try refine TTdt ?_; try simp only [LF])) | refine Fin.a0 ?_ | refine Fin.a ?_ | refine Fin.ni ?_ | refine Fin.v ?_ ?_ | refine Fin.r ?_ ?_ | exact Fin.th | (refine Fin.t ?_; try simp only [AV.sl.injEq]))
    | (refine And.go ?_; refine AndI ?_)
    | fail)
  · exact (decL (by omega)).symm
  refine S.loopV (σ := Nat) [0, 1, 5] (fun s => [(5, .int .i64 (s : Int))]) (fun s => s ≤ l.length ∧ ∀ j, j < s → l.getD j default = m.getD j default) (fun s => n) (fun s => H) (fun s => l.length - s) (0) (⟨by omega, ?_⟩) ?_
  · first | rfl | omega | (simp; done) | (simp; omega) | skip
  rintro i ⟨hi1, hi2⟩ ih
  try dsimp only at hi1 hi2
  repeat' (first
    | refine S.seq ?_ | refine S.skip ?_ | refine S.block ?_ | refine S.inBlock ?_ | refine S.exit rfl ?_ | refine S.regN ?_ | refine S.reg ?_ | refine S.drw hk.mo (by kernel_rfl) ?_
    | ((first | refine Ns.go ?_ | refine XOs.go ?_ | refine XDs.go ?_ | refine OK.go ?_); (first | refine TTdt ?_ | (apply Ns.sc ⟨rfl, rfl⟩ rfl; intro hg) | (refine OK.tr ?_; refine TTdt ?_)); (try simp only [HC] at hg))
    | with_reducible exact rfl | exact ⟨rfl, rfl, rfl⟩
    | refine S.ag (ih (i + 1) ?_ ?_)
    | refine RunsF.apf (h1 _ _ (ok_at hl2 (by omega)) (ok_at hm2 (by omega))) rfl ?_ | refine RunsF.apd (h1 _ _ (ok_at hl2 (by omega)) (ok_at hm2 (by omega))) rfl ?_
    | (refine S.cond rfl (fun hc => ?_) (fun hc => ?_) <;> try simp only [HC] at hc)
    | (refine Gd.on (fun hg => ?_) (fun hg => ?_) <;> refine TGdt ?_ <;> (try simp only [HC] at hg))
    | refine S.retH hr rfl ?_ | refine S.finH hr rfl ?_ | (refine S.retK hr ?_; refine TRdt ?_)
    | (refine Fin.go ?_; first | (refine Fin.p ?_; first | exact FT | (try refine TTdt ?_; try simp only [LF])) | refine Fin.a0 ?_ | refine Fin.a ?_ | refine Fin.ni ?_ | refine Fin.v ?_ ?_ | refine Fin.r ?_ ?_ | exact Fin.th | (refine Fin.t ?_; try simp only [AV.sl.injEq]))
    | (refine And.go ?_; refine AndI ?_)
    | fail)
  all_goals (try clear ih)
  all_goals (try dsimp only)
  all_goals (repeat' apply And.intro)
  all_goals first | omega | (simp only [ZL]; omega) | skip
  all_goals (try clear hr hk hB)
  all_goals first | (exact (decG hc).symm) | (exact (decA (by omega) (fun j hj => hi2 j (by omega))).symm) | (exact decN hi2 hc)
/-- laws.szCandidate -/
def w_szCandidate.x (c_w_szLinkS : Nat) : XCode :=
  (.seq
    (.reg [⟨(some 2), .boxF, [.t 0], none⟩,
      ⟨(some 4), .mv, [.k (.int .i64 0)], none⟩] [1, 2])
    (.seq
      (.reg [⟨(some 5), (.fldA 0), [.t 2], none⟩,
        ⟨(some 6), (.ld none), [.t 5], none⟩,
        ⟨(some 7), .mv, [.t 1], none⟩,
        ⟨(some 8), .call, [.k (.fn c_w_szLinkS []), .t 6, .t 7], none⟩,
        ⟨(some 1), .mv, [.t 8], none⟩] [1])
      (.seq
        (.seq
          (.reg [⟨(some 9), .mv, [.t 1], none⟩,
            ⟨(some 10), (.bin .lss), [.t 9, .k (.int .i64 0)], none⟩] [1, 10])
          (.cond (.t 10)
            (.seq
              (.reg [⟨(some 4), .mv, [.k (.int .i64 (-1))], none⟩] [4])
              .ret)
            .skip))
        (.seq
          (.reg [⟨(some 11), .mv, [.t 1], none⟩,
            ⟨(some 4), .mv, [.t 11], none⟩] [4])
          .ret))))
def w_szCandidate.F : Cfg := ⟨fun _ => 0, fun r => match r with | 0 => [1, 2] | 1 => [1] | 2 => [1, 10] | 3 => [4] | 4 => [4] | _ => []⟩
def w_szCandidate.X (c_w_szLinkS : Nat) : FX := ⟨12, [.tmp 4], w_szCandidate.F, w_szCandidate.x c_w_szLinkS⟩

theorem w_szCandidate.ok {P : Program} {k c_w_szLinkS : Nat} (hk : Has P k (w_szCandidate.X c_w_szLinkS)) (h1 : C_szS Lnk P c_w_szLinkS) : C_szT (List Lnk) P k := by
  intro x a hl ha1 ha2 n H
  refine S.ofX hk rfl fun hB fn hr => ?_
  unfold w_szCandidate.x
  repeat' (first
    | refine S.seq ?_ | refine S.skip ?_ | refine S.block ?_ | refine S.inBlock ?_ | refine S.exit rfl ?_ | refine S.regN ?_ | refine S.reg ?_ | refine S.drw hk.mo (by kernel_rfl) ?_
    | ((first | refine Ns.go ?_ | refine XOs.go ?_ | refine XDs.go ?_ | refine OK.go ?_); (first | refine TTdt ?_ | (apply Ns.sc ⟨rfl, rfl⟩ rfl; intro hg) | (refine OK.tr ?_; refine TTdt ?_)); (try simp only [HC] at hg))
    | with_reducible exact rfl | exact ⟨rfl, rfl, rfl⟩
    | refine RunsF.apf (h1 _ _ hl (by omega) UB) rfl ?_ | refine RunsF.apd (h1 _ _ hl (by omega) UB) rfl ?_
    | (refine S.cond rfl (fun hc => ?_) (fun hc => ?_) <;> try simp only [HC] at hc)
    | (refine Gd.on (fun hg => ?_) (fun hg => ?_) <;> refine TGdt ?_ <;> (try simp only [HC] at hg))
    | refine S.retH hr rfl ?_ | refine S.finH hr rfl ?_ | (refine S.retK hr ?_; refine TRdt ?_)
    | (refine Fin.go ?_; first | (refine Fin.p ?_; first | exact FT | (try refine TTdt ?_; try simp only [LF])) | refine Fin.a0 ?_ | refine Fin.a ?_ | refine Fin.ni ?_ | refine Fin.v ?_ ?_ | refine Fin.r ?_ ?_ | exact Fin.th | (refine Fin.t ?_; try simp only [AV.sl.injEq]))
    | (refine And.go ?_; refine AndI ?_)
    | fail)
  all_goals (try clear hr hk hB)
  all_goals first | rfl | (simp (disch := first | assumption | omega) only [sz_int, sz_bool, szStr_neg, szStr_pos, sz_m1, neg])
/-- laws.toCandidate -/
def w_toCandidate.x (c_w_toLinkS : Nat) : XCode :=
  (.seq
    (.reg [⟨(some 1), .boxF, [.t 0], none⟩,
      ⟨(some 2), (.alloc [.nilsl]), [], none⟩] [1, 2])
    (.seq
      (.reg [⟨(some 3), (.alloc [.nilsl]), [], none⟩] [1, 2, 3])
      (.seq
        (.reg [⟨(some 4), (.fldA 0), [.t 1], none⟩,
          ⟨(some 5), (.ld none), [.t 4], none⟩,
          ⟨(some 6), .call, [.k (.fn c_w_toLinkS []), .t 5], none⟩,
          ⟨(some 7), (.fldA 0), [.t 3], none⟩,
          ⟨none, (.st none), [.t 7, .t 6], none⟩] [2, 3])
        (.seq
          (.reg [⟨(some 8), (.ld (some 1)), [.t 3], none⟩,
            ⟨none, (.st (some 1)), [.t 2, .t 8], none⟩] [2])
          .ret))))
def w_toCandidate.F : Cfg := ⟨fun _ => 0, fun r => match r with | 0 => [1, 2] | 1 => [1, 2, 3] | 2 => [2, 3] | 3 => [2] | _ => []⟩
def w_toCandidate.X (c_w_toLinkS : Nat) : FX := ⟨9, [.cell 2 (some 1)], w_toCandidate.F, w_toCandidate.x c_w_toLinkS⟩

theorem w_toCandidate.ok {P : Program} {k c_w_toLinkS : Nat} (hk : Has P k (w_toCandidate.X c_w_toLinkS)) (h1 : C_toS Lnk P c_w_toLinkS) : C_toT (List Lnk) P k := by
  intro x hl n H
  refine S.ofX hk rfl fun hB fn hr => ?_
  unfold w_toCandidate.x
  repeat' (first
    | refine S.seq ?_ | refine S.skip ?_ | refine S.block ?_ | refine S.inBlock ?_ | refine S.exit rfl ?_ | refine S.regN ?_ | refine S.reg ?_ | refine S.drw hk.mo (by kernel_rfl) ?_
    | ((first | refine Ns.go ?_ | refine XOs.go ?_ | refine XDs.go ?_ | refine OK.go ?_); (first | refine TTdt ?_ | (apply Ns.sc ⟨rfl, rfl⟩ rfl; intro hg) | (refine OK.tr ?_; refine TTdt ?_)); (try simp only [HC] at hg))
    | with_reducible exact rfl | exact ⟨rfl, rfl, rfl⟩
    | refine RunsF.apf (h1 _ hl) rfl ?_ | refine RunsF.apd (h1 _ hl) rfl ?_
    | (refine S.cond rfl (fun hc => ?_) (fun hc => ?_) <;> try simp only [HC] at hc)
    | (refine Gd.on (fun hg => ?_) (fun hg => ?_) <;> refine TGdt ?_ <;> (try simp only [HC] at hg))
    | refine S.retH hr rfl ?_ | refine S.finH hr rfl ?_ | (refine S.retK hr ?_; refine TRdt ?_)
    | (refine Fin.go ?_; first | (refine Fin.p ?_; first | exact FT | (try refine TTdt ?_; try simp only [LF])) | refine Fin.a0 ?_ | refine Fin.a ?_ | refine Fin.ni ?_ | refine Fin.v ?_ ?_ | refine Fin.r ?_ ?_ | exact Fin.th | (refine Fin.t ?_; try simp only [AV.sl.injEq]))
    | (refine And.go ?_; refine AndI ?_)
    | fail)
  all_goals rfl
/-- laws.eqCandidate -/
def w_eqCandidate.x (c_w_eqLinkS : Nat) : XCode :=
  (.seq
    (.reg [⟨(some 2), .boxF, [.t 0], none⟩,
      ⟨(some 3), .boxF, [.t 1], none⟩,
      ⟨(some 4), .mv, [.k (.bool false)], none⟩] [2, 3])
    (.seq
      (.seq
        (.reg [⟨(some 5), (.fldA 0), [.t 2], none⟩,
          ⟨(some 6), (.ld none), [.t 5], none⟩,
          ⟨(some 7), (.fldA 0), [.t 3], none⟩,
          ⟨(some 8), (.ld none), [.t 7], none⟩,
          ⟨(some 9), .call, [.k (.fn c_w_eqLinkS []), .t 6, .t 8], none⟩,
          ⟨(some 10), (.un .not), [.t 9], none⟩] [10])
        (.cond (.t 10)
          (.seq
            (.reg [⟨(some 4), .mv, [.k (.bool false)], none⟩] [4])
            .ret)
          .skip))
      (.seq
        (.reg [⟨(some 4), .mv, [.k (.bool true)], none⟩] [4])
        .ret)))
def w_eqCandidate.F : Cfg := ⟨fun _ => 0, fun r => match r with | 0 => [2, 3] | 1 => [10] | 2 => [4] | 3 => [4] | _ => []⟩
def w_eqCandidate.X (c_w_eqLinkS : Nat) : FX := ⟨11, [.tmp 4], w_eqCandidate.F, w_eqCandidate.x c_w_eqLinkS⟩

theorem w_eqCandidate.ok {P : Program} {k c_w_eqLinkS : Nat} (hk : Has P k (w_eqCandidate.X c_w_eqLinkS)) (h1 : C_eqS Lnk P c_w_eqLinkS) : C_eqT (List Lnk) P k := by
  intro x y hl hm n H
  refine S.ofX hk rfl fun hB fn hr => ?_
  unfold w_eqCandidate.x
  repeat' (first
    | refine S.seq ?_ | refine S.skip ?_ | refine S.block ?_ | refine S.inBlock ?_ | refine S.exit rfl ?_ | refine S.regN ?_ | refine S.reg ?_ | refine S.drw hk.mo (by kernel_rfl) ?_
    | ((first | refine Ns.go ?_ | refine XOs.go ?_ | refine XDs.go ?_ | refine OK.go ?_); (first | refine TTdt ?_ | (apply Ns.sc ⟨rfl, rfl⟩ rfl; intro hg) | (refine OK.tr ?_; refine TTdt ?_)); (try simp only [HC] at hg))
    | with_reducible exact rfl | exact ⟨rfl, rfl, rfl⟩
    | refine RunsF.apf (h1 _ _ hl hm) rfl ?_ | refine RunsF.apd (h1 _ _ hl hm) rfl ?_
    | (refine S.cond rfl (fun hc => ?_) (fun hc => ?_) <;> try simp only [HC] at hc)
    | (refine Gd.on (fun hg => ?_) (fun hg => ?_) <;> refine TGdt ?_ <;> (try simp only [HC] at hg))
    | refine S.retH hr rfl ?_ | refine S.finH hr rfl ?_ | (refine S.retK hr ?_; refine TRdt ?_)
    | (refine Fin.go ?_; first | (refine Fin.p ?_; first | exact FT | (try refine TTdt ?_; try simp only [LF])) | refine Fin.a0 ?_ | refine Fin.a ?_ | refine Fin.ni ?_ | refine Fin.v ?_ ?_ | refine Fin.r ?_ ?_ | exact Fin.th | (refine Fin.t ?_; try simp only [AV.sl.injEq]))
    | (refine And.go ?_; refine AndI ?_)
    | fail)
  all_goals (try clear hr hk hB)
  all_goals (try clear hl hm)
  all_goals (rw [Bool.eq_iff_iff]; simp_all)
/-- laws.szCandidateS -/
def w_szCandidateS.x (c_w_szCandidate : Nat) : XCode :=
  (.seq
    (.reg [⟨(some 4), .mv, [.k (.int .i64 0)], none⟩] [0, 1])
    (.seq
      (.reg [⟨(some 6), .mv, [.t 1], none⟩,
        ⟨(some 7), .mv, [.t 0], none⟩,
        ⟨(some 8), .lenL, [.t 7], none⟩,
        ⟨(some 9), (.bin .sub), [.t 6, .t 8], none⟩,
        ⟨(some 1), .mv, [.t 9], none⟩] [0, 1])
      (.seq
        (.seq
          (.reg [⟨(some 10), .mv, [.t 1], none⟩,
            ⟨(some 11), (.bin .lss), [.t 10, .k (.int .i64 0)], none⟩] [0, 1, 11])
          (.cond (.t 11)
            (.seq
              (.reg [⟨(some 4), .mv, [.k (.int .i64 (-1))], none⟩] [4])
              .ret)
            .skip))
        (.seq
          (.seq
            (.reg [⟨(some 5), .mv, [.k (.int .i64 0)], none⟩] [0, 1, 5])
            (.block 0
              (.loop
                (.seq
                  (.seq
                    (.reg [⟨(some 12), .mv, [.t 5], none⟩,
                      ⟨(some 13), .mv, [.t 0], none⟩,
                      ⟨(some 14), .lenL, [.t 13], none⟩,
                      ⟨(some 15), (.bin .lss), [.t 12, .t 14], none⟩] [0, 1, 5, 15])
                    (.cond (.t 15)
                      .skip
                      (.exit 0)))
                  (.seq
                    (.block 1
                      (.seq
                        (.reg [⟨(some 18), .mv, [.t 0], none⟩,
                          ⟨(some 19), .mv, [.t 5], none⟩,
                          ⟨(some 20), (.idxA 1), [.t 18, .t 19], none⟩,
                          ⟨(some 21), (.ld (some 1)), [.t 20], none⟩,
                          ⟨(some 22), .mv, [.t 1], none⟩,
                          ⟨(some 23), .call, [.k (.fn c_w_szCandidate []), .t 21, .t 22], none⟩,
                          ⟨(some 1), .mv, [.t 23], none⟩] [0, 1, 5])
                        (.seq
                          (.reg [⟨(some 24), .mv, [.t 1], none⟩,
                            ⟨(some 25), (.bin .lss), [.t 24, .k (.int .i64 0)], none⟩] [0, 1, 5, 25])
                          (.cond (.t 25)
                            (.seq
                              (.reg [⟨(some 4), .mv, [.k (.int .i64 (-1))], none⟩] [4])
                              .ret)
                            .skip))))
                    (.reg [⟨(some 16), .mv, [.t 5], none⟩,
                      ⟨(some 17), (.bin .add), [.t 16, .k (.int .i64 1)], none⟩,
                      ⟨(some 5), .mv, [.t 17], none⟩] [0, 1, 5]))))))
          (.seq
            (.reg [⟨(some 26), .mv, [.t 1], none⟩,
              ⟨(some 4), .mv, [.t 26], none⟩] [4])
            .ret)))))
def w_szCandidateS.F : Cfg := ⟨fun _ => 0, fun r => match r with | 0 => [0, 1] | 1 => [0, 1] | 2 => [0, 1, 11] | 3 => [4] | 4 => [0, 1, 5] | 5 => [0, 1, 5, 15] | 6 => [0, 1, 5] | 7 => [0, 1, 5] | 8 => [0, 1, 5, 25] | 9 => [4] | 10 => [4] | _ => []⟩
def w_szCandidateS.X (c_w_szCandidate : Nat) : FX := ⟨27, [.tmp 4], w_szCandidateS.F, w_szCandidateS.x c_w_szCandidate⟩

theorem w_szCandidateS.ok {P : Program} {k c_w_szCandidate : Nat} (hk : Has P k (w_szCandidateS.X c_w_szCandidate)) (h1 : C_szT (List Lnk) P c_w_szCandidate) : C_szS (List Lnk) P k := by
  intro l a hl ha1 ha2 n H
  obtain ⟨hl1, hl2⟩ := hl
  unfold mxi at hl1
  refine S.ofX hk rfl fun hB fn hr => ?_
  unfold w_szCandidateS.x
  repeat' (first
    | refine S.seq ?_ | refine S.skip ?_ | refine S.block ?_ | refine S.inBlock ?_ | refine S.exit rfl ?_ | refine S.regN ?_ | refine S.reg ?_ | refine S.drw hk.mo (by kernel_rfl) ?_
    | ((first | refine Ns.go ?_ | refine XOs.go ?_ | refine XDs.go ?_ | refine OK.go ?_); (first | refine TTdt ?_ | (apply Ns.sc ⟨rfl, rfl⟩ rfl; intro hg) | (refine OK.tr ?_; refine TTdt ?_)); (try simp only [HC] at hg))
    | with_reducible exact rfl | exact ⟨rfl, rfl, rfl⟩
    | (refine S.cond rfl (fun hc => ?_) (fun hc => ?_) <;> try simp only [HC] at hc)
    | (refine Gd.on (fun hg => ?_) (fun hg => ?_) <;> refine TGdt ?_ <;> (try simp only [HC] at hg))
    | refine S.retH hr rfl ?_ | refine S.finH hr rfl ?_ | (refine S.retK hr ?_; refine TRdt ?_)
    | (refine Fin.go ?_; first | (refine Fin.p ?_; first | exact FT | (try refine TTdt ?_; try simp only [LF])) | refine Fin.a0 ?_ | refine Fin.a ?_ | refine Fin.ni ?_ | refine Fin.v ?_ ?_ | refine Fin.r ?_ ?_ | exact Fin.th | (refine Fin.t ?_; try simp only [AV.sl.injEq]))
    | (refine And.go ?_; refine AndI ?_)
    | fail)
  · exact (szS_neg hc).symm
  refine S.loopV (σ := Nat × Int) [0, 1, 5] (fun s => [(1, .int .i64 s.2), (5, .int .i64 (s.1 : Int))]) (fun s => s.1 ≤ l.length ∧ 0 ≤ s.2 ∧ s.2 ≤ 1048576 ∧ szl (l.drop s.1) s.2 = sz l a) (fun s => n) (fun s => H) (fun s => l.length - s.1) (0, (a - l.length)) (⟨by omega, by omega, by omega, szS_init (by omega)⟩) ?_
  rintro ⟨i, b⟩ ⟨hi1, hi2, hi3, hi4⟩ ih
  try dsimp only at hi1 hi2 hi3 hi4
  repeat' (first
    | refine S.seq ?_ | refine S.skip ?_ | refine S.block ?_ | refine S.inBlock ?_ | refine S.exit rfl ?_ | refine S.regN ?_ | refine S.reg ?_ | refine S.drw hk.mo (by kernel_rfl) ?_
    | ((first | refine Ns.go ?_ | refine XOs.go ?_ | refine XDs.go ?_ | refine OK.go ?_); (first | refine TTdt ?_ | (apply Ns.sc ⟨rfl, rfl⟩ rfl; intro hg) | (refine OK.tr ?_; refine TTdt ?_)); (try simp only [HC] at hg))
    | with_reducible exact rfl | exact ⟨rfl, rfl, rfl⟩
    | refine S.ag (ih ((i + 1, _)) ?_ ?_)
    | refine RunsF.apf (h1 _ _ (ok_at hl2 (by omega)) (by omega) (by omega)) rfl ?_ | refine RunsF.apd (h1 _ _ (ok_at hl2 (by omega)) (by omega) (by omega)) rfl ?_
    | (refine S.cond rfl (fun hc => ?_) (fun hc => ?_) <;> try simp only [HC] at hc)
    | (refine Gd.on (fun hg => ?_) (fun hg => ?_) <;> refine TGdt ?_ <;> (try simp only [HC] at hg))
    | refine S.retH hr rfl ?_ | refine S.finH hr rfl ?_ | (refine S.retK hr ?_; refine TRdt ?_)
    | (refine Fin.go ?_; first | (refine Fin.p ?_; first | exact FT | (try refine TTdt ?_; try simp only [LF])) | refine Fin.a0 ?_ | refine Fin.a ?_ | refine Fin.ni ?_ | refine Fin.v ?_ ?_ | refine Fin.r ?_ ?_ | exact Fin.th | (refine Fin.t ?_; try simp only [AV.sl.injEq]))
    | (refine And.go ?_; refine AndI ?_)
    | fail)
  all_goals (try clear ih)
  all_goals (try dsimp only)
  all_goals (repeat' apply And.intro)
  all_goals first | omega | (simp only [ZL]; omega) | skip
  all_goals (try clear hr hk hB)
  all_goals first | exact (szS_stop hi4 (by omega) hc (by omega)).symm | exact szS_end hi4 (by omega) | exact szS_next hi4 (by omega) | exact Int.le_trans (up _ _ (by omega)) (by omega)
/-- laws.toCandidateS -/
def w_toCandidateS.x (c_w_toCandidate : Nat) : XCode :=
  (.seq
    (.reg [⟨(some 2), .mv, [.k (.nilsl)], none⟩] [0])
    (.seq
      (.reg [⟨(some 5), .mv, [.t 0], none⟩,
        ⟨(some 6), .lenL, [.t 5], none⟩,
        ⟨(some 7), (.mks 2 1 24 [.nilsl]), [.t 6, .t 6], none⟩,
        ⟨(some 3), .mv, [.t 7], none⟩] [0, 3])
      (.seq
        (.seq
          (.reg [⟨(some 4), .mv, [.k (.int .i64 0)], none⟩] [0, 3, 4])
          (.block 0
            (.loop
              (.seq
                (.seq
                  (.reg [⟨(some 8), .mv, [.t 4], none⟩,
                    ⟨(some 9), .mv, [.t 0], none⟩,
                    ⟨(some 10), .lenL, [.t 9], none⟩,
                    ⟨(some 11), (.bin .lss), [.t 8, .t 10], none⟩] [0, 3, 4, 11])
                  (.cond (.t 11)
                    .skip
                    (.exit 0)))
                (.seq
                  (.block 1
                    (.reg [⟨(some 14), .mv, [.t 3], none⟩,
                      ⟨(some 15), .mv, [.t 4], none⟩,
                      ⟨(some 16), .mv, [.t 0], none⟩,
                      ⟨(some 17), .mv, [.t 4], none⟩,
                      ⟨(some 18), (.idxA 1), [.t 16, .t 17], none⟩,
                      ⟨(some 19), (.ld (some 1)), [.t 18], none⟩,
                      ⟨(some 20), .call, [.k (.fn c_w_toCandidate []), .t 19], none⟩,
                      ⟨(some 21), (.idxA 1), [.t 14, .t 15], none⟩,
                      ⟨none, (.st (some 1)), [.t 21, .t 20], none⟩] [0, 3, 4]))
                  (.reg [⟨(some 12), .mv, [.t 4], none⟩,
                    ⟨(some 13), (.bin .add), [.t 12, .k (.int .i64 1)], none⟩,
                    ⟨(some 4), .mv, [.t 13], none⟩] [0, 3, 4]))))))
        (.seq
          (.reg [⟨(some 22), .mv, [.t 3], none⟩,
            ⟨(some 2), .mv, [.t 22], none⟩] [2])
          .ret))))
def w_toCandidateS.F : Cfg := ⟨fun d => if d = 7 then 2 else 0, fun r => match r with | 0 => [0] | 1 => [0, 3] | 2 => [0, 3, 4] | 3 => [0, 3, 4, 11] | 4 => [0, 3, 4] | 5 => [0, 3, 4] | 6 => [2] | _ => []⟩
def w_toCandidateS.X (c_w_toCandidate : Nat) : FX := ⟨23, [.tmp 2], w_toCandidateS.F, w_toCandidateS.x c_w_toCandidate⟩

theorem w_toCandidateS.ok {P : Program} {k c_w_toCandidate : Nat} (hk : Has P k (w_toCandidateS.X c_w_toCandidate)) (h1 : C_toT (List Lnk) P c_w_toCandidate) : C_toS (List Lnk) P k := by
  intro l hl n H
  obtain ⟨hl1, hl2⟩ := hl
  unfold mxs at hl1
  refine S.ofX hk rfl fun hB fn hr => ?_
  unfold w_toCandidateS.x
  repeat' (first
    | refine S.seq ?_ | refine S.skip ?_ | refine S.block ?_ | refine S.inBlock ?_ | refine S.exit rfl ?_ | refine S.regN ?_ | refine S.reg ?_ | refine S.drw hk.mo (by kernel_rfl) ?_
    | ((first | refine Ns.go ?_ | refine XOs.go ?_ | refine XDs.go ?_ | refine OK.go ?_); (first | refine TTdt ?_ | (apply Ns.sc ⟨rfl, rfl⟩ rfl; intro hg) | (refine OK.tr ?_; refine TTdt ?_)); (try simp only [HC] at hg))
    | with_reducible exact rfl | exact ⟨rfl, rfl, rfl⟩
    | (refine S.cond rfl (fun hc => ?_) (fun hc => ?_) <;> try simp only [HC] at hc)
    | (refine Gd.on (fun hg => ?_) (fun hg => ?_) <;> refine TGdt ?_ <;> (try simp only [HC] at hg))
    | refine S.retH hr rfl ?_ | refine S.finH hr rfl ?_ | (refine S.retK hr ?_; refine TRdt ?_)
    | (refine Fin.go ?_; first | (refine Fin.p ?_; first | exact FT | (try refine TTdt ?_; try simp only [LF])) | refine Fin.a0 ?_ | refine Fin.a ?_ | refine Fin.ni ?_ | refine Fin.v ?_ ?_ | refine Fin.r ?_ ?_ | exact Fin.th | (refine Fin.t ?_; try simp only [AV.sl.injEq]))
    | (refine And.go ?_; refine AndI ?_)
    | fail)
  refine S.loopV (σ := Nat × (List AV)) [0, 3, 4] (fun s => [(3, .ref n 1 0 l.length), (4, .int .i64 (s.1 : Int))]) (fun s => s.1 ≤ l.length ∧ s.2.length = l.length * 1 ∧ s.2.take (s.1 * 1) = (enc (l.take s.1)).flatten) (fun s => n + 1) (fun s => (n, .own s.2) :: H) (fun s => l.length - s.1) (0, _) (⟨by omega, ?_, fc_0⟩) ?_
  · first | rfl | omega | (simp; done) | (simp; omega) | skip
  rintro ⟨i, out⟩ ⟨hi1, hi2, hi3⟩ ih
  try dsimp only at hi1 hi2 hi3
  repeat' (first
    | refine S.seq ?_ | refine S.skip ?_ | refine S.block ?_ | refine S.inBlock ?_ | refine S.exit rfl ?_ | refine S.regN ?_ | refine S.reg ?_ | refine S.drw hk.mo (by kernel_rfl) ?_
    | ((first | refine Ns.go ?_ | refine XOs.go ?_ | refine XDs.go ?_ | refine OK.go ?_); (first | refine TTdt ?_ | (apply Ns.sc ⟨rfl, rfl⟩ rfl; intro hg) | (refine OK.tr ?_; refine TTdt ?_)); (try simp only [HC] at hg))
    | with_reducible exact rfl | exact ⟨rfl, rfl, rfl⟩
    | (refine Fin.fc hi3 (by omega) hi2)
    | refine S.ag (ih ((i + 1, _)) ?_ ?_)
    | refine RunsF.apf (h1 _ (ok_at hl2 (by omega))) rfl ?_ | refine RunsF.apd (h1 _ (ok_at hl2 (by omega))) rfl ?_
    | (refine S.cond rfl (fun hc => ?_) (fun hc => ?_) <;> try simp only [HC] at hc)
    | (refine Gd.on (fun hg => ?_) (fun hg => ?_) <;> refine TGdt ?_ <;> (try simp only [HC] at hg))
    | refine S.retH hr rfl ?_ | refine S.finH hr rfl ?_ | (refine S.retK hr ?_; refine TRdt ?_)
    | (refine Fin.go ?_; first | (refine Fin.p ?_; first | exact FT | (try refine TTdt ?_; try simp only [LF])) | refine Fin.a0 ?_ | refine Fin.a ?_ | refine Fin.ni ?_ | refine Fin.v ?_ ?_ | refine Fin.r ?_ ?_ | exact Fin.th | (refine Fin.t ?_; try simp only [AV.sl.injEq]))
    | (refine And.go ?_; refine AndI ?_)
    | fail)
  all_goals (try clear ih)
  all_goals (try dsimp only)
  all_goals (repeat' apply And.intro)
  all_goals first | omega | (simp only [ZL]; omega) | skip
  all_goals (try clear hr hk hB)
  all_goals first | exact fc_len hi2 (by omega) rfl | exact fc_next hi3 hi2 (by omega) rfl rfl
/-- laws.eqCandidateS -/
def w_eqCandidateS.x (c_w_eqCandidate : Nat) : XCode :=
  (.seq
    (.reg [⟨(some 4), .mv, [.k (.bool false)], none⟩] [0, 1])
    (.seq
      (.seq
        (.reg [⟨(some 6), .mv, [.t 0], none⟩,
          ⟨(some 7), .lenL, [.t 6], none⟩,
          ⟨(some 8), .mv, [.t 1], none⟩,
          ⟨(some 9), .lenL, [.t 8], none⟩,
          ⟨(some 10), (.bin .neq), [.t 7, .t 9], none⟩] [0, 1, 10])
        (.cond (.t 10)
          (.seq
            (.reg [⟨(some 4), .mv, [.k (.bool false)], none⟩] [4])
            .ret)
          .skip))
      (.seq
        (.seq
          (.reg [⟨(some 5), .mv, [.k (.int .i64 0)], none⟩] [0, 1, 5])
          (.block 0
            (.loop
              (.seq
                (.seq
                  (.reg [⟨(some 11), .mv, [.t 5], none⟩,
                    ⟨(some 12), .mv, [.t 0], none⟩,
                    ⟨(some 13), .lenL, [.t 12], none⟩,
                    ⟨(some 14), (.bin .lss), [.t 11, .t 13], none⟩] [0, 1, 5, 14])
                  (.cond (.t 14)
                    .skip
                    (.exit 0)))
                (.seq
                  (.block 1
                    (.seq
                      (.drw [(⟨(some 17), .mv, [.t 0], none⟩, []),
                        (⟨(some 18), .mv, [.t 5], none⟩, []),
                        (⟨(some 19), (.idxA 1), [.t 17, .t 18], none⟩, [0, 1]),
                        (⟨(some 20), (.ld (some 1)), [.t 19], none⟩, [2]),
                        (⟨(some 21), .mv, [.t 1], none⟩, []),
                        (⟨(some 22), .mv, [.t 5], none⟩, []),
                        (⟨(some 23), (.idxA 1), [.t 21, .t 22], none⟩, [4, 5]),
                        (⟨(some 24), (.ld (some 1)), [.t 23], none⟩, [6]),
                        (⟨(some 25), .call, [.k (.fn c_w_eqCandidate []), .t 20, .t 24], none⟩, [3, 7]),
                        (⟨(some 26), (.un .not), [.t 25], none⟩, [8])] [0, 1, 5, 26] [0, 0, 0, 0, 0, 0, 0, 0, 0, 0])
                      (.cond (.t 26)
                        (.seq
                          (.reg [⟨(some 4), .mv, [.k (.bool false)], none⟩] [4])
                          .ret)
                        .skip)))
                  (.reg [⟨(some 15), .mv, [.t 5], none⟩,
                    ⟨(some 16), (.bin .add), [.t 15, .k (.int .i64 1)], none⟩,
                    ⟨(some 5), .mv, [.t 16], none⟩] [0, 1, 5]))))))
        (.seq
          (.reg [⟨(some 4), .mv, [.k (.bool true)], none⟩] [4])
          .ret))))
def w_eqCandidateS.F : Cfg := ⟨fun _ => 0, fun r => match r with | 0 => [0, 1] | 1 => [0, 1, 10] | 2 => [4] | 3 => [0, 1, 5] | 4 => [0, 1, 5, 14] | 5 => [0, 1, 5] | 6 => [0, 1, 5, 26] | 7 => [4] | 8 => [4] | 1000006 => [0, 0, 0, 0, 0, 0, 0, 0, 0, 0] | _ => []⟩
def w_eqCandidateS.X (c_w_eqCandidate : Nat) : FX := ⟨27, [.tmp 4], w_eqCandidateS.F, w_eqCandidateS.x c_w_eqCandidate⟩

theorem w_eqCandidateS.ok {P : Program} {k c_w_eqCandidate : Nat} (hk : Has P k (w_eqCandidateS.X c_w_eqCandidate)) (h1 : C_eqT (List Lnk) P c_w_eqCandidate) : C_eqS (List Lnk) P k := by
  intro l m hl hm n H
  obtain ⟨hl1, hl2⟩ := hl
  obtain ⟨hm1, hm2⟩ := hm
  unfold mxs at hl1 hm1
  refine S.ofX hk rfl fun hB fn hr => ?_
  unfold w_eqCandidateS.x
  repeat' (first
    | refine S.seq ?_ | refine S.skip ?_ | refine S.block ?_ | refine S.inBlock ?_ | refine S.exit rfl ?_ | refine S.regN ?_ | refine S.reg ?_ | refine S.drw hk.mo (by kernel_rfl) ?_
    | ((first | refine Ns.go ?_ | refine XOs.go ?_ | refine XDs.go ?_ | refine OK.go ?_); (first | refine TTdt ?_ | (apply Ns.sc ⟨rfl, rfl⟩ rfl; intro hg) | (refine OK.tr ?_; refine TTdt ?_)); (try simp only [HC] at hg))
    | with_reducible exact rfl | exact ⟨rfl, rfl, rfl⟩
    | (refine S.cond rfl (fun hc => ?_) (fun hc => ?_) <;> try simp only [HC] at hc)
    | (refine Gd.on (fun hg => ?_) (fun hg => ?_) <;> refine TGdt ?_ <;> (try simp only [HC] at hg))
    | refine S.retH hr rfl ?_ | refine S.finH hr rfl ?_ | (refine S.retK hr ?_; refine TRdt ?_)
    | (refine Fin.go ?_; first | (refine Fin.p ?_; first | exact FT | (try refine TTdt ?_; try simp only [LF])) | refine Fin.a0 ?_ | refine Fin.a ?_ | refine Fin.ni ?_ | refine Fin.v ?_ ?_ | refine Fin.r ?_ ?_ | exact Fin.th | (refine Fin.t ?_; try simp only [AV.sl.injEq]))
    | (refine And.go ?_; refine AndI ?_)
    | fail)
  · exact (decL (by omega)).symm
  refine S.loopV (σ := Nat) [0, 1, 5] (fun s => [(5, .int .i64 (s : Int))]) (fun s => s ≤ l.length ∧ ∀ j, j < s → l.getD j default = m.getD j default) (fun s => n) (fun s => H) (fun s => l.length - s) (0) (⟨by omega, ?_⟩) ?_
  · first | rfl | omega | (simp; done) | (simp; omega) | skip
  rintro i ⟨hi1, hi2⟩ ih
  try dsimp only at hi1 hi2
  repeat' (first
    | refine S.seq ?_ | refine S.skip ?_ | refine S.block ?_ | refine S.inBlock ?_ | refine S.exit rfl ?_ | refine S.regN ?_ | refine S.reg ?_ | refine S.drw hk.mo (by kernel_rfl) ?_
    | ((first | refine Ns.go ?_ | refine XOs.go ?_ | refine XDs.go ?_ | refine OK.go ?_); (first | refine TTdt ?_ | (apply Ns.sc ⟨rfl, rfl⟩ rfl; intro hg) | (refine OK.tr ?_; refine TTdt ?_)); (try simp only [HC] at hg))
    | with_reducible exact rfl | exact ⟨rfl, rfl, rfl⟩
    | refine S.ag (ih (i + 1) ?_ ?_)
    | refine RunsF.apf (h1 _ _ (ok_at hl2 (by omega)) (ok_at hm2 (by omega))) rfl ?_ | refine RunsF.apd (h1 _ _ (ok_at hl2 (by omega)) (ok_at hm2 (by omega))) rfl ?_
    | (refine S.cond rfl (fun hc => ?_) (fun hc => ?_) <;> try simp only [HC] at hc)
    | (refine Gd.on (fun hg => ?_) (fun hg => ?_) <;> refine TGdt ?_ <;> (try simp only [HC] at hg))
    | refine S.retH hr rfl ?_ | refine S.finH hr rfl ?_ | (refine S.retK hr ?_; refine TRdt ?_)
    | (refine Fin.go ?_; first | (refine Fin.p ?_; first | exact FT | (try refine TTdt ?_; try simp only [LF])) | refine Fin.a0 ?_ | refine Fin.a ?_ | refine Fin.ni ?_ | refine Fin.v ?_ ?_ | refine Fin.r ?_ ?_ | exact Fin.th | (refine Fin.t ?_; try simp only [AV.sl.injEq]))
    | (refine And.go ?_; refine AndI ?_)
    | fail)
  all_goals (try clear ih)
  all_goals (try dsimp only)
  all_goals (repeat' apply And.intro)
  all_goals first | omega | (simp only [ZL]; omega) | skip
  all_goals (try clear hr hk hB)
  all_goals first | (exact (decG hc).symm) | (exact (decA (by omega) (fun j hj => hi2 j (by omega))).symm) | (exact decN hi2 hc)
/-- laws.szRow -/
def w_szRow.x (c_w_szIntS : Nat) : XCode :=
  (.seq
    (.reg [⟨(some 2), .boxF, [.t 0], none⟩,
      ⟨(some 4), .mv, [.k (.int .i64 0)], none⟩] [1, 2])
    (.seq
      (.reg [⟨(some 5), (.fldA 0), [.t 2], none⟩,
        ⟨(some 6), (.ld none), [.t 5], none⟩,
        ⟨(some 7), .mv, [.t 1], none⟩,
        ⟨(some 8), .call, [.k (.fn c_w_szIntS []), .t 6, .t 7], none⟩,
        ⟨(some 1), .mv, [.t 8], none⟩] [1])
      (.seq
        (.seq
          (.reg [⟨(some 9), .mv, [.t 1], none⟩,
            ⟨(some 10), (.bin .lss), [.t 9, .k (.int .i64 0)], none⟩] [1, 10])
          (.cond (.t 10)
            (.seq
              (.reg [⟨(some 4), .mv, [.k (.int .i64 (-1))], none⟩] [4])
              .ret)
            .skip))
        (.seq
          (.reg [⟨(some 11), .mv, [.t 1], none⟩,
            ⟨(some 4), .mv, [.t 11], none⟩] [4])
          .ret))))
def w_szRow.F : Cfg := ⟨fun _ => 0, fun r => match r with | 0 => [1, 2] | 1 => [1] | 2 => [1, 10] | 3 => [4] | 4 => [4] | _ => []⟩
def w_szRow.X (c_w_szIntS : Nat) : FX := ⟨12, [.tmp 4], w_szRow.F, w_szRow.x c_w_szIntS⟩

theorem w_szRow.ok {P : Program} {k c_w_szIntS : Nat} (hk : Has P k (w_szRow.X c_w_szIntS)) (h1 : C_szS Int P c_w_szIntS) : C_szT (List Int) P k := by
  intro x a hl ha1 ha2 n H
  refine S.ofX hk rfl fun hB fn hr => ?_
  unfold w_szRow.x
  repeat' (first
    | refine S.seq ?_ | refine S.skip ?_ | refine S.block ?_ | refine S.inBlock ?_ | refine S.exit rfl ?_ | refine S.regN ?_ | refine S.reg ?_ | refine S.drw hk.mo (by kernel_rfl) ?_
    | ((first | refine Ns.go ?_ | refine XOs.go ?_ | refine XDs.go ?_ | refine OK.go ?_); (first | refine TTdt ?_ | (apply Ns.sc ⟨rfl, rfl⟩ rfl; intro hg) | (refine OK.tr ?_; refine TTdt ?_)); (try simp only [HC] at hg))
    | with_reducible exact rfl | exact ⟨rfl, rfl, rfl⟩
    | refine RunsF.apf (h1 _ _ hl (by omega) UB) rfl ?_ | refine RunsF.apd (h1 _ _ hl (by omega) UB) rfl ?_
    | (refine S.cond rfl (fun hc => ?_) (fun hc => ?_) <;> try simp only [HC] at hc)
    | (refine Gd.on (fun hg => ?_) (fun hg => ?_) <;> refine TGdt ?_ <;> (try simp only [HC] at hg))
    | refine S.retH hr rfl ?_ | refine S.finH hr rfl ?_ | (refine S.retK hr ?_; refine TRdt ?_)
    | (refine Fin.go ?_; first | (refine Fin.p ?_; first | exact FT | (try refine TTdt ?_; try simp only [LF])) | refine Fin.a0 ?_ | refine Fin.a ?_ | refine Fin.ni ?_ | refine Fin.v ?_ ?_ | refine Fin.r ?_ ?_ | exact Fin.th | (refine Fin.t ?_; try simp only [AV.sl.injEq]))
    | (refine And.go ?_; refine AndI ?_)
    | fail)
  all_goals (try clear hr hk hB)
  all_goals first | rfl | (simp (disch := first | assumption | omega) only [sz_int, sz_bool, szStr_neg, szStr_pos, sz_m1, neg])
/-- laws.toRow -/
def w_toRow.x (c_w_toIntS : Nat) : XCode :=
  (.seq
    (.reg [⟨(some 1), .boxF, [.t 0], none⟩,
      ⟨(some 2), (.alloc [.nilsl]), [], none⟩] [1, 2])
    (.seq
      (.reg [⟨(some 3), (.alloc [.nilsl]), [], none⟩] [1, 2, 3])
      (.seq
        (.reg [⟨(some 4), (.fldA 0), [.t 1], none⟩,
          ⟨(some 5), (.ld none), [.t 4], none⟩,
          ⟨(some 6), .call, [.k (.fn c_w_toIntS []), .t 5], none⟩,
          ⟨(some 7), (.fldA 0), [.t 3], none⟩,
          ⟨none, (.st none), [.t 7, .t 6], none⟩] [2, 3])
        (.seq
          (.reg [⟨(some 8), (.ld (some 1)), [.t 3], none⟩,
            ⟨none, (.st (some 1)), [.t 2, .t 8], none⟩] [2])
          .ret))))
def w_toRow.F : Cfg := ⟨fun _ => 0, fun r => match r with | 0 => [1, 2] | 1 => [1, 2, 3] | 2 => [2, 3] | 3 => [2] | _ => []⟩
def w_toRow.X (c_w_toIntS : Nat) : FX := ⟨9, [.cell 2 (some 1)], w_toRow.F, w_toRow.x c_w_toIntS⟩

theorem w_toRow.ok {P : Program} {k c_w_toIntS : Nat} (hk : Has P k (w_toRow.X c_w_toIntS)) (h1 : C_toS Int P c_w_toIntS) : C_toT (List Int) P k := by
  intro x hl n H
  refine S.ofX hk rfl fun hB fn hr => ?_
  unfold w_toRow.x
  repeat' (first
    | refine S.seq ?_ | refine S.skip ?_ | refine S.block ?_ | refine S.inBlock ?_ | refine S.exit rfl ?_ | refine S.regN ?_ | refine S.reg ?_ | refine S.drw hk.mo (by kernel_rfl) ?_
    | ((first | refine Ns.go ?_ | refine XOs.go ?_ | refine XDs.go ?_ | refine OK.go ?_); (first | refine TTdt ?_ | (apply Ns.sc ⟨rfl, rfl⟩ rfl; intro hg) | (refine OK.tr ?_; refine TTdt ?_)); (try simp only [HC] at hg))
    | with_reducible exact rfl | exact ⟨rfl, rfl, rfl⟩
    | refine RunsF.apf (h1 _ hl) rfl ?_ | refine RunsF.apd (h1 _ hl) rfl ?_
    | (refine S.cond rfl (fun hc => ?_) (fun hc => ?_) <;> try simp only [HC] at hc)
    | (refine Gd.on (fun hg => ?_) (fun hg => ?_) <;> refine TGdt ?_ <;> (try simp only [HC] at hg))
    | refine S.retH hr rfl ?_ | refine S.finH hr rfl ?_ | (refine S.retK hr ?_; refine TRdt ?_)
    | (refine Fin.go ?_; first | (refine Fin.p ?_; first | exact FT | (try refine TTdt ?_; try simp only [LF])) | refine Fin.a0 ?_ | refine Fin.a ?_ | refine Fin.ni ?_ | refine Fin.v ?_ ?_ | refine Fin.r ?_ ?_ | exact Fin.th | (refine Fin.t ?_; try simp only [AV.sl.injEq]))
    | (refine And.go ?_; refine AndI ?_)
    | fail)
  all_goals rfl
/-- laws.eqRow -/
def w_eqRow.x (c_w_eqIntS : Nat) : XCode :=
  (.seq
    (.reg [⟨(some 2), .boxF, [.t 0], none⟩,
      ⟨(some 3), .boxF, [.t 1], none⟩,
      ⟨(some 4), .mv, [.k (.bool false)], none⟩] [2, 3])
    (.seq
      (.seq
        (.reg [⟨(some 5), (.fldA 0), [.t 2], none⟩,
          ⟨(some 6), (.ld none), [.t 5], none⟩,
          ⟨(some 7), (.fldA 0), [.t 3], none⟩,
          ⟨(some 8), (.ld none), [.t 7], none⟩,
          ⟨(some 9), .call, [.k (.fn c_w_eqIntS []), .t 6, .t 8], none⟩,
          ⟨(some 10), (.un .not), [.t 9], none⟩] [10])
        (.cond (.t 10)
          (.seq
            (.reg [⟨(some 4), .mv, [.k (.bool false)], none⟩] [4])
            .ret)
          .skip))
      (.seq
        (.reg [⟨(some 4), .mv, [.k (.bool true)], none⟩] [4])
        .ret)))
def w_eqRow.F : Cfg := ⟨fun _ => 0, fun r => match r with | 0 => [2, 3] | 1 => [10] | 2 => [4] | 3 => [4] | _ => []⟩
def w_eqRow.X (c_w_eqIntS : Nat) : FX := ⟨11, [.tmp 4], w_eqRow.F, w_eqRow.x c_w_eqIntS⟩

theorem w_eqRow.ok {P : Program} {k c_w_eqIntS : Nat} (hk : Has P k (w_eqRow.X c_w_eqIntS)) (h1 : C_eqS Int P c_w_eqIntS) : C_eqT (List Int) P k := by
  intro x y hl hm n H
  refine S.ofX hk rfl fun hB fn hr => ?_
  unfold w_eqRow.x
  repeat' (first
    | refine S.seq ?_ | refine S.skip ?_ | refine S.block ?_ | refine S.inBlock ?_ | refine S.exit rfl ?_ | refine S.regN ?_ | refine S.reg ?_ | refine S.drw hk.mo (by kernel_rfl) ?_
    | ((first | refine Ns.go ?_ | refine XOs.go ?_ | refine XDs.go ?_ | refine OK.go ?_); (first | refine TTdt ?_ | (apply Ns.sc ⟨rfl, rfl⟩ rfl; intro hg) | (refine OK.tr ?_; refine TTdt ?_)); (try simp only [HC] at hg))
    | with_reducible exact rfl | exact ⟨rfl, rfl, rfl⟩
    | refine RunsF.apf (h1 _ _ hl hm) rfl ?_ | refine RunsF.apd (h1 _ _ hl hm) rfl ?_
    | (refine S.cond rfl (fun hc => ?_) (fun hc => ?_) <;> try simp only [HC] at hc)
    | (refine Gd.on (fun hg => ?_) (fun hg => ?_) <;> refine TGdt ?_ <;> (try simp only [HC] at hg))
    | refine S.retH hr rfl ?_ | refine S.finH hr rfl ?_ | (refine S.retK hr ?_; refine TRdt ?_)
    | (refine Fin.go ?_; first | (refine Fin.p ?_; first | exact FT | (try refine TTdt ?_; try simp only [LF])) | refine Fin.a0 ?_ | refine Fin.a ?_ | refine Fin.ni ?_ | refine Fin.v ?_ ?_ | refine Fin.r ?_ ?_ | exact Fin.th | (refine Fin.t ?_; try simp only [AV.sl.injEq]))
    | (refine And.go ?_; refine AndI ?_)
    | fail)
  all_goals (try clear hr hk hB)
  all_goals (try clear hl hm)
  all_goals (rw [Bool.eq_iff_iff]; simp_all)
/-- laws.szRowS -/
def w_szRowS.x (c_w_szRow : Nat) : XCode :=
  (.seq
    (.reg [⟨(some 4), .mv, [.k (.int .i64 0)], none⟩] [0, 1])
    (.seq
      (.reg [⟨(some 6), .mv, [.t 1], none⟩,
        ⟨(some 7), .mv, [.t 0], none⟩,
        ⟨(some 8), .lenL, [.t 7], none⟩,
        ⟨(some 9), (.bin .sub), [.t 6, .t 8], none⟩,
        ⟨(some 1), .mv, [.t 9], none⟩] [0, 1])
      (.seq
        (.seq
          (.reg [⟨(some 10), .mv, [.t 1], none⟩,
            ⟨(some 11), (.bin .lss), [.t 10, .k (.int .i64 0)], none⟩] [0, 1, 11])
          (.cond (.t 11)
            (.seq
              (.reg [⟨(some 4), .mv, [.k (.int .i64 (-1))], none⟩] [4])
              .ret)
            .skip))
        (.seq
          (.seq
            (.reg [⟨(some 5), .mv, [.k (.int .i64 0)], none⟩] [0, 1, 5])
            (.block 0
              (.loop
                (.seq
                  (.seq
                    (.reg [⟨(some 12), .mv, [.t 5], none⟩,
                      ⟨(some 13), .mv, [.t 0], none⟩,
                      ⟨(some 14), .lenL, [.t 13], none⟩,
                      ⟨(some 15), (.bin .lss), [.t 12, .t 14], none⟩] [0, 1, 5, 15])
                    (.cond (.t 15)
                      .skip
                      (.exit 0)))
                  (.seq
                    (.block 1
                      (.seq
                        (.reg [⟨(some 18), .mv, [.t 0], none⟩,
                          ⟨(some 19), .mv, [.t 5], none⟩,
                          ⟨(some 20), (.idxA 1), [.t 18, .t 19], none⟩,
                          ⟨(some 21), (.ld (some 1)), [.t 20], none⟩,
                          ⟨(some 22), .mv, [.t 1], none⟩,
                          ⟨(some 23), .call, [.k (.fn c_w_szRow []), .t 21, .t 22], none⟩,
                          ⟨(some 1), .mv, [.t 23], none⟩] [0, 1, 5])
                        (.seq
                          (.reg [⟨(some 24), .mv, [.t 1], none⟩,
                            ⟨(some 25), (.bin .lss), [.t 24, .k (.int .i64 0)], none⟩] [0, 1, 5, 25])
                          (.cond (.t 25)
                            (.seq
                              (.reg [⟨(some 4), .mv, [.k (.int .i64 (-1))], none⟩] [4])
                              .ret)
                            .skip))))
                    (.reg [⟨(some 16), .mv, [.t 5], none⟩,
                      ⟨(some 17), (.bin .add), [.t 16, .k (.int .i64 1)], none⟩,
                      ⟨(some 5), .mv, [.t 17], none⟩] [0, 1, 5]))))))
          (.seq
            (.reg [⟨(some 26), .mv, [.t 1], none⟩,
              ⟨(some 4), .mv, [.t 26], none⟩] [4])
            .ret)))))
def w_szRowS.F : Cfg := ⟨fun _ => 0, fun r => match r with | 0 => [0, 1] | 1 => [0, 1] | 2 => [0, 1, 11] | 3 => [4] | 4 => [0, 1, 5] | 5 => [0, 1, 5, 15] | 6 => [0, 1, 5] | 7 => [0, 1, 5] | 8 => [0, 1, 5, 25] | 9 => [4] | 10 => [4] | _ => []⟩
def w_szRowS.X (c_w_szRow : Nat) : FX := ⟨27, [.tmp 4], w_szRowS.F, w_szRowS.x c_w_szRow⟩

theorem w_szRowS.ok {P : Program} {k c_w_szRow : Nat} (hk : Has P k (w_szRowS.X c_w_szRow)) (h1 : C_szT (List Int) P c_w_szRow) : C_szS (List Int) P k := by
  intro l a hl ha1 ha2 n H
  obtain ⟨hl1, hl2⟩ := hl
  unfold mxi at hl1
  refine S.ofX hk rfl fun hB fn hr => ?_
  unfold w_szRowS.x
  repeat' (first
    | refine S.seq ?_ | refine S.skip ?_ | refine S.block ?_ | refine S.inBlock ?_ | refine S.exit rfl ?_ | refine S.regN ?_ | refine S.reg ?_ | refine S.drw hk.mo (by kernel_rfl) ?_
    | ((first | refine Ns.go ?_ | refine XOs.go ?_ | refine XDs.go ?_ | refine OK.go ?_); (first | refine TTdt ?_ | (apply Ns.sc ⟨rfl, rfl⟩ rfl; intro hg) | (refine OK.tr ?_; refine TTdt ?_)); (try simp only [HC] at hg))
    | with_reducible exact rfl | exact ⟨rfl, rfl, rfl⟩
    | (refine S.cond rfl (fun hc => ?_) (fun hc => ?_) <;> try simp only [HC] at hc)
    | (refine Gd.on (fun hg => ?_) (fun hg => ?_) <;> refine TGdt ?_ <;> (try simp only [HC] at hg))
    | refine S.retH hr rfl ?_ | refine S.finH hr rfl ?_ | (refine S.retK hr ?_; refine TRdt ?_)
    | (refine Fin.go ?_; first | (refine Fin.p ?_; first | exact FT | (try refine TTdt ?_; try simp only [LF])) | refine Fin.a0 ?_ | refine Fin.a ?_ | refine Fin.ni ?_ | refine Fin.v ?_ ?_ | refine Fin.r ?_ ?_ | exact Fin.th | (refine Fin.t ?_; try simp only [AV.sl.injEq]))
    | (refine And.go ?_; refine AndI ?_)
    | fail)
  · exact (szS_neg hc).symm
  refine S.loopV (σ := Nat × Int) [0, 1, 5] (fun s => [(1, .int .i64 s.2), (5, .int .i64 (s.1 : Int))]) (fun s => s.1 ≤ l.length ∧ 0 ≤ s.2 ∧ s.2 ≤ 1048576 ∧ szl (l.drop s.1) s.2 = sz l a) (fun s => n) (fun s => H) (fun s => l.length - s.1) (0, (a - l.length)) (⟨by omega, by omega, by omega, szS_init (by omega)⟩) ?_
  rintro ⟨i, b⟩ ⟨hi1, hi2, hi3, hi4⟩ ih
  try dsimp only at hi1 hi2 hi3 hi4
  repeat' (first
    | refine S.seq ?_ | refine S.skip ?_ | refine S.block ?_ | refine S.inBlock ?_ | refine S.exit rfl ?_ | refine S.regN ?_ | refine S.reg ?_ | refine S.drw hk.mo (by kernel_rfl) ?_
    | ((first | refine Ns.go ?_ | refine XOs.go ?_ | refine XDs.go ?_ | refine OK.go ?_); (first | refine TTdt ?_ | (apply Ns.sc ⟨rfl, rfl⟩ rfl; intro hg) | (refine OK.tr ?_; refine TTdt ?_)); (try simp only [HC] at hg))
    | with_reducible exact rfl | exact ⟨rfl, rfl, rfl⟩
    | refine S.ag (ih ((i + 1, _)) ?_ ?_)
    | refine RunsF.apf (h1 _ _ (ok_at hl2 (by omega)) (by omega) (by omega)) rfl ?_ | refine RunsF.apd (h1 _ _ (ok_at hl2 (by omega)) (by omega) (by omega)) rfl ?_
    | (refine S.cond rfl (fun hc => ?_) (fun hc => ?_) <;> try simp only [HC] at hc)
    | (refine Gd.on (fun hg => ?_) (fun hg => ?_) <;> refine TGdt ?_ <;> (try simp only [HC] at hg))
    | refine S.retH hr rfl ?_ | refine S.finH hr rfl ?_ | (refine S.retK hr ?_; refine TRdt ?_)
    | (refine Fin.go ?_; first | (refine Fin.p ?_; first | exact FT | (try refine TTdt ?_; try simp only [LF])) | refine Fin.a0 ?_ | refine Fin.a ?_ | refine Fin.ni ?_ | refine Fin.v ?_ ?_ | refine Fin.r ?_ ?_ | exact Fin.th | (refine Fin.t ?_; try simp only [AV.sl.injEq]))
    | (refine And.go ?_; refine AndI ?_)
    | fail)
  all_goals (try clear ih)
  all_goals (try dsimp only)
  all_goals (repeat' apply And.intro)
  all_goals first | omega | (simp only [ZL]; omega) | skip
  all_goals (try clear hr hk hB)
  all_goals first | exact (szS_stop hi4 (by omega) hc (by omega)).symm | exact szS_end hi4 (by omega) | exact szS_next hi4 (by omega) | exact Int.le_trans (up _ _ (by omega)) (by omega)
/-- laws.toRowS -/
def w_toRowS.x (c_w_toRow : Nat) : XCode :=
  (.seq
    (.reg [⟨(some 2), .mv, [.k (.nilsl)], none⟩] [0])
    (.seq
      (.reg [⟨(some 5), .mv, [.t 0], none⟩,
        ⟨(some 6), .lenL, [.t 5], none⟩,
        ⟨(some 7), (.mks 2 1 24 [.nilsl]), [.t 6, .t 6], none⟩,
        ⟨(some 3), .mv, [.t 7], none⟩] [0, 3])
      (.seq
        (.seq
          (.reg [⟨(some 4), .mv, [.k (.int .i64 0)], none⟩] [0, 3, 4])
          (.block 0
            (.loop
              (.seq
                (.seq
                  (.reg [⟨(some 8), .mv, [.t 4], none⟩,
                    ⟨(some 9), .mv, [.t 0], none⟩,
                    ⟨(some 10), .lenL, [.t 9], none⟩,
                    ⟨(some 11), (.bin .lss), [.t 8, .t 10], none⟩] [0, 3, 4, 11])
                  (.cond (.t 11)
                    .skip
                    (.exit 0)))
                (.seq
                  (.block 1
                    (.reg [⟨(some 14), .mv, [.t 3], none⟩,
                      ⟨(some 15), .mv, [.t 4], none⟩,
                      ⟨(some 16), .mv, [.t 0], none⟩,
                      ⟨(some 17), .mv, [.t 4], none⟩,
                      ⟨(some 18), (.idxA 1), [.t 16, .t 17], none⟩,
                      ⟨(some 19), (.ld (some 1)), [.t 18], none⟩,
                      ⟨(some 20), .call, [.k (.fn c_w_toRow []), .t 19], none⟩,
                      ⟨(some 21), (.idxA 1), [.t 14, .t 15], none⟩,
                      ⟨none, (.st (some 1)), [.t 21, .t 20], none⟩] [0, 3, 4]))
                  (.reg [⟨(some 12), .mv, [.t 4], none⟩,
                    ⟨(some 13), (.bin .add), [.t 12, .k (.int .i64 1)], none⟩,
                    ⟨(some 4), .mv, [.t 13], none⟩] [0, 3, 4]))))))
        (.seq
          (.reg [⟨(some 22), .mv, [.t 3], none⟩,
            ⟨(some 2), .mv, [.t 22], none⟩] [2])
          .ret))))
def w_toRowS.F : Cfg := ⟨fun d => if d = 7 then 2 else 0, fun r => match r with | 0 => [0] | 1 => [0, 3] | 2 => [0, 3, 4] | 3 => [0, 3, 4, 11] | 4 => [0, 3, 4] | 5 => [0, 3, 4] | 6 => [2] | _ => []⟩
def w_toRowS.X (c_w_toRow : Nat) : FX := ⟨23, [.tmp 2], w_toRowS.F, w_toRowS.x c_w_toRow⟩

theorem w_toRowS.ok {P : Program} {k c_w_toRow : Nat} (hk : Has P k (w_toRowS.X c_w_toRow)) (h1 : C_toT (List Int) P c_w_toRow) : C_toS (List Int) P k := by
  intro l hl n H
  obtain ⟨hl1, hl2⟩ := hl
  unfold mxs at hl1
  refine S.ofX hk rfl fun hB fn hr => ?_
  unfold w_toRowS.x
  repeat' (first
    | refine S.seq ?_ | refine S.skip ?_ | refine S.block ?_ | refine S.inBlock ?_ | refine S.exit rfl ?_ | refine S.regN ?_ | refine S.reg ?_ | refine S.drw hk.mo (by kernel_rfl) ?_
    | ((first | refine Ns.go ?_ | refine XOs.go ?_ | refine XDs.go ?_ | refine OK.go ?_); (first | refine TTdt ?_ | (apply Ns.sc ⟨rfl, rfl⟩ rfl; intro hg) | (refine OK.tr ?_; refine TTdt ?_)); (try simp only [HC] at hg))
    | with_reducible exact rfl | exact ⟨rfl, rfl, rfl⟩
    | (refine S.cond rfl (fun hc => ?_) (fun hc => ?_) <;> try simp only [HC] at hc)
    | (refine Gd.on (fun hg => ?_) (fun hg => ?_) <;> refine TGdt ?_ <;> (try simp only [HC] at hg))
    | refine S.retH hr rfl ?_ | refine S.finH hr rfl ?_ | (refine S.retK hr ?_; refine TRdt ?_)
    | (refine Fin.go ?_; first | (refine Fin.p ?_; first | exact FT | (try refine TTdt ?_; try simp only [LF])) | refine Fin.a0 ?_ | refine Fin.a ?_ | refine Fin.ni ?_ | refine Fin.v ?_ ?_ | refine Fin.r ?_ ?_ | exact Fin.th | (refine Fin.t ?_; try simp only [AV.sl.injEq]))
    | (refine And.go ?_; refine AndI ?_)
    | fail)
  refine S.loopV (σ := Nat × (List AV)) [0, 3, 4] (fun s => [(3, .ref n 1 0 l.length), (4, .int .i64 (s.1 : Int))]) (fun s => s.1 ≤ l.length ∧ s.2.length = l.length * 1 ∧ s.2.take (s.1 * 1) = (enc (l.take s.1)).flatten) (fun s => n + 1) (fun s => (n, .own s.2) :: H) (fun s => l.length - s.1) (0, _) (⟨by omega, ?_, fc_0⟩) ?_
  · first | rfl | omega | (simp; done) | (simp; omega) | skip
  rintro ⟨i, out⟩ ⟨hi1, hi2, hi3⟩ ih
  try dsimp only at hi1 hi2 hi3
  repeat' (first
    | refine S.seq ?_ | refine S.skip ?_ | refine S.block ?_ | refine S.inBlock ?_ | refine S.exit rfl ?_ | refine S.regN ?_ | refine S.reg ?_ | refine S.drw hk.mo (by kernel_rfl) ?_
    | ((first | refine Ns.go ?_ | refine XOs.go ?_ | refine XDs.go ?_ | refine OK.go ?_); (first | refine TTdt ?_ | (apply Ns.sc ⟨rfl, rfl⟩ rfl; intro hg) | (refine OK.tr ?_; refine TTdt ?_)); (try simp only [HC] at hg))
    | with_reducible exact rfl | exact ⟨rfl, rfl, rfl⟩
    | (refine Fin.fc hi3 (by omega) hi2)
    | refine S.ag (ih ((i + 1, _)) ?_ ?_)
    | refine RunsF.apf (h1 _ (ok_at hl2 (by omega))) rfl ?_ | refine RunsF.apd (h1 _ (ok_at hl2 (by omega))) rfl ?_
    | (refine S.cond rfl (fun hc => ?_) (fun hc => ?_) <;> try simp only [HC] at hc)
    | (refine Gd.on (fun hg => ?_) (fun hg => ?_) <;> refine TGdt ?_ <;> (try simp only [HC] at hg))
    | refine S.retH hr rfl ?_ | refine S.finH hr rfl ?_ | (refine S.retK hr ?_; refine TRdt ?_)
    | (refine Fin.go ?_; first | (refine Fin.p ?_; first | exact FT | (try refine TTdt ?_; try simp only [LF])) | refine Fin.a0 ?_ | refine Fin.a ?_ | refine Fin.ni ?_ | refine Fin.v ?_ ?_ | refine Fin.r ?_ ?_ | exact Fin.th | (refine Fin.t ?_; try simp only [AV.sl.injEq]))
    | (refine And.go ?_; refine AndI ?_)
    | fail)
  all_goals (try clear ih)
  all_goals (try dsimp only)
  all_goals (repeat' apply And.intro)
  all_goals first | omega | (simp only [ZL]; omega) | skip
  all_goals (try clear hr hk hB)
  all_goals first | exact fc_len hi2 (by omega) rfl | exact fc_next hi3 hi2 (by omega) rfl rfl
/-- laws.eqRowS -/
def w_eqRowS.x (c_w_eqRow : Nat) : XCode :=
  (.seq
    (.reg [⟨(some 4), .mv, [.k (.bool false)], none⟩] [0, 1])
    (.seq
      (.seq
        (.reg [⟨(some 6), .mv, [.t 0], none⟩,
          ⟨(some 7), .lenL, [.t 6], none⟩,
          ⟨(some 8), .mv, [.t 1], none⟩,
          ⟨(some 9), .lenL, [.t 8], none⟩,
          ⟨(some 10), (.bin .neq), [.t 7, .t 9], none⟩] [0, 1, 10])
        (.cond (.t 10)
          (.seq
            (.reg [⟨(some 4), .mv, [.k (.bool false)], none⟩] [4])
            .ret)
          .skip))
      (.seq
        (.seq
          (.reg [⟨(some 5), .mv, [.k (.int .i64 0)], none⟩] [0, 1, 5])
          (.block 0
            (.loop
              (.seq
                (.seq
                  (.reg [⟨(some 11), .mv, [.t 5], none⟩,
                    ⟨(some 12), .mv, [.t 0], none⟩,
                    ⟨(some 13), .lenL, [.t 12], none⟩,
                    ⟨(some 14), (.bin .lss), [.t 11, .t 13], none⟩] [0, 1, 5, 14])
                  (.cond (.t 14)
                    .skip
                    (.exit 0)))
                (.seq
                  (.block 1
                    (.seq
                      (.drw [(⟨(some 17), .mv, [.t 0], none⟩, []),
                        (⟨(some 18), .mv, [.t 5], none⟩, []),
                        (⟨(some 19), (.idxA 1), [.t 17, .t 18], none⟩, [0, 1]),
                        (⟨(some 20), (.ld (some 1)), [.t 19], none⟩, [2]),
                        (⟨(some 21), .mv, [.t 1], none⟩, []),
                        (⟨(some 22), .mv, [.t 5], none⟩, []),
                        (⟨(some 23), (.idxA 1), [.t 21, .t 22], none⟩, [4, 5]),
                        (⟨(some 24), (.ld (some 1)), [.t 23], none⟩, [6]),
                        (⟨(some 25), .call, [.k (.fn c_w_eqRow []), .t 20, .t 24], none⟩, [3, 7]),
                        (⟨(some 26), (.un .not), [.t 25], none⟩, [8])] [0, 1, 5, 26] [0, 0, 0, 0, 0, 0, 0, 0, 0, 0])
                      (.cond (.t 26)
                        (.seq
                          (.reg [⟨(some 4), .mv, [.k (.bool false)], none⟩] [4])
                          .ret)
                        .skip)))
                  (.reg [⟨(some 15), .mv, [.t 5], none⟩,
                    ⟨(some 16), (.bin .add), [.t 15, .k (.int .i64 1)], none⟩,
                    ⟨(some 5), .mv, [.t 16], none⟩] [0, 1, 5]))))))
        (.seq
          (.reg [⟨(some 4), .mv, [.k (.bool true)], none⟩] [4])
          .ret))))
def w_eqRowS.F : Cfg := ⟨fun _ => 0, fun r => match r with | 0 => [0, 1] | 1 => [0, 1, 10] | 2 => [4] | 3 => [0, 1, 5] | 4 => [0, 1, 5, 14] | 5 => [0, 1, 5] | 6 => [0, 1, 5, 26] | 7 => [4] | 8 => [4] | 1000006 => [0, 0, 0, 0, 0, 0, 0, 0, 0, 0] | _ => []⟩
def w_eqRowS.X (c_w_eqRow : Nat) : FX := ⟨27, [.tmp 4], w_eqRowS.F, w_eqRowS.x c_w_eqRow⟩

theorem w_eqRowS.ok {P : Program} {k c_w_eqRow : Nat} (hk : Has P k (w_eqRowS.X c_w_eqRow)) (h1 : C_eqT (List Int) P c_w_eqRow) : C_eqS (List Int) P k := by
  intro l m hl hm n H
  obtain ⟨hl1, hl2⟩ := hl
  obtain ⟨hm1, hm2⟩ := hm
  unfold mxs at hl1 hm1
  refine S.ofX hk rfl fun hB fn hr => ?_
  unfold w_eqRowS.x
  repeat' (first
    | refine S.seq ?_ | refine S.skip ?_ | refine S.block ?_ | refine S.inBlock ?_ | refine S.exit rfl ?_ | refine S.regN ?_ | refine S.reg ?_ | refine S.drw hk.mo (by kernel_rfl) ?_
    | ((first | refine Ns.go ?_ | refine XOs.go ?_ | refine XDs.go ?_ | refine OK.go ?_); (first | refine TTdt ?_ | (apply Ns.sc ⟨rfl, rfl⟩ rfl; intro hg) | (refine OK.tr ?_; refine TTdt ?_)); (try simp only [HC] at hg))
    | with_reducible exact rfl | exact ⟨rfl, rfl, rfl⟩
    | (refine S.cond rfl (fun hc => ?_) (fun hc => ?_) <;> try simp only [HC] at hc)
    | (refine Gd.on (fun hg => ?_) (fun hg => ?_) <;> refine TGdt ?_ <;> (try simp only [HC] at hg))
    | refine S.retH hr rfl ?_ | refine S.finH hr rfl ?_ | (refine S.retK hr ?_; refine TRdt ?_)
    | (refine Fin.go ?_; first | (refine Fin.p ?_; first | exact FT | (try refine TTdt ?_; try simp only [LF])) | refine Fin.a0 ?_ | refine Fin.a ?_ | refine Fin.ni ?_ | refine Fin.v ?_ ?_ | refine Fin.r ?_ ?_ | exact Fin.th | (refine Fin.t ?_; try simp only [AV.sl.injEq]))
    | (refine And.go ?_; refine AndI ?_)
    | fail)
  · exact (decL (by omega)).symm
  refine S.loopV (σ := Nat) [0, 1, 5] (fun s => [(5, .int .i64 (s : Int))]) (fun s => s ≤ l.length ∧ ∀ j, j < s → l.getD j default = m.getD j default) (fun s => n) (fun s => H) (fun s => l.length - s) (0) (⟨by omega, ?_⟩) ?_
  · first | rfl | omega | (simp; done) | (simp; omega) | skip
  rintro i ⟨hi1, hi2⟩ ih
  try dsimp only at hi1 hi2
  repeat' (first
    | refine S.seq ?_ | refine S.skip ?_ | refine S.block ?_ | refine S.inBlock ?_ | refine S.exit rfl ?_ | refine S.regN ?_ | refine S.reg ?_ | refine S.drw hk.mo (by kernel_rfl) ?_
    | ((first | refine Ns.go ?_ | refine XOs.go ?_ | refine XDs.go ?_ | refine OK.go ?_); (first | refine TTdt ?_ | (apply Ns.sc ⟨rfl, rfl⟩ rfl; intro hg) | (refine OK.tr ?_; refine TTdt ?_)); (try simp only [HC] at hg))
    | with_reducible exact rfl | exact ⟨rfl, rfl, rfl⟩
    | refine S.ag (ih (i + 1) ?_ ?_)
    | refine RunsF.apf (h1 _ _ (ok_at hl2 (by omega)) (ok_at hm2 (by omega))) rfl ?_ | refine RunsF.apd (h1 _ _ (ok_at hl2 (by omega)) (ok_at hm2 (by omega))) rfl ?_
    | (refine S.cond rfl (fun hc => ?_) (fun hc => ?_) <;> try simp only [HC] at hc)
    | (refine Gd.on (fun hg => ?_) (fun hg => ?_) <;> refine TGdt ?_ <;> (try simp only [HC] at hg))
    | refine S.retH hr rfl ?_ | refine S.finH hr rfl ?_ | (refine S.retK hr ?_; refine TRdt ?_)
    | (refine Fin.go ?_; first | (refine Fin.p ?_; first | exact FT | (try refine TTdt ?_; try simp only [LF])) | refine Fin.a0 ?_ | refine Fin.a ?_ | refine Fin.ni ?_ | refine Fin.v ?_ ?_ | refine Fin.r ?_ ?_ | exact Fin.th | (refine Fin.t ?_; try simp only [AV.sl.injEq]))
    | (refine And.go ?_; refine AndI ?_)
    | fail)
  all_goals (try clear ih)
  all_goals (try dsimp only)
  all_goals (repeat' apply And.intro)
  all_goals first | omega | (simp only [ZL]; omega) | skip
  all_goals (try clear hr hk hB)
  all_goals first | (exact (decG hc).symm) | (exact (decA (by omega) (fun j hj => hi2 j (by omega))).symm) | (exact decN hi2 hc)
/-- laws.szTableau -/
def w_szTableau.x (c_w_szStringS c_w_szCandidateS c_w_szIntSS : Nat) : XCode :=
  (.seq
    (.reg [⟨(some 2), .boxF, [.t 0], none⟩,
      ⟨(some 4), .mv, [.k (.int .i64 0)], none⟩] [1, 2])
    (.seq
      (.reg [⟨(some 5), .mv, [.t 1], none⟩,
        ⟨(some 6), (.fldA 0), [.t 2], none⟩,
        ⟨(some 7), (.ld none), [.t 6], none⟩,
        ⟨(some 8), .lenS, [.t 7], none⟩,
        ⟨(some 9), (.bin .sub), [.t 5, .t 8], none⟩,
        ⟨(some 1), .mv, [.t 9], none⟩] [1, 2])
      (.seq
        (.seq
          (.reg [⟨(some 10), .mv, [.t 1], none⟩,
            ⟨(some 11), (.bin .lss), [.t 10, .k (.int .i64 0)], none⟩] [1, 2, 11])
          (.cond (.t 11)
            (.seq
              (.reg [⟨(some 4), .mv, [.k (.int .i64 (-1))], none⟩] [4])
              .ret)
            .skip))
        (.seq
          (.reg [⟨(some 12), (.fldA 1), [.t 2], none⟩,
            ⟨(some 13), (.ld none), [.t 12], none⟩,
            ⟨(some 14), .mv, [.t 1], none⟩,
            ⟨(some 15), .call, [.k (.fn c_w_szStringS []), .t 13, .t 14], none⟩,
            ⟨(some 1), .mv, [.t 15], none⟩] [1, 2])
          (.seq
            (.seq
              (.reg [⟨(some 16), .mv, [.t 1], none⟩,
                ⟨(some 17), (.bin .lss), [.t 16, .k (.int .i64 0)], none⟩] [1, 2, 17])
              (.cond (.t 17)
                (.seq
                  (.reg [⟨(some 4), .mv, [.k (.int .i64 (-1))], none⟩] [4])
                  .ret)
                .skip))
            (.seq
              (.reg [⟨(some 18), (.fldA 2), [.t 2], none⟩,
                ⟨(some 19), (.ld none), [.t 18], none⟩,
                ⟨(some 20), .mv, [.t 1], none⟩,
                ⟨(some 21), .call, [.k (.fn c_w_szCandidateS []), .t 19, .t 20], none⟩,
                ⟨(some 1), .mv, [.t 21], none⟩] [1, 2])
              (.seq
                (.seq
                  (.reg [⟨(some 22), .mv, [.t 1], none⟩,
                    ⟨(some 23), (.bin .lss), [.t 22, .k (.int .i64 0)], none⟩] [1, 2, 23])
                  (.cond (.t 23)
                    (.seq
                      (.reg [⟨(some 4), .mv, [.k (.int .i64 (-1))], none⟩] [4])
                      .ret)
                    .skip))
                (.seq
                  (.reg [⟨(some 24), (.fldA 3), [.t 2], none⟩,
                    ⟨(some 25), (.ld none), [.t 24], none⟩,
                    ⟨(some 26), .mv, [.t 1], none⟩,
                    ⟨(some 27), .call, [.k (.fn c_w_szIntSS []), .t 25, .t 26], none⟩,
                    ⟨(some 1), .mv, [.t 27], none⟩] [1])
                  (.seq
                    (.seq
                      (.reg [⟨(some 28), .mv, [.t 1], none⟩,
                        ⟨(some 29), (.bin .lss), [.t 28, .k (.int .i64 0)], none⟩] [1, 29])
                      (.cond (.t 29)
                        (.seq
                          (.reg [⟨(some 4), .mv, [.k (.int .i64 (-1))], none⟩] [4])
                          .ret)
                        .skip))
                    (.seq
                      (.reg [⟨(some 30), .mv, [.t 1], none⟩,
                        ⟨(some 4), .mv, [.t 30], none⟩] [4])
                      .ret))))))))))
def w_szTableau.F : Cfg := ⟨fun _ => 0, fun r => match r with | 0 => [1, 2] | 1 => [1, 2] | 2 => [1, 2, 11] | 3 => [4] | 4 => [1, 2] | 5 => [1, 2, 17] | 6 => [4] | 7 => [1, 2] | 8 => [1, 2, 23] | 9 => [4] | 10 => [1] | 11 => [1, 29] | 12 => [4] | 13 => [4] | _ => []⟩
def w_szTableau.X (c_w_szStringS c_w_szCandidateS c_w_szIntSS : Nat) : FX := ⟨31, [.tmp 4], w_szTableau.F, w_szTableau.x c_w_szStringS c_w_szCandidateS c_w_szIntSS⟩

theorem w_szTableau.ok {P : Program} {k c_w_szStringS c_w_szCandidateS c_w_szIntSS : Nat} (hk : Has P k (w_szTableau.X c_w_szStringS c_w_szCandidateS c_w_szIntSS)) (h1 : C_szS (List UInt8) P c_w_szStringS) (h2 : C_szS (List Lnk) P c_w_szCandidateS) (h3 : C_szS (List Int) P c_w_szIntSS) : C_szT Tab P k := by
  intro x a hl ha1 ha2 n H
  obtain ⟨x1, x2, x3, x4⟩ := x
  obtain ⟨hl1, hl2, hl3, hl4⟩ := hl
  have hl1' : x1.length ≤ 9223372036854775807 := hl1
  refine S.ofX hk rfl fun hB fn hr => ?_
  unfold w_szTableau.x
  repeat' (first
    | refine S.seq ?_ | refine S.skip ?_ | refine S.block ?_ | refine S.inBlock ?_ | refine S.exit rfl ?_ | refine S.regN ?_ | refine S.reg ?_ | refine S.drw hk.mo (by kernel_rfl) ?_
    | ((first | refine Ns.go ?_ | refine XOs.go ?_ | refine XDs.go ?_ | refine OK.go ?_); (first | refine TTdt ?_ | (apply Ns.sc ⟨rfl, rfl⟩ rfl; intro hg) | (refine OK.tr ?_; refine TTdt ?_)); (try simp only [HC] at hg))
    | with_reducible exact rfl | exact ⟨rfl, rfl, rfl⟩
    | refine RunsF.apf (h1 x2 _ hl2 (by omega) UB) rfl ?_ | refine RunsF.apd (h1 x2 _ hl2 (by omega) UB) rfl ?_
    | refine RunsF.apf (h2 x3 _ hl3 (by omega) UB) rfl ?_ | refine RunsF.apd (h2 x3 _ hl3 (by omega) UB) rfl ?_
    | refine RunsF.apf (h3 x4 _ hl4 (by omega) UB) rfl ?_ | refine RunsF.apd (h3 x4 _ hl4 (by omega) UB) rfl ?_
    | (refine S.cond rfl (fun hc => ?_) (fun hc => ?_) <;> try simp only [HC] at hc)
    | (refine Gd.on (fun hg => ?_) (fun hg => ?_) <;> refine TGdt ?_ <;> (try simp only [HC] at hg))
    | refine S.retH hr rfl ?_ | refine S.finH hr rfl ?_ | (refine S.retK hr ?_; refine TRdt ?_)
    | (refine Fin.go ?_; first | (refine Fin.p ?_; first | exact FT | (try refine TTdt ?_; try simp only [LF])) | refine Fin.a0 ?_ | refine Fin.a ?_ | refine Fin.ni ?_ | refine Fin.v ?_ ?_ | refine Fin.r ?_ ?_ | exact Fin.th | (refine Fin.t ?_; try simp only [AV.sl.injEq]))
    | (refine And.go ?_; refine AndI ?_)
    | fail)
  all_goals (try clear hr hk hB)
  all_goals (try rw [show sz (x1, x2, x3, x4) a = (sz x4 (sz x3 (sz x2 (sz x1 a)))) from rfl])
  all_goals first | rfl | (simp (disch := first | assumption | omega) only [sz_int, sz_bool, szStr_neg, szStr_pos, sz_m1, neg])
/-- laws.toTableau -/
def w_toTableau.x (c_w_toStringS c_w_toCandidateS c_w_toIntSS : Nat) : XCode :=
  (.seq
    (.reg [⟨(some 1), .boxF, [.t 0], none⟩,
      ⟨(some 2), (.alloc [.str [], .nilsl, .nilsl, .nilsl]), [], none⟩] [1, 2])
    (.seq
      (.reg [⟨(some 3), (.alloc [.str [], .nilsl, .nilsl, .nilsl]), [], none⟩] [1, 2, 3])
      (.seq
        (.reg [⟨(some 4), (.fldA 0), [.t 1], none⟩,
          ⟨(some 5), (.ld none), [.t 4], none⟩,
          ⟨(some 6), (.fldA 0), [.t 3], none⟩,
          ⟨none, (.st none), [.t 6, .t 5], none⟩] [1, 2, 3])
        (.seq
          (.reg [⟨(some 7), (.fldA 1), [.t 1], none⟩,
            ⟨(some 8), (.ld none), [.t 7], none⟩,
            ⟨(some 9), .call, [.k (.fn c_w_toStringS []), .t 8], none⟩,
            ⟨(some 10), (.fldA 1), [.t 3], none⟩,
            ⟨none, (.st none), [.t 10, .t 9], none⟩] [1, 2, 3])
          (.seq
            (.reg [⟨(some 11), (.fldA 2), [.t 1], none⟩,
              ⟨(some 12), (.ld none), [.t 11], none⟩,
              ⟨(some 13), .call, [.k (.fn c_w_toCandidateS []), .t 12], none⟩,
              ⟨(some 14), (.fldA 2), [.t 3], none⟩,
              ⟨none, (.st none), [.t 14, .t 13], none⟩] [1, 2, 3])
            (.seq
              (.reg [⟨(some 15), (.fldA 3), [.t 1], none⟩,
                ⟨(some 16), (.ld none), [.t 15], none⟩,
                ⟨(some 17), .call, [.k (.fn c_w_toIntSS []), .t 16], none⟩,
                ⟨(some 18), (.fldA 3), [.t 3], none⟩,
                ⟨none, (.st none), [.t 18, .t 17], none⟩] [2, 3])
              (.seq
                (.reg [⟨(some 19), (.ld (some 4)), [.t 3], none⟩,
                  ⟨none, (.st (some 4)), [.t 2, .t 19], none⟩] [2])
                .ret)))))))
def w_toTableau.F : Cfg := ⟨fun _ => 0, fun r => match r with | 0 => [1, 2] | 1 => [1, 2, 3] | 2 => [1, 2, 3] | 3 => [1, 2, 3] | 4 => [1, 2, 3] | 5 => [2, 3] | 6 => [2] | _ => []⟩
def w_toTableau.X (c_w_toStringS c_w_toCandidateS c_w_toIntSS : Nat) : FX := ⟨20, [.cell 2 (some 4)], w_toTableau.F, w_toTableau.x c_w_toStringS c_w_toCandidateS c_w_toIntSS⟩

theorem w_toTableau.ok {P : Program} {k c_w_toStringS c_w_toCandidateS c_w_toIntSS : Nat} (hk : Has P k (w_toTableau.X c_w_toStringS c_w_toCandidateS c_w_toIntSS)) (h1 : C_toS (List UInt8) P c_w_toStringS) (h2 : C_toS (List Lnk) P c_w_toCandidateS) (h3 : C_toS (List Int) P c_w_toIntSS) : C_toT Tab P k := by
  intro x hl n H
  obtain ⟨x1, x2, x3, x4⟩ := x
  obtain ⟨hl1, hl2, hl3, hl4⟩ := hl
  refine S.ofX hk rfl fun hB fn hr => ?_
  unfold w_toTableau.x
  repeat' (first
    | refine S.seq ?_ | refine S.skip ?_ | refine S.block ?_ | refine S.inBlock ?_ | refine S.exit rfl ?_ | refine S.regN ?_ | refine S.reg ?_ | refine S.drw hk.mo (by kernel_rfl) ?_
    | ((first | refine Ns.go ?_ | refine XOs.go ?_ | refine XDs.go ?_ | refine OK.go ?_); (first | refine TTdt ?_ | (apply Ns.sc ⟨rfl, rfl⟩ rfl; intro hg) | (refine OK.tr ?_; refine TTdt ?_)); (try simp only [HC] at hg))
    | with_reducible exact rfl | exact ⟨rfl, rfl, rfl⟩
    | refine RunsF.apf (h1 x2 hl2) rfl ?_ | refine RunsF.apd (h1 x2 hl2) rfl ?_
    | refine RunsF.apf (h2 x3 hl3) rfl ?_ | refine RunsF.apd (h2 x3 hl3) rfl ?_
    | refine RunsF.apf (h3 x4 hl4) rfl ?_ | refine RunsF.apd (h3 x4 hl4) rfl ?_
    | (refine S.cond rfl (fun hc => ?_) (fun hc => ?_) <;> try simp only [HC] at hc)
    | (refine Gd.on (fun hg => ?_) (fun hg => ?_) <;> refine TGdt ?_ <;> (try simp only [HC] at hg))
    | refine S.retH hr rfl ?_ | refine S.finH hr rfl ?_ | (refine S.retK hr ?_; refine TRdt ?_)
    | (refine Fin.go ?_; first | (refine Fin.p ?_; first | exact FT | (try refine TTdt ?_; try simp only [LF])) | refine Fin.a0 ?_ | refine Fin.a ?_ | refine Fin.ni ?_ | refine Fin.v ?_ ?_ | refine Fin.r ?_ ?_ | exact Fin.th | (refine Fin.t ?_; try simp only [AV.sl.injEq]))
    | (refine And.go ?_; refine AndI ?_)
    | fail)
  all_goals rfl
/-- laws.eqTableau -/
def w_eqTableau.x (c_w_eqStringS c_w_eqCandidateS c_w_eqIntSS : Nat) : XCode :=
  (.seq
    (.reg [⟨(some 2), .boxF, [.t 0], none⟩,
      ⟨(some 3), .boxF, [.t 1], none⟩,
      ⟨(some 4), .mv, [.k (.bool false)], none⟩] [2, 3])
    (.seq
      (.seq
        (.reg [⟨(some 5), (.fldA 0), [.t 2], none⟩,
          ⟨(some 6), (.ld none), [.t 5], none⟩,
          ⟨(some 7), (.fldA 0), [.t 3], none⟩,
          ⟨(some 8), (.ld none), [.t 7], none⟩,
          ⟨(some 9), (.bin .neq), [.t 6, .t 8], none⟩] [2, 3, 9])
        (.cond (.t 9)
          (.seq
            (.reg [⟨(some 4), .mv, [.k (.bool false)], none⟩] [4])
            .ret)
          .skip))
      (.seq
        (.seq
          (.reg [⟨(some 10), (.fldA 1), [.t 2], none⟩,
            ⟨(some 11), (.ld none), [.t 10], none⟩,
            ⟨(some 12), (.fldA 1), [.t 3], none⟩,
            ⟨(some 13), (.ld none), [.t 12], none⟩,
            ⟨(some 14), .call, [.k (.fn c_w_eqStringS []), .t 11, .t 13], none⟩,
            ⟨(some 15), (.un .not), [.t 14], none⟩] [2, 3, 15])
          (.cond (.t 15)
            (.seq
              (.reg [⟨(some 4), .mv, [.k (.bool false)], none⟩] [4])
              .ret)
            .skip))
        (.seq
          (.seq
            (.reg [⟨(some 16), (.fldA 2), [.t 2], none⟩,
              ⟨(some 17), (.ld none), [.t 16], none⟩,
              ⟨(some 18), (.fldA 2), [.t 3], none⟩,
              ⟨(some 19), (.ld none), [.t 18], none⟩,
              ⟨(some 20), .call, [.k (.fn c_w_eqCandidateS []), .t 17, .t 19], none⟩,
              ⟨(some 21), (.un .not), [.t 20], none⟩] [2, 3, 21])
            (.cond (.t 21)
              (.seq
                (.reg [⟨(some 4), .mv, [.k (.bool false)], none⟩] [4])
                .ret)
              .skip))
          (.seq
            (.seq
              (.reg [⟨(some 22), (.fldA 3), [.t 2], none⟩,
                ⟨(some 23), (.ld none), [.t 22], none⟩,
                ⟨(some 24), (.fldA 3), [.t 3], none⟩,
                ⟨(some 25), (.ld none), [.t 24], none⟩,
                ⟨(some 26), .call, [.k (.fn c_w_eqIntSS []), .t 23, .t 25], none⟩,
                ⟨(some 27), (.un .not), [.t 26], none⟩] [27])
              (.cond (.t 27)
                (.seq
                  (.reg [⟨(some 4), .mv, [.k (.bool false)], none⟩] [4])
                  .ret)
                .skip))
            (.seq
              (.reg [⟨(some 4), .mv, [.k (.bool true)], none⟩] [4])
              .ret))))))
def w_eqTableau.F : Cfg := ⟨fun _ => 0, fun r => match r with | 0 => [2, 3] | 1 => [2, 3, 9] | 2 => [4] | 3 => [2, 3, 15] | 4 => [4] | 5 => [2, 3, 21] | 6 => [4] | 7 => [27] | 8 => [4] | 9 => [4] | _ => []⟩
def w_eqTableau.X (c_w_eqStringS c_w_eqCandidateS c_w_eqIntSS : Nat) : FX := ⟨28, [.tmp 4], w_eqTableau.F, w_eqTableau.x c_w_eqStringS c_w_eqCandidateS c_w_eqIntSS⟩

theorem w_eqTableau.ok {P : Program} {k c_w_eqStringS c_w_eqCandidateS c_w_eqIntSS : Nat} (hk : Has P k (w_eqTableau.X c_w_eqStringS c_w_eqCandidateS c_w_eqIntSS)) (h1 : C_eqS (List UInt8) P c_w_eqStringS) (h2 : C_eqS (List Lnk) P c_w_eqCandidateS) (h3 : C_eqS (List Int) P c_w_eqIntSS) : C_eqT Tab P k := by
  intro x y hl hm n H
  obtain ⟨x1, x2, x3, x4⟩ := x
  obtain ⟨hl1, hl2, hl3, hl4⟩ := hl
  obtain ⟨y1, y2, y3, y4⟩ := y
  obtain ⟨hm1, hm2, hm3, hm4⟩ := hm
  refine S.ofX hk rfl fun hB fn hr => ?_
  unfold w_eqTableau.x
  repeat' (first
    | refine S.seq ?_ | refine S.skip ?_ | refine S.block ?_ | refine S.inBlock ?_ | refine S.exit rfl ?_ | refine S.regN ?_ | refine S.reg ?_ | refine S.drw hk.mo (by kernel_rfl) ?_
    | ((first | refine Ns.go ?_ | refine XOs.go ?_ | refine XDs.go ?_ | refine OK.go ?_); (first | refine TTdt ?_ | (apply Ns.sc ⟨rfl, rfl⟩ rfl; intro hg) | (refine OK.tr ?_; refine TTdt ?_)); (try simp only [HC] at hg))
    | with_reducible exact rfl | exact ⟨rfl, rfl, rfl⟩
    | refine RunsF.apf (h1 x2 y2 hl2 hm2) rfl ?_ | refine RunsF.apd (h1 x2 y2 hl2 hm2) rfl ?_
    | refine RunsF.apf (h2 x3 y3 hl3 hm3) rfl ?_ | refine RunsF.apd (h2 x3 y3 hl3 hm3) rfl ?_
    | refine RunsF.apf (h3 x4 y4 hl4 hm4) rfl ?_ | refine RunsF.apd (h3 x4 y4 hl4 hm4) rfl ?_
    | (refine S.cond rfl (fun hc => ?_) (fun hc => ?_) <;> try simp only [HC] at hc)
    | (refine Gd.on (fun hg => ?_) (fun hg => ?_) <;> refine TGdt ?_ <;> (try simp only [HC] at hg))
    | refine S.retH hr rfl ?_ | refine S.finH hr rfl ?_ | (refine S.retK hr ?_; refine TRdt ?_)
    | (refine Fin.go ?_; first | (refine Fin.p ?_; first | exact FT | (try refine TTdt ?_; try simp only [LF])) | refine Fin.a0 ?_ | refine Fin.a ?_ | refine Fin.ni ?_ | refine Fin.v ?_ ?_ | refine Fin.r ?_ ?_ | exact Fin.th | (refine Fin.t ?_; try simp only [AV.sl.injEq]))
    | (refine And.go ?_; refine AndI ?_)
    | fail)
  all_goals (try clear hr hk hB)
  all_goals (try clear hl1 hm1 hl2 hm2 hl3 hm3 hl4 hm4)
  all_goals (rw [Bool.eq_iff_iff]; simp_all)
/-- laws.szClaim -/
def w_szClaim.x (c_w_szTableau c_w_szRowS c_w_szIntS c_w_szStringS : Nat) : XCode :=
  (.seq
    (.reg [⟨(some 2), .boxF, [.t 0], none⟩,
      ⟨(some 4), .mv, [.k (.int .i64 0)], none⟩] [1, 2])
    (.seq
      (.reg [⟨(some 5), (.fldA 1), [.t 2], none⟩,
        ⟨(some 6), (.ld (some 4)), [.t 5], none⟩,
        ⟨(some 7), .mv, [.t 1], none⟩,
        ⟨(some 8), .call, [.k (.fn c_w_szTableau []), .t 6, .t 7], none⟩,
        ⟨(some 1), .mv, [.t 8], none⟩] [1, 2])
      (.seq
        (.seq
          (.reg [⟨(some 9), .mv, [.t 1], none⟩,
            ⟨(some 10), (.bin .lss), [.t 9, .k (.int .i64 0)], none⟩] [1, 2, 10])
          (.cond (.t 10)
            (.seq
              (.reg [⟨(some 4), .mv, [.k (.int .i64 (-1))], none⟩] [4])
              .ret)
            .skip))
        (.seq
          (.reg [⟨(some 11), (.fldA 6), [.t 2], none⟩,
            ⟨(some 12), (.ld none), [.t 11], none⟩,
            ⟨(some 13), .mv, [.t 1], none⟩,
            ⟨(some 14), .call, [.k (.fn c_w_szRowS []), .t 12, .t 13], none⟩,
            ⟨(some 1), .mv, [.t 14], none⟩] [1, 2])
          (.seq
            (.seq
              (.reg [⟨(some 15), .mv, [.t 1], none⟩,
                ⟨(some 16), (.bin .lss), [.t 15, .k (.int .i64 0)], none⟩] [1, 2, 16])
              (.cond (.t 16)
                (.seq
                  (.reg [⟨(some 4), .mv, [.k (.int .i64 (-1))], none⟩] [4])
                  .ret)
                .skip))
            (.seq
              (.reg [⟨(some 17), (.fldA 7), [.t 2], none⟩,
                ⟨(some 18), (.ld none), [.t 17], none⟩,
                ⟨(some 19), .mv, [.t 1], none⟩,
                ⟨(some 20), .call, [.k (.fn c_w_szIntS []), .t 18, .t 19], none⟩,
                ⟨(some 1), .mv, [.t 20], none⟩] [1, 2])
              (.seq
                (.seq
                  (.reg [⟨(some 21), .mv, [.t 1], none⟩,
                    ⟨(some 22), (.bin .lss), [.t 21, .k (.int .i64 0)], none⟩] [1, 2, 22])
                  (.cond (.t 22)
                    (.seq
                      (.reg [⟨(some 4), .mv, [.k (.int .i64 (-1))], none⟩] [4])
                      .ret)
                    .skip))
                (.seq
                  (.reg [⟨(some 23), (.fldA 8), [.t 2], none⟩,
                    ⟨(some 24), (.ld none), [.t 23], none⟩,
                    ⟨(some 25), .mv, [.t 1], none⟩,
                    ⟨(some 26), .call, [.k (.fn c_w_szIntS []), .t 24, .t 25], none⟩,
                    ⟨(some 1), .mv, [.t 26], none⟩] [1, 2])
                  (.seq
                    (.seq
                      (.reg [⟨(some 27), .mv, [.t 1], none⟩,
                        ⟨(some 28), (.bin .lss), [.t 27, .k (.int .i64 0)], none⟩] [1, 2, 28])
                      (.cond (.t 28)
                        (.seq
                          (.reg [⟨(some 4), .mv, [.k (.int .i64 (-1))], none⟩] [4])
                          .ret)
                        .skip))
                    (.seq
                      (.reg [⟨(some 29), (.fldA 9), [.t 2], none⟩,
                        ⟨(some 30), (.ld none), [.t 29], none⟩,
                        ⟨(some 31), .mv, [.t 1], none⟩,
                        ⟨(some 32), .call, [.k (.fn c_w_szStringS []), .t 30, .t 31], none⟩,
                        ⟨(some 1), .mv, [.t 32], none⟩] [1])
                      (.seq
                        (.seq
                          (.reg [⟨(some 33), .mv, [.t 1], none⟩,
                            ⟨(some 34), (.bin .lss), [.t 33, .k (.int .i64 0)], none⟩] [1, 34])
                          (.cond (.t 34)
                            (.seq
                              (.reg [⟨(some 4), .mv, [.k (.int .i64 (-1))], none⟩] [4])
                              .ret)
                            .skip))
                        (.seq
                          (.reg [⟨(some 35), .mv, [.t 1], none⟩,
                            ⟨(some 4), .mv, [.t 35], none⟩] [4])
                          .ret))))))))))))
def w_szClaim.F : Cfg := ⟨fun _ => 0, fun r => match r with | 0 => [1, 2] | 1 => [1, 2] | 2 => [1, 2, 10] | 3 => [4] | 4 => [1, 2] | 5 => [1, 2, 16] | 6 => [4] | 7 => [1, 2] | 8 => [1, 2, 22] | 9 => [4] | 10 => [1, 2] | 11 => [1, 2, 28] | 12 => [4] | 13 => [1] | 14 => [1, 34] | 15 => [4] | 16 => [4] | _ => []⟩
def w_szClaim.X (c_w_szTableau c_w_szRowS c_w_szIntS c_w_szStringS : Nat) : FX := ⟨36, [.tmp 4], w_szClaim.F, w_szClaim.x c_w_szTableau c_w_szRowS c_w_szIntS c_w_szStringS⟩

theorem w_szClaim.ok {P : Program} {k c_w_szTableau c_w_szRowS c_w_szIntS c_w_szStringS : Nat} (hk : Has P k (w_szClaim.X c_w_szTableau c_w_szRowS c_w_szIntS c_w_szStringS)) (h1 : C_szT Tab P c_w_szTableau) (h2 : C_szS (List Int) P c_w_szRowS) (h3 : C_szS Int P c_w_szIntS) (h4 : C_szS (List UInt8) P c_w_szStringS) : C_szT Clm P k := by
  intro x a hl ha1 ha2 n H
  obtain ⟨x1, x2, x3, x4, x5, x6, x7⟩ := x
  obtain ⟨hl1, hl2, hl3, hl4, hl5, hl6, hl7⟩ := hl
  refine S.ofX hk rfl fun hB fn hr => ?_
  unfold w_szClaim.x
  repeat' (first
    | refine S.seq ?_ | refine S.skip ?_ | refine S.block ?_ | refine S.inBlock ?_ | refine S.exit rfl ?_ | refine S.regN ?_ | refine S.reg ?_ | refine S.drw hk.mo (by kernel_rfl) ?_
    | ((first | refine Ns.go ?_ | refine XOs.go ?_ | refine XDs.go ?_ | refine OK.go ?_); (first | refine TTdt ?_ | (apply Ns.sc ⟨rfl, rfl⟩ rfl; intro hg) | (refine OK.tr ?_; refine TTdt ?_)); (try simp only [HC] at hg))
    | with_reducible exact rfl | exact ⟨rfl, rfl, rfl⟩
    | refine RunsF.apf (h1 x2 _ hl2 (by omega) UB) rfl ?_ | refine RunsF.apd (h1 x2 _ hl2 (by omega) UB) rfl ?_
    | refine RunsF.apf (h2 x4 _ hl4 (by omega) UB) rfl ?_ | refine RunsF.apd (h2 x4 _ hl4 (by omega) UB) rfl ?_
    | refine RunsF.apf (h3 x5 _ hl5 (by omega) UB) rfl ?_ | refine RunsF.apd (h3 x5 _ hl5 (by omega) UB) rfl ?_
    | refine RunsF.apf (h3 x6 _ hl6 (by omega) UB) rfl ?_ | refine RunsF.apd (h3 x6 _ hl6 (by omega) UB) rfl ?_
    | refine RunsF.apf (h4 x7 _ hl7 (by omega) UB) rfl ?_ | refine RunsF.apd (h4 x7 _ hl7 (by omega) UB) rfl ?_
    | (refine S.cond rfl (fun hc => ?_) (fun hc => ?_) <;> try simp only [HC] at hc)
    | (refine Gd.on (fun hg => ?_) (fun hg => ?_) <;> refine TGdt ?_ <;> (try simp only [HC] at hg))
    | refine S.retH hr rfl ?_ | refine S.finH hr rfl ?_ | (refine S.retK hr ?_; refine TRdt ?_)
    | (refine Fin.go ?_; first | (refine Fin.p ?_; first | exact FT | (try refine TTdt ?_; try simp only [LF])) | refine Fin.a0 ?_ | refine Fin.a ?_ | refine Fin.ni ?_ | refine Fin.v ?_ ?_ | refine Fin.r ?_ ?_ | exact Fin.th | (refine Fin.t ?_; try simp only [AV.sl.injEq]))
    | (refine And.go ?_; refine AndI ?_)
    | fail)
  all_goals (try clear hr hk hB)
  all_goals (try rw [show sz (x1, x2, x3, x4, x5, x6, x7) a = (sz x7 (sz x6 (sz x5 (sz x4 (sz x3 (sz x2 (sz x1 a))))))) from rfl])
  all_goals first | rfl | (simp (disch := first | assumption | omega) only [sz_int, sz_bool, szStr_neg, szStr_pos, sz_m1, neg])
/-- laws.toClaim -/
def w_toClaim.x (c_w_toTableau c_w_toRowS c_w_toIntS c_w_toStringS : Nat) : XCode :=
  (.seq
    (.reg [⟨(some 1), .boxF, [.t 0], none⟩,
      ⟨(some 2), (.alloc [.int .i64 0, .str [], .nilsl, .nilsl, .nilsl, .int .i64 0, .nilsl, .nilsl, .nilsl, .nilsl]), [], none⟩] [1, 2])
    (.seq
      (.reg [⟨(some 3), (.alloc [.int .i64 0, .str [], .nilsl, .nilsl, .nilsl, .int .i64 0, .nilsl, .nilsl, .nilsl, .nilsl]), [], none⟩] [1, 2, 3])
      (.seq
        (.reg [⟨(some 4), (.fldA 0), [.t 1], none⟩,
          ⟨(some 5), (.ld none), [.t 4], none⟩,
          ⟨(some 6), (.fldA 0), [.t 3], none⟩,
          ⟨none, (.st none), [.t 6, .t 5], none⟩] [1, 2, 3])
        (.seq
          (.reg [⟨(some 7), (.fldA 1), [.t 1], none⟩,
            ⟨(some 8), (.ld (some 4)), [.t 7], none⟩,
            ⟨(some 9), .call, [.k (.fn c_w_toTableau []), .t 8], none⟩,
            ⟨(some 10), (.fldA 1), [.t 3], none⟩,
            ⟨none, (.st (some 4)), [.t 10, .t 9], none⟩] [1, 2, 3])
          (.seq
            (.reg [⟨(some 11), (.fldA 5), [.t 1], none⟩,
              ⟨(some 12), (.ld none), [.t 11], none⟩,
              ⟨(some 13), (.fldA 5), [.t 3], none⟩,
              ⟨none, (.st none), [.t 13, .t 12], none⟩] [1, 2, 3])
            (.seq
              (.reg [⟨(some 14), (.fldA 6), [.t 1], none⟩,
                ⟨(some 15), (.ld none), [.t 14], none⟩,
                ⟨(some 16), .call, [.k (.fn c_w_toRowS []), .t 15], none⟩,
                ⟨(some 17), (.fldA 6), [.t 3], none⟩,
                ⟨none, (.st none), [.t 17, .t 16], none⟩] [1, 2, 3])
              (.seq
                (.reg [⟨(some 18), (.fldA 7), [.t 1], none⟩,
                  ⟨(some 19), (.ld none), [.t 18], none⟩,
                  ⟨(some 20), .call, [.k (.fn c_w_toIntS []), .t 19], none⟩,
                  ⟨(some 21), (.fldA 7), [.t 3], none⟩,
                  ⟨none, (.st none), [.t 21, .t 20], none⟩] [1, 2, 3])
                (.seq
                  (.reg [⟨(some 22), (.fldA 8), [.t 1], none⟩,
                    ⟨(some 23), (.ld none), [.t 22], none⟩,
                    ⟨(some 24), .call, [.k (.fn c_w_toIntS []), .t 23], none⟩,
                    ⟨(some 25), (.fldA 8), [.t 3], none⟩,
                    ⟨none, (.st none), [.t 25, .t 24], none⟩] [1, 2, 3])
                  (.seq
                    (.reg [⟨(some 26), (.fldA 9), [.t 1], none⟩,
                      ⟨(some 27), (.ld none), [.t 26], none⟩,
                      ⟨(some 28), .call, [.k (.fn c_w_toStringS []), .t 27], none⟩,
                      ⟨(some 29), (.fldA 9), [.t 3], none⟩,
                      ⟨none, (.st none), [.t 29, .t 28], none⟩] [2, 3])
                    (.seq
                      (.reg [⟨(some 30), (.ld (some 10)), [.t 3], none⟩,
                        ⟨none, (.st (some 10)), [.t 2, .t 30], none⟩] [2])
                      .ret))))))))))
def w_toClaim.F : Cfg := ⟨fun _ => 0, fun r => match r with | 0 => [1, 2] | 1 => [1, 2, 3] | 2 => [1, 2, 3] | 3 => [1, 2, 3] | 4 => [1, 2, 3] | 5 => [1, 2, 3] | 6 => [1, 2, 3] | 7 => [1, 2, 3] | 8 => [2, 3] | 9 => [2] | _ => []⟩
def w_toClaim.X (c_w_toTableau c_w_toRowS c_w_toIntS c_w_toStringS : Nat) : FX := ⟨31, [.cell 2 (some 10)], w_toClaim.F, w_toClaim.x c_w_toTableau c_w_toRowS c_w_toIntS c_w_toStringS⟩

theorem w_toClaim.ok {P : Program} {k c_w_toTableau c_w_toRowS c_w_toIntS c_w_toStringS : Nat} (hk : Has P k (w_toClaim.X c_w_toTableau c_w_toRowS c_w_toIntS c_w_toStringS)) (h1 : C_toT Tab P c_w_toTableau) (h2 : C_toS (List Int) P c_w_toRowS) (h3 : C_toS Int P c_w_toIntS) (h4 : C_toS (List UInt8) P c_w_toStringS) : C_toT Clm P k := by
  intro x hl n H
  obtain ⟨x1, x2, x3, x4, x5, x6, x7⟩ := x
  obtain ⟨hl1, hl2, hl3, hl4, hl5, hl6, hl7⟩ := hl
  refine S.ofX hk rfl fun hB fn hr => ?_
  unfold w_toClaim.x
  repeat' (first
    | refine S.seq ?_ | refine S.skip ?_ | refine S.block ?_ | refine S.inBlock ?_ | refine S.exit rfl ?_ | refine S.regN ?_ | refine S.reg ?_ | refine S.drw hk.mo (by kernel_rfl) ?_
    | ((first | refine Ns.go ?_ | refine XOs.go ?_ | refine XDs.go ?_ | refine OK.go ?_); (first | refine TTdt ?_ | (apply Ns.sc ⟨rfl, rfl⟩ rfl; intro hg) | (refine OK.tr ?_; refine TTdt ?_)); (try simp only [HC] at hg))
    | with_reducible exact rfl | exact ⟨rfl, rfl, rfl⟩
    | refine RunsF.apf (h1 x2 hl2) rfl ?_ | refine RunsF.apd (h1 x2 hl2) rfl ?_
    | refine RunsF.apf (h2 x4 hl4) rfl ?_ | refine RunsF.apd (h2 x4 hl4) rfl ?_
    | refine RunsF.apf (h3 x5 hl5) rfl ?_ | refine RunsF.apd (h3 x5 hl5) rfl ?_
    | refine RunsF.apf (h3 x6 hl6) rfl ?_ | refine RunsF.apd (h3 x6 hl6) rfl ?_
    | refine RunsF.apf (h4 x7 hl7) rfl ?_ | refine RunsF.apd (h4 x7 hl7) rfl ?_
    | (refine S.cond rfl (fun hc => ?_) (fun hc => ?_) <;> try simp only [HC] at hc)
    | (refine Gd.on (fun hg => ?_) (fun hg => ?_) <;> refine TGdt ?_ <;> (try simp only [HC] at hg))
    | refine S.retH hr rfl ?_ | refine S.finH hr rfl ?_ | (refine S.retK hr ?_; refine TRdt ?_)
    | (refine Fin.go ?_; first | (refine Fin.p ?_; first | exact FT | (try refine TTdt ?_; try simp only [LF])) | refine Fin.a0 ?_ | refine Fin.a ?_ | refine Fin.ni ?_ | refine Fin.v ?_ ?_ | refine Fin.r ?_ ?_ | exact Fin.th | (refine Fin.t ?_; try simp only [AV.sl.injEq]))
    | (refine And.go ?_; refine AndI ?_)
    | fail)
  all_goals rfl
/-- laws.eqClaim -/
def w_eqClaim.x (c_w_eqTableau c_w_eqRowS c_w_eqIntS c_w_eqStringS : Nat) : XCode :=
  (.seq
    (.reg [⟨(some 2), .boxF, [.t 0], none⟩,
      ⟨(some 3), .boxF, [.t 1], none⟩,
      ⟨(some 4), .mv, [.k (.bool false)], none⟩] [2, 3])
    (.seq
      (.seq
        (.reg [⟨(some 5), (.fldA 0), [.t 2], none⟩,
          ⟨(some 6), (.ld none), [.t 5], none⟩,
          ⟨(some 7), (.fldA 0), [.t 3], none⟩,
          ⟨(some 8), (.ld none), [.t 7], none⟩,
          ⟨(some 9), (.bin .neq), [.t 6, .t 8], none⟩] [2, 3, 9])
        (.cond (.t 9)
          (.seq
            (.reg [⟨(some 4), .mv, [.k (.bool false)], none⟩] [4])
            .ret)
          .skip))
      (.seq
        (.seq
          (.reg [⟨(some 10), (.fldA 1), [.t 2], none⟩,
            ⟨(some 11), (.ld (some 4)), [.t 10], none⟩,
            ⟨(some 12), (.fldA 1), [.t 3], none⟩,
            ⟨(some 13), (.ld (some 4)), [.t 12], none⟩,
            ⟨(some 14), .call, [.k (.fn c_w_eqTableau []), .t 11, .t 13], none⟩,
            ⟨(some 15), (.un .not), [.t 14], none⟩] [2, 3, 15])
          (.cond (.t 15)
            (.seq
              (.reg [⟨(some 4), .mv, [.k (.bool false)], none⟩] [4])
              .ret)
            .skip))
        (.seq
          (.seq
            (.reg [⟨(some 16), (.fldA 5), [.t 2], none⟩,
              ⟨(some 17), (.ld none), [.t 16], none⟩,
              ⟨(some 18), (.fldA 5), [.t 3], none⟩,
              ⟨(some 19), (.ld none), [.t 18], none⟩,
              ⟨(some 20), (.bin .neq), [.t 17, .t 19], none⟩] [2, 3, 20])
            (.cond (.t 20)
              (.seq
                (.reg [⟨(some 4), .mv, [.k (.bool false)], none⟩] [4])
                .ret)
              .skip))
          (.seq
            (.seq
              (.reg [⟨(some 21), (.fldA 6), [.t 2], none⟩,
                ⟨(some 22), (.ld none), [.t 21], none⟩,
                ⟨(some 23), (.fldA 6), [.t 3], none⟩,
                ⟨(some 24), (.ld none), [.t 23], none⟩,
                ⟨(some 25), .call, [.k (.fn c_w_eqRowS []), .t 22, .t 24], none⟩,
                ⟨(some 26), (.un .not), [.t 25], none⟩] [2, 3, 26])
              (.cond (.t 26)
                (.seq
                  (.reg [⟨(some 4), .mv, [.k (.bool false)], none⟩] [4])
                  .ret)
                .skip))
            (.seq
              (.seq
                (.reg [⟨(some 27), (.fldA 7), [.t 2], none⟩,
                  ⟨(some 28), (.ld none), [.t 27], none⟩,
                  ⟨(some 29), (.fldA 7), [.t 3], none⟩,
                  ⟨(some 30), (.ld none), [.t 29], none⟩,
                  ⟨(some 31), .call, [.k (.fn c_w_eqIntS []), .t 28, .t 30], none⟩,
                  ⟨(some 32), (.un .not), [.t 31], none⟩] [2, 3, 32])
                (.cond (.t 32)
                  (.seq
                    (.reg [⟨(some 4), .mv, [.k (.bool false)], none⟩] [4])
                    .ret)
                  .skip))
              (.seq
                (.seq
                  (.reg [⟨(some 33), (.fldA 8), [.t 2], none⟩,
                    ⟨(some 34), (.ld none), [.t 33], none⟩,
                    ⟨(some 35), (.fldA 8), [.t 3], none⟩,
                    ⟨(some 36), (.ld none), [.t 35], none⟩,
                    ⟨(some 37), .call, [.k (.fn c_w_eqIntS []), .t 34, .t 36], none⟩,
                    ⟨(some 38), (.un .not), [.t 37], none⟩] [2, 3, 38])
                  (.cond (.t 38)
                    (.seq
                      (.reg [⟨(some 4), .mv, [.k (.bool false)], none⟩] [4])
                      .ret)
                    .skip))
                (.seq
                  (.seq
                    (.reg [⟨(some 39), (.fldA 9), [.t 2], none⟩,
                      ⟨(some 40), (.ld none), [.t 39], none⟩,
                      ⟨(some 41), (.fldA 9), [.t 3], none⟩,
                      ⟨(some 42), (.ld none), [.t 41], none⟩,
                      ⟨(some 43), .call, [.k (.fn c_w_eqStringS []), .t 40, .t 42], none⟩,
                      ⟨(some 44), (.un .not), [.t 43], none⟩] [44])
                    (.cond (.t 44)
                      (.seq
                        (.reg [⟨(some 4), .mv, [.k (.bool false)], none⟩] [4])
                        .ret)
                      .skip))
                  (.seq
                    (.reg [⟨(some 4), .mv, [.k (.bool true)], none⟩] [4])
                    .ret)))))))))
def w_eqClaim.F : Cfg := ⟨fun _ => 0, fun r => match r with | 0 => [2, 3] | 1 => [2, 3, 9] | 2 => [4] | 3 => [2, 3, 15] | 4 => [4] | 5 => [2, 3, 20] | 6 => [4] | 7 => [2, 3, 26] | 8 => [4] | 9 => [2, 3, 32] | 10 => [4] | 11 => [2, 3, 38] | 12 => [4] | 13 => [44] | 14 => [4] | 15 => [4] | _ => []⟩
def w_eqClaim.X (c_w_eqTableau c_w_eqRowS c_w_eqIntS c_w_eqStringS : Nat) : FX := ⟨45, [.tmp 4], w_eqClaim.F, w_eqClaim.x c_w_eqTableau c_w_eqRowS c_w_eqIntS c_w_eqStringS⟩

theorem w_eqClaim.ok {P : Program} {k c_w_eqTableau c_w_eqRowS c_w_eqIntS c_w_eqStringS : Nat} (hk : Has P k (w_eqClaim.X c_w_eqTableau c_w_eqRowS c_w_eqIntS c_w_eqStringS)) (h1 : C_eqT Tab P c_w_eqTableau) (h2 : C_eqS (List Int) P c_w_eqRowS) (h3 : C_eqS Int P c_w_eqIntS) (h4 : C_eqS (List UInt8) P c_w_eqStringS) : C_eqT Clm P k := by
  intro x y hl hm n H
  obtain ⟨x1, x2, x3, x4, x5, x6, x7⟩ := x
  obtain ⟨hl1, hl2, hl3, hl4, hl5, hl6, hl7⟩ := hl
  obtain ⟨y1, y2, y3, y4, y5, y6, y7⟩ := y
  obtain ⟨hm1, hm2, hm3, hm4, hm5, hm6, hm7⟩ := hm
  refine S.ofX hk rfl fun hB fn hr => ?_
  unfold w_eqClaim.x
  repeat' (first
    | refine S.seq ?_ | refine S.skip ?_ | refine S.block ?_ | refine S.inBlock ?_ | refine S.exit rfl ?_ | refine S.regN ?_ | refine S.reg ?_ | refine S.drw hk.mo (by kernel_rfl) ?_
    | ((first | refine Ns.go ?_ | refine XOs.go ?_ | refine XDs.go ?_ | refine OK.go ?_); (first | refine TTdt ?_ | (apply Ns.sc ⟨rfl, rfl⟩ rfl; intro hg) | (refine OK.tr ?_; refine TTdt ?_)); (try simp only [HC] at hg))
    | with_reducible exact rfl | exact ⟨rfl, rfl, rfl⟩
    | refine RunsF.apf (h1 x2 y2 hl2 hm2) rfl ?_ | refine RunsF.apd (h1 x2 y2 hl2 hm2) rfl ?_
    | refine RunsF.apf (h2 x4 y4 hl4 hm4) rfl ?_ | refine RunsF.apd (h2 x4 y4 hl4 hm4) rfl ?_
    | refine RunsF.apf (h3 x5 y5 hl5 hm5) rfl ?_ | refine RunsF.apd (h3 x5 y5 hl5 hm5) rfl ?_
    | refine RunsF.apf (h3 x6 y6 hl6 hm6) rfl ?_ | refine RunsF.apd (h3 x6 y6 hl6 hm6) rfl ?_
    | refine RunsF.apf (h4 x7 y7 hl7 hm7) rfl ?_ | refine RunsF.apd (h4 x7 y7 hl7 hm7) rfl ?_
    | (refine S.cond rfl (fun hc => ?_) (fun hc => ?_) <;> try simp only [HC] at hc)
    | (refine Gd.on (fun hg => ?_) (fun hg => ?_) <;> refine TGdt ?_ <;> (try simp only [HC] at hg))
    | refine S.retH hr rfl ?_ | refine S.finH hr rfl ?_ | (refine S.retK hr ?_; refine TRdt ?_)
    | (refine Fin.go ?_; first | (refine Fin.p ?_; first | exact FT | (try refine TTdt ?_; try simp only [LF])) | refine Fin.a0 ?_ | refine Fin.a ?_ | refine Fin.ni ?_ | refine Fin.v ?_ ?_ | refine Fin.r ?_ ?_ | exact Fin.th | (refine Fin.t ?_; try simp only [AV.sl.injEq]))
    | (refine And.go ?_; refine AndI ?_)
    | fail)
  all_goals (try clear hr hk hB)
  all_goals (try clear hl1 hm1 hl2 hm2 hl3 hm3 hl4 hm4 hl5 hm5 hl6 hm6 hl7 hm7)
  all_goals (rw [Bool.eq_iff_iff]; simp_all)
end Go.D01
