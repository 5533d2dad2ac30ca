/- Data of Go's: sizes, copies, equality, by value. Over any program. -/
import Derived.Test.YtobhjgipeepmoaaAbSiz
namespace Go.D01
open Go.Ab Siz 
set_option linter.unusedVariables false
set_option linter.unusedSimpArgs false
set_option maxRecDepth 2000
/-- laws.szIntS -/
def w_szIntS.x : XCode :=
  (.seq
    (.reg [⟨(some 4), .mv, [.k (.int .i64 0)], none⟩] [0, 1])
    (.seq
      (.reg [⟨(some 5), .mv, [.t 1], none⟩,
        ⟨(some 6), .mv, [.t 0], none⟩,
        ⟨(some 7), .lenL, [.t 6], none⟩,
        ⟨(some 8), (.bin .sub), [.t 5, .t 7], none⟩,
        ⟨(some 1), .mv, [.t 8], none⟩] [1])
      (.seq
        (.seq
          (.reg [⟨(some 9), .mv, [.t 1], none⟩,
            ⟨(some 10), (.bin .lss), [.t 9, .k (.int .i64 0)], none⟩] [1, 10])
          (.cond (.t 10)
            (.seq
              (.reg [⟨(some 4), .mv, [.k (.int .i64 (-1))], none⟩] [4])
              .ret)
            .skip))
        (.seq
          (.reg [⟨(some 11), .mv, [.t 1], none⟩,
            ⟨(some 4), .mv, [.t 11], none⟩] [4])
          .ret))))
def w_szIntS.F : Cfg := ⟨fun _ => 0, fun r => match r with | 0 => [0, 1] | 1 => [1] | 2 => [1, 10] | 3 => [4] | 4 => [4] | _ => []⟩
def w_szIntS.X : FX := ⟨12, [.tmp 4], w_szIntS.F, w_szIntS.x⟩

theorem w_szIntS.ok {P : Program} {k : Nat} (hk : Has P k (w_szIntS.X)) : C_szS Int P k := by
  intro l a hl ha1 ha2 n H
  obtain ⟨hl1, hl2⟩ := hl
  unfold mxi at hl1
  refine S.ofX hk rfl fun hB fn hr => ?_
  unfold w_szIntS.x
  repeat' (first
    | ((with_reducible refine S.go ?_); first | refine S.seq ?_ | refine S.skip ?_ | refine S.block ?_ | refine S.inBlock ?_ | refine S.exit rfl ?_ | refine S.regN ?_ | refine S.reg ?_ | refine S.drw hk.mo (by kernel_rfl) ?_ | (refine S.cond rfl (fun hc => ?_) (fun hc => ?_) <;> try simp only [HC] at hc) | refine S.retH hr rfl ?_ | refine S.finH hr rfl ?_ | (refine S.retK hr ?_; refine TRdt ?_) | fail)
    | ((first | with_reducible refine Ns.go ?_ | with_reducible refine XOs.go ?_ | with_reducible refine XDs.go ?_ | with_reducible refine OK.go ?_); (first | refine TTdt ?_ | (apply Ns.sc ⟨rfl, rfl⟩ rfl; intro hg) | (refine OK.tr ?_; refine TTdt ?_)); (try simp only [HC] at hg))
    | with_reducible exact rfl | exact ⟨rfl, rfl, rfl⟩
    | ((with_reducible refine Gd.go ?_); refine Gd.on (fun hg => ?_) (fun hg => ?_) <;> refine TGdt ?_ <;> (try simp only [HC] at hg))
    | ((with_reducible refine Fin.go ?_); first | (refine Fin.p ?_; first | exact FT | (try refine TTdt ?_; try simp only [LF])) | refine Fin.a0 ?_ | refine Fin.a ?_ | refine Fin.ni ?_ | refine Fin.v ?_ ?_ | refine Fin.r ?_ ?_ | exact Fin.th | (refine Fin.t ?_; try simp only [AV.sl.injEq]))
    | (refine And.go ?_; refine AndI ?_)
    | fail)
  all_goals first | exact (szS_neg hc).symm | exact (szS_0 hc).symm
/-- laws.toIntS -/
def w_toIntS.x : XCode :=
  (.seq
    (.reg [⟨(some 2), .mv, [.k (.nilsl)], none⟩] [0])
    (.seq
      (.reg [⟨(some 5), .mv, [.t 0], none⟩,
        ⟨(some 6), .lenL, [.t 5], none⟩,
        ⟨(some 7), (.mks 2 1 8 [.int .i64 0]), [.t 6, .t 6], none⟩,
        ⟨(some 3), .mv, [.t 7], none⟩] [0, 3])
      (.seq
        (.seq
          (.reg [⟨(some 4), .mv, [.k (.int .i64 0)], none⟩] [0, 3, 4])
          (.block 0
            (.loop
              (.seq
                (.seq
                  (.reg [⟨(some 8), .mv, [.t 4], none⟩,
                    ⟨(some 9), .mv, [.t 0], none⟩,
                    ⟨(some 10), .lenL, [.t 9], none⟩,
                    ⟨(some 11), (.bin .lss), [.t 8, .t 10], none⟩] [0, 3, 4, 11])
                  (.cond (.t 11)
                    .skip
                    (.exit 0)))
                (.seq
                  (.block 1
                    (.reg [⟨(some 14), .mv, [.t 3], none⟩,
                      ⟨(some 15), .mv, [.t 4], none⟩,
                      ⟨(some 16), .mv, [.t 0], none⟩,
                      ⟨(some 17), .mv, [.t 4], none⟩,
                      ⟨(some 18), (.idxA 1), [.t 16, .t 17], none⟩,
                      ⟨(some 19), (.ld none), [.t 18], none⟩,
                      ⟨(some 20), (.idxA 1), [.t 14, .t 15], none⟩,
                      ⟨none, (.st none), [.t 20, .t 19], none⟩] [0, 3, 4]))
                  (.reg [⟨(some 12), .mv, [.t 4], none⟩,
                    ⟨(some 13), (.bin .add), [.t 12, .k (.int .i64 1)], none⟩,
                    ⟨(some 4), .mv, [.t 13], none⟩] [0, 3, 4]))))))
        (.seq
          (.reg [⟨(some 21), .mv, [.t 3], none⟩,
            ⟨(some 2), .mv, [.t 21], none⟩] [2])
          .ret))))
def w_toIntS.F : Cfg := ⟨fun d => if d = 7 then 2 else 0, fun r => match r with | 0 => [0] | 1 => [0, 3] | 2 => [0, 3, 4] | 3 => [0, 3, 4, 11] | 4 => [0, 3, 4] | 5 => [0, 3, 4] | 6 => [2] | _ => []⟩
def w_toIntS.X : FX := ⟨22, [.tmp 2], w_toIntS.F, w_toIntS.x⟩

theorem w_toIntS.ok {P : Program} {k : Nat} (hk : Has P k (w_toIntS.X)) : C_toS Int P k := by
  intro l hl n H
  obtain ⟨hl1, hl2⟩ := hl
  unfold mxs at hl1
  refine S.ofX hk rfl fun hB fn hr => ?_
  unfold w_toIntS.x
  repeat' (first
    | ((with_reducible refine S.go ?_); first | refine S.seq ?_ | refine S.skip ?_ | refine S.block ?_ | refine S.inBlock ?_ | refine S.exit rfl ?_ | refine S.regN ?_ | refine S.reg ?_ | refine S.drw hk.mo (by kernel_rfl) ?_ | (refine S.cond rfl (fun hc => ?_) (fun hc => ?_) <;> try simp only [HC] at hc) | refine S.retH hr rfl ?_ | refine S.finH hr rfl ?_ | (refine S.retK hr ?_; refine TRdt ?_) | fail)
    | ((first | with_reducible refine Ns.go ?_ | with_reducible refine XOs.go ?_ | with_reducible refine XDs.go ?_ | with_reducible refine OK.go ?_); (first | refine TTdt ?_ | (apply Ns.sc ⟨rfl, rfl⟩ rfl; intro hg) | (refine OK.tr ?_; refine TTdt ?_)); (try simp only [HC] at hg))
    | with_reducible exact rfl | exact ⟨rfl, rfl, rfl⟩
    | ((with_reducible refine Gd.go ?_); refine Gd.on (fun hg => ?_) (fun hg => ?_) <;> refine TGdt ?_ <;> (try simp only [HC] at hg))
    | ((with_reducible refine Fin.go ?_); first | (refine Fin.p ?_; first | exact FT | (try refine TTdt ?_; try simp only [LF])) | refine Fin.a0 ?_ | refine Fin.a ?_ | refine Fin.ni ?_ | refine Fin.v ?_ ?_ | refine Fin.r ?_ ?_ | exact Fin.th | (refine Fin.t ?_; try simp only [AV.sl.injEq]))
    | (refine And.go ?_; refine AndI ?_)
    | fail)
  refine S.loopV (σ := Nat × (List AV)) [0, 3, 4] (fun s => [(3, .ref n 1 0 l.length), (4, .int .i64 (s.1 : Int))]) (fun s => s.1 ≤ l.length ∧ s.2.length = l.length * 1 ∧ s.2.take (s.1 * 1) = (enc (l.take s.1)).flatten) (fun s => n + 1) (fun s => (n, .own s.2) :: H) (fun s => l.length - s.1) (0, _) (⟨by omega, ?_, fc_0⟩) ?_
  · first | rfl | omega | (simp; done) | (simp; omega) | skip
  rintro ⟨i, out⟩ ⟨hi1, hi2, hi3⟩ ih
  try dsimp only at hi1 hi2 hi3
  repeat' (first
    | ((with_reducible refine S.go ?_); first | refine S.seq ?_ | refine S.skip ?_ | refine S.block ?_ | refine S.inBlock ?_ | refine S.exit rfl ?_ | refine S.regN ?_ | refine S.reg ?_ | refine S.drw hk.mo (by kernel_rfl) ?_ | refine S.ag (ih ((i + 1, _)) ?_ ?_) | (refine S.cond rfl (fun hc => ?_) (fun hc => ?_) <;> try simp only [HC] at hc) | refine S.retH hr rfl ?_ | refine S.finH hr rfl ?_ | (refine S.retK hr ?_; refine TRdt ?_) | fail)
    | ((first | with_reducible refine Ns.go ?_ | with_reducible refine XOs.go ?_ | with_reducible refine XDs.go ?_ | with_reducible refine OK.go ?_); (first | refine TTdt ?_ | (apply Ns.sc ⟨rfl, rfl⟩ rfl; intro hg) | (refine OK.tr ?_; refine TTdt ?_)); (try simp only [HC] at hg))
    | with_reducible exact rfl | exact ⟨rfl, rfl, rfl⟩
    | (refine Fin.fc hi3 (by omega) hi2)
    | ((with_reducible refine Gd.go ?_); refine Gd.on (fun hg => ?_) (fun hg => ?_) <;> refine TGdt ?_ <;> (try simp only [HC] at hg))
    | ((with_reducible refine Fin.go ?_); first | (refine Fin.p ?_; first | exact FT | (try refine TTdt ?_; try simp only [LF])) | refine Fin.a0 ?_ | refine Fin.a ?_ | refine Fin.ni ?_ | refine Fin.v ?_ ?_ | refine Fin.r ?_ ?_ | exact Fin.th | (refine Fin.t ?_; try simp only [AV.sl.injEq]))
    | (refine And.go ?_; refine AndI ?_)
    | fail)
  all_goals (try clear ih)
  all_goals (try dsimp only)
  all_goals (repeat' apply And.intro)
  all_goals first | omega | (simp only [ZL]; omega) | skip
  all_goals (try clear hr hk hB)
  all_goals first | exact fc_len hi2 (by omega) rfl | exact fc_next hi3 hi2 (by omega) rfl rfl
/-- laws.eqIntS -/
def w_eqIntS.x : XCode :=
  (.seq
    (.reg [⟨(some 4), .mv, [.k (.bool false)], none⟩] [0, 1])
    (.seq
      (.seq
        (.reg [⟨(some 6), .mv, [.t 0], none⟩,
          ⟨(some 7), .lenL, [.t 6], none⟩,
          ⟨(some 8), .mv, [.t 1], none⟩,
          ⟨(some 9), .lenL, [.t 8], none⟩,
          ⟨(some 10), (.bin .neq), [.t 7, .t 9], none⟩] [0, 1, 10])
        (.cond (.t 10)
          (.seq
            (.reg [⟨(some 4), .mv, [.k (.bool false)], none⟩] [4])
            .ret)
          .skip))
      (.seq
        (.seq
          (.reg [⟨(some 5), .mv, [.k (.int .i64 0)], none⟩] [0, 1, 5])
          (.block 0
            (.loop
              (.seq
                (.seq
                  (.reg [⟨(some 11), .mv, [.t 5], none⟩,
                    ⟨(some 12), .mv, [.t 0], none⟩,
                    ⟨(some 13), .lenL, [.t 12], none⟩,
                    ⟨(some 14), (.bin .lss), [.t 11, .t 13], none⟩] [0, 1, 5, 14])
                  (.cond (.t 14)
                    .skip
                    (.exit 0)))
                (.seq
                  (.block 1
                    (.seq
                      (.drw [(⟨(some 17), .mv, [.t 0], none⟩, []),
                        (⟨(some 18), .mv, [.t 5], none⟩, []),
                        (⟨(some 19), (.idxA 1), [.t 17, .t 18], none⟩, [0, 1]),
                        (⟨(some 20), (.ld none), [.t 19], none⟩, [2]),
                        (⟨(some 21), .mv, [.t 1], none⟩, []),
                        (⟨(some 22), .mv, [.t 5], none⟩, []),
                        (⟨(some 23), (.idxA 1), [.t 21, .t 22], none⟩, [4, 5]),
                        (⟨(some 24), (.ld none), [.t 23], none⟩, [6]),
                        (⟨(some 25), (.bin .neq), [.t 20, .t 24], none⟩, [3, 7])] [0, 1, 5, 25] [0, 0, 0, 0, 0, 0, 0, 0, 0])
                      (.cond (.t 25)
                        (.seq
                          (.reg [⟨(some 4), .mv, [.k (.bool false)], none⟩] [4])
                          .ret)
                        .skip)))
                  (.reg [⟨(some 15), .mv, [.t 5], none⟩,
                    ⟨(some 16), (.bin .add), [.t 15, .k (.int .i64 1)], none⟩,
                    ⟨(some 5), .mv, [.t 16], none⟩] [0, 1, 5]))))))
        (.seq
          (.reg [⟨(some 4), .mv, [.k (.bool true)], none⟩] [4])
          .ret))))
def w_eqIntS.F : Cfg := ⟨fun _ => 0, fun r => match r with | 0 => [0, 1] | 1 => [0, 1, 10] | 2 => [4] | 3 => [0, 1, 5] | 4 => [0, 1, 5, 14] | 5 => [0, 1, 5] | 6 => [0, 1, 5, 25] | 7 => [4] | 8 => [4] | 1000006 => [0, 0, 0, 0, 0, 0, 0, 0, 0] | _ => []⟩
def w_eqIntS.X : FX := ⟨26, [.tmp 4], w_eqIntS.F, w_eqIntS.x⟩

theorem w_eqIntS.ok {P : Program} {k : Nat} (hk : Has P k (w_eqIntS.X)) : C_eqS Int P k := by
  intro l m hl hm n H
  obtain ⟨hl1, hl2⟩ := hl
  obtain ⟨hm1, hm2⟩ := hm
  unfold mxs at hl1 hm1
  refine S.ofX hk rfl fun hB fn hr => ?_
  unfold w_eqIntS.x
  repeat' (first
    | ((with_reducible refine S.go ?_); first | refine S.seq ?_ | refine S.skip ?_ | refine S.block ?_ | refine S.inBlock ?_ | refine S.exit rfl ?_ | refine S.regN ?_ | refine S.reg ?_ | refine S.drw hk.mo (by kernel_rfl) ?_ | (refine S.cond rfl (fun hc => ?_) (fun hc => ?_) <;> try simp only [HC] at hc) | refine S.retH hr rfl ?_ | refine S.finH hr rfl ?_ | (refine S.retK hr ?_; refine TRdt ?_) | fail)
    | ((first | with_reducible refine Ns.go ?_ | with_reducible refine XOs.go ?_ | with_reducible refine XDs.go ?_ | with_reducible refine OK.go ?_); (first | refine TTdt ?_ | (apply Ns.sc ⟨rfl, rfl⟩ rfl; intro hg) | (refine OK.tr ?_; refine TTdt ?_)); (try simp only [HC] at hg))
    | with_reducible exact rfl | exact ⟨rfl, rfl, rfl⟩
    | ((with_reducible refine Gd.go ?_); refine Gd.on (fun hg => ?_) (fun hg => ?_) <;> refine TGdt ?_ <;> (try simp only [HC] at hg))
    | ((with_reducible refine Fin.go ?_); first | (refine Fin.p ?_; first | exact FT | (try refine TTdt ?_; try simp only [LF])) | refine Fin.a0 ?_ | refine Fin.a ?_ | refine Fin.ni ?_ | refine Fin.v ?_ ?_ | refine Fin.r ?_ ?_ | exact Fin.th | (refine Fin.t ?_; try simp only [AV.sl.injEq]))
    | (refine And.go ?_; refine AndI ?_)
    | fail)
  · exact (decL (by omega)).symm
  refine S.loopV (σ := Nat) [0, 1, 5] (fun s => [(5, .int .i64 (s : Int))]) (fun s => s ≤ l.length ∧ ∀ j, j < s → l.getD j default = m.getD j default) (fun s => n) (fun s => H) (fun s => l.length - s) (0) (⟨by omega, ?_⟩) ?_
  · first | rfl | omega | (simp; done) | (simp; omega) | skip
  rintro i ⟨hi1, hi2⟩ ih
  try dsimp only at hi1 hi2
  repeat' (first
    | ((with_reducible refine S.go ?_); first | refine S.seq ?_ | refine S.skip ?_ | refine S.block ?_ | refine S.inBlock ?_ | refine S.exit rfl ?_ | refine S.regN ?_ | refine S.reg ?_ | refine S.drw hk.mo (by kernel_rfl) ?_ | refine S.ag (ih (i + 1) ?_ ?_) | (refine S.cond rfl (fun hc => ?_) (fun hc => ?_) <;> try simp only [HC] at hc) | refine S.retH hr rfl ?_ | refine S.finH hr rfl ?_ | (refine S.retK hr ?_; refine TRdt ?_) | fail)
    | ((first | with_reducible refine Ns.go ?_ | with_reducible refine XOs.go ?_ | with_reducible refine XDs.go ?_ | with_reducible refine OK.go ?_); (first | refine TTdt ?_ | (apply Ns.sc ⟨rfl, rfl⟩ rfl; intro hg) | (refine OK.tr ?_; refine TTdt ?_)); (try simp only [HC] at hg))
    | with_reducible exact rfl | exact ⟨rfl, rfl, rfl⟩
    | ((with_reducible refine Gd.go ?_); refine Gd.on (fun hg => ?_) (fun hg => ?_) <;> refine TGdt ?_ <;> (try simp only [HC] at hg))
    | ((with_reducible refine Fin.go ?_); first | (refine Fin.p ?_; first | exact FT | (try refine TTdt ?_; try simp only [LF])) | refine Fin.a0 ?_ | refine Fin.a ?_ | refine Fin.ni ?_ | refine Fin.v ?_ ?_ | refine Fin.r ?_ ?_ | exact Fin.th | (refine Fin.t ?_; try simp only [AV.sl.injEq]))
    | (refine And.go ?_; refine AndI ?_)
    | fail)
  all_goals (try clear ih)
  all_goals (try dsimp only)
  all_goals (repeat' apply And.intro)
  all_goals first | omega | (simp only [ZL]; omega) | skip
  all_goals (try clear hr hk hB)
  all_goals first | (exact (decG hc).symm) | (exact (decA (by omega) (fun j hj => hi2 j (by omega))).symm) | (exact decN hi2 hc)
/-- laws.szStringS -/
def w_szStringS.x : XCode :=
  (.seq
    (.reg [⟨(some 4), .mv, [.k (.int .i64 0)], none⟩] [0, 1])
    (.seq
      (.reg [⟨(some 6), .mv, [.t 1], none⟩,
        ⟨(some 7), .mv, [.t 0], none⟩,
        ⟨(some 8), .lenL, [.t 7], none⟩,
        ⟨(some 9), (.bin .sub), [.t 6, .t 8], none⟩,
        ⟨(some 1), .mv, [.t 9], none⟩] [0, 1])
      (.seq
        (.seq
          (.reg [⟨(some 10), .mv, [.t 1], none⟩,
            ⟨(some 11), (.bin .lss), [.t 10, .k (.int .i64 0)], none⟩] [0, 1, 11])
          (.cond (.t 11)
            (.seq
              (.reg [⟨(some 4), .mv, [.k (.int .i64 (-1))], none⟩] [4])
              .ret)
            .skip))
        (.seq
          (.seq
            (.reg [⟨(some 5), .mv, [.k (.int .i64 0)], none⟩] [0, 1, 5])
            (.block 0
              (.loop
                (.seq
                  (.seq
                    (.reg [⟨(some 12), .mv, [.t 5], none⟩,
                      ⟨(some 13), .mv, [.t 0], none⟩,
                      ⟨(some 14), .lenL, [.t 13], none⟩,
                      ⟨(some 15), (.bin .lss), [.t 12, .t 14], none⟩] [0, 1, 5, 15])
                    (.cond (.t 15)
                      .skip
                      (.exit 0)))
                  (.seq
                    (.block 1
                      (.seq
                        (.reg [⟨(some 18), .mv, [.t 1], none⟩,
                          ⟨(some 19), .mv, [.t 0], none⟩,
                          ⟨(some 20), .mv, [.t 5], none⟩,
                          ⟨(some 21), (.idxA 1), [.t 19, .t 20], none⟩,
                          ⟨(some 22), (.ld none), [.t 21], none⟩,
                          ⟨(some 23), .lenS, [.t 22], none⟩,
                          ⟨(some 24), (.bin .sub), [.t 18, .t 23], none⟩,
                          ⟨(some 1), .mv, [.t 24], none⟩] [0, 1, 5])
                        (.seq
                          (.reg [⟨(some 25), .mv, [.t 1], none⟩,
                            ⟨(some 26), (.bin .lss), [.t 25, .k (.int .i64 0)], none⟩] [0, 1, 5, 26])
                          (.cond (.t 26)
                            (.seq
                              (.reg [⟨(some 4), .mv, [.k (.int .i64 (-1))], none⟩] [4])
                              .ret)
                            .skip))))
                    (.reg [⟨(some 16), .mv, [.t 5], none⟩,
                      ⟨(some 17), (.bin .add), [.t 16, .k (.int .i64 1)], none⟩,
                      ⟨(some 5), .mv, [.t 17], none⟩] [0, 1, 5]))))))
          (.seq
            (.reg [⟨(some 27), .mv, [.t 1], none⟩,
              ⟨(some 4), .mv, [.t 27], none⟩] [4])
            .ret)))))
def w_szStringS.F : Cfg := ⟨fun _ => 0, fun r => match r with | 0 => [0, 1] | 1 => [0, 1] | 2 => [0, 1, 11] | 3 => [4] | 4 => [0, 1, 5] | 5 => [0, 1, 5, 15] | 6 => [0, 1, 5] | 7 => [0, 1, 5] | 8 => [0, 1, 5, 26] | 9 => [4] | 10 => [4] | _ => []⟩
def w_szStringS.X : FX := ⟨28, [.tmp 4], w_szStringS.F, w_szStringS.x⟩

theorem w_szStringS.ok {P : Program} {k : Nat} (hk : Has P k (w_szStringS.X)) : C_szS (List UInt8) P k := by
  intro l a hl ha1 ha2 n H
  obtain ⟨hl1, hl2⟩ := hl
  unfold mxi at hl1
  refine S.ofX hk rfl fun hB fn hr => ?_
  unfold w_szStringS.x
  repeat' (first
    | ((with_reducible refine S.go ?_); first | refine S.seq ?_ | refine S.skip ?_ | refine S.block ?_ | refine S.inBlock ?_ | refine S.exit rfl ?_ | refine S.regN ?_ | refine S.reg ?_ | refine S.drw hk.mo (by kernel_rfl) ?_ | (refine S.cond rfl (fun hc => ?_) (fun hc => ?_) <;> try simp only [HC] at hc) | refine S.retH hr rfl ?_ | refine S.finH hr rfl ?_ | (refine S.retK hr ?_; refine TRdt ?_) | fail)
    | ((first | with_reducible refine Ns.go ?_ | with_reducible refine XOs.go ?_ | with_reducible refine XDs.go ?_ | with_reducible refine OK.go ?_); (first | refine TTdt ?_ | (apply Ns.sc ⟨rfl, rfl⟩ rfl; intro hg) | (refine OK.tr ?_; refine TTdt ?_)); (try simp only [HC] at hg))
    | with_reducible exact rfl | exact ⟨rfl, rfl, rfl⟩
    | ((with_reducible refine Gd.go ?_); refine Gd.on (fun hg => ?_) (fun hg => ?_) <;> refine TGdt ?_ <;> (try simp only [HC] at hg))
    | ((with_reducible refine Fin.go ?_); first | (refine Fin.p ?_; first | exact FT | (try refine TTdt ?_; try simp only [LF])) | refine Fin.a0 ?_ | refine Fin.a ?_ | refine Fin.ni ?_ | refine Fin.v ?_ ?_ | refine Fin.r ?_ ?_ | exact Fin.th | (refine Fin.t ?_; try simp only [AV.sl.injEq]))
    | (refine And.go ?_; refine AndI ?_)
    | fail)
  · exact (szS_neg hc).symm
  refine S.loopV (σ := Nat × Int) [0, 1, 5] (fun s => [(1, .int .i64 s.2), (5, .int .i64 (s.1 : Int))]) (fun s => s.1 ≤ l.length ∧ 0 ≤ s.2 ∧ s.2 ≤ 1048576 ∧ szl (l.drop s.1) s.2 = sz l a) (fun s => n) (fun s => H) (fun s => l.length - s.1) (0, (a - l.length)) (⟨by omega, by omega, by omega, szS_init (by omega)⟩) ?_
  rintro ⟨i, b⟩ ⟨hi1, hi2, hi3, hi4⟩ ih
  try dsimp only at hi1 hi2 hi3 hi4
  all_goals (try (have hq : i < l.length → (l.getD i default).length ≤ 9223372036854775807 := fun h => ok_at hl2 h))
  repeat' (first
    | ((with_reducible refine S.go ?_); first | refine S.seq ?_ | refine S.skip ?_ | refine S.block ?_ | refine S.inBlock ?_ | refine S.exit rfl ?_ | refine S.regN ?_ | refine S.reg ?_ | refine S.drw hk.mo (by kernel_rfl) ?_ | refine S.ag (ih ((i + 1, _)) ?_ ?_) | (refine S.cond rfl (fun hc => ?_) (fun hc => ?_) <;> try simp only [HC] at hc) | refine S.retH hr rfl ?_ | refine S.finH hr rfl ?_ | (refine S.retK hr ?_; refine TRdt ?_) | fail)
    | ((first | with_reducible refine Ns.go ?_ | with_reducible refine XOs.go ?_ | with_reducible refine XDs.go ?_ | with_reducible refine OK.go ?_); (first | refine TTdt ?_ | (apply Ns.sc ⟨rfl, rfl⟩ rfl; intro hg) | (refine OK.tr ?_; refine TTdt ?_)); (try simp only [HC] at hg))
    | with_reducible exact rfl | exact ⟨rfl, rfl, rfl⟩
    | ((with_reducible refine Gd.go ?_); refine Gd.on (fun hg => ?_) (fun hg => ?_) <;> refine TGdt ?_ <;> (try simp only [HC] at hg))
    | ((with_reducible refine Fin.go ?_); first | (refine Fin.p ?_; first | exact FT | (try refine TTdt ?_; try simp only [LF])) | refine Fin.a0 ?_ | refine Fin.a ?_ | refine Fin.ni ?_ | refine Fin.v ?_ ?_ | refine Fin.r ?_ ?_ | exact Fin.th | (refine Fin.t ?_; try simp only [AV.sl.injEq]))
    | (refine And.go ?_; refine AndI ?_)
    | fail)
  all_goals (try clear ih)
  all_goals (try dsimp only)
  all_goals (repeat' apply And.intro)
  all_goals first | omega | (simp only [ZL]; omega) | skip
  all_goals (try clear hr hk hB)
  all_goals first | exact (szS_stop hi4 (by omega) (by rw [szStr_neg hc]; omega) (by omega)).symm | exact szS_end hi4 (by omega) | (rw [← szStr_pos hc]; exact szS_next hi4 (by omega)) | exact Int.le_trans (up _ _ (by omega)) (by omega)
/-- laws.toStringS -/
def w_toStringS.x : XCode :=
  (.seq
    (.reg [⟨(some 2), .mv, [.k (.nilsl)], none⟩] [0])
    (.seq
      (.reg [⟨(some 5), .mv, [.t 0], none⟩,
        ⟨(some 6), .lenL, [.t 5], none⟩,
        ⟨(some 7), (.mks 2 1 16 [.str []]), [.t 6, .t 6], none⟩,
        ⟨(some 3), .mv, [.t 7], none⟩] [0, 3])
      (.seq
        (.seq
          (.reg [⟨(some 4), .mv, [.k (.int .i64 0)], none⟩] [0, 3, 4])
          (.block 0
            (.loop
              (.seq
                (.seq
                  (.reg [⟨(some 8), .mv, [.t 4], none⟩,
                    ⟨(some 9), .mv, [.t 0], none⟩,
                    ⟨(some 10), .lenL, [.t 9], none⟩,
                    ⟨(some 11), (.bin .lss), [.t 8, .t 10], none⟩] [0, 3, 4, 11])
                  (.cond (.t 11)
                    .skip
                    (.exit 0)))
                (.seq
                  (.block 1
                    (.reg [⟨(some 14), .mv, [.t 3], none⟩,
                      ⟨(some 15), .mv, [.t 4], none⟩,
                      ⟨(some 16), .mv, [.t 0], none⟩,
                      ⟨(some 17), .mv, [.t 4], none⟩,
                      ⟨(some 18), (.idxA 1), [.t 16, .t 17], none⟩,
                      ⟨(some 19), (.ld none), [.t 18], none⟩,
                      ⟨(some 20), (.idxA 1), [.t 14, .t 15], none⟩,
                      ⟨none, (.st none), [.t 20, .t 19], none⟩] [0, 3, 4]))
                  (.reg [⟨(some 12), .mv, [.t 4], none⟩,
                    ⟨(some 13), (.bin .add), [.t 12, .k (.int .i64 1)], none⟩,
                    ⟨(some 4), .mv, [.t 13], none⟩] [0, 3, 4]))))))
        (.seq
          (.reg [⟨(some 21), .mv, [.t 3], none⟩,
            ⟨(some 2), .mv, [.t 21], none⟩] [2])
          .ret))))
def w_toStringS.F : Cfg := ⟨fun d => if d = 7 then 2 else 0, fun r => match r with | 0 => [0] | 1 => [0, 3] | 2 => [0, 3, 4] | 3 => [0, 3, 4, 11] | 4 => [0, 3, 4] | 5 => [0, 3, 4] | 6 => [2] | _ => []⟩
def w_toStringS.X : FX := ⟨22, [.tmp 2], w_toStringS.F, w_toStringS.x⟩

theorem w_toStringS.ok {P : Program} {k : Nat} (hk : Has P k (w_toStringS.X)) : C_toS (List UInt8) P k := by
  intro l hl n H
  obtain ⟨hl1, hl2⟩ := hl
  unfold mxs at hl1
  refine S.ofX hk rfl fun hB fn hr => ?_
  unfold w_toStringS.x
  repeat' (first
    | ((with_reducible refine S.go ?_); first | refine S.seq ?_ | refine S.skip ?_ | refine S.block ?_ | refine S.inBlock ?_ | refine S.exit rfl ?_ | refine S.regN ?_ | refine S.reg ?_ | refine S.drw hk.mo (by kernel_rfl) ?_ | (refine S.cond rfl (fun hc => ?_) (fun hc => ?_) <;> try simp only [HC] at hc) | refine S.retH hr rfl ?_ | refine S.finH hr rfl ?_ | (refine S.retK hr ?_; refine TRdt ?_) | fail)
    | ((first | with_reducible refine Ns.go ?_ | with_reducible refine XOs.go ?_ | with_reducible refine XDs.go ?_ | with_reducible refine OK.go ?_); (first | refine TTdt ?_ | (apply Ns.sc ⟨rfl, rfl⟩ rfl; intro hg) | (refine OK.tr ?_; refine TTdt ?_)); (try simp only [HC] at hg))
    | with_reducible exact rfl | exact ⟨rfl, rfl, rfl⟩
    | ((with_reducible refine Gd.go ?_); refine Gd.on (fun hg => ?_) (fun hg => ?_) <;> refine TGdt ?_ <;> (try simp only [HC] at hg))
    | ((with_reducible refine Fin.go ?_); first | (refine Fin.p ?_; first | exact FT | (try refine TTdt ?_; try simp only [LF])) | refine Fin.a0 ?_ | refine Fin.a ?_ | refine Fin.ni ?_ | refine Fin.v ?_ ?_ | refine Fin.r ?_ ?_ | exact Fin.th | (refine Fin.t ?_; try simp only [AV.sl.injEq]))
    | (refine And.go ?_; refine AndI ?_)
    | fail)
  refine S.loopV (σ := Nat × (List AV)) [0, 3, 4] (fun s => [(3, .ref n 1 0 l.length), (4, .int .i64 (s.1 : Int))]) (fun s => s.1 ≤ l.length ∧ s.2.length = l.length * 1 ∧ s.2.take (s.1 * 1) = (enc (l.take s.1)).flatten) (fun s => n + 1) (fun s => (n, .own s.2) :: H) (fun s => l.length - s.1) (0, _) (⟨by omega, ?_, fc_0⟩) ?_
  · first | rfl | omega | (simp; done) | (simp; omega) | skip
  rintro ⟨i, out⟩ ⟨hi1, hi2, hi3⟩ ih
  try dsimp only at hi1 hi2 hi3
  repeat' (first
    | ((with_reducible refine S.go ?_); first | refine S.seq ?_ | refine S.skip ?_ | refine S.block ?_ | refine S.inBlock ?_ | refine S.exit rfl ?_ | refine S.regN ?_ | refine S.reg ?_ | refine S.drw hk.mo (by kernel_rfl) ?_ | refine S.ag (ih ((i + 1, _)) ?_ ?_) | (refine S.cond rfl (fun hc => ?_) (fun hc => ?_) <;> try simp only [HC] at hc) | refine S.retH hr rfl ?_ | refine S.finH hr rfl ?_ | (refine S.retK hr ?_; refine TRdt ?_) | fail)
    | ((first | with_reducible refine Ns.go ?_ | with_reducible refine XOs.go ?_ | with_reducible refine XDs.go ?_ | with_reducible refine OK.go ?_); (first | refine TTdt ?_ | (apply Ns.sc ⟨rfl, rfl⟩ rfl; intro hg) | (refine OK.tr ?_; refine TTdt ?_)); (try simp only [HC] at hg))
    | with_reducible exact rfl | exact ⟨rfl, rfl, rfl⟩
    | (refine Fin.fc hi3 (by omega) hi2)
    | ((with_reducible refine Gd.go ?_); refine Gd.on (fun hg => ?_) (fun hg => ?_) <;> refine TGdt ?_ <;> (try simp only [HC] at hg))
    | ((with_reducible refine Fin.go ?_); first | (refine Fin.p ?_; first | exact FT | (try refine TTdt ?_; try simp only [LF])) | refine Fin.a0 ?_ | refine Fin.a ?_ | refine Fin.ni ?_ | refine Fin.v ?_ ?_ | refine Fin.r ?_ ?_ | exact Fin.th | (refine Fin.t ?_; try simp only [AV.sl.injEq]))
    | (refine And.go ?_; refine AndI ?_)
    | fail)
  all_goals (try clear ih)
  all_goals (try dsimp only)
  all_goals (repeat' apply And.intro)
  all_goals first | omega | (simp only [ZL]; omega) | skip
  all_goals (try clear hr hk hB)
  all_goals first | exact fc_len hi2 (by omega) rfl | exact fc_next hi3 hi2 (by omega) rfl rfl
/-- laws.eqStringS -/
def w_eqStringS.x : XCode :=
  (.seq
    (.reg [⟨(some 4), .mv, [.k (.bool false)], none⟩] [0, 1])
    (.seq
      (.seq
        (.reg [⟨(some 6), .mv, [.t 0], none⟩,
          ⟨(some 7), .lenL, [.t 6], none⟩,
          ⟨(some 8), .mv, [.t 1], none⟩,
          ⟨(some 9), .lenL, [.t 8], none⟩,
          ⟨(some 10), (.bin .neq), [.t 7, .t 9], none⟩] [0, 1, 10])
        (.cond (.t 10)
          (.seq
            (.reg [⟨(some 4), .mv, [.k (.bool false)], none⟩] [4])
            .ret)
          .skip))
      (.seq
        (.seq
          (.reg [⟨(some 5), .mv, [.k (.int .i64 0)], none⟩] [0, 1, 5])
          (.block 0
            (.loop
              (.seq
                (.seq
                  (.reg [⟨(some 11), .mv, [.t 5], none⟩,
                    ⟨(some 12), .mv, [.t 0], none⟩,
                    ⟨(some 13), .lenL, [.t 12], none⟩,
                    ⟨(some 14), (.bin .lss), [.t 11, .t 13], none⟩] [0, 1, 5, 14])
                  (.cond (.t 14)
                    .skip
                    (.exit 0)))
                (.seq
                  (.block 1
                    (.seq
                      (.drw [(⟨(some 17), .mv, [.t 0], none⟩, []),
                        (⟨(some 18), .mv, [.t 5], none⟩, []),
                        (⟨(some 19), (.idxA 1), [.t 17, .t 18], none⟩, [0, 1]),
                        (⟨(some 20), (.ld none), [.t 19], none⟩, [2]),
                        (⟨(some 21), .mv, [.t 1], none⟩, []),
                        (⟨(some 22), .mv, [.t 5], none⟩, []),
                        (⟨(some 23), (.idxA 1), [.t 21, .t 22], none⟩, [4, 5]),
                        (⟨(some 24), (.ld none), [.t 23], none⟩, [6]),
                        (⟨(some 25), (.bin .neq), [.t 20, .t 24], none⟩, [3, 7])] [0, 1, 5, 25] [0, 0, 0, 0, 0, 0, 0, 0, 0])
                      (.cond (.t 25)
                        (.seq
                          (.reg [⟨(some 4), .mv, [.k (.bool false)], none⟩] [4])
                          .ret)
                        .skip)))
                  (.reg [⟨(some 15), .mv, [.t 5], none⟩,
                    ⟨(some 16), (.bin .add), [.t 15, .k (.int .i64 1)], none⟩,
                    ⟨(some 5), .mv, [.t 16], none⟩] [0, 1, 5]))))))
        (.seq
          (.reg [⟨(some 4), .mv, [.k (.bool true)], none⟩] [4])
          .ret))))
def w_eqStringS.F : Cfg := ⟨fun _ => 0, fun r => match r with | 0 => [0, 1] | 1 => [0, 1, 10] | 2 => [4] | 3 => [0, 1, 5] | 4 => [0, 1, 5, 14] | 5 => [0, 1, 5] | 6 => [0, 1, 5, 25] | 7 => [4] | 8 => [4] | 1000006 => [0, 0, 0, 0, 0, 0, 0, 0, 0] | _ => []⟩
def w_eqStringS.X : FX := ⟨26, [.tmp 4], w_eqStringS.F, w_eqStringS.x⟩

theorem w_eqStringS.ok {P : Program} {k : Nat} (hk : Has P k (w_eqStringS.X)) : C_eqS (List UInt8) P k := by
  intro l m hl hm n H
  obtain ⟨hl1, hl2⟩ := hl
  obtain ⟨hm1, hm2⟩ := hm
  unfold mxs at hl1 hm1
  refine S.ofX hk rfl fun hB fn hr => ?_
  unfold w_eqStringS.x
  repeat' (first
    | ((with_reducible refine S.go ?_); first | refine S.seq ?_ | refine S.skip ?_ | refine S.block ?_ | refine S.inBlock ?_ | refine S.exit rfl ?_ | refine S.regN ?_ | refine S.reg ?_ | refine S.drw hk.mo (by kernel_rfl) ?_ | (refine S.cond rfl (fun hc => ?_) (fun hc => ?_) <;> try simp only [HC] at hc) | refine S.retH hr rfl ?_ | refine S.finH hr rfl ?_ | (refine S.retK hr ?_; refine TRdt ?_) | fail)
    | ((first | with_reducible refine Ns.go ?_ | with_reducible refine XOs.go ?_ | with_reducible refine XDs.go ?_ | with_reducible refine OK.go ?_); (first | refine TTdt ?_ | (apply Ns.sc ⟨rfl, rfl⟩ rfl; intro hg) | (refine OK.tr ?_; refine TTdt ?_)); (try simp only [HC] at hg))
    | with_reducible exact rfl | exact ⟨rfl, rfl, rfl⟩
    | ((with_reducible refine Gd.go ?_); refine Gd.on (fun hg => ?_) (fun hg => ?_) <;> refine TGdt ?_ <;> (try simp only [HC] at hg))
    | ((with_reducible refine Fin.go ?_); first | (refine Fin.p ?_; first | exact FT | (try refine TTdt ?_; try simp only [LF])) | refine Fin.a0 ?_ | refine Fin.a ?_ | refine Fin.ni ?_ | refine Fin.v ?_ ?_ | refine Fin.r ?_ ?_ | exact Fin.th | (refine Fin.t ?_; try simp only [AV.sl.injEq]))
    | (refine And.go ?_; refine AndI ?_)
    | fail)
  · exact (decL (by omega)).symm
  refine S.loopV (σ := Nat) [0, 1, 5] (fun s => [(5, .int .i64 (s : Int))]) (fun s => s ≤ l.length ∧ ∀ j, j < s → l.getD j default = m.getD j default) (fun s => n) (fun s => H) (fun s => l.length - s) (0) (⟨by omega, ?_⟩) ?_
  · first | rfl | omega | (simp; done) | (simp; omega) | skip
  rintro i ⟨hi1, hi2⟩ ih
  try dsimp only at hi1 hi2
  repeat' (first
    | ((with_reducible refine S.go ?_); first | refine S.seq ?_ | refine S.skip ?_ | refine S.block ?_ | refine S.inBlock ?_ | refine S.exit rfl ?_ | refine S.regN ?_ | refine S.reg ?_ | refine S.drw hk.mo (by kernel_rfl) ?_ | refine S.ag (ih (i + 1) ?_ ?_) | (refine S.cond rfl (fun hc => ?_) (fun hc => ?_) <;> try simp only [HC] at hc) | refine S.retH hr rfl ?_ | refine S.finH hr rfl ?_ | (refine S.retK hr ?_; refine TRdt ?_) | fail)
    | ((first | with_reducible refine Ns.go ?_ | with_reducible refine XOs.go ?_ | with_reducible refine XDs.go ?_ | with_reducible refine OK.go ?_); (first | refine TTdt ?_ | (apply Ns.sc ⟨rfl, rfl⟩ rfl; intro hg) | (refine OK.tr ?_; refine TTdt ?_)); (try simp only [HC] at hg))
    | with_reducible exact rfl | exact ⟨rfl, rfl, rfl⟩
    | ((with_reducible refine Gd.go ?_); refine Gd.on (fun hg => ?_) (fun hg => ?_) <;> refine TGdt ?_ <;> (try simp only [HC] at hg))
    | ((with_reducible refine Fin.go ?_); first | (refine Fin.p ?_; first | exact FT | (try refine TTdt ?_; try simp only [LF])) | refine Fin.a0 ?_ | refine Fin.a ?_ | refine Fin.ni ?_ | refine Fin.v ?_ ?_ | refine Fin.r ?_ ?_ | exact Fin.th | (refine Fin.t ?_; try simp only [AV.sl.injEq]))
    | (refine And.go ?_; refine AndI ?_)
    | fail)
  all_goals (try clear ih)
  all_goals (try dsimp only)
  all_goals (repeat' apply And.intro)
  all_goals first | omega | (simp only [ZL]; omega) | skip
  all_goals (try clear hr hk hB)
  all_goals first | (exact (decG hc).symm) | (exact (decA (by omega) (fun j hj => hi2 j (by omega))).symm) | (exact decN hi2 hc)
/-- laws.szLevel -/
def w_szLevel.x (c_w_szStringS c_w_szIntS : Nat) : XCode :=
  (.seq
    (.reg [⟨(some 2), .boxF, [.t 0], none⟩,
      ⟨(some 4), .mv, [.k (.int .i64 0)], none⟩] [1, 2])
    (.seq
      (.reg [⟨(some 5), (.fldA 0), [.t 2], none⟩,
        ⟨(some 6), (.ld none), [.t 5], none⟩,
        ⟨(some 7), .mv, [.t 1], none⟩,
        ⟨(some 8), .call, [.k (.fn c_w_szStringS []), .t 6, .t 7], none⟩,
        ⟨(some 1), .mv, [.t 8], none⟩] [1, 2])
      (.seq
        (.seq
          (.reg [⟨(some 9), .mv, [.t 1], none⟩,
            ⟨(some 10), (.bin .lss), [.t 9, .k (.int .i64 0)], none⟩] [1, 2, 10])
          (.cond (.t 10)
            (.seq
              (.reg [⟨(some 4), .mv, [.k (.int .i64 (-1))], none⟩] [4])
              .ret)
            .skip))
        (.seq
          (.reg [⟨(some 11), (.fldA 1), [.t 2], none⟩,
            ⟨(some 12), (.ld none), [.t 11], none⟩,
            ⟨(some 13), .mv, [.t 1], none⟩,
            ⟨(some 14), .call, [.k (.fn c_w_szIntS []), .t 12, .t 13], none⟩,
            ⟨(some 1), .mv, [.t 14], none⟩] [1])
          (.seq
            (.seq
              (.reg [⟨(some 15), .mv, [.t 1], none⟩,
                ⟨(some 16), (.bin .lss), [.t 15, .k (.int .i64 0)], none⟩] [1, 16])
              (.cond (.t 16)
                (.seq
                  (.reg [⟨(some 4), .mv, [.k (.int .i64 (-1))], none⟩] [4])
                  .ret)
                .skip))
            (.seq
              (.reg [⟨(some 17), .mv, [.t 1], none⟩,
                ⟨(some 4), .mv, [.t 17], none⟩] [4])
              .ret))))))
def w_szLevel.F : Cfg := ⟨fun _ => 0, fun r => match r with | 0 => [1, 2] | 1 => [1, 2] | 2 => [1, 2, 10] | 3 => [4] | 4 => [1] | 5 => [1, 16] | 6 => [4] | 7 => [4] | _ => []⟩
def w_szLevel.X (c_w_szStringS c_w_szIntS : Nat) : FX := ⟨18, [.tmp 4], w_szLevel.F, w_szLevel.x c_w_szStringS c_w_szIntS⟩

theorem w_szLevel.ok {P : Program} {k c_w_szStringS c_w_szIntS : Nat} (hk : Has P k (w_szLevel.X c_w_szStringS c_w_szIntS)) (h1 : C_szS (List UInt8) P c_w_szStringS) (h2 : C_szS Int P c_w_szIntS) : C_szT Lvl P k := by
  intro x a hl ha1 ha2 n H
  obtain ⟨x1, x2⟩ := x
  obtain ⟨hl1, hl2⟩ := hl
  refine S.ofX hk rfl fun hB fn hr => ?_
  unfold w_szLevel.x
  repeat' (first
    | ((with_reducible refine S.go ?_); first | refine S.seq ?_ | refine S.skip ?_ | refine S.block ?_ | refine S.inBlock ?_ | refine S.exit rfl ?_ | refine S.regN ?_ | refine S.reg ?_ | refine S.drw hk.mo (by kernel_rfl) ?_ | (refine S.cond rfl (fun hc => ?_) (fun hc => ?_) <;> try simp only [HC] at hc) | refine S.retH hr rfl ?_ | refine S.finH hr rfl ?_ | (refine S.retK hr ?_; refine TRdt ?_) | fail)
    | ((first | with_reducible refine Ns.go ?_ | with_reducible refine XOs.go ?_ | with_reducible refine XDs.go ?_ | with_reducible refine OK.go ?_); (first | refine TTdt ?_ | (apply Ns.sc ⟨rfl, rfl⟩ rfl; intro hg) | (refine OK.tr ?_; refine TTdt ?_)); (try simp only [HC] at hg))
    | with_reducible exact rfl | exact ⟨rfl, rfl, rfl⟩
    | ((with_reducible refine RunsT.go ?_); first | refine RunsF.apf (h1 x1 _ hl1 (by omega) UB) rfl ?_ | refine RunsF.apf (h2 x2 _ hl2 (by omega) UB) rfl ?_ | fail)
    | ((with_reducible refine RunsD.go ?_); first | refine RunsF.apd (h1 x1 _ hl1 (by omega) UB) rfl ?_ | refine RunsF.apd (h2 x2 _ hl2 (by omega) UB) rfl ?_ | fail)
    | ((with_reducible refine Gd.go ?_); refine Gd.on (fun hg => ?_) (fun hg => ?_) <;> refine TGdt ?_ <;> (try simp only [HC] at hg))
    | ((with_reducible refine Fin.go ?_); first | (refine Fin.p ?_; first | exact FT | (try refine TTdt ?_; try simp only [LF])) | refine Fin.a0 ?_ | refine Fin.a ?_ | refine Fin.ni ?_ | refine Fin.v ?_ ?_ | refine Fin.r ?_ ?_ | exact Fin.th | (refine Fin.t ?_; try simp only [AV.sl.injEq]))
    | (refine And.go ?_; refine AndI ?_)
    | fail)
  all_goals (try clear hr hk hB)
  all_goals (try rw [show sz (x1, x2) a = (sz x2 (sz x1 a)) from rfl])
  all_goals first | rfl | (simp (disch := first | assumption | omega) only [sz_int, sz_bool, szStr_neg, szStr_pos, sz_m1, neg])
/-- laws.toLevel -/
def w_toLevel.x (c_w_toStringS c_w_toIntS : Nat) : XCode :=
  (.seq
    (.reg [⟨(some 1), .boxF, [.t 0], none⟩,
      ⟨(some 2), (.alloc [.nilsl, .nilsl]), [], none⟩] [1, 2])
    (.seq
      (.reg [⟨(some 3), (.alloc [.nilsl, .nilsl]), [], none⟩] [1, 2, 3])
      (.seq
        (.reg [⟨(some 4), (.fldA 0), [.t 1], none⟩,
          ⟨(some 5), (.ld none), [.t 4], none⟩,
          ⟨(some 6), .call, [.k (.fn c_w_toStringS []), .t 5], none⟩,
          ⟨(some 7), (.fldA 0), [.t 3], none⟩,
          ⟨none, (.st none), [.t 7, .t 6], none⟩] [1, 2, 3])
        (.seq
          (.reg [⟨(some 8), (.fldA 1), [.t 1], none⟩,
            ⟨(some 9), (.ld none), [.t 8], none⟩,
            ⟨(some 10), .call, [.k (.fn c_w_toIntS []), .t 9], none⟩,
            ⟨(some 11), (.fldA 1), [.t 3], none⟩,
            ⟨none, (.st none), [.t 11, .t 10], none⟩] [2, 3])
          (.seq
            (.reg [⟨(some 12), (.ld (some 2)), [.t 3], none⟩,
              ⟨none, (.st (some 2)), [.t 2, .t 12], none⟩] [2])
            .ret)))))
def w_toLevel.F : Cfg := ⟨fun _ => 0, fun r => match r with | 0 => [1, 2] | 1 => [1, 2, 3] | 2 => [1, 2, 3] | 3 => [2, 3] | 4 => [2] | _ => []⟩
def w_toLevel.X (c_w_toStringS c_w_toIntS : Nat) : FX := ⟨13, [.cell 2 (some 2)], w_toLevel.F, w_toLevel.x c_w_toStringS c_w_toIntS⟩

theorem w_toLevel.ok {P : Program} {k c_w_toStringS c_w_toIntS : Nat} (hk : Has P k (w_toLevel.X c_w_toStringS c_w_toIntS)) (h1 : C_toS (List UInt8) P c_w_toStringS) (h2 : C_toS Int P c_w_toIntS) : C_toT Lvl P k := by
  intro x hl n H
  obtain ⟨x1, x2⟩ := x
  obtain ⟨hl1, hl2⟩ := hl
  refine S.ofX hk rfl fun hB fn hr => ?_
  unfold w_toLevel.x
  repeat' (first
    | ((with_reducible refine S.go ?_); first | refine S.seq ?_ | refine S.skip ?_ | refine S.block ?_ | refine S.inBlock ?_ | refine S.exit rfl ?_ | refine S.regN ?_ | refine S.reg ?_ | refine S.drw hk.mo (by kernel_rfl) ?_ | (refine S.cond rfl (fun hc => ?_) (fun hc => ?_) <;> try simp only [HC] at hc) | refine S.retH hr rfl ?_ | refine S.finH hr rfl ?_ | (refine S.retK hr ?_; refine TRdt ?_) | fail)
    | ((first | with_reducible refine Ns.go ?_ | with_reducible refine XOs.go ?_ | with_reducible refine XDs.go ?_ | with_reducible refine OK.go ?_); (first | refine TTdt ?_ | (apply Ns.sc ⟨rfl, rfl⟩ rfl; intro hg) | (refine OK.tr ?_; refine TTdt ?_)); (try simp only [HC] at hg))
    | with_reducible exact rfl | exact ⟨rfl, rfl, rfl⟩
    | ((with_reducible refine RunsT.go ?_); first | refine RunsF.apf (h1 x1 hl1) rfl ?_ | refine RunsF.apf (h2 x2 hl2) rfl ?_ | fail)
    | ((with_reducible refine RunsD.go ?_); first | refine RunsF.apd (h1 x1 hl1) rfl ?_ | refine RunsF.apd (h2 x2 hl2) rfl ?_ | fail)
    | ((with_reducible refine Gd.go ?_); refine Gd.on (fun hg => ?_) (fun hg => ?_) <;> refine TGdt ?_ <;> (try simp only [HC] at hg))
    | ((with_reducible refine Fin.go ?_); first | (refine Fin.p ?_; first | exact FT | (try refine TTdt ?_; try simp only [LF])) | refine Fin.a0 ?_ | refine Fin.a ?_ | refine Fin.ni ?_ | refine Fin.v ?_ ?_ | refine Fin.r ?_ ?_ | exact Fin.th | (refine Fin.t ?_; try simp only [AV.sl.injEq]))
    | (refine And.go ?_; refine AndI ?_)
    | fail)
  all_goals rfl
/-- laws.eqLevel -/
def w_eqLevel.x (c_w_eqStringS c_w_eqIntS : Nat) : XCode :=
  (.seq
    (.reg [⟨(some 2), .boxF, [.t 0], none⟩,
      ⟨(some 3), .boxF, [.t 1], none⟩,
      ⟨(some 4), .mv, [.k (.bool false)], none⟩] [2, 3])
    (.seq
      (.seq
        (.reg [⟨(some 5), (.fldA 0), [.t 2], none⟩,
          ⟨(some 6), (.ld none), [.t 5], none⟩,
          ⟨(some 7), (.fldA 0), [.t 3], none⟩,
          ⟨(some 8), (.ld none), [.t 7], none⟩,
          ⟨(some 9), .call, [.k (.fn c_w_eqStringS []), .t 6, .t 8], none⟩,
          ⟨(some 10), (.un .not), [.t 9], none⟩] [2, 3, 10])
        (.cond (.t 10)
          (.seq
            (.reg [⟨(some 4), .mv, [.k (.bool false)], none⟩] [4])
            .ret)
          .skip))
      (.seq
        (.seq
          (.reg [⟨(some 11), (.fldA 1), [.t 2], none⟩,
            ⟨(some 12), (.ld none), [.t 11], none⟩,
            ⟨(some 13), (.fldA 1), [.t 3], none⟩,
            ⟨(some 14), (.ld none), [.t 13], none⟩,
            ⟨(some 15), .call, [.k (.fn c_w_eqIntS []), .t 12, .t 14], none⟩,
            ⟨(some 16), (.un .not), [.t 15], none⟩] [16])
          (.cond (.t 16)
            (.seq
              (.reg [⟨(some 4), .mv, [.k (.bool false)], none⟩] [4])
              .ret)
            .skip))
        (.seq
          (.reg [⟨(some 4), .mv, [.k (.bool true)], none⟩] [4])
          .ret))))
def w_eqLevel.F : Cfg := ⟨fun _ => 0, fun r => match r with | 0 => [2, 3] | 1 => [2, 3, 10] | 2 => [4] | 3 => [16] | 4 => [4] | 5 => [4] | _ => []⟩
def w_eqLevel.X (c_w_eqStringS c_w_eqIntS : Nat) : FX := ⟨17, [.tmp 4], w_eqLevel.F, w_eqLevel.x c_w_eqStringS c_w_eqIntS⟩

theorem w_eqLevel.ok {P : Program} {k c_w_eqStringS c_w_eqIntS : Nat} (hk : Has P k (w_eqLevel.X c_w_eqStringS c_w_eqIntS)) (h1 : C_eqS (List UInt8) P c_w_eqStringS) (h2 : C_eqS Int P c_w_eqIntS) : C_eqT Lvl P k := by
  intro x y hl hm n H
  obtain ⟨x1, x2⟩ := x
  obtain ⟨hl1, hl2⟩ := hl
  obtain ⟨y1, y2⟩ := y
  obtain ⟨hm1, hm2⟩ := hm
  refine S.ofX hk rfl fun hB fn hr => ?_
  unfold w_eqLevel.x
  repeat' (first
    | ((with_reducible refine S.go ?_); first | refine S.seq ?_ | refine S.skip ?_ | refine S.block ?_ | refine S.inBlock ?_ | refine S.exit rfl ?_ | refine S.regN ?_ | refine S.reg ?_ | refine S.drw hk.mo (by kernel_rfl) ?_ | (refine S.cond rfl (fun hc => ?_) (fun hc => ?_) <;> try simp only [HC] at hc) | refine S.retH hr rfl ?_ | refine S.finH hr rfl ?_ | (refine S.retK hr ?_; refine TRdt ?_) | fail)
    | ((first | with_reducible refine Ns.go ?_ | with_reducible refine XOs.go ?_ | with_reducible refine XDs.go ?_ | with_reducible refine OK.go ?_); (first | refine TTdt ?_ | (apply Ns.sc ⟨rfl, rfl⟩ rfl; intro hg) | (refine OK.tr ?_; refine TTdt ?_)); (try simp only [HC] at hg))
    | with_reducible exact rfl | exact ⟨rfl, rfl, rfl⟩
    | ((with_reducible refine RunsT.go ?_); first | refine RunsF.apf (h1 x1 y1 hl1 hm1) rfl ?_ | refine RunsF.apf (h2 x2 y2 hl2 hm2) rfl ?_ | fail)
    | ((with_reducible refine RunsD.go ?_); first | refine RunsF.apd (h1 x1 y1 hl1 hm1) rfl ?_ | refine RunsF.apd (h2 x2 y2 hl2 hm2) rfl ?_ | fail)
    | ((with_reducible refine Gd.go ?_); refine Gd.on (fun hg => ?_) (fun hg => ?_) <;> refine TGdt ?_ <;> (try simp only [HC] at hg))
    | ((with_reducible refine Fin.go ?_); first | (refine Fin.p ?_; first | exact FT | (try refine TTdt ?_; try simp only [LF])) | refine Fin.a0 ?_ | refine Fin.a ?_ | refine Fin.ni ?_ | refine Fin.v ?_ ?_ | refine Fin.r ?_ ?_ | exact Fin.th | (refine Fin.t ?_; try simp only [AV.sl.injEq]))
    | (refine And.go ?_; refine AndI ?_)
    | fail)
  all_goals (try clear hr hk hB)
  all_goals (try clear hl1 hm1 hl2 hm2)
  all_goals (rw [Bool.eq_iff_iff]; simp_all)
/-- laws.szLevelS -/
def w_szLevelS.x (c_w_szLevel : Nat) : XCode :=
  (.seq
    (.reg [⟨(some 4), .mv, [.k (.int .i64 0)], none⟩] [0, 1])
    (.seq
      (.reg [⟨(some 6), .mv, [.t 1], none⟩,
        ⟨(some 7), .mv, [.t 0], none⟩,
        ⟨(some 8), .lenL, [.t 7], none⟩,
        ⟨(some 9), (.bin .sub), [.t 6, .t 8], none⟩,
        ⟨(some 1), .mv, [.t 9], none⟩] [0, 1])
      (.seq
        (.seq
          (.reg [⟨(some 10), .mv, [.t 1], none⟩,
            ⟨(some 11), (.bin .lss), [.t 10, .k (.int .i64 0)], none⟩] [0, 1, 11])
          (.cond (.t 11)
            (.seq
              (.reg [⟨(some 4), .mv, [.k (.int .i64 (-1))], none⟩] [4])
              .ret)
            .skip))
        (.seq
          (.seq
            (.reg [⟨(some 5), .mv, [.k (.int .i64 0)], none⟩] [0, 1, 5])
            (.block 0
              (.loop
                (.seq
                  (.seq
                    (.reg [⟨(some 12), .mv, [.t 5], none⟩,
                      ⟨(some 13), .mv, [.t 0], none⟩,
                      ⟨(some 14), .lenL, [.t 13], none⟩,
                      ⟨(some 15), (.bin .lss), [.t 12, .t 14], none⟩] [0, 1, 5, 15])
                    (.cond (.t 15)
                      .skip
                      (.exit 0)))
                  (.seq
                    (.block 1
                      (.seq
                        (.reg [⟨(some 18), .mv, [.t 0], none⟩,
                          ⟨(some 19), .mv, [.t 5], none⟩,
                          ⟨(some 20), (.idxA 2), [.t 18, .t 19], none⟩,
                          ⟨(some 21), (.ld (some 2)), [.t 20], none⟩,
                          ⟨(some 22), .mv, [.t 1], none⟩,
                          ⟨(some 23), .call, [.k (.fn c_w_szLevel []), .t 21, .t 22], none⟩,
                          ⟨(some 1), .mv, [.t 23], none⟩] [0, 1, 5])
                        (.seq
                          (.reg [⟨(some 24), .mv, [.t 1], none⟩,
                            ⟨(some 25), (.bin .lss), [.t 24, .k (.int .i64 0)], none⟩] [0, 1, 5, 25])
                          (.cond (.t 25)
                            (.seq
                              (.reg [⟨(some 4), .mv, [.k (.int .i64 (-1))], none⟩] [4])
                              .ret)
                            .skip))))
                    (.reg [⟨(some 16), .mv, [.t 5], none⟩,
                      ⟨(some 17), (.bin .add), [.t 16, .k (.int .i64 1)], none⟩,
                      ⟨(some 5), .mv, [.t 17], none⟩] [0, 1, 5]))))))
          (.seq
            (.reg [⟨(some 26), .mv, [.t 1], none⟩,
              ⟨(some 4), .mv, [.t 26], none⟩] [4])
            .ret)))))
def w_szLevelS.F : Cfg := ⟨fun _ => 0, fun r => match r with | 0 => [0, 1] | 1 => [0, 1] | 2 => [0, 1, 11] | 3 => [4] | 4 => [0, 1, 5] | 5 => [0, 1, 5, 15] | 6 => [0, 1, 5] | 7 => [0, 1, 5] | 8 => [0, 1, 5, 25] | 9 => [4] | 10 => [4] | _ => []⟩
def w_szLevelS.X (c_w_szLevel : Nat) : FX := ⟨27, [.tmp 4], w_szLevelS.F, w_szLevelS.x c_w_szLevel⟩

theorem w_szLevelS.ok {P : Program} {k c_w_szLevel : Nat} (hk : Has P k (w_szLevelS.X c_w_szLevel)) (h1 : C_szT Lvl P c_w_szLevel) : C_szS Lvl P k := by
  intro l a hl ha1 ha2 n H
  obtain ⟨hl1, hl2⟩ := hl
  unfold mxi at hl1
  refine S.ofX hk rfl fun hB fn hr => ?_
  unfold w_szLevelS.x
  repeat' (first
    | ((with_reducible refine S.go ?_); first | refine S.seq ?_ | refine S.skip ?_ | refine S.block ?_ | refine S.inBlock ?_ | refine S.exit rfl ?_ | refine S.regN ?_ | refine S.reg ?_ | refine S.drw hk.mo (by kernel_rfl) ?_ | (refine S.cond rfl (fun hc => ?_) (fun hc => ?_) <;> try simp only [HC] at hc) | refine S.retH hr rfl ?_ | refine S.finH hr rfl ?_ | (refine S.retK hr ?_; refine TRdt ?_) | fail)
    | ((first | with_reducible refine Ns.go ?_ | with_reducible refine XOs.go ?_ | with_reducible refine XDs.go ?_ | with_reducible refine OK.go ?_); (first | refine TTdt ?_ | (apply Ns.sc ⟨rfl, rfl⟩ rfl; intro hg) | (refine OK.tr ?_; refine TTdt ?_)); (try simp only [HC] at hg))
    | with_reducible exact rfl | exact ⟨rfl, rfl, rfl⟩
    | ((with_reducible refine Gd.go ?_); refine Gd.on (fun hg => ?_) (fun hg => ?_) <;> refine TGdt ?_ <;> (try simp only [HC] at hg))
    | ((with_reducible refine Fin.go ?_); first | (refine Fin.p ?_; first | exact FT | (try refine TTdt ?_; try simp only [LF])) | refine Fin.a0 ?_ | refine Fin.a ?_ | refine Fin.ni ?_ | refine Fin.v ?_ ?_ | refine Fin.r ?_ ?_ | exact Fin.th | (refine Fin.t ?_; try simp only [AV.sl.injEq]))
    | (refine And.go ?_; refine AndI ?_)
    | fail)
  · exact (szS_neg hc).symm
  refine S.loopV (σ := Nat × Int) [0, 1, 5] (fun s => [(1, .int .i64 s.2), (5, .int .i64 (s.1 : Int))]) (fun s => s.1 ≤ l.length ∧ 0 ≤ s.2 ∧ s.2 ≤ 1048576 ∧ szl (l.drop s.1) s.2 = sz l a) (fun s => n) (fun s => H) (fun s => l.length - s.1) (0, (a - l.length)) (⟨by omega, by omega, by omega, szS_init (by omega)⟩) ?_
  rintro ⟨i, b⟩ ⟨hi1, hi2, hi3, hi4⟩ ih
  try dsimp only at hi1 hi2 hi3 hi4
  repeat' (first
    | ((with_reducible refine S.go ?_); first | refine S.seq ?_ | refine S.skip ?_ | refine S.block ?_ | refine S.inBlock ?_ | refine S.exit rfl ?_ | refine S.regN ?_ | refine S.reg ?_ | refine S.drw hk.mo (by kernel_rfl) ?_ | refine S.ag (ih ((i + 1, _)) ?_ ?_) | (refine S.cond rfl (fun hc => ?_) (fun hc => ?_) <;> try simp only [HC] at hc) | refine S.retH hr rfl ?_ | refine S.finH hr rfl ?_ | (refine S.retK hr ?_; refine TRdt ?_) | fail)
    | ((first | with_reducible refine Ns.go ?_ | with_reducible refine XOs.go ?_ | with_reducible refine XDs.go ?_ | with_reducible refine OK.go ?_); (first | refine TTdt ?_ | (apply Ns.sc ⟨rfl, rfl⟩ rfl; intro hg) | (refine OK.tr ?_; refine TTdt ?_)); (try simp only [HC] at hg))
    | with_reducible exact rfl | exact ⟨rfl, rfl, rfl⟩
    | ((with_reducible refine RunsT.go ?_); first | refine RunsF.apf (h1 _ _ (ok_at hl2 (by omega)) (by omega) (by omega)) rfl ?_ | fail)
    | ((with_reducible refine RunsD.go ?_); first | refine RunsF.apd (h1 _ _ (ok_at hl2 (by omega)) (by omega) (by omega)) rfl ?_ | fail)
    | ((with_reducible refine Gd.go ?_); refine Gd.on (fun hg => ?_) (fun hg => ?_) <;> refine TGdt ?_ <;> (try simp only [HC] at hg))
    | ((with_reducible refine Fin.go ?_); first | (refine Fin.p ?_; first | exact FT | (try refine TTdt ?_; try simp only [LF])) | refine Fin.a0 ?_ | refine Fin.a ?_ | refine Fin.ni ?_ | refine Fin.v ?_ ?_ | refine Fin.r ?_ ?_ | exact Fin.th | (refine Fin.t ?_; try simp only [AV.sl.injEq]))
    | (refine And.go ?_; refine AndI ?_)
    | fail)
  all_goals (try clear ih)
  all_goals (try dsimp only)
  all_goals (repeat' apply And.intro)
  all_goals first | omega | (simp only [ZL]; omega) | skip
  all_goals (try clear hr hk hB)
  all_goals first | exact (szS_stop hi4 (by omega) hc (by omega)).symm | exact szS_end hi4 (by omega) | exact szS_next hi4 (by omega) | exact Int.le_trans (up _ _ (by omega)) (by omega)
/-- laws.toLevelS -/
def w_toLevelS.x (c_w_toLevel : Nat) : XCode :=
  (.seq
    (.reg [⟨(some 2), .mv, [.k (.nilsl)], none⟩] [0])
    (.seq
      (.reg [⟨(some 5), .mv, [.t 0], none⟩,
        ⟨(some 6), .lenL, [.t 5], none⟩,
        ⟨(some 7), (.mks 2 2 48 [.nilsl, .nilsl]), [.t 6, .t 6], none⟩,
        ⟨(some 3), .mv, [.t 7], none⟩] [0, 3])
      (.seq
        (.seq
          (.reg [⟨(some 4), .mv, [.k (.int .i64 0)], none⟩] [0, 3, 4])
          (.block 0
            (.loop
              (.seq
                (.seq
                  (.reg [⟨(some 8), .mv, [.t 4], none⟩,
                    ⟨(some 9), .mv, [.t 0], none⟩,
                    ⟨(some 10), .lenL, [.t 9], none⟩,
                    ⟨(some 11), (.bin .lss), [.t 8, .t 10], none⟩] [0, 3, 4, 11])
                  (.cond (.t 11)
                    .skip
                    (.exit 0)))
                (.seq
                  (.block 1
                    (.reg [⟨(some 14), .mv, [.t 3], none⟩,
                      ⟨(some 15), .mv, [.t 4], none⟩,
                      ⟨(some 16), .mv, [.t 0], none⟩,
                      ⟨(some 17), .mv, [.t 4], none⟩,
                      ⟨(some 18), (.idxA 2), [.t 16, .t 17], none⟩,
                      ⟨(some 19), (.ld (some 2)), [.t 18], none⟩,
                      ⟨(some 20), .call, [.k (.fn c_w_toLevel []), .t 19], none⟩,
                      ⟨(some 21), (.idxA 2), [.t 14, .t 15], none⟩,
                      ⟨none, (.st (some 2)), [.t 21, .t 20], none⟩] [0, 3, 4]))
                  (.reg [⟨(some 12), .mv, [.t 4], none⟩,
                    ⟨(some 13), (.bin .add), [.t 12, .k (.int .i64 1)], none⟩,
                    ⟨(some 4), .mv, [.t 13], none⟩] [0, 3, 4]))))))
        (.seq
          (.reg [⟨(some 22), .mv, [.t 3], none⟩,
            ⟨(some 2), .mv, [.t 22], none⟩] [2])
          .ret))))
def w_toLevelS.F : Cfg := ⟨fun d => if d = 7 then 2 else 0, fun r => match r with | 0 => [0] | 1 => [0, 3] | 2 => [0, 3, 4] | 3 => [0, 3, 4, 11] | 4 => [0, 3, 4] | 5 => [0, 3, 4] | 6 => [2] | _ => []⟩
def w_toLevelS.X (c_w_toLevel : Nat) : FX := ⟨23, [.tmp 2], w_toLevelS.F, w_toLevelS.x c_w_toLevel⟩

theorem w_toLevelS.ok {P : Program} {k c_w_toLevel : Nat} (hk : Has P k (w_toLevelS.X c_w_toLevel)) (h1 : C_toT Lvl P c_w_toLevel) : C_toS Lvl P k := by
  intro l hl n H
  obtain ⟨hl1, hl2⟩ := hl
  unfold mxs at hl1
  refine S.ofX hk rfl fun hB fn hr => ?_
  unfold w_toLevelS.x
  repeat' (first
    | ((with_reducible refine S.go ?_); first | refine S.seq ?_ | refine S.skip ?_ | refine S.block ?_ | refine S.inBlock ?_ | refine S.exit rfl ?_ | refine S.regN ?_ | refine S.reg ?_ | refine S.drw hk.mo (by kernel_rfl) ?_ | (refine S.cond rfl (fun hc => ?_) (fun hc => ?_) <;> try simp only [HC] at hc) | refine S.retH hr rfl ?_ | refine S.finH hr rfl ?_ | (refine S.retK hr ?_; refine TRdt ?_) | fail)
    | ((first | with_reducible refine Ns.go ?_ | with_reducible refine XOs.go ?_ | with_reducible refine XDs.go ?_ | with_reducible refine OK.go ?_); (first | refine TTdt ?_ | (apply Ns.sc ⟨rfl, rfl⟩ rfl; intro hg) | (refine OK.tr ?_; refine TTdt ?_)); (try simp only [HC] at hg))
    | with_reducible exact rfl | exact ⟨rfl, rfl, rfl⟩
    | ((with_reducible refine Gd.go ?_); refine Gd.on (fun hg => ?_) (fun hg => ?_) <;> refine TGdt ?_ <;> (try simp only [HC] at hg))
    | ((with_reducible refine Fin.go ?_); first | (refine Fin.p ?_; first | exact FT | (try refine TTdt ?_; try simp only [LF])) | refine Fin.a0 ?_ | refine Fin.a ?_ | refine Fin.ni ?_ | refine Fin.v ?_ ?_ | refine Fin.r ?_ ?_ | exact Fin.th | (refine Fin.t ?_; try simp only [AV.sl.injEq]))
    | (refine And.go ?_; refine AndI ?_)
    | fail)
  refine S.loopV (σ := Nat × (List AV)) [0, 3, 4] (fun s => [(3, .ref n 2 0 l.length), (4, .int .i64 (s.1 : Int))]) (fun s => s.1 ≤ l.length ∧ s.2.length = l.length * 2 ∧ s.2.take (s.1 * 2) = (enc (l.take s.1)).flatten) (fun s => n + 1) (fun s => (n, .own s.2) :: H) (fun s => l.length - s.1) (0, _) (⟨by omega, ?_, fc_0⟩) ?_
  · first | rfl | omega | (simp; done) | (simp; omega) | skip
  rintro ⟨i, out⟩ ⟨hi1, hi2, hi3⟩ ih
  try dsimp only at hi1 hi2 hi3
  repeat' (first
    | ((with_reducible refine S.go ?_); first | refine S.seq ?_ | refine S.skip ?_ | refine S.block ?_ | refine S.inBlock ?_ | refine S.exit rfl ?_ | refine S.regN ?_ | refine S.reg ?_ | refine S.drw hk.mo (by kernel_rfl) ?_ | refine S.ag (ih ((i + 1, _)) ?_ ?_) | (refine S.cond rfl (fun hc => ?_) (fun hc => ?_) <;> try simp only [HC] at hc) | refine S.retH hr rfl ?_ | refine S.finH hr rfl ?_ | (refine S.retK hr ?_; refine TRdt ?_) | fail)
    | ((first | with_reducible refine Ns.go ?_ | with_reducible refine XOs.go ?_ | with_reducible refine XDs.go ?_ | with_reducible refine OK.go ?_); (first | refine TTdt ?_ | (apply Ns.sc ⟨rfl, rfl⟩ rfl; intro hg) | (refine OK.tr ?_; refine TTdt ?_)); (try simp only [HC] at hg))
    | with_reducible exact rfl | exact ⟨rfl, rfl, rfl⟩
    | ((with_reducible refine RunsT.go ?_); first | refine RunsF.apf (h1 _ (ok_at hl2 (by omega))) rfl ?_ | fail)
    | ((with_reducible refine RunsD.go ?_); first | refine RunsF.apd (h1 _ (ok_at hl2 (by omega))) rfl ?_ | fail)
    | (refine Fin.fc hi3 (by omega) hi2)
    | ((with_reducible refine Gd.go ?_); refine Gd.on (fun hg => ?_) (fun hg => ?_) <;> refine TGdt ?_ <;> (try simp only [HC] at hg))
    | ((with_reducible refine Fin.go ?_); first | (refine Fin.p ?_; first | exact FT | (try refine TTdt ?_; try simp only [LF])) | refine Fin.a0 ?_ | refine Fin.a ?_ | refine Fin.ni ?_ | refine Fin.v ?_ ?_ | refine Fin.r ?_ ?_ | exact Fin.th | (refine Fin.t ?_; try simp only [AV.sl.injEq]))
    | (refine And.go ?_; refine AndI ?_)
    | fail)
  all_goals (try clear ih)
  all_goals (try dsimp only)
  all_goals (repeat' apply And.intro)
  all_goals first | omega | (simp only [ZL]; omega) | skip
  all_goals (try clear hr hk hB)
  all_goals first | exact fc_len hi2 (by omega) rfl | exact fc_next hi3 hi2 (by omega) rfl rfl
/-- laws.eqLevelS -/
def w_eqLevelS.x (c_w_eqLevel : Nat) : XCode :=
  (.seq
    (.reg [⟨(some 4), .mv, [.k (.bool false)], none⟩] [0, 1])
    (.seq
      (.seq
        (.reg [⟨(some 6), .mv, [.t 0], none⟩,
          ⟨(some 7), .lenL, [.t 6], none⟩,
          ⟨(some 8), .mv, [.t 1], none⟩,
          ⟨(some 9), .lenL, [.t 8], none⟩,
          ⟨(some 10), (.bin .neq), [.t 7, .t 9], none⟩] [0, 1, 10])
        (.cond (.t 10)
          (.seq
            (.reg [⟨(some 4), .mv, [.k (.bool false)], none⟩] [4])
            .ret)
          .skip))
      (.seq
        (.seq
          (.reg [⟨(some 5), .mv, [.k (.int .i64 0)], none⟩] [0, 1, 5])
          (.block 0
            (.loop
              (.seq
                (.seq
                  (.reg [⟨(some 11), .mv, [.t 5], none⟩,
                    ⟨(some 12), .mv, [.t 0], none⟩,
                    ⟨(some 13), .lenL, [.t 12], none⟩,
                    ⟨(some 14), (.bin .lss), [.t 11, .t 13], none⟩] [0, 1, 5, 14])
                  (.cond (.t 14)
                    .skip
                    (.exit 0)))
                (.seq
                  (.block 1
                    (.seq
                      (.drw [(⟨(some 17), .mv, [.t 0], none⟩, []),
                        (⟨(some 18), .mv, [.t 5], none⟩, []),
                        (⟨(some 19), (.idxA 2), [.t 17, .t 18], none⟩, [0, 1]),
                        (⟨(some 20), (.ld (some 2)), [.t 19], none⟩, [2]),
                        (⟨(some 21), .mv, [.t 1], none⟩, []),
                        (⟨(some 22), .mv, [.t 5], none⟩, []),
                        (⟨(some 23), (.idxA 2), [.t 21, .t 22], none⟩, [4, 5]),
                        (⟨(some 24), (.ld (some 2)), [.t 23], none⟩, [6]),
                        (⟨(some 25), .call, [.k (.fn c_w_eqLevel []), .t 20, .t 24], none⟩, [3, 7]),
                        (⟨(some 26), (.un .not), [.t 25], none⟩, [8])] [0, 1, 5, 26] [0, 0, 0, 0, 0, 0, 0, 0, 0, 0])
                      (.cond (.t 26)
                        (.seq
                          (.reg [⟨(some 4), .mv, [.k (.bool false)], none⟩] [4])
                          .ret)
                        .skip)))
                  (.reg [⟨(some 15), .mv, [.t 5], none⟩,
                    ⟨(some 16), (.bin .add), [.t 15, .k (.int .i64 1)], none⟩,
                    ⟨(some 5), .mv, [.t 16], none⟩] [0, 1, 5]))))))
        (.seq
          (.reg [⟨(some 4), .mv, [.k (.bool true)], none⟩] [4])
          .ret))))
def w_eqLevelS.F : Cfg := ⟨fun _ => 0, fun r => match r with | 0 => [0, 1] | 1 => [0, 1, 10] | 2 => [4] | 3 => [0, 1, 5] | 4 => [0, 1, 5, 14] | 5 => [0, 1, 5] | 6 => [0, 1, 5, 26] | 7 => [4] | 8 => [4] | 1000006 => [0, 0, 0, 0, 0, 0, 0, 0, 0, 0] | _ => []⟩
def w_eqLevelS.X (c_w_eqLevel : Nat) : FX := ⟨27, [.tmp 4], w_eqLevelS.F, w_eqLevelS.x c_w_eqLevel⟩

theorem w_eqLevelS.ok {P : Program} {k c_w_eqLevel : Nat} (hk : Has P k (w_eqLevelS.X c_w_eqLevel)) (h1 : C_eqT Lvl P c_w_eqLevel) : C_eqS Lvl P k := by
  intro l m hl hm n H
  obtain ⟨hl1, hl2⟩ := hl
  obtain ⟨hm1, hm2⟩ := hm
  unfold mxs at hl1 hm1
  refine S.ofX hk rfl fun hB fn hr => ?_
  unfold w_eqLevelS.x
  repeat' (first
    | ((with_reducible refine S.go ?_); first | refine S.seq ?_ | refine S.skip ?_ | refine S.block ?_ | refine S.inBlock ?_ | refine S.exit rfl ?_ | refine S.regN ?_ | refine S.reg ?_ | refine S.drw hk.mo (by kernel_rfl) ?_ | (refine S.cond rfl (fun hc => ?_) (fun hc => ?_) <;> try simp only [HC] at hc) | refine S.retH hr rfl ?_ | refine S.finH hr rfl ?_ | (refine S.retK hr ?_; refine TRdt ?_) | fail)
    | ((first | with_reducible refine Ns.go ?_ | with_reducible refine XOs.go ?_ | with_reducible refine XDs.go ?_ | with_reducible refine OK.go ?_); (first | refine TTdt ?_ | (apply Ns.sc ⟨rfl, rfl⟩ rfl; intro hg) | (refine OK.tr ?_; refine TTdt ?_)); (try simp only [HC] at hg))
    | with_reducible exact rfl | exact ⟨rfl, rfl, rfl⟩
    | ((with_reducible refine Gd.go ?_); refine Gd.on (fun hg => ?_) (fun hg => ?_) <;> refine TGdt ?_ <;> (try simp only [HC] at hg))
    | ((with_reducible refine Fin.go ?_); first | (refine Fin.p ?_; first | exact FT | (try refine TTdt ?_; try simp only [LF])) | refine Fin.a0 ?_ | refine Fin.a ?_ | refine Fin.ni ?_ | refine Fin.v ?_ ?_ | refine Fin.r ?_ ?_ | exact Fin.th | (refine Fin.t ?_; try simp only [AV.sl.injEq]))
    | (refine And.go ?_; refine AndI ?_)
    | fail)
  · exact (decL (by omega)).symm
  refine S.loopV (σ := Nat) [0, 1, 5] (fun s => [(5, .int .i64 (s : Int))]) (fun s => s ≤ l.length ∧ ∀ j, j < s → l.getD j default = m.getD j default) (fun s => n) (fun s => H) (fun s => l.length - s) (0) (⟨by omega, ?_⟩) ?_
  · first | rfl | omega | (simp; done) | (simp; omega) | skip
  rintro i ⟨hi1, hi2⟩ ih
  try dsimp only at hi1 hi2
  repeat' (first
    | ((with_reducible refine S.go ?_); first | refine S.seq ?_ | refine S.skip ?_ | refine S.block ?_ | refine S.inBlock ?_ | refine S.exit rfl ?_ | refine S.regN ?_ | refine S.reg ?_ | refine S.drw hk.mo (by kernel_rfl) ?_ | refine S.ag (ih (i + 1) ?_ ?_) | (refine S.cond rfl (fun hc => ?_) (fun hc => ?_) <;> try simp only [HC] at hc) | refine S.retH hr rfl ?_ | refine S.finH hr rfl ?_ | (refine S.retK hr ?_; refine TRdt ?_) | fail)
    | ((first | with_reducible refine Ns.go ?_ | with_reducible refine XOs.go ?_ | with_reducible refine XDs.go ?_ | with_reducible refine OK.go ?_); (first | refine TTdt ?_ | (apply Ns.sc ⟨rfl, rfl⟩ rfl; intro hg) | (refine OK.tr ?_; refine TTdt ?_)); (try simp only [HC] at hg))
    | with_reducible exact rfl | exact ⟨rfl, rfl, rfl⟩
    | ((with_reducible refine RunsT.go ?_); first | refine RunsF.apf (h1 _ _ (ok_at hl2 (by omega)) (ok_at hm2 (by omega))) rfl ?_ | fail)
    | ((with_reducible refine RunsD.go ?_); first | refine RunsF.apd (h1 _ _ (ok_at hl2 (by omega)) (ok_at hm2 (by omega))) rfl ?_ | fail)
    | ((with_reducible refine Gd.go ?_); refine Gd.on (fun hg => ?_) (fun hg => ?_) <;> refine TGdt ?_ <;> (try simp only [HC] at hg))
    | ((with_reducible refine Fin.go ?_); first | (refine Fin.p ?_; first | exact FT | (try refine TTdt ?_; try simp only [LF])) | refine Fin.a0 ?_ | refine Fin.a ?_ | refine Fin.ni ?_ | refine Fin.v ?_ ?_ | refine Fin.r ?_ ?_ | exact Fin.th | (refine Fin.t ?_; try simp only [AV.sl.injEq]))
    | (refine And.go ?_; refine AndI ?_)
    | fail)
  all_goals (try clear ih)
  all_goals (try dsimp only)
  all_goals (repeat' apply And.intro)
  all_goals first | omega | (simp only [ZL]; omega) | skip
  all_goals (try clear hr hk hB)
  all_goals first | (exact (decG hc).symm) | (exact (decA (by omega) (fun j hj => hi2 j (by omega))).symm) | (exact decN hi2 hc)
end Go.D01
