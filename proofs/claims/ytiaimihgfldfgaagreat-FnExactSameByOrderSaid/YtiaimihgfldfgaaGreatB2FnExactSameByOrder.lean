/- Data of Go's: sizes, copies, equality, by value. Over any program. Rankings, grammars, levels. Over any program. What is generated from a form: the list, and how many. Counts in forms and links, comparisons of marks, the best one. Plain laws. Generate and OneEdit. Over any program. Generate and OneEdit on both sides. Over any program. No condition. -/
import Derived.Test.YtiaimihgfldfgaaGreatA4
import Derived.Test.YtiaimihgfldfgaaGreatB1FnExactSameByOrder
section
namespace Go.D01
open Go.Ab Siz 
set_option linter.unusedVariables false
set_option linter.unusedSimpArgs false
set_option maxRecDepth 2000
/-- laws.szIntS -/
def w_szIntS.x : XCode :=
  (.seq
    (.reg [⟨(some 4), .mv, [.k (.int .i64 0)], none⟩] [0, 1])
    (.seq
      (.reg [⟨(some 5), .mv, [.t 1], none⟩,
        ⟨(some 6), .mv, [.t 0], none⟩,
        ⟨(some 7), .lenL, [.t 6], none⟩,
        ⟨(some 8), (.bin .sub), [.t 5, .t 7], none⟩,
        ⟨(some 1), .mv, [.t 8], none⟩] [1])
      (.seq
        (.seq
          (.reg [⟨(some 9), .mv, [.t 1], none⟩,
            ⟨(some 10), (.bin .lss), [.t 9, .k (.int .i64 0)], none⟩] [1, 10])
          (.cond (.t 10)
            (.seq
              (.reg [⟨(some 4), .mv, [.k (.int .i64 (-1))], none⟩] [4])
              .ret)
            .skip))
        (.seq
          (.reg [⟨(some 11), .mv, [.t 1], none⟩,
            ⟨(some 4), .mv, [.t 11], none⟩] [4])
          .ret))))
def w_szIntS.F : Cfg := ⟨fun _ => 0, fun r => match r with | 0 => [0, 1] | 1 => [1] | 2 => [1, 10] | 3 => [4] | 4 => [4] | _ => []⟩
def w_szIntS.X : FX := ⟨12, [.tmp 4], w_szIntS.F, w_szIntS.x⟩

theorem w_szIntS.ok {P : Program} {k : Nat} (hk : Has P k (w_szIntS.X)) : C_szS Int P k := by
  intro l a hl ha1 ha2 n H
  obtain ⟨hl1, hl2⟩ := hl
  unfold mxi at hl1
  refine S.ofX hk rfl fun hB fn hr => ?_
  unfold w_szIntS.x
  repeat' (first
    | ((with_reducible refine S.go ?_); first | refine S.seq ?_ | refine S.skip ?_ | refine S.block ?_ | refine S.inBlock ?_ | refine S.exit rfl ?_ | refine S.regN ?_ | refine S.reg ?_ | refine S.drw hk.mo (by kernel_rfl) ?_ | (refine S.cond rfl (fun hc => ?_) (fun hc => ?_) <;> try simp only [HC] at hc) | refine S.retH hr rfl ?_ | refine S.finH hr rfl ?_ | (refine S.retK hr ?_; refine TRdt ?_) | fail)
    | ((first | with_reducible refine Ns.go ?_ | with_reducible refine XOs.go ?_ | with_reducible refine XDs.go ?_ | with_reducible refine OK.go ?_); (first | refine TTdt ?_ | (apply Ns.sc ⟨rfl, rfl⟩ rfl; intro hg) | (refine OK.tr ?_; refine TTdt ?_)); (try simp only [HC] at hg))
    | with_reducible exact rfl | exact ⟨rfl, rfl, rfl⟩
    | ((with_reducible refine Gd.go ?_); refine Gd.on (fun hg => ?_) (fun hg => ?_) <;> refine TGdt ?_ <;> (try simp only [HC] at hg))
    | ((with_reducible refine Fin.go ?_); first | (refine Fin.p ?_; first | exact FT | (try refine TTdt ?_; try simp only [LF])) | refine Fin.a0 ?_ | refine Fin.a ?_ | refine Fin.ni ?_ | refine Fin.v ?_ ?_ | refine Fin.r ?_ ?_ | exact Fin.th | (refine Fin.t ?_; try simp only [AV.sl.injEq]))
    | (refine And.go ?_; refine AndI ?_)
    | fail)
  all_goals first | exact (szS_neg hc).symm | exact (szS_0 hc).symm
/-- laws.toIntS -/
def w_toIntS.x : XCode :=
  (.seq
    (.reg [⟨(some 2), .mv, [.k (.nilsl)], none⟩] [0])
    (.seq
      (.reg [⟨(some 5), .mv, [.t 0], none⟩,
        ⟨(some 6), .lenL, [.t 5], none⟩,
        ⟨(some 7), (.mks 2 1 8 [.int .i64 0]), [.t 6, .t 6], none⟩,
        ⟨(some 3), .mv, [.t 7], none⟩] [0, 3])
      (.seq
        (.seq
          (.reg [⟨(some 4), .mv, [.k (.int .i64 0)], none⟩] [0, 3, 4])
          (.block 0
            (.loop
              (.seq
                (.seq
                  (.reg [⟨(some 8), .mv, [.t 4], none⟩,
                    ⟨(some 9), .mv, [.t 0], none⟩,
                    ⟨(some 10), .lenL, [.t 9], none⟩,
                    ⟨(some 11), (.bin .lss), [.t 8, .t 10], none⟩] [0, 3, 4, 11])
                  (.cond (.t 11)
                    .skip
                    (.exit 0)))
                (.seq
                  (.block 1
                    (.reg [⟨(some 14), .mv, [.t 3], none⟩,
                      ⟨(some 15), .mv, [.t 4], none⟩,
                      ⟨(some 16), .mv, [.t 0], none⟩,
                      ⟨(some 17), .mv, [.t 4], none⟩,
                      ⟨(some 18), (.idxA 1), [.t 16, .t 17], none⟩,
                      ⟨(some 19), (.ld none), [.t 18], none⟩,
                      ⟨(some 20), (.idxA 1), [.t 14, .t 15], none⟩,
                      ⟨none, (.st none), [.t 20, .t 19], none⟩] [0, 3, 4]))
                  (.reg [⟨(some 12), .mv, [.t 4], none⟩,
                    ⟨(some 13), (.bin .add), [.t 12, .k (.int .i64 1)], none⟩,
                    ⟨(some 4), .mv, [.t 13], none⟩] [0, 3, 4]))))))
        (.seq
          (.reg [⟨(some 21), .mv, [.t 3], none⟩,
            ⟨(some 2), .mv, [.t 21], none⟩] [2])
          .ret))))
def w_toIntS.F : Cfg := ⟨fun d => if d = 7 then 2 else 0, fun r => match r with | 0 => [0] | 1 => [0, 3] | 2 => [0, 3, 4] | 3 => [0, 3, 4, 11] | 4 => [0, 3, 4] | 5 => [0, 3, 4] | 6 => [2] | _ => []⟩
def w_toIntS.X : FX := ⟨22, [.tmp 2], w_toIntS.F, w_toIntS.x⟩

theorem w_toIntS.ok {P : Program} {k : Nat} (hk : Has P k (w_toIntS.X)) : C_toS Int P k := by
  intro l hl n H
  obtain ⟨hl1, hl2⟩ := hl
  unfold mxs at hl1
  refine S.ofX hk rfl fun hB fn hr => ?_
  unfold w_toIntS.x
  repeat' (first
    | ((with_reducible refine S.go ?_); first | refine S.seq ?_ | refine S.skip ?_ | refine S.block ?_ | refine S.inBlock ?_ | refine S.exit rfl ?_ | refine S.regN ?_ | refine S.reg ?_ | refine S.drw hk.mo (by kernel_rfl) ?_ | (refine S.cond rfl (fun hc => ?_) (fun hc => ?_) <;> try simp only [HC] at hc) | refine S.retH hr rfl ?_ | refine S.finH hr rfl ?_ | (refine S.retK hr ?_; refine TRdt ?_) | fail)
    | ((first | with_reducible refine Ns.go ?_ | with_reducible refine XOs.go ?_ | with_reducible refine XDs.go ?_ | with_reducible refine OK.go ?_); (first | refine TTdt ?_ | (apply Ns.sc ⟨rfl, rfl⟩ rfl; intro hg) | (refine OK.tr ?_; refine TTdt ?_)); (try simp only [HC] at hg))
    | with_reducible exact rfl | exact ⟨rfl, rfl, rfl⟩
    | ((with_reducible refine Gd.go ?_); refine Gd.on (fun hg => ?_) (fun hg => ?_) <;> refine TGdt ?_ <;> (try simp only [HC] at hg))
    | ((with_reducible refine Fin.go ?_); first | (refine Fin.p ?_; first | exact FT | (try refine TTdt ?_; try simp only [LF])) | refine Fin.a0 ?_ | refine Fin.a ?_ | refine Fin.ni ?_ | refine Fin.v ?_ ?_ | refine Fin.r ?_ ?_ | exact Fin.th | (refine Fin.t ?_; try simp only [AV.sl.injEq]))
    | (refine And.go ?_; refine AndI ?_)
    | fail)
  refine S.loopV (σ := Nat × (List AV)) [0, 3, 4] (fun s => [(3, .ref n 1 0 l.length), (4, .int .i64 (s.1 : Int))]) (fun s => s.1 ≤ l.length ∧ s.2.length = l.length * 1 ∧ s.2.take (s.1 * 1) = (enc (l.take s.1)).flatten) (fun s => n + 1) (fun s => (n, .own s.2) :: H) (fun s => l.length - s.1) (0, _) (⟨by omega, ?_, fc_0⟩) ?_
  · first | rfl | omega | (simp; done) | (simp; omega) | skip
  rintro ⟨i, out⟩ ⟨hi1, hi2, hi3⟩ ih
  try dsimp only at hi1 hi2 hi3
  repeat' (first
    | ((with_reducible refine S.go ?_); first | refine S.seq ?_ | refine S.skip ?_ | refine S.block ?_ | refine S.inBlock ?_ | refine S.exit rfl ?_ | refine S.regN ?_ | refine S.reg ?_ | refine S.drw hk.mo (by kernel_rfl) ?_ | refine S.ag (ih ((i + 1, _)) ?_ ?_) | (refine S.cond rfl (fun hc => ?_) (fun hc => ?_) <;> try simp only [HC] at hc) | refine S.retH hr rfl ?_ | refine S.finH hr rfl ?_ | (refine S.retK hr ?_; refine TRdt ?_) | fail)
    | ((first | with_reducible refine Ns.go ?_ | with_reducible refine XOs.go ?_ | with_reducible refine XDs.go ?_ | with_reducible refine OK.go ?_); (first | refine TTdt ?_ | (apply Ns.sc ⟨rfl, rfl⟩ rfl; intro hg) | (refine OK.tr ?_; refine TTdt ?_)); (try simp only [HC] at hg))
    | with_reducible exact rfl | exact ⟨rfl, rfl, rfl⟩
    | (refine Fin.fc hi3 (by omega) hi2)
    | ((with_reducible refine Gd.go ?_); refine Gd.on (fun hg => ?_) (fun hg => ?_) <;> refine TGdt ?_ <;> (try simp only [HC] at hg))
    | ((with_reducible refine Fin.go ?_); first | (refine Fin.p ?_; first | exact FT | (try refine TTdt ?_; try simp only [LF])) | refine Fin.a0 ?_ | refine Fin.a ?_ | refine Fin.ni ?_ | refine Fin.v ?_ ?_ | refine Fin.r ?_ ?_ | exact Fin.th | (refine Fin.t ?_; try simp only [AV.sl.injEq]))
    | (refine And.go ?_; refine AndI ?_)
    | fail)
  all_goals (try clear ih)
  all_goals (try dsimp only)
  all_goals (repeat' apply And.intro)
  all_goals first | omega | (simp only [ZL]; omega) | skip
  all_goals (try clear hr hk hB)
  all_goals first | exact fc_len hi2 (by omega) rfl | exact fc_next hi3 hi2 (by omega) rfl rfl
/-- laws.eqIntS -/
def w_eqIntS.x : XCode :=
  (.seq
    (.reg [⟨(some 4), .mv, [.k (.bool false)], none⟩] [0, 1])
    (.seq
      (.seq
        (.reg [⟨(some 6), .mv, [.t 0], none⟩,
          ⟨(some 7), .lenL, [.t 6], none⟩,
          ⟨(some 8), .mv, [.t 1], none⟩,
          ⟨(some 9), .lenL, [.t 8], none⟩,
          ⟨(some 10), (.bin .neq), [.t 7, .t 9], none⟩] [0, 1, 10])
        (.cond (.t 10)
          (.seq
            (.reg [⟨(some 4), .mv, [.k (.bool false)], none⟩] [4])
            .ret)
          .skip))
      (.seq
        (.seq
          (.reg [⟨(some 5), .mv, [.k (.int .i64 0)], none⟩] [0, 1, 5])
          (.block 0
            (.loop
              (.seq
                (.seq
                  (.reg [⟨(some 11), .mv, [.t 5], none⟩,
                    ⟨(some 12), .mv, [.t 0], none⟩,
                    ⟨(some 13), .lenL, [.t 12], none⟩,
                    ⟨(some 14), (.bin .lss), [.t 11, .t 13], none⟩] [0, 1, 5, 14])
                  (.cond (.t 14)
                    .skip
                    (.exit 0)))
                (.seq
                  (.block 1
                    (.seq
                      (.drw [(⟨(some 17), .mv, [.t 0], none⟩, []),
                        (⟨(some 18), .mv, [.t 5], none⟩, []),
                        (⟨(some 19), (.idxA 1), [.t 17, .t 18], none⟩, [0, 1]),
                        (⟨(some 20), (.ld none), [.t 19], none⟩, [2]),
                        (⟨(some 21), .mv, [.t 1], none⟩, []),
                        (⟨(some 22), .mv, [.t 5], none⟩, []),
                        (⟨(some 23), (.idxA 1), [.t 21, .t 22], none⟩, [4, 5]),
                        (⟨(some 24), (.ld none), [.t 23], none⟩, [6]),
                        (⟨(some 25), (.bin .neq), [.t 20, .t 24], none⟩, [3, 7])] [0, 1, 5, 25] [0, 0, 0, 0, 0, 0, 0, 0, 0])
                      (.cond (.t 25)
                        (.seq
                          (.reg [⟨(some 4), .mv, [.k (.bool false)], none⟩] [4])
                          .ret)
                        .skip)))
                  (.reg [⟨(some 15), .mv, [.t 5], none⟩,
                    ⟨(some 16), (.bin .add), [.t 15, .k (.int .i64 1)], none⟩,
                    ⟨(some 5), .mv, [.t 16], none⟩] [0, 1, 5]))))))
        (.seq
          (.reg [⟨(some 4), .mv, [.k (.bool true)], none⟩] [4])
          .ret))))
def w_eqIntS.F : Cfg := ⟨fun _ => 0, fun r => match r with | 0 => [0, 1] | 1 => [0, 1, 10] | 2 => [4] | 3 => [0, 1, 5] | 4 => [0, 1, 5, 14] | 5 => [0, 1, 5] | 6 => [0, 1, 5, 25] | 7 => [4] | 8 => [4] | 1000006 => [0, 0, 0, 0, 0, 0, 0, 0, 0] | _ => []⟩
def w_eqIntS.X : FX := ⟨26, [.tmp 4], w_eqIntS.F, w_eqIntS.x⟩

theorem w_eqIntS.ok {P : Program} {k : Nat} (hk : Has P k (w_eqIntS.X)) : C_eqS Int P k := by
  intro l m hl hm n H
  obtain ⟨hl1, hl2⟩ := hl
  obtain ⟨hm1, hm2⟩ := hm
  unfold mxs at hl1 hm1
  refine S.ofX hk rfl fun hB fn hr => ?_
  unfold w_eqIntS.x
  repeat' (first
    | ((with_reducible refine S.go ?_); first | refine S.seq ?_ | refine S.skip ?_ | refine S.block ?_ | refine S.inBlock ?_ | refine S.exit rfl ?_ | refine S.regN ?_ | refine S.reg ?_ | refine S.drw hk.mo (by kernel_rfl) ?_ | (refine S.cond rfl (fun hc => ?_) (fun hc => ?_) <;> try simp only [HC] at hc) | refine S.retH hr rfl ?_ | refine S.finH hr rfl ?_ | (refine S.retK hr ?_; refine TRdt ?_) | fail)
    | ((first | with_reducible refine Ns.go ?_ | with_reducible refine XOs.go ?_ | with_reducible refine XDs.go ?_ | with_reducible refine OK.go ?_); (first | refine TTdt ?_ | (apply Ns.sc ⟨rfl, rfl⟩ rfl; intro hg) | (refine OK.tr ?_; refine TTdt ?_)); (try simp only [HC] at hg))
    | with_reducible exact rfl | exact ⟨rfl, rfl, rfl⟩
    | ((with_reducible refine Gd.go ?_); refine Gd.on (fun hg => ?_) (fun hg => ?_) <;> refine TGdt ?_ <;> (try simp only [HC] at hg))
    | ((with_reducible refine Fin.go ?_); first | (refine Fin.p ?_; first | exact FT | (try refine TTdt ?_; try simp only [LF])) | refine Fin.a0 ?_ | refine Fin.a ?_ | refine Fin.ni ?_ | refine Fin.v ?_ ?_ | refine Fin.r ?_ ?_ | exact Fin.th | (refine Fin.t ?_; try simp only [AV.sl.injEq]))
    | (refine And.go ?_; refine AndI ?_)
    | fail)
  · exact (decL (by omega)).symm
  refine S.loopV (σ := Nat) [0, 1, 5] (fun s => [(5, .int .i64 (s : Int))]) (fun s => s ≤ l.length ∧ ∀ j, j < s → l.getD j default = m.getD j default) (fun s => n) (fun s => H) (fun s => l.length - s) (0) (⟨by omega, ?_⟩) ?_
  · first | rfl | omega | (simp; done) | (simp; omega) | skip
  rintro i ⟨hi1, hi2⟩ ih
  try dsimp only at hi1 hi2
  repeat' (first
    | ((with_reducible refine S.go ?_); first | refine S.seq ?_ | refine S.skip ?_ | refine S.block ?_ | refine S.inBlock ?_ | refine S.exit rfl ?_ | refine S.regN ?_ | refine S.reg ?_ | refine S.drw hk.mo (by kernel_rfl) ?_ | refine S.ag (ih (i + 1) ?_ ?_) | (refine S.cond rfl (fun hc => ?_) (fun hc => ?_) <;> try simp only [HC] at hc) | refine S.retH hr rfl ?_ | refine S.finH hr rfl ?_ | (refine S.retK hr ?_; refine TRdt ?_) | fail)
    | ((first | with_reducible refine Ns.go ?_ | with_reducible refine XOs.go ?_ | with_reducible refine XDs.go ?_ | with_reducible refine OK.go ?_); (first | refine TTdt ?_ | (apply Ns.sc ⟨rfl, rfl⟩ rfl; intro hg) | (refine OK.tr ?_; refine TTdt ?_)); (try simp only [HC] at hg))
    | with_reducible exact rfl | exact ⟨rfl, rfl, rfl⟩
    | ((with_reducible refine Gd.go ?_); refine Gd.on (fun hg => ?_) (fun hg => ?_) <;> refine TGdt ?_ <;> (try simp only [HC] at hg))
    | ((with_reducible refine Fin.go ?_); first | (refine Fin.p ?_; first | exact FT | (try refine TTdt ?_; try simp only [LF])) | refine Fin.a0 ?_ | refine Fin.a ?_ | refine Fin.ni ?_ | refine Fin.v ?_ ?_ | refine Fin.r ?_ ?_ | exact Fin.th | (refine Fin.t ?_; try simp only [AV.sl.injEq]))
    | (refine And.go ?_; refine AndI ?_)
    | fail)
  all_goals (try clear ih)
  all_goals (try dsimp only)
  all_goals (repeat' apply And.intro)
  all_goals first | omega | (simp only [ZL]; omega) | skip
  all_goals (try clear hr hk hB)
  all_goals first | (exact (decG hc).symm) | (exact (decA (by omega) (fun j hj => hi2 j (by omega))).symm) | (exact decN hi2 hc)
/-- laws.szStringS -/
def w_szStringS.x : XCode :=
  (.seq
    (.reg [⟨(some 4), .mv, [.k (.int .i64 0)], none⟩] [0, 1])
    (.seq
      (.reg [⟨(some 6), .mv, [.t 1], none⟩,
        ⟨(some 7), .mv, [.t 0], none⟩,
        ⟨(some 8), .lenL, [.t 7], none⟩,
        ⟨(some 9), (.bin .sub), [.t 6, .t 8], none⟩,
        ⟨(some 1), .mv, [.t 9], none⟩] [0, 1])
      (.seq
        (.seq
          (.reg [⟨(some 10), .mv, [.t 1], none⟩,
            ⟨(some 11), (.bin .lss), [.t 10, .k (.int .i64 0)], none⟩] [0, 1, 11])
          (.cond (.t 11)
            (.seq
              (.reg [⟨(some 4), .mv, [.k (.int .i64 (-1))], none⟩] [4])
              .ret)
            .skip))
        (.seq
          (.seq
            (.reg [⟨(some 5), .mv, [.k (.int .i64 0)], none⟩] [0, 1, 5])
            (.block 0
              (.loop
                (.seq
                  (.seq
                    (.reg [⟨(some 12), .mv, [.t 5], none⟩,
                      ⟨(some 13), .mv, [.t 0], none⟩,
                      ⟨(some 14), .lenL, [.t 13], none⟩,
                      ⟨(some 15), (.bin .lss), [.t 12, .t 14], none⟩] [0, 1, 5, 15])
                    (.cond (.t 15)
                      .skip
                      (.exit 0)))
                  (.seq
                    (.block 1
                      (.seq
                        (.reg [⟨(some 18), .mv, [.t 1], none⟩,
                          ⟨(some 19), .mv, [.t 0], none⟩,
                          ⟨(some 20), .mv, [.t 5], none⟩,
                          ⟨(some 21), (.idxA 1), [.t 19, .t 20], none⟩,
                          ⟨(some 22), (.ld none), [.t 21], none⟩,
                          ⟨(some 23), .lenS, [.t 22], none⟩,
                          ⟨(some 24), (.bin .sub), [.t 18, .t 23], none⟩,
                          ⟨(some 1), .mv, [.t 24], none⟩] [0, 1, 5])
                        (.seq
                          (.reg [⟨(some 25), .mv, [.t 1], none⟩,
                            ⟨(some 26), (.bin .lss), [.t 25, .k (.int .i64 0)], none⟩] [0, 1, 5, 26])
                          (.cond (.t 26)
                            (.seq
                              (.reg [⟨(some 4), .mv, [.k (.int .i64 (-1))], none⟩] [4])
                              .ret)
                            .skip))))
                    (.reg [⟨(some 16), .mv, [.t 5], none⟩,
                      ⟨(some 17), (.bin .add), [.t 16, .k (.int .i64 1)], none⟩,
                      ⟨(some 5), .mv, [.t 17], none⟩] [0, 1, 5]))))))
          (.seq
            (.reg [⟨(some 27), .mv, [.t 1], none⟩,
              ⟨(some 4), .mv, [.t 27], none⟩] [4])
            .ret)))))
def w_szStringS.F : Cfg := ⟨fun _ => 0, fun r => match r with | 0 => [0, 1] | 1 => [0, 1] | 2 => [0, 1, 11] | 3 => [4] | 4 => [0, 1, 5] | 5 => [0, 1, 5, 15] | 6 => [0, 1, 5] | 7 => [0, 1, 5] | 8 => [0, 1, 5, 26] | 9 => [4] | 10 => [4] | _ => []⟩
def w_szStringS.X : FX := ⟨28, [.tmp 4], w_szStringS.F, w_szStringS.x⟩

theorem w_szStringS.ok {P : Program} {k : Nat} (hk : Has P k (w_szStringS.X)) : C_szS (List UInt8) P k := by
  intro l a hl ha1 ha2 n H
  obtain ⟨hl1, hl2⟩ := hl
  unfold mxi at hl1
  refine S.ofX hk rfl fun hB fn hr => ?_
  unfold w_szStringS.x
  repeat' (first
    | ((with_reducible refine S.go ?_); first | refine S.seq ?_ | refine S.skip ?_ | refine S.block ?_ | refine S.inBlock ?_ | refine S.exit rfl ?_ | refine S.regN ?_ | refine S.reg ?_ | refine S.drw hk.mo (by kernel_rfl) ?_ | (refine S.cond rfl (fun hc => ?_) (fun hc => ?_) <;> try simp only [HC] at hc) | refine S.retH hr rfl ?_ | refine S.finH hr rfl ?_ | (refine S.retK hr ?_; refine TRdt ?_) | fail)
    | ((first | with_reducible refine Ns.go ?_ | with_reducible refine XOs.go ?_ | with_reducible refine XDs.go ?_ | with_reducible refine OK.go ?_); (first | refine TTdt ?_ | (apply Ns.sc ⟨rfl, rfl⟩ rfl; intro hg) | (refine OK.tr ?_; refine TTdt ?_)); (try simp only [HC] at hg))
    | with_reducible exact rfl | exact ⟨rfl, rfl, rfl⟩
    | ((with_reducible refine Gd.go ?_); refine Gd.on (fun hg => ?_) (fun hg => ?_) <;> refine TGdt ?_ <;> (try simp only [HC] at hg))
    | ((with_reducible refine Fin.go ?_); first | (refine Fin.p ?_; first | exact FT | (try refine TTdt ?_; try simp only [LF])) | refine Fin.a0 ?_ | refine Fin.a ?_ | refine Fin.ni ?_ | refine Fin.v ?_ ?_ | refine Fin.r ?_ ?_ | exact Fin.th | (refine Fin.t ?_; try simp only [AV.sl.injEq]))
    | (refine And.go ?_; refine AndI ?_)
    | fail)
  · exact (szS_neg hc).symm
  refine S.loopV (σ := Nat × Int) [0, 1, 5] (fun s => [(1, .int .i64 s.2), (5, .int .i64 (s.1 : Int))]) (fun s => s.1 ≤ l.length ∧ 0 ≤ s.2 ∧ s.2 ≤ 1048576 ∧ szl (l.drop s.1) s.2 = sz l a) (fun s => n) (fun s => H) (fun s => l.length - s.1) (0, (a - l.length)) (⟨by omega, by omega, by omega, szS_init (by omega)⟩) ?_
  rintro ⟨i, b⟩ ⟨hi1, hi2, hi3, hi4⟩ ih
  try dsimp only at hi1 hi2 hi3 hi4
  all_goals (try (have hq : i < l.length → (l.getD i default).length ≤ 9223372036854775807 := fun h => ok_at hl2 h))
  repeat' (first
    | ((with_reducible refine S.go ?_); first | refine S.seq ?_ | refine S.skip ?_ | refine S.block ?_ | refine S.inBlock ?_ | refine S.exit rfl ?_ | refine S.regN ?_ | refine S.reg ?_ | refine S.drw hk.mo (by kernel_rfl) ?_ | refine S.ag (ih ((i + 1, _)) ?_ ?_) | (refine S.cond rfl (fun hc => ?_) (fun hc => ?_) <;> try simp only [HC] at hc) | refine S.retH hr rfl ?_ | refine S.finH hr rfl ?_ | (refine S.retK hr ?_; refine TRdt ?_) | fail)
    | ((first | with_reducible refine Ns.go ?_ | with_reducible refine XOs.go ?_ | with_reducible refine XDs.go ?_ | with_reducible refine OK.go ?_); (first | refine TTdt ?_ | (apply Ns.sc ⟨rfl, rfl⟩ rfl; intro hg) | (refine OK.tr ?_; refine TTdt ?_)); (try simp only [HC] at hg))
    | with_reducible exact rfl | exact ⟨rfl, rfl, rfl⟩
    | ((with_reducible refine Gd.go ?_); refine Gd.on (fun hg => ?_) (fun hg => ?_) <;> refine TGdt ?_ <;> (try simp only [HC] at hg))
    | ((with_reducible refine Fin.go ?_); first | (refine Fin.p ?_; first | exact FT | (try refine TTdt ?_; try simp only [LF])) | refine Fin.a0 ?_ | refine Fin.a ?_ | refine Fin.ni ?_ | refine Fin.v ?_ ?_ | refine Fin.r ?_ ?_ | exact Fin.th | (refine Fin.t ?_; try simp only [AV.sl.injEq]))
    | (refine And.go ?_; refine AndI ?_)
    | fail)
  all_goals (try clear ih)
  all_goals (try dsimp only)
  all_goals (repeat' apply And.intro)
  all_goals first | omega | (simp only [ZL]; omega) | skip
  all_goals (try clear hr hk hB)
  all_goals first | exact (szS_stop hi4 (by omega) (by rw [szStr_neg hc]; omega) (by omega)).symm | exact szS_end hi4 (by omega) | (rw [← szStr_pos hc]; exact szS_next hi4 (by omega)) | exact Int.le_trans (up _ _ (by omega)) (by omega)
/-- laws.toStringS -/
def w_toStringS.x : XCode :=
  (.seq
    (.reg [⟨(some 2), .mv, [.k (.nilsl)], none⟩] [0])
    (.seq
      (.reg [⟨(some 5), .mv, [.t 0], none⟩,
        ⟨(some 6), .lenL, [.t 5], none⟩,
        ⟨(some 7), (.mks 2 1 16 [.str []]), [.t 6, .t 6], none⟩,
        ⟨(some 3), .mv, [.t 7], none⟩] [0, 3])
      (.seq
        (.seq
          (.reg [⟨(some 4), .mv, [.k (.int .i64 0)], none⟩] [0, 3, 4])
          (.block 0
            (.loop
              (.seq
                (.seq
                  (.reg [⟨(some 8), .mv, [.t 4], none⟩,
                    ⟨(some 9), .mv, [.t 0], none⟩,
                    ⟨(some 10), .lenL, [.t 9], none⟩,
                    ⟨(some 11), (.bin .lss), [.t 8, .t 10], none⟩] [0, 3, 4, 11])
                  (.cond (.t 11)
                    .skip
                    (.exit 0)))
                (.seq
                  (.block 1
                    (.reg [⟨(some 14), .mv, [.t 3], none⟩,
                      ⟨(some 15), .mv, [.t 4], none⟩,
                      ⟨(some 16), .mv, [.t 0], none⟩,
                      ⟨(some 17), .mv, [.t 4], none⟩,
                      ⟨(some 18), (.idxA 1), [.t 16, .t 17], none⟩,
                      ⟨(some 19), (.ld none), [.t 18], none⟩,
                      ⟨(some 20), (.idxA 1), [.t 14, .t 15], none⟩,
                      ⟨none, (.st none), [.t 20, .t 19], none⟩] [0, 3, 4]))
                  (.reg [⟨(some 12), .mv, [.t 4], none⟩,
                    ⟨(some 13), (.bin .add), [.t 12, .k (.int .i64 1)], none⟩,
                    ⟨(some 4), .mv, [.t 13], none⟩] [0, 3, 4]))))))
        (.seq
          (.reg [⟨(some 21), .mv, [.t 3], none⟩,
            ⟨(some 2), .mv, [.t 21], none⟩] [2])
          .ret))))
def w_toStringS.F : Cfg := ⟨fun d => if d = 7 then 2 else 0, fun r => match r with | 0 => [0] | 1 => [0, 3] | 2 => [0, 3, 4] | 3 => [0, 3, 4, 11] | 4 => [0, 3, 4] | 5 => [0, 3, 4] | 6 => [2] | _ => []⟩
def w_toStringS.X : FX := ⟨22, [.tmp 2], w_toStringS.F, w_toStringS.x⟩

theorem w_toStringS.ok {P : Program} {k : Nat} (hk : Has P k (w_toStringS.X)) : C_toS (List UInt8) P k := by
  intro l hl n H
  obtain ⟨hl1, hl2⟩ := hl
  unfold mxs at hl1
  refine S.ofX hk rfl fun hB fn hr => ?_
  unfold w_toStringS.x
  repeat' (first
    | ((with_reducible refine S.go ?_); first | refine S.seq ?_ | refine S.skip ?_ | refine S.block ?_ | refine S.inBlock ?_ | refine S.exit rfl ?_ | refine S.regN ?_ | refine S.reg ?_ | refine S.drw hk.mo (by kernel_rfl) ?_ | (refine S.cond rfl (fun hc => ?_) (fun hc => ?_) <;> try simp only [HC] at hc) | refine S.retH hr rfl ?_ | refine S.finH hr rfl ?_ | (refine S.retK hr ?_; refine TRdt ?_) | fail)
    | ((first | with_reducible refine Ns.go ?_ | with_reducible refine XOs.go ?_ | with_reducible refine XDs.go ?_ | with_reducible refine OK.go ?_); (first | refine TTdt ?_ | (apply Ns.sc ⟨rfl, rfl⟩ rfl; intro hg) | (refine OK.tr ?_; refine TTdt ?_)); (try simp only [HC] at hg))
    | with_reducible exact rfl | exact ⟨rfl, rfl, rfl⟩
    | ((with_reducible refine Gd.go ?_); refine Gd.on (fun hg => ?_) (fun hg => ?_) <;> refine TGdt ?_ <;> (try simp only [HC] at hg))
    | ((with_reducible refine Fin.go ?_); first | (refine Fin.p ?_; first | exact FT | (try refine TTdt ?_; try simp only [LF])) | refine Fin.a0 ?_ | refine Fin.a ?_ | refine Fin.ni ?_ | refine Fin.v ?_ ?_ | refine Fin.r ?_ ?_ | exact Fin.th | (refine Fin.t ?_; try simp only [AV.sl.injEq]))
    | (refine And.go ?_; refine AndI ?_)
    | fail)
  refine S.loopV (σ := Nat × (List AV)) [0, 3, 4] (fun s => [(3, .ref n 1 0 l.length), (4, .int .i64 (s.1 : Int))]) (fun s => s.1 ≤ l.length ∧ s.2.length = l.length * 1 ∧ s.2.take (s.1 * 1) = (enc (l.take s.1)).flatten) (fun s => n + 1) (fun s => (n, .own s.2) :: H) (fun s => l.length - s.1) (0, _) (⟨by omega, ?_, fc_0⟩) ?_
  · first | rfl | omega | (simp; done) | (simp; omega) | skip
  rintro ⟨i, out⟩ ⟨hi1, hi2, hi3⟩ ih
  try dsimp only at hi1 hi2 hi3
  repeat' (first
    | ((with_reducible refine S.go ?_); first | refine S.seq ?_ | refine S.skip ?_ | refine S.block ?_ | refine S.inBlock ?_ | refine S.exit rfl ?_ | refine S.regN ?_ | refine S.reg ?_ | refine S.drw hk.mo (by kernel_rfl) ?_ | refine S.ag (ih ((i + 1, _)) ?_ ?_) | (refine S.cond rfl (fun hc => ?_) (fun hc => ?_) <;> try simp only [HC] at hc) | refine S.retH hr rfl ?_ | refine S.finH hr rfl ?_ | (refine S.retK hr ?_; refine TRdt ?_) | fail)
    | ((first | with_reducible refine Ns.go ?_ | with_reducible refine XOs.go ?_ | with_reducible refine XDs.go ?_ | with_reducible refine OK.go ?_); (first | refine TTdt ?_ | (apply Ns.sc ⟨rfl, rfl⟩ rfl; intro hg) | (refine OK.tr ?_; refine TTdt ?_)); (try simp only [HC] at hg))
    | with_reducible exact rfl | exact ⟨rfl, rfl, rfl⟩
    | (refine Fin.fc hi3 (by omega) hi2)
    | ((with_reducible refine Gd.go ?_); refine Gd.on (fun hg => ?_) (fun hg => ?_) <;> refine TGdt ?_ <;> (try simp only [HC] at hg))
    | ((with_reducible refine Fin.go ?_); first | (refine Fin.p ?_; first | exact FT | (try refine TTdt ?_; try simp only [LF])) | refine Fin.a0 ?_ | refine Fin.a ?_ | refine Fin.ni ?_ | refine Fin.v ?_ ?_ | refine Fin.r ?_ ?_ | exact Fin.th | (refine Fin.t ?_; try simp only [AV.sl.injEq]))
    | (refine And.go ?_; refine AndI ?_)
    | fail)
  all_goals (try clear ih)
  all_goals (try dsimp only)
  all_goals (repeat' apply And.intro)
  all_goals first | omega | (simp only [ZL]; omega) | skip
  all_goals (try clear hr hk hB)
  all_goals first | exact fc_len hi2 (by omega) rfl | exact fc_next hi3 hi2 (by omega) rfl rfl
/-- laws.eqStringS -/
def w_eqStringS.x : XCode :=
  (.seq
    (.reg [⟨(some 4), .mv, [.k (.bool false)], none⟩] [0, 1])
    (.seq
      (.seq
        (.reg [⟨(some 6), .mv, [.t 0], none⟩,
          ⟨(some 7), .lenL, [.t 6], none⟩,
          ⟨(some 8), .mv, [.t 1], none⟩,
          ⟨(some 9), .lenL, [.t 8], none⟩,
          ⟨(some 10), (.bin .neq), [.t 7, .t 9], none⟩] [0, 1, 10])
        (.cond (.t 10)
          (.seq
            (.reg [⟨(some 4), .mv, [.k (.bool false)], none⟩] [4])
            .ret)
          .skip))
      (.seq
        (.seq
          (.reg [⟨(some 5), .mv, [.k (.int .i64 0)], none⟩] [0, 1, 5])
          (.block 0
            (.loop
              (.seq
                (.seq
                  (.reg [⟨(some 11), .mv, [.t 5], none⟩,
                    ⟨(some 12), .mv, [.t 0], none⟩,
                    ⟨(some 13), .lenL, [.t 12], none⟩,
                    ⟨(some 14), (.bin .lss), [.t 11, .t 13], none⟩] [0, 1, 5, 14])
                  (.cond (.t 14)
                    .skip
                    (.exit 0)))
                (.seq
                  (.block 1
                    (.seq
                      (.drw [(⟨(some 17), .mv, [.t 0], none⟩, []),
                        (⟨(some 18), .mv, [.t 5], none⟩, []),
                        (⟨(some 19), (.idxA 1), [.t 17, .t 18], none⟩, [0, 1]),
                        (⟨(some 20), (.ld none), [.t 19], none⟩, [2]),
                        (⟨(some 21), .mv, [.t 1], none⟩, []),
                        (⟨(some 22), .mv, [.t 5], none⟩, []),
                        (⟨(some 23), (.idxA 1), [.t 21, .t 22], none⟩, [4, 5]),
                        (⟨(some 24), (.ld none), [.t 23], none⟩, [6]),
                        (⟨(some 25), (.bin .neq), [.t 20, .t 24], none⟩, [3, 7])] [0, 1, 5, 25] [0, 0, 0, 0, 0, 0, 0, 0, 0])
                      (.cond (.t 25)
                        (.seq
                          (.reg [⟨(some 4), .mv, [.k (.bool false)], none⟩] [4])
                          .ret)
                        .skip)))
                  (.reg [⟨(some 15), .mv, [.t 5], none⟩,
                    ⟨(some 16), (.bin .add), [.t 15, .k (.int .i64 1)], none⟩,
                    ⟨(some 5), .mv, [.t 16], none⟩] [0, 1, 5]))))))
        (.seq
          (.reg [⟨(some 4), .mv, [.k (.bool true)], none⟩] [4])
          .ret))))
def w_eqStringS.F : Cfg := ⟨fun _ => 0, fun r => match r with | 0 => [0, 1] | 1 => [0, 1, 10] | 2 => [4] | 3 => [0, 1, 5] | 4 => [0, 1, 5, 14] | 5 => [0, 1, 5] | 6 => [0, 1, 5, 25] | 7 => [4] | 8 => [4] | 1000006 => [0, 0, 0, 0, 0, 0, 0, 0, 0] | _ => []⟩
def w_eqStringS.X : FX := ⟨26, [.tmp 4], w_eqStringS.F, w_eqStringS.x⟩

theorem w_eqStringS.ok {P : Program} {k : Nat} (hk : Has P k (w_eqStringS.X)) : C_eqS (List UInt8) P k := by
  intro l m hl hm n H
  obtain ⟨hl1, hl2⟩ := hl
  obtain ⟨hm1, hm2⟩ := hm
  unfold mxs at hl1 hm1
  refine S.ofX hk rfl fun hB fn hr => ?_
  unfold w_eqStringS.x
  repeat' (first
    | ((with_reducible refine S.go ?_); first | refine S.seq ?_ | refine S.skip ?_ | refine S.block ?_ | refine S.inBlock ?_ | refine S.exit rfl ?_ | refine S.regN ?_ | refine S.reg ?_ | refine S.drw hk.mo (by kernel_rfl) ?_ | (refine S.cond rfl (fun hc => ?_) (fun hc => ?_) <;> try simp only [HC] at hc) | refine S.retH hr rfl ?_ | refine S.finH hr rfl ?_ | (refine S.retK hr ?_; refine TRdt ?_) | fail)
    | ((first | with_reducible refine Ns.go ?_ | with_reducible refine XOs.go ?_ | with_reducible refine XDs.go ?_ | with_reducible refine OK.go ?_); (first | refine TTdt ?_ | (apply Ns.sc ⟨rfl, rfl⟩ rfl; intro hg) | (refine OK.tr ?_; refine TTdt ?_)); (try simp only [HC] at hg))
    | with_reducible exact rfl | exact ⟨rfl, rfl, rfl⟩
    | ((with_reducible refine Gd.go ?_); refine Gd.on (fun hg => ?_) (fun hg => ?_) <;> refine TGdt ?_ <;> (try simp only [HC] at hg))
    | ((with_reducible refine Fin.go ?_); first | (refine Fin.p ?_; first | exact FT | (try refine TTdt ?_; try simp only [LF])) | refine Fin.a0 ?_ | refine Fin.a ?_ | refine Fin.ni ?_ | refine Fin.v ?_ ?_ | refine Fin.r ?_ ?_ | exact Fin.th | (refine Fin.t ?_; try simp only [AV.sl.injEq]))
    | (refine And.go ?_; refine AndI ?_)
    | fail)
  · exact (decL (by omega)).symm
  refine S.loopV (σ := Nat) [0, 1, 5] (fun s => [(5, .int .i64 (s : Int))]) (fun s => s ≤ l.length ∧ ∀ j, j < s → l.getD j default = m.getD j default) (fun s => n) (fun s => H) (fun s => l.length - s) (0) (⟨by omega, ?_⟩) ?_
  · first | rfl | omega | (simp; done) | (simp; omega) | skip
  rintro i ⟨hi1, hi2⟩ ih
  try dsimp only at hi1 hi2
  repeat' (first
    | ((with_reducible refine S.go ?_); first | refine S.seq ?_ | refine S.skip ?_ | refine S.block ?_ | refine S.inBlock ?_ | refine S.exit rfl ?_ | refine S.regN ?_ | refine S.reg ?_ | refine S.drw hk.mo (by kernel_rfl) ?_ | refine S.ag (ih (i + 1) ?_ ?_) | (refine S.cond rfl (fun hc => ?_) (fun hc => ?_) <;> try simp only [HC] at hc) | refine S.retH hr rfl ?_ | refine S.finH hr rfl ?_ | (refine S.retK hr ?_; refine TRdt ?_) | fail)
    | ((first | with_reducible refine Ns.go ?_ | with_reducible refine XOs.go ?_ | with_reducible refine XDs.go ?_ | with_reducible refine OK.go ?_); (first | refine TTdt ?_ | (apply Ns.sc ⟨rfl, rfl⟩ rfl; intro hg) | (refine OK.tr ?_; refine TTdt ?_)); (try simp only [HC] at hg))
    | with_reducible exact rfl | exact ⟨rfl, rfl, rfl⟩
    | ((with_reducible refine Gd.go ?_); refine Gd.on (fun hg => ?_) (fun hg => ?_) <;> refine TGdt ?_ <;> (try simp only [HC] at hg))
    | ((with_reducible refine Fin.go ?_); first | (refine Fin.p ?_; first | exact FT | (try refine TTdt ?_; try simp only [LF])) | refine Fin.a0 ?_ | refine Fin.a ?_ | refine Fin.ni ?_ | refine Fin.v ?_ ?_ | refine Fin.r ?_ ?_ | exact Fin.th | (refine Fin.t ?_; try simp only [AV.sl.injEq]))
    | (refine And.go ?_; refine AndI ?_)
    | fail)
  all_goals (try clear ih)
  all_goals (try dsimp only)
  all_goals (repeat' apply And.intro)
  all_goals first | omega | (simp only [ZL]; omega) | skip
  all_goals (try clear hr hk hB)
  all_goals first | (exact (decG hc).symm) | (exact (decA (by omega) (fun j hj => hi2 j (by omega))).symm) | (exact decN hi2 hc)
/-- laws.szLevel -/
def w_szLevel.x (c_w_szStringS c_w_szIntS : Nat) : XCode :=
  (.seq
    (.reg [⟨(some 2), .boxF, [.t 0], none⟩,
      ⟨(some 4), .mv, [.k (.int .i64 0)], none⟩] [1, 2])
    (.seq
      (.reg [⟨(some 5), (.fldA 0), [.t 2], none⟩,
        ⟨(some 6), (.ld none), [.t 5], none⟩,
        ⟨(some 7), .mv, [.t 1], none⟩,
        ⟨(some 8), .call, [.k (.fn c_w_szStringS []), .t 6, .t 7], none⟩,
        ⟨(some 1), .mv, [.t 8], none⟩] [1, 2])
      (.seq
        (.seq
          (.reg [⟨(some 9), .mv, [.t 1], none⟩,
            ⟨(some 10), (.bin .lss), [.t 9, .k (.int .i64 0)], none⟩] [1, 2, 10])
          (.cond (.t 10)
            (.seq
              (.reg [⟨(some 4), .mv, [.k (.int .i64 (-1))], none⟩] [4])
              .ret)
            .skip))
        (.seq
          (.reg [⟨(some 11), (.fldA 1), [.t 2], none⟩,
            ⟨(some 12), (.ld none), [.t 11], none⟩,
            ⟨(some 13), .mv, [.t 1], none⟩,
            ⟨(some 14), .call, [.k (.fn c_w_szIntS []), .t 12, .t 13], none⟩,
            ⟨(some 1), .mv, [.t 14], none⟩] [1])
          (.seq
            (.seq
              (.reg [⟨(some 15), .mv, [.t 1], none⟩,
                ⟨(some 16), (.bin .lss), [.t 15, .k (.int .i64 0)], none⟩] [1, 16])
              (.cond (.t 16)
                (.seq
                  (.reg [⟨(some 4), .mv, [.k (.int .i64 (-1))], none⟩] [4])
                  .ret)
                .skip))
            (.seq
              (.reg [⟨(some 17), .mv, [.t 1], none⟩,
                ⟨(some 4), .mv, [.t 17], none⟩] [4])
              .ret))))))
def w_szLevel.F : Cfg := ⟨fun _ => 0, fun r => match r with | 0 => [1, 2] | 1 => [1, 2] | 2 => [1, 2, 10] | 3 => [4] | 4 => [1] | 5 => [1, 16] | 6 => [4] | 7 => [4] | _ => []⟩
def w_szLevel.X (c_w_szStringS c_w_szIntS : Nat) : FX := ⟨18, [.tmp 4], w_szLevel.F, w_szLevel.x c_w_szStringS c_w_szIntS⟩

theorem w_szLevel.ok {P : Program} {k c_w_szStringS c_w_szIntS : Nat} (hk : Has P k (w_szLevel.X c_w_szStringS c_w_szIntS)) (h1 : C_szS (List UInt8) P c_w_szStringS) (h2 : C_szS Int P c_w_szIntS) : C_szT Lvl P k := by
  intro x a hl ha1 ha2 n H
  obtain ⟨x1, x2⟩ := x
  obtain ⟨hl1, hl2⟩ := hl
  refine S.ofX hk rfl fun hB fn hr => ?_
  unfold w_szLevel.x
  repeat' (first
    | ((with_reducible refine S.go ?_); first | refine S.seq ?_ | refine S.skip ?_ | refine S.block ?_ | refine S.inBlock ?_ | refine S.exit rfl ?_ | refine S.regN ?_ | refine S.reg ?_ | refine S.drw hk.mo (by kernel_rfl) ?_ | (refine S.cond rfl (fun hc => ?_) (fun hc => ?_) <;> try simp only [HC] at hc) | refine S.retH hr rfl ?_ | refine S.finH hr rfl ?_ | (refine S.retK hr ?_; refine TRdt ?_) | fail)
    | ((first | with_reducible refine Ns.go ?_ | with_reducible refine XOs.go ?_ | with_reducible refine XDs.go ?_ | with_reducible refine OK.go ?_); (first | refine TTdt ?_ | (apply Ns.sc ⟨rfl, rfl⟩ rfl; intro hg) | (refine OK.tr ?_; refine TTdt ?_)); (try simp only [HC] at hg))
    | with_reducible exact rfl | exact ⟨rfl, rfl, rfl⟩
    | ((with_reducible refine RunsT.go ?_); first | refine RunsF.apf (h1 x1 _ hl1 (by omega) UB) rfl ?_ | refine RunsF.apf (h2 x2 _ hl2 (by omega) UB) rfl ?_ | fail)
    | ((with_reducible refine RunsD.go ?_); first | refine RunsF.apd (h1 x1 _ hl1 (by omega) UB) rfl ?_ | refine RunsF.apd (h2 x2 _ hl2 (by omega) UB) rfl ?_ | fail)
    | ((with_reducible refine Gd.go ?_); refine Gd.on (fun hg => ?_) (fun hg => ?_) <;> refine TGdt ?_ <;> (try simp only [HC] at hg))
    | ((with_reducible refine Fin.go ?_); first | (refine Fin.p ?_; first | exact FT | (try refine TTdt ?_; try simp only [LF])) | refine Fin.a0 ?_ | refine Fin.a ?_ | refine Fin.ni ?_ | refine Fin.v ?_ ?_ | refine Fin.r ?_ ?_ | exact Fin.th | (refine Fin.t ?_; try simp only [AV.sl.injEq]))
    | (refine And.go ?_; refine AndI ?_)
    | fail)
  all_goals (try clear hr hk hB)
  all_goals (try rw [show sz (x1, x2) a = (sz x2 (sz x1 a)) from rfl])
  all_goals first | rfl | (simp (disch := first | assumption | omega) only [sz_int, sz_bool, szStr_neg, szStr_pos, sz_m1, neg])
/-- laws.toLevel -/
def w_toLevel.x (c_w_toStringS c_w_toIntS : Nat) : XCode :=
  (.seq
    (.reg [⟨(some 1), .boxF, [.t 0], none⟩,
      ⟨(some 2), (.alloc [.nilsl, .nilsl]), [], none⟩] [1, 2])
    (.seq
      (.reg [⟨(some 3), (.alloc [.nilsl, .nilsl]), [], none⟩] [1, 2, 3])
      (.seq
        (.reg [⟨(some 4), (.fldA 0), [.t 1], none⟩,
          ⟨(some 5), (.ld none), [.t 4], none⟩,
          ⟨(some 6), .call, [.k (.fn c_w_toStringS []), .t 5], none⟩,
          ⟨(some 7), (.fldA 0), [.t 3], none⟩,
          ⟨none, (.st none), [.t 7, .t 6], none⟩] [1, 2, 3])
        (.seq
          (.reg [⟨(some 8), (.fldA 1), [.t 1], none⟩,
            ⟨(some 9), (.ld none), [.t 8], none⟩,
            ⟨(some 10), .call, [.k (.fn c_w_toIntS []), .t 9], none⟩,
            ⟨(some 11), (.fldA 1), [.t 3], none⟩,
            ⟨none, (.st none), [.t 11, .t 10], none⟩] [2, 3])
          (.seq
            (.reg [⟨(some 12), (.ld (some 2)), [.t 3], none⟩,
              ⟨none, (.st (some 2)), [.t 2, .t 12], none⟩] [2])
            .ret)))))
def w_toLevel.F : Cfg := ⟨fun _ => 0, fun r => match r with | 0 => [1, 2] | 1 => [1, 2, 3] | 2 => [1, 2, 3] | 3 => [2, 3] | 4 => [2] | _ => []⟩
def w_toLevel.X (c_w_toStringS c_w_toIntS : Nat) : FX := ⟨13, [.cell 2 (some 2)], w_toLevel.F, w_toLevel.x c_w_toStringS c_w_toIntS⟩

theorem w_toLevel.ok {P : Program} {k c_w_toStringS c_w_toIntS : Nat} (hk : Has P k (w_toLevel.X c_w_toStringS c_w_toIntS)) (h1 : C_toS (List UInt8) P c_w_toStringS) (h2 : C_toS Int P c_w_toIntS) : C_toT Lvl P k := by
  intro x hl n H
  obtain ⟨x1, x2⟩ := x
  obtain ⟨hl1, hl2⟩ := hl
  refine S.ofX hk rfl fun hB fn hr => ?_
  unfold w_toLevel.x
  repeat' (first
    | ((with_reducible refine S.go ?_); first | refine S.seq ?_ | refine S.skip ?_ | refine S.block ?_ | refine S.inBlock ?_ | refine S.exit rfl ?_ | refine S.regN ?_ | refine S.reg ?_ | refine S.drw hk.mo (by kernel_rfl) ?_ | (refine S.cond rfl (fun hc => ?_) (fun hc => ?_) <;> try simp only [HC] at hc) | refine S.retH hr rfl ?_ | refine S.finH hr rfl ?_ | (refine S.retK hr ?_; refine TRdt ?_) | fail)
    | ((first | with_reducible refine Ns.go ?_ | with_reducible refine XOs.go ?_ | with_reducible refine XDs.go ?_ | with_reducible refine OK.go ?_); (first | refine TTdt ?_ | (apply Ns.sc ⟨rfl, rfl⟩ rfl; intro hg) | (refine OK.tr ?_; refine TTdt ?_)); (try simp only [HC] at hg))
    | with_reducible exact rfl | exact ⟨rfl, rfl, rfl⟩
    | ((with_reducible refine RunsT.go ?_); first | refine RunsF.apf (h1 x1 hl1) rfl ?_ | refine RunsF.apf (h2 x2 hl2) rfl ?_ | fail)
    | ((with_reducible refine RunsD.go ?_); first | refine RunsF.apd (h1 x1 hl1) rfl ?_ | refine RunsF.apd (h2 x2 hl2) rfl ?_ | fail)
    | ((with_reducible refine Gd.go ?_); refine Gd.on (fun hg => ?_) (fun hg => ?_) <;> refine TGdt ?_ <;> (try simp only [HC] at hg))
    | ((with_reducible refine Fin.go ?_); first | (refine Fin.p ?_; first | exact FT | (try refine TTdt ?_; try simp only [LF])) | refine Fin.a0 ?_ | refine Fin.a ?_ | refine Fin.ni ?_ | refine Fin.v ?_ ?_ | refine Fin.r ?_ ?_ | exact Fin.th | (refine Fin.t ?_; try simp only [AV.sl.injEq]))
    | (refine And.go ?_; refine AndI ?_)
    | fail)
  all_goals rfl
/-- laws.eqLevel -/
def w_eqLevel.x (c_w_eqStringS c_w_eqIntS : Nat) : XCode :=
  (.seq
    (.reg [⟨(some 2), .boxF, [.t 0], none⟩,
      ⟨(some 3), .boxF, [.t 1], none⟩,
      ⟨(some 4), .mv, [.k (.bool false)], none⟩] [2, 3])
    (.seq
      (.seq
        (.reg [⟨(some 5), (.fldA 0), [.t 2], none⟩,
          ⟨(some 6), (.ld none), [.t 5], none⟩,
          ⟨(some 7), (.fldA 0), [.t 3], none⟩,
          ⟨(some 8), (.ld none), [.t 7], none⟩,
          ⟨(some 9), .call, [.k (.fn c_w_eqStringS []), .t 6, .t 8], none⟩,
          ⟨(some 10), (.un .not), [.t 9], none⟩] [2, 3, 10])
        (.cond (.t 10)
          (.seq
            (.reg [⟨(some 4), .mv, [.k (.bool false)], none⟩] [4])
            .ret)
          .skip))
      (.seq
        (.seq
          (.reg [⟨(some 11), (.fldA 1), [.t 2], none⟩,
            ⟨(some 12), (.ld none), [.t 11], none⟩,
            ⟨(some 13), (.fldA 1), [.t 3], none⟩,
            ⟨(some 14), (.ld none), [.t 13], none⟩,
            ⟨(some 15), .call, [.k (.fn c_w_eqIntS []), .t 12, .t 14], none⟩,
            ⟨(some 16), (.un .not), [.t 15], none⟩] [16])
          (.cond (.t 16)
            (.seq
              (.reg [⟨(some 4), .mv, [.k (.bool false)], none⟩] [4])
              .ret)
            .skip))
        (.seq
          (.reg [⟨(some 4), .mv, [.k (.bool true)], none⟩] [4])
          .ret))))
def w_eqLevel.F : Cfg := ⟨fun _ => 0, fun r => match r with | 0 => [2, 3] | 1 => [2, 3, 10] | 2 => [4] | 3 => [16] | 4 => [4] | 5 => [4] | _ => []⟩
def w_eqLevel.X (c_w_eqStringS c_w_eqIntS : Nat) : FX := ⟨17, [.tmp 4], w_eqLevel.F, w_eqLevel.x c_w_eqStringS c_w_eqIntS⟩

theorem w_eqLevel.ok {P : Program} {k c_w_eqStringS c_w_eqIntS : Nat} (hk : Has P k (w_eqLevel.X c_w_eqStringS c_w_eqIntS)) (h1 : C_eqS (List UInt8) P c_w_eqStringS) (h2 : C_eqS Int P c_w_eqIntS) : C_eqT Lvl P k := by
  intro x y hl hm n H
  obtain ⟨x1, x2⟩ := x
  obtain ⟨hl1, hl2⟩ := hl
  obtain ⟨y1, y2⟩ := y
  obtain ⟨hm1, hm2⟩ := hm
  refine S.ofX hk rfl fun hB fn hr => ?_
  unfold w_eqLevel.x
  repeat' (first
    | ((with_reducible refine S.go ?_); first | refine S.seq ?_ | refine S.skip ?_ | refine S.block ?_ | refine S.inBlock ?_ | refine S.exit rfl ?_ | refine S.regN ?_ | refine S.reg ?_ | refine S.drw hk.mo (by kernel_rfl) ?_ | (refine S.cond rfl (fun hc => ?_) (fun hc => ?_) <;> try simp only [HC] at hc) | refine S.retH hr rfl ?_ | refine S.finH hr rfl ?_ | (refine S.retK hr ?_; refine TRdt ?_) | fail)
    | ((first | with_reducible refine Ns.go ?_ | with_reducible refine XOs.go ?_ | with_reducible refine XDs.go ?_ | with_reducible refine OK.go ?_); (first | refine TTdt ?_ | (apply Ns.sc ⟨rfl, rfl⟩ rfl; intro hg) | (refine OK.tr ?_; refine TTdt ?_)); (try simp only [HC] at hg))
    | with_reducible exact rfl | exact ⟨rfl, rfl, rfl⟩
    | ((with_reducible refine RunsT.go ?_); first | refine RunsF.apf (h1 x1 y1 hl1 hm1) rfl ?_ | refine RunsF.apf (h2 x2 y2 hl2 hm2) rfl ?_ | fail)
    | ((with_reducible refine RunsD.go ?_); first | refine RunsF.apd (h1 x1 y1 hl1 hm1) rfl ?_ | refine RunsF.apd (h2 x2 y2 hl2 hm2) rfl ?_ | fail)
    | ((with_reducible refine Gd.go ?_); refine Gd.on (fun hg => ?_) (fun hg => ?_) <;> refine TGdt ?_ <;> (try simp only [HC] at hg))
    | ((with_reducible refine Fin.go ?_); first | (refine Fin.p ?_; first | exact FT | (try refine TTdt ?_; try simp only [LF])) | refine Fin.a0 ?_ | refine Fin.a ?_ | refine Fin.ni ?_ | refine Fin.v ?_ ?_ | refine Fin.r ?_ ?_ | exact Fin.th | (refine Fin.t ?_; try simp only [AV.sl.injEq]))
    | (refine And.go ?_; refine AndI ?_)
    | fail)
  all_goals (try clear hr hk hB)
  all_goals (try clear hl1 hm1 hl2 hm2)
  all_goals (rw [Bool.eq_iff_iff]; simp_all)
end Go.D01
end
section
namespace Go.N02
open Go.Ab Siz Go.Lib01 Go.Lib03 Go.D01
set_option linter.unusedVariables false
set_option linter.unusedSimpArgs false
set_option maxRecDepth 2000

def C_collect (P : Program) (k : Nat) : Prop := ∀ v, C_V1 P v → ∀ l : List Int, l.length ≤ 4294967295 → RunsO P k [.fn v [.fptr [.sl (enc l)]]] (.sl (enc l))
/-- slices.Collect[int] -/
def slices_Collect_int.x (c_slices_AppendSeq_int_int : Nat) : XCode :=
  (.seq
    (.reg [⟨(some 2), .mv, [.k (.nilsl)], none⟩] [0])
    (.seq
      (.reg [⟨(some 3), .mv, [.t 0], none⟩,
        ⟨(some 4), .call, [.k (.fn c_slices_AppendSeq_int_int []), .k (.nilsl), .t 3], none⟩,
        ⟨(some 2), .mv, [.t 4], none⟩] [2])
      .ret))
def slices_Collect_int.F : Cfg := ⟨fun _ => 0, fun r => match r with | 0 => [0] | 1 => [2] | _ => []⟩
def slices_Collect_int.X (c_slices_AppendSeq_int_int : Nat) : FX := ⟨5, [.tmp 2], slices_Collect_int.F, slices_Collect_int.x c_slices_AppendSeq_int_int⟩

theorem slices_Collect_int.ok {P : Program} {k c_slices_AppendSeq_int_int : Nat} (hk : Has P k (slices_Collect_int.X c_slices_AppendSeq_int_int)) (h1 : C_app P c_slices_AppendSeq_int_int) : C_collect P k := by
  intro v hv l hl n H
  have k1 := app_runs h1 hv l hl
  refine S.ofX hk rfl fun hB fn hr => ?_
  unfold slices_Collect_int.x
  repeat' (first
    | ((with_reducible refine S.go ?_); first | refine S.seq ?_ | refine S.skip ?_ | refine S.block ?_ | refine S.inBlock ?_ | refine S.exit rfl ?_ | refine S.regN ?_ | refine S.reg ?_ | refine S.drw hk.mo (by kernel_rfl) ?_ | (refine S.cond rfl (fun hc => ?_) (fun hc => ?_) <;> try simp only [HC] at hc) | refine S.retH hr rfl ?_ | refine S.finH hr rfl ?_ | (refine S.retK hr ?_; refine TRdt ?_) | fail)
    | ((first | with_reducible refine Ns.go ?_ | with_reducible refine XOs.go ?_ | with_reducible refine XDs.go ?_ | with_reducible refine OK.go ?_); (first | refine TTdt ?_ | (apply Ns.sc ⟨rfl, rfl⟩ rfl; intro hg) | (refine OK.tr ?_; refine TTdt ?_)); (try simp only [HC] at hg))
    | with_reducible exact rfl | exact ⟨rfl, rfl, rfl⟩
    | (refine RunsO.lenO k1 (.cons (.same _) (.cons (.same _) .nil)) rfl (fun v' n' N ht hN hle => ?_); try refine TTdt ?_)
    | ((with_reducible refine Gd.go ?_); refine Gd.on (fun hg => ?_) (fun hg => ?_) <;> refine TGdt ?_ <;> (try simp only [HC] at hg))
    | ((with_reducible refine Fin.go ?_); first | (refine Fin.p ?_; first | exact FT | (try refine TTdt ?_; try simp only [LF])) | refine Fin.a0 ?_ | refine Fin.a ?_ | refine Fin.ni ?_ | refine Fin.v ?_ ?_ | refine Fin.r ?_ ?_ | exact Fin.th | (refine Fin.t ?_; try simp only [AV.sl.injEq]))
    | (refine And.go ?_; refine AndI ?_)
    | fail)
def C_sorted (P : Program) (k : Nat) : Prop := ∀ v, C_V1 P v → ∀ l : List Int, l.length ≤ 4294967295 → RunsO P k [.fn v [.fptr [.sl (enc l)]]] (.sl (enc (srt l)))
/-- slices.Sorted[int] -/
def slices_Sorted_int.x (c_slices_Collect_int c_slices_Sort_int_int : Nat) : XCode :=
  (.seq
    (.reg [⟨(some 2), .mv, [.k (.nilsl)], none⟩] [0])
    (.seq
      (.reg [⟨(some 4), .mv, [.t 0], none⟩,
        ⟨(some 5), .call, [.k (.fn c_slices_Collect_int []), .t 4], none⟩,
        ⟨(some 3), .mv, [.t 5], none⟩] [3])
      (.seq
        (.reg [⟨(some 6), .mv, [.t 3], none⟩,
          ⟨(some 7), .call, [.k (.fn c_slices_Sort_int_int []), .t 6], none⟩] [3])
        (.seq
          (.reg [⟨(some 8), .mv, [.t 3], none⟩,
            ⟨(some 2), .mv, [.t 8], none⟩] [2])
          .ret))))
def slices_Sorted_int.F : Cfg := ⟨fun d => if d = 3 then 2 else 0, fun r => match r with | 0 => [0] | 1 => [3] | 2 => [3] | 3 => [2] | _ => []⟩
def slices_Sorted_int.X (c_slices_Collect_int c_slices_Sort_int_int : Nat) : FX := ⟨9, [.tmp 2], slices_Sorted_int.F, slices_Sorted_int.x c_slices_Collect_int c_slices_Sort_int_int⟩

theorem slices_Sorted_int.ok {P : Program} {k c_slices_Collect_int c_slices_Sort_int_int : Nat} (hk : Has P k (slices_Sorted_int.X c_slices_Collect_int c_slices_Sort_int_int)) (h1 : C_collect P c_slices_Collect_int) (h2 : C_srt P c_slices_Sort_int_int) : C_sorted P k := by
  intro v hv l hl n H
  have k1 := h1 v hv l hl
  have k2 := sort_runs h2
  refine S.ofX hk rfl fun hB fn hr => ?_
  unfold slices_Sorted_int.x
  repeat' (first
    | ((with_reducible refine S.go ?_); first | refine S.seq ?_ | refine S.skip ?_ | refine S.block ?_ | refine S.inBlock ?_ | refine S.exit rfl ?_ | refine S.regN ?_ | refine S.reg ?_ | refine S.drw hk.mo (by kernel_rfl) ?_ | (refine S.cond rfl (fun hc => ?_) (fun hc => ?_) <;> try simp only [HC] at hc) | refine S.retH hr rfl ?_ | refine S.finH hr rfl ?_ | (refine S.retK hr ?_; refine TRdt ?_) | fail)
    | ((first | with_reducible refine Ns.go ?_ | with_reducible refine XOs.go ?_ | with_reducible refine XDs.go ?_ | with_reducible refine OK.go ?_); (first | refine TTdt ?_ | (apply Ns.sc ⟨rfl, rfl⟩ rfl; intro hg) | (refine OK.tr ?_; refine TTdt ?_)); (try simp only [HC] at hg))
    | with_reducible exact rfl | exact ⟨rfl, rfl, rfl⟩
    | (refine RunsO.lenO k1 (.cons (.same _) .nil) rfl (fun v' n' N ht hN hle => ?_); try refine TTdt ?_)
    | (refine C_sortT.a k2 hl ht (fun N' ht' hnm => ?_); replace hN := fst_le hnm (fun p hp => (hN p hp).1); replace ht := ht'; try refine TTdt ?_)
    | ((with_reducible refine Gd.go ?_); refine Gd.on (fun hg => ?_) (fun hg => ?_) <;> refine TGdt ?_ <;> (try simp only [HC] at hg))
    | ((with_reducible refine Fin.go ?_); first | (refine Fin.p ?_; first | exact FT | (try refine TTdt ?_; try simp only [LF])) | refine Fin.a0 ?_ | refine Fin.a ?_ | refine Fin.ni ?_ | refine Fin.v ?_ ?_ | refine Fin.r ?_ ?_ | exact Fin.th | (refine Fin.t ?_; try simp only [AV.sl.injEq]))
    | (refine And.go ?_; refine AndI ?_)
    | fail)
def C_values (P : Program) (k : Nat) : Prop := ∃ v, C_V1 P v ∧ ∀ l : List Int, RunsF P k [.sl (enc l)] (.fn v [.fptr [.sl (enc l)]])
/-- slices.Values[[]int,int] -/
def slices_Values_int_int.x (c_slices_Values_int_int_1 : Nat) : XCode :=
  (.seq
    (.reg [⟨(some 1), .boxF, [.t 0], none⟩,
      ⟨(some 2), .mv, [.k (.junk)], none⟩] [1])
    (.seq
      (.reg [⟨(some 3), (.mkfn c_slices_Values_int_int_1), [.t 1], none⟩,
        ⟨(some 2), .mv, [.t 3], none⟩] [2])
      .ret))
def slices_Values_int_int.F : Cfg := ⟨fun _ => 0, fun r => match r with | 0 => [1] | 1 => [2] | _ => []⟩
def slices_Values_int_int.X (c_slices_Values_int_int_1 : Nat) : FX := ⟨4, [.tmp 2], slices_Values_int_int.F, slices_Values_int_int.x c_slices_Values_int_int_1⟩

theorem slices_Values_int_int.ok {P : Program} {k c_slices_Values_int_int_1 : Nat} (hk : Has P k (slices_Values_int_int.X c_slices_Values_int_int_1)) (h1 : C_V1 P c_slices_Values_int_int_1) : C_values P k := by
  refine ⟨_, h1, fun l => ?_⟩
  intro n H
  refine S.ofX hk rfl fun hB fn hr => ?_
  unfold slices_Values_int_int.x
  repeat' (first
    | ((with_reducible refine S.go ?_); first | refine S.seq ?_ | refine S.skip ?_ | refine S.block ?_ | refine S.inBlock ?_ | refine S.exit rfl ?_ | refine S.regN ?_ | refine S.reg ?_ | refine S.drw hk.mo (by kernel_rfl) ?_ | (refine S.cond rfl (fun hc => ?_) (fun hc => ?_) <;> try simp only [HC] at hc) | refine S.retH hr rfl ?_ | refine S.finH hr rfl ?_ | (refine S.retK hr ?_; refine TRdt ?_) | fail)
    | ((first | with_reducible refine Ns.go ?_ | with_reducible refine XOs.go ?_ | with_reducible refine XDs.go ?_ | with_reducible refine OK.go ?_); (first | refine TTdt ?_ | (apply Ns.sc ⟨rfl, rfl⟩ rfl; intro hg) | (refine OK.tr ?_; refine TTdt ?_)); (try simp only [HC] at hg))
    | with_reducible exact rfl | exact ⟨rfl, rfl, rfl⟩
    | ((with_reducible refine Gd.go ?_); refine Gd.on (fun hg => ?_) (fun hg => ?_) <;> refine TGdt ?_ <;> (try simp only [HC] at hg))
    | ((with_reducible refine Fin.go ?_); first | (refine Fin.p ?_; first | exact FT | (try refine TTdt ?_; try simp only [LF])) | refine Fin.a0 ?_ | refine Fin.a ?_ | refine Fin.ni ?_ | refine Fin.v ?_ ?_ | refine Fin.r ?_ ?_ | exact Fin.th | (refine Fin.t ?_; try simp only [AV.sl.injEq]))
    | (refine And.go ?_; refine AndI ?_)
    | fail)
def C_isStrict (P : Program) (k : Nat) : Prop := ∀ (l : List Int) (m : Int), l.length ≤ 4294967295 → -1000 ≤ m → m ≤ 4294967296 → RunsF P k [.sl (enc l), .int .i64 m] (.bool (isStr l m))
/-- impl.isStrict -/
def i_isStrict.x (c_i_within : Nat) : XCode :=
  (.seq
    (.reg [⟨(some 4), .mv, [.k (.bool false)], none⟩] [0, 1])
    (.seq
      (.seq
        (.reg [⟨(some 7), .mv, [.t 0], none⟩,
          ⟨(some 8), .lenL, [.t 7], none⟩,
          ⟨(some 9), .mv, [.k (.int .i64 0)], none⟩] [0, 1, 7, 8, 9])
        (.block 0
          (.loop
            (.seq
              (.reg [⟨(some 10), (.bin .lss), [.t 9, .t 8], none⟩] [0, 1, 7, 8, 9, 10])
              (.seq
                (.cond (.t 10)
                  .skip
                  (.exit 0))
                (.seq
                  (.block 1
                    (.seq
                      (.reg [⟨(some 11), .mv, [.t 9], none⟩,
                        ⟨(some 12), (.idxA 1), [.t 7, .t 9], none⟩,
                        ⟨(some 13), (.ld none), [.t 12], none⟩,
                        ⟨(some 5), .mv, [.t 11], none⟩,
                        ⟨(some 6), .mv, [.t 13], none⟩] [0, 1, 5, 6, 7, 8, 9])
                      (.seq
                        (.reg (flatNs none (nl [.op (some 14) .mv [.t 6], .op (some 15) .mv [.t 1], .op (some 16) (.bin .sub) [.t 15, .k (.int .i64 1)], .op (some 17) .call [.k (.fn c_i_within []), .t 14, .k (.int .i64 0), .t 16], .op (some 18) (.un .not) [.t 17], .op (some 19) .mv [.t 18], .sc 19 false (nl [.op (some 20) .mv [.t 5], .op (some 21) (.bin .gtr) [.t 20, .k (.int .i64 0)], .op (some 22) .mv [.t 21], .sc 22 true (nl [.op (some 23) .mv [.t 6], .op (some 24) .mv [.t 0], .op (some 25) .mv [.t 5], .op (some 26) (.bin .sub) [.t 25, .k (.int .i64 1)], .op (some 27) (.idxA 1) [.t 24, .t 26], .op (some 28) (.ld none) [.t 27], .op (some 29) (.bin .leq) [.t 23, .t 28]]) (.t 29) (some 30)]) (.t 30) (some 31)])) [0, 1, 7, 8, 9, 31])
                        (.cond (.t 31)
                          (.seq
                            (.reg [⟨(some 4), .mv, [.k (.bool false)], none⟩] [4])
                            .ret)
                          .skip))))
                  (.reg [⟨(some 32), (.bin .add), [.t 9, .k (.int .i64 1)], none⟩,
                    ⟨(some 9), .mv, [.t 32], none⟩] [0, 1, 7, 8, 9])))))))
      (.seq
        (.reg [⟨(some 4), .mv, [.k (.bool true)], none⟩] [4])
        .ret)))
def i_isStrict.F : Cfg := ⟨fun _ => 0, fun r => match r with | 0 => [0, 1] | 1 => [0, 1, 7, 8, 9] | 2 => [0, 1, 7, 8, 9, 10] | 3 => [0, 1, 5, 6, 7, 8, 9] | 4 => [0, 1, 7, 8, 9, 31] | 5 => [4] | 6 => [0, 1, 7, 8, 9] | 7 => [4] | _ => []⟩
def i_isStrict.X (c_i_within : Nat) : FX := ⟨33, [.tmp 4], i_isStrict.F, i_isStrict.x c_i_within⟩

theorem i_isStrict.ok {P : Program} {k c_i_within : Nat} (hk : Has P k (i_isStrict.X c_i_within)) (h1 : C_within P c_i_within) : C_isStrict P k := by
  intro l m hl hm1 hm2 n H
  refine S.ofX hk rfl fun hB fn hr => ?_
  unfold i_isStrict.x
  repeat' (first
    | ((with_reducible refine S.go ?_); first | refine S.seq ?_ | refine S.skip ?_ | refine S.block ?_ | refine S.inBlock ?_ | refine S.exit rfl ?_ | refine S.regN ?_ | refine S.reg ?_ | refine S.drw hk.mo (by kernel_rfl) ?_ | (refine S.cond rfl (fun hc => ?_) (fun hc => ?_) <;> try simp only [HC] at hc) | refine S.retH hr rfl ?_ | refine S.finH hr rfl ?_ | (refine S.retK hr ?_; refine TRdt ?_) | fail)
    | ((first | with_reducible refine Ns.go ?_ | with_reducible refine XOs.go ?_ | with_reducible refine XDs.go ?_ | with_reducible refine OK.go ?_); (first | refine TTdt ?_ | (apply Ns.sc ⟨rfl, rfl⟩ rfl; intro hg) | (refine OK.tr ?_; refine TTdt ?_)); (try simp only [HC] at hg))
    | with_reducible exact rfl | exact ⟨rfl, rfl, rfl⟩
    | ((with_reducible refine Gd.go ?_); refine Gd.on (fun hg => ?_) (fun hg => ?_) <;> refine TGdt ?_ <;> (try simp only [HC] at hg))
    | ((with_reducible refine Fin.go ?_); first | (refine Fin.p ?_; first | exact FT | (try refine TTdt ?_; try simp only [LF])) | refine Fin.a0 ?_ | refine Fin.a ?_ | refine Fin.ni ?_ | refine Fin.v ?_ ?_ | refine Fin.r ?_ ?_ | exact Fin.th | (refine Fin.t ?_; try simp only [AV.sl.injEq]))
    | (refine And.go ?_; refine AndI ?_)
    | fail)
  refine S.loopV (σ := Nat) [0, 1, 7, 8, 9] (fun s => [(9, .int .i64 (s : Int))]) (fun s => s ≤ l.length ∧ ∀ j, j < s → strAt l m j = true) (fun s => n) (fun s => H) (fun s => l.length - s) (0) (⟨by omega, ?_⟩) ?_
  · first | rfl | omega | (simp; done) | (simp; omega) | skip
  rintro i ⟨hi1, hi2⟩ ih
  try dsimp only at hi1 hi2
  repeat' (first
    | ((with_reducible refine S.go ?_); first | refine S.seq ?_ | refine S.skip ?_ | refine S.block ?_ | refine S.inBlock ?_ | refine S.exit rfl ?_ | refine S.regN ?_ | refine S.reg ?_ | refine S.drw hk.mo (by kernel_rfl) ?_ | refine S.ag (ih (i + 1) ?_ ?_) | (refine S.cond rfl (fun hc => ?_) (fun hc => ?_) <;> try simp only [HC] at hc) | refine S.retH hr rfl ?_ | refine S.finH hr rfl ?_ | (refine S.retK hr ?_; refine TRdt ?_) | fail)
    | ((first | with_reducible refine Ns.go ?_ | with_reducible refine XOs.go ?_ | with_reducible refine XDs.go ?_ | with_reducible refine OK.go ?_); (first | refine TTdt ?_ | (apply Ns.sc ⟨rfl, rfl⟩ rfl; intro hg) | (refine OK.tr ?_; refine TTdt ?_)); (try simp only [HC] at hg))
    | with_reducible exact rfl | exact ⟨rfl, rfl, rfl⟩
    | ((with_reducible refine RunsT.go ?_); first | refine RunsF.apf (h1 _ _ _) rfl ?_ | fail)
    | ((with_reducible refine RunsD.go ?_); first | refine RunsF.apd (h1 _ _ _) rfl ?_ | fail)
    | ((with_reducible refine Gd.go ?_); refine Gd.on (fun hg => ?_) (fun hg => ?_) <;> refine TGdt ?_ <;> (try simp only [HC] at hg))
    | ((with_reducible refine Fin.go ?_); first | (refine Fin.p ?_; first | exact FT | (try refine TTdt ?_; try simp only [LF])) | refine Fin.a0 ?_ | refine Fin.a ?_ | refine Fin.ni ?_ | refine Fin.v ?_ ?_ | refine Fin.r ?_ ?_ | exact Fin.th | (refine Fin.t ?_; try simp only [AV.sl.injEq]))
    | (refine And.go ?_; refine AndI ?_)
    | fail)
  all_goals (try clear ih)
  all_goals (try dsimp only)
  all_goals (repeat' apply And.intro)
  all_goals first | omega | (simp only [ZL]; omega) | skip
  all_goals (try clear hr hk hB)
  all_goals first | (exact (allAt_false (j := i) (by omega) (by simp only [strAt]; grind)).symm) | (exact (allAt_true.mpr fun j hj => hi2 j (by omega)).symm) | (intro j hj; by_cases e : j = i; (subst e; simp only [strAt]; grind); (exact hi2 j (by omega)))
theorem has_yes {l : List Int} {i : Nat} {x : Int} (hi : i < l.length) (h : l.getD i default = x) : l.contains x = true := by
  rw [List.contains_iff_mem, ← h, getD_at hi]; exact List.getElem_mem hi
theorem has_next {l : List Int} {i : Nat} {x : Int} (hi : i < l.length) (h : ¬ l.getD i default = x) (h2 : (l.take i).contains x = false) : (l.take (i + 1)).contains x = false := by
  rw [take_succ _ _ hi]
  rw [Bool.eq_false_iff, ne_eq, List.contains_iff_mem] at h2 ⊢
  rw [List.mem_append, List.mem_singleton]
  rintro (h3 | h3)
  · exact h2 h3
  · exact h h3.symm
theorem rnk_no {r : List Int} {m : Int} {i : Nat} (hi : i < r.length) (h : rnkAt r m i = false) : isRnk r m = false := by
  unfold isRnk; rw [allAt_false hi h]; rfl
theorem rnk_yes {r : List Int} {m : Int} {i : Nat} (hi : r.length ≤ i) (h : ∀ j, j < i → rnkAt r m j = true) : isRnk r m = ((decide (1 ≤ m) && decide (m ≤ 5)) && decide ((r.length : Int) = m)) := by
  unfold isRnk; rw [allAt_true.mpr fun j hj => h j (by omega)]; rfl
def C_l12Has (P : Program) (k : Nat) : Prop := ∀ (l : List Int) (x : Int), l.length ≤ 4294967295 → RunsF P k [.sl (enc l), .int .i64 x] (.bool (l.contains x))
/-- spec.l12Has -/
def s_l12Has.x : XCode :=
  (.seq
    (.reg [⟨(some 4), .mv, [.k (.bool false)], none⟩] [0, 1])
    (.seq
      (.seq
        (.reg [⟨(some 5), .mv, [.k (.int .i64 0)], none⟩] [0, 1, 5])
        (.block 0
          (.loop
            (.seq
              (.seq
                (.reg [⟨(some 6), .mv, [.t 5], none⟩,
                  ⟨(some 7), .mv, [.t 0], none⟩,
                  ⟨(some 8), .lenL, [.t 7], none⟩,
                  ⟨(some 9), (.bin .lss), [.t 6, .t 8], none⟩] [0, 1, 5, 9])
                (.cond (.t 9)
                  .skip
                  (.exit 0)))
              (.seq
                (.block 1
                  (.seq
                    (.reg [⟨(some 12), .mv, [.t 0], none⟩,
                      ⟨(some 13), .mv, [.t 5], none⟩,
                      ⟨(some 14), (.idxA 1), [.t 12, .t 13], none⟩,
                      ⟨(some 15), (.ld none), [.t 14], none⟩,
                      ⟨(some 16), .mv, [.t 1], none⟩,
                      ⟨(some 17), (.bin .eql), [.t 15, .t 16], none⟩] [0, 1, 5, 17])
                    (.cond (.t 17)
                      (.seq
                        (.reg [⟨(some 4), .mv, [.k (.bool true)], none⟩] [4])
                        .ret)
                      .skip)))
                (.reg [⟨(some 10), .mv, [.t 5], none⟩,
                  ⟨(some 11), (.bin .add), [.t 10, .k (.int .i64 1)], none⟩,
                  ⟨(some 5), .mv, [.t 11], none⟩] [0, 1, 5]))))))
      (.seq
        (.reg [⟨(some 4), .mv, [.k (.bool false)], none⟩] [4])
        .ret)))
def s_l12Has.F : Cfg := ⟨fun _ => 0, fun r => match r with | 0 => [0, 1] | 1 => [0, 1, 5] | 2 => [0, 1, 5, 9] | 3 => [0, 1, 5] | 4 => [0, 1, 5, 17] | 5 => [4] | 6 => [4] | _ => []⟩
def s_l12Has.X : FX := ⟨18, [.tmp 4], s_l12Has.F, s_l12Has.x⟩

theorem s_l12Has.ok {P : Program} {k : Nat} (hk : Has P k (s_l12Has.X)) : C_l12Has P k := by
  intro l x hl n H
  refine S.ofX hk rfl fun hB fn hr => ?_
  unfold s_l12Has.x
  repeat' (first
    | ((with_reducible refine S.go ?_); first | refine S.seq ?_ | refine S.skip ?_ | refine S.block ?_ | refine S.inBlock ?_ | refine S.exit rfl ?_ | refine S.regN ?_ | refine S.reg ?_ | refine S.drw hk.mo (by kernel_rfl) ?_ | (refine S.cond rfl (fun hc => ?_) (fun hc => ?_) <;> try simp only [HC] at hc) | refine S.retH hr rfl ?_ | refine S.finH hr rfl ?_ | (refine S.retK hr ?_; refine TRdt ?_) | fail)
    | ((first | with_reducible refine Ns.go ?_ | with_reducible refine XOs.go ?_ | with_reducible refine XDs.go ?_ | with_reducible refine OK.go ?_); (first | refine TTdt ?_ | (apply Ns.sc ⟨rfl, rfl⟩ rfl; intro hg) | (refine OK.tr ?_; refine TTdt ?_)); (try simp only [HC] at hg))
    | with_reducible exact rfl | exact ⟨rfl, rfl, rfl⟩
    | ((with_reducible refine Gd.go ?_); refine Gd.on (fun hg => ?_) (fun hg => ?_) <;> refine TGdt ?_ <;> (try simp only [HC] at hg))
    | ((with_reducible refine Fin.go ?_); first | (refine Fin.p ?_; first | exact FT | (try refine TTdt ?_; try simp only [LF])) | refine Fin.a0 ?_ | refine Fin.a ?_ | refine Fin.ni ?_ | refine Fin.v ?_ ?_ | refine Fin.r ?_ ?_ | exact Fin.th | (refine Fin.t ?_; try simp only [AV.sl.injEq]))
    | (refine And.go ?_; refine AndI ?_)
    | fail)
  refine S.loopV (σ := Nat) [0, 1, 5] (fun s => [(5, .int .i64 (s : Int))]) (fun s => s ≤ l.length ∧ (l.take s).contains x = false) (fun s => n) (fun s => H) (fun s => l.length - s) (0) (⟨by omega, ?_⟩) ?_
  · first | rfl | omega | (simp; done) | (simp; omega) | skip
  rintro i ⟨hi1, hi2⟩ ih
  try dsimp only at hi1 hi2
  repeat' (first
    | ((with_reducible refine S.go ?_); first | refine S.seq ?_ | refine S.skip ?_ | refine S.block ?_ | refine S.inBlock ?_ | refine S.exit rfl ?_ | refine S.regN ?_ | refine S.reg ?_ | refine S.drw hk.mo (by kernel_rfl) ?_ | refine S.ag (ih (i + 1) ?_ ?_) | (refine S.cond rfl (fun hc => ?_) (fun hc => ?_) <;> try simp only [HC] at hc) | refine S.retH hr rfl ?_ | refine S.finH hr rfl ?_ | (refine S.retK hr ?_; refine TRdt ?_) | fail)
    | ((first | with_reducible refine Ns.go ?_ | with_reducible refine XOs.go ?_ | with_reducible refine XDs.go ?_ | with_reducible refine OK.go ?_); (first | refine TTdt ?_ | (apply Ns.sc ⟨rfl, rfl⟩ rfl; intro hg) | (refine OK.tr ?_; refine TTdt ?_)); (try simp only [HC] at hg))
    | with_reducible exact rfl | exact ⟨rfl, rfl, rfl⟩
    | ((with_reducible refine Gd.go ?_); refine Gd.on (fun hg => ?_) (fun hg => ?_) <;> refine TGdt ?_ <;> (try simp only [HC] at hg))
    | ((with_reducible refine Fin.go ?_); first | (refine Fin.p ?_; first | exact FT | (try refine TTdt ?_; try simp only [LF])) | refine Fin.a0 ?_ | refine Fin.a ?_ | refine Fin.ni ?_ | refine Fin.v ?_ ?_ | refine Fin.r ?_ ?_ | exact Fin.th | (refine Fin.t ?_; try simp only [AV.sl.injEq]))
    | (refine And.go ?_; refine AndI ?_)
    | fail)
  all_goals (try clear ih)
  all_goals (try dsimp only)
  all_goals (repeat' apply And.intro)
  all_goals first | omega | (simp only [ZL]; omega) | skip
  all_goals (try clear hr hk hB)
  all_goals first | exact (has_yes (by omega) hc).symm | exact has_next (by omega) hc hi2 | (rw [List.take_of_length_le (by omega)] at hi2; exact hi2.symm)
def C_IsRanking (P : Program) (k : Nat) : Prop := ∀ (r : List Int) (m : Int), r.length ≤ 4294967295 → RunsF P k [.sl (enc r), .int .i64 m] (.bool (isRnk r m))
/-- spec.IsRanking -/
def s_IsRanking.x (c_s_l12Has c_s_l1In : Nat) : XCode :=
  (.seq
    (.reg [⟨(some 4), .mv, [.k (.bool false)], none⟩] [0, 1])
    (.seq
      (.seq
        (.reg [⟨(some 5), .mv, [.k (.int .i64 0)], none⟩] [0, 1, 5])
        (.block 0
          (.loop
            (.seq
              (.seq
                (.reg [⟨(some 6), .mv, [.t 5], none⟩,
                  ⟨(some 7), .mv, [.t 0], none⟩,
                  ⟨(some 8), .lenL, [.t 7], none⟩,
                  ⟨(some 9), (.bin .lss), [.t 6, .t 8], none⟩] [0, 1, 5, 9])
                (.cond (.t 9)
                  .skip
                  (.exit 0)))
              (.seq
                (.block 1
                  (.seq
                    (.drw [(⟨(some 12), .mv, [.t 0], none⟩, []),
                      (⟨(some 13), .mv, [.t 5], none⟩, []),
                      (⟨(some 14), (.idxA 1), [.t 12, .t 13], none⟩, [0, 1]),
                      (⟨(some 15), (.ld none), [.t 14], none⟩, [2]),
                      (⟨(some 16), (.bin .lss), [.t 15, .k (.int .i64 0)], none⟩, [3]),
                      (⟨(some 17), .mv, [.t 16], none⟩, [4]),
                      (⟨(some 18), .mv, [.t 0], (some (17, false))⟩, [5]),
                      (⟨(some 19), .mv, [.t 5], (some (17, false))⟩, [5]),
                      (⟨(some 20), (.idxA 1), [.t 18, .t 19], (some (17, false))⟩, [6, 7, 5]),
                      (⟨(some 21), (.ld none), [.t 20], (some (17, false))⟩, [8, 5]),
                      (⟨(some 22), .mv, [.t 1], (some (17, false))⟩, [5]),
                      (⟨(some 23), (.bin .geq), [.t 21, .t 22], (some (17, false))⟩, [9, 10, 5]),
                      (⟨(some 24), .pick, [.t 17, .k (.bool true), .t 23], none⟩, [5, 11]),
                      (⟨(some 25), .mv, [.t 24], none⟩, [12, 5]),
                      (⟨(some 26), .mv, [.t 0], (some (25, false))⟩, [13]),
                      (⟨(some 27), .mv, [.t 5], (some (25, false))⟩, [13]),
                      (⟨(some 28), (.slL 1 false true), [.t 26, .t 27], (some (25, false))⟩, [14, 15, 13]),
                      (⟨(some 29), .mv, [.t 0], (some (25, false))⟩, [13]),
                      (⟨(some 30), .mv, [.t 5], (some (25, false))⟩, [13]),
                      (⟨(some 31), (.idxA 1), [.t 29, .t 30], (some (25, false))⟩, [17, 18, 13]),
                      (⟨(some 32), (.ld none), [.t 31], (some (25, false))⟩, [19, 13]),
                      (⟨(some 33), .call, [.k (.fn c_s_l12Has []), .t 28, .t 32], (some (25, false))⟩, [16, 20, 13, 13]),
                      (⟨(some 34), .pick, [.t 25, .k (.bool true), .t 33], none⟩, [13, 21])] [0, 1, 5, 34] [0, 0, 0, 0, 0, 0, 0, 0, 0, 0, 0, 0, 0, 0, 0, 0, 0, 0, 0, 0, 0, 0, 0])
                    (.cond (.t 34)
                      (.seq
                        (.reg [⟨(some 4), .mv, [.k (.bool false)], none⟩] [4])
                        .ret)
                      .skip)))
                (.reg [⟨(some 10), .mv, [.t 5], none⟩,
                  ⟨(some 11), (.bin .add), [.t 10, .k (.int .i64 1)], none⟩,
                  ⟨(some 5), .mv, [.t 11], none⟩] [0, 1, 5]))))))
      (.seq
        (.reg (flatNs none (nl [.op (some 35) .mv [.t 1], .op (some 36) .call [.k (.fn c_s_l1In []), .t 35, .k (.int .i64 1), .k (.int .i64 5)], .op (some 37) .mv [.t 36], .sc 37 true (nl [.op (some 38) .mv [.t 0], .op (some 39) .lenL [.t 38], .op (some 40) .mv [.t 1], .op (some 41) (.bin .eql) [.t 39, .t 40]]) (.t 41) (some 42), .op (some 4) .mv [.t 42]])) [4])
        .ret)))
def s_IsRanking.F : Cfg := ⟨fun _ => 0, fun r => match r with | 0 => [0, 1] | 1 => [0, 1, 5] | 2 => [0, 1, 5, 9] | 3 => [0, 1, 5] | 4 => [0, 1, 5, 34] | 5 => [4] | 6 => [4] | 1000004 => [0, 0, 0, 0, 0, 0, 0, 0, 0, 0, 0, 0, 0, 0, 0, 0, 0, 0, 0, 0, 0, 0, 0] | _ => []⟩
def s_IsRanking.X (c_s_l12Has c_s_l1In : Nat) : FX := ⟨43, [.tmp 4], s_IsRanking.F, s_IsRanking.x c_s_l12Has c_s_l1In⟩

theorem s_IsRanking.ok {P : Program} {k c_s_l12Has c_s_l1In : Nat} (hk : Has P k (s_IsRanking.X c_s_l12Has c_s_l1In)) (h1 : C_within P c_s_l1In) (h2 : C_l12Has P c_s_l12Has) : C_IsRanking P k := by
  intro r m hl n H
  refine S.ofX hk rfl fun hB fn hr => ?_
  unfold s_IsRanking.x
  repeat' (first
    | ((with_reducible refine S.go ?_); first | refine S.seq ?_ | refine S.skip ?_ | refine S.block ?_ | refine S.inBlock ?_ | refine S.exit rfl ?_ | refine S.regN ?_ | refine S.reg ?_ | refine S.drw hk.mo (by kernel_rfl) ?_ | (refine S.cond rfl (fun hc => ?_) (fun hc => ?_) <;> try simp only [HC] at hc) | refine S.retH hr rfl ?_ | refine S.finH hr rfl ?_ | (refine S.retK hr ?_; refine TRdt ?_) | fail)
    | ((first | with_reducible refine Ns.go ?_ | with_reducible refine XOs.go ?_ | with_reducible refine XDs.go ?_ | with_reducible refine OK.go ?_); (first | refine TTdt ?_ | (apply Ns.sc ⟨rfl, rfl⟩ rfl; intro hg) | (refine OK.tr ?_; refine TTdt ?_)); (try simp only [HC] at hg))
    | with_reducible exact rfl | exact ⟨rfl, rfl, rfl⟩
    | ((with_reducible refine Gd.go ?_); refine Gd.on (fun hg => ?_) (fun hg => ?_) <;> refine TGdt ?_ <;> (try simp only [HC] at hg))
    | ((with_reducible refine Fin.go ?_); first | (refine Fin.p ?_; first | exact FT | (try refine TTdt ?_; try simp only [LF])) | refine Fin.a0 ?_ | refine Fin.a ?_ | refine Fin.ni ?_ | refine Fin.v ?_ ?_ | refine Fin.r ?_ ?_ | exact Fin.th | (refine Fin.t ?_; try simp only [AV.sl.injEq]))
    | (refine And.go ?_; refine AndI ?_)
    | fail)
  refine S.loopV (σ := Nat) [0, 1, 5] (fun s => [(5, .int .i64 (s : Int))]) (fun s => s ≤ r.length ∧ ∀ j, j < s → rnkAt r m j = true) (fun s => n) (fun s => H) (fun s => r.length - s) (0) (⟨by omega, ?_⟩) ?_
  · first | rfl | omega | (simp; done) | (simp; omega) | skip
  rintro i ⟨hi1, hi2⟩ ih
  try dsimp only at hi1 hi2
  repeat' (first
    | ((with_reducible refine S.go ?_); first | refine S.seq ?_ | refine S.skip ?_ | refine S.block ?_ | refine S.inBlock ?_ | refine S.exit rfl ?_ | refine S.regN ?_ | refine S.reg ?_ | refine S.drw hk.mo (by kernel_rfl) ?_ | refine S.ag (ih (i + 1) ?_ ?_) | (refine S.cond rfl (fun hc => ?_) (fun hc => ?_) <;> try simp only [HC] at hc) | refine S.retH hr rfl ?_ | refine S.finH hr rfl ?_ | (refine S.retK hr ?_; refine TRdt ?_) | fail)
    | ((first | with_reducible refine Ns.go ?_ | with_reducible refine XOs.go ?_ | with_reducible refine XDs.go ?_ | with_reducible refine OK.go ?_); (first | refine TTdt ?_ | (apply Ns.sc ⟨rfl, rfl⟩ rfl; intro hg) | (refine OK.tr ?_; refine TTdt ?_)); (try simp only [HC] at hg))
    | with_reducible exact rfl | exact ⟨rfl, rfl, rfl⟩
    | ((with_reducible refine RunsT.go ?_); first | refine RunsF.apf (h1 _ _ _) rfl ?_ | refine RunsF.apf (h2 _ _ (by simp only [List.length_take]; omega)) rfl ?_ | fail)
    | ((with_reducible refine RunsD.go ?_); first | refine RunsF.apd (h1 _ _ _) rfl ?_ | refine RunsF.apd (h2 _ _ (by simp only [List.length_take]; omega)) rfl ?_ | fail)
    | ((with_reducible refine Gd.go ?_); refine Gd.on (fun hg => ?_) (fun hg => ?_) <;> refine TGdt ?_ <;> (try simp only [HC] at hg))
    | ((with_reducible refine Fin.go ?_); first | (refine Fin.p ?_; first | exact FT | (try refine TTdt ?_; try simp only [LF])) | refine Fin.a0 ?_ | refine Fin.a ?_ | refine Fin.ni ?_ | refine Fin.v ?_ ?_ | refine Fin.r ?_ ?_ | exact Fin.th | (refine Fin.t ?_; try simp only [AV.sl.injEq]))
    | (refine And.go ?_; refine AndI ?_)
    | fail)
  all_goals (try clear ih)
  all_goals (try dsimp only)
  all_goals (repeat' apply And.intro)
  all_goals first | omega | (simp only [ZL]; omega) | skip
  all_goals (try clear hr hk hB)
  all_goals first | (exact (rnk_no (i := i) (by omega) (by simp only [rnkAt]; grind)).symm) | (exfalso; cases hc; done) | (intro j hj; by_cases e : j = i; (subst e; simp only [rnkAt]; grind); (exact hi2 j (by omega))) | (rw [rnk_yes (by omega) hi2]; rfl)
/-- impl.IsRanking -/
def i_IsRanking.x (c_i_within c_slices_Values_int_int c_slices_Sorted_int c_i_isStrict : Nat) : XCode :=
  (.seq
    (.reg [⟨(some 4), .mv, [.k (.bool false)], none⟩] [0, 1])
    (.seq
      (.reg (flatNs none (nl [.op (some 5) .mv [.t 1], .op (some 6) .call [.k (.fn c_i_within []), .t 5, .k (.int .i64 1), .k (.int .i64 5)], .op (some 7) .mv [.t 6], .sc 7 true (nl [.op (some 8) .mv [.t 0], .op (some 9) .lenL [.t 8], .op (some 10) .mv [.t 1], .op (some 11) (.bin .eql) [.t 9, .t 10]]) (.t 11) (some 12), .op (some 13) .mv [.t 12], .sc 13 true (nl [.op (some 14) .mv [.t 0], .op (some 15) .call [.k (.fn c_slices_Values_int_int []), .t 14], .op (some 16) .call [.k (.fn c_slices_Sorted_int []), .t 15], .op (some 17) .mv [.t 1], .op (some 18) .call [.k (.fn c_i_isStrict []), .t 16, .t 17]]) (.t 18) (some 19), .op (some 4) .mv [.t 19]])) [4])
      .ret))
def i_IsRanking.F : Cfg := ⟨fun _ => 0, fun r => match r with | 0 => [0, 1] | 1 => [4] | _ => []⟩
def i_IsRanking.X (c_i_within c_slices_Values_int_int c_slices_Sorted_int c_i_isStrict : Nat) : FX := ⟨20, [.tmp 4], i_IsRanking.F, i_IsRanking.x c_i_within c_slices_Values_int_int c_slices_Sorted_int c_i_isStrict⟩

theorem i_IsRanking.ok {P : Program} {k c_i_within c_slices_Values_int_int c_slices_Sorted_int c_i_isStrict : Nat} (hk : Has P k (i_IsRanking.X c_i_within c_slices_Values_int_int c_slices_Sorted_int c_i_isStrict)) (h1 : C_within P c_i_within) (h2 : C_values P c_slices_Values_int_int) (h3 : C_sorted P c_slices_Sorted_int) (h4 : C_isStrict P c_i_isStrict) : C_IsRanking P k := by
  intro r m hl n H
  obtain ⟨v, hv, h2⟩ := h2
  have k3 := (h3 v hv r hl).f
  have hsl := srt_len r
  refine S.ofX hk rfl fun hB fn hr => ?_
  unfold i_IsRanking.x
  repeat' (first
    | ((with_reducible refine S.go ?_); first | refine S.seq ?_ | refine S.skip ?_ | refine S.block ?_ | refine S.inBlock ?_ | refine S.exit rfl ?_ | refine S.regN ?_ | refine S.reg ?_ | refine S.drw hk.mo (by kernel_rfl) ?_ | (refine S.cond rfl (fun hc => ?_) (fun hc => ?_) <;> try simp only [HC] at hc) | refine S.retH hr rfl ?_ | refine S.finH hr rfl ?_ | (refine S.retK hr ?_; refine TRdt ?_) | fail)
    | ((first | with_reducible refine Ns.go ?_ | with_reducible refine XOs.go ?_ | with_reducible refine XDs.go ?_ | with_reducible refine OK.go ?_); (first | refine TTdt ?_ | (apply Ns.sc ⟨rfl, rfl⟩ rfl; intro hg) | (refine OK.tr ?_; refine TTdt ?_)); (try simp only [HC] at hg))
    | with_reducible exact rfl | exact ⟨rfl, rfl, rfl⟩
    | ((with_reducible refine RunsT.go ?_); first | refine RunsF.apf (h1 _ _ _) rfl ?_ | refine RunsF.apf (h2 _) rfl ?_ | refine RunsF.apf (k3) rfl ?_ | refine RunsF.apf (h4 _ _ (by omega) (by omega) (by omega)) rfl ?_ | fail)
    | ((with_reducible refine RunsD.go ?_); first | refine RunsF.apd (h1 _ _ _) rfl ?_ | refine RunsF.apd (h2 _) rfl ?_ | refine RunsF.apd (k3) rfl ?_ | refine RunsF.apd (h4 _ _ (by omega) (by omega) (by omega)) rfl ?_ | fail)
    | ((with_reducible refine Gd.go ?_); refine Gd.on (fun hg => ?_) (fun hg => ?_) <;> refine TGdt ?_ <;> (try simp only [HC] at hg))
    | ((with_reducible refine Fin.go ?_); first | (refine Fin.p ?_; first | exact FT | (try refine TTdt ?_; try simp only [LF])) | refine Fin.a0 ?_ | refine Fin.a ?_ | refine Fin.ni ?_ | refine Fin.v ?_ ?_ | refine Fin.r ?_ ?_ | exact Fin.th | (refine Fin.t ?_; try simp only [AV.sl.injEq]))
    | (refine And.go ?_; refine AndI ?_)
    | fail)
  all_goals (try clear hr hk hB)
  all_goals (rw [srt_rnk, Bool.and_comm]; rfl)
/-- Names and a ranking of them. -/
def isGram (c : List (List UInt8)) (r : List Int) : Bool := areCons c && isRnk r c.length
def C_isGrammar (P : Program) (k : Nat) : Prop := ∀ (c : List (List UInt8)) (r : List Int), c.length ≤ 4294967295 → r.length ≤ 4294967295 → RunsF P k [.sl (enc c), .sl (enc r)] (.bool (isGram c r))
/-- impl.isGrammar -/
def i_isGrammar.x (c_i_AreConstraints c_i_IsRanking : Nat) : XCode :=
  (.seq
    (.reg [⟨(some 4), .mv, [.k (.bool false)], none⟩] [0, 1])
    (.seq
      (.reg (flatNs none (nl [.op (some 5) .mv [.t 0], .op (some 6) .call [.k (.fn c_i_AreConstraints []), .t 5], .op (some 7) .mv [.t 6], .sc 7 true (nl [.op (some 8) .mv [.t 1], .op (some 9) .mv [.t 0], .op (some 10) .lenL [.t 9], .op (some 11) .call [.k (.fn c_i_IsRanking []), .t 8, .t 10]]) (.t 11) (some 12), .op (some 4) .mv [.t 12]])) [4])
      .ret))
def i_isGrammar.F : Cfg := ⟨fun _ => 0, fun r => match r with | 0 => [0, 1] | 1 => [4] | _ => []⟩
def i_isGrammar.X (c_i_AreConstraints c_i_IsRanking : Nat) : FX := ⟨13, [.tmp 4], i_isGrammar.F, i_isGrammar.x c_i_AreConstraints c_i_IsRanking⟩

theorem i_isGrammar.ok {P : Program} {k c_i_AreConstraints c_i_IsRanking : Nat} (hk : Has P k (i_isGrammar.X c_i_AreConstraints c_i_IsRanking)) (h1 : C_AreConstraints P c_i_AreConstraints) (h2 : C_IsRanking P c_i_IsRanking) : C_isGrammar P k := by
  intro c r hc1 hr1 n H
  refine S.ofX hk rfl fun hB fn hr => ?_
  unfold i_isGrammar.x
  repeat' (first
    | ((with_reducible refine S.go ?_); first | refine S.seq ?_ | refine S.skip ?_ | refine S.block ?_ | refine S.inBlock ?_ | refine S.exit rfl ?_ | refine S.regN ?_ | refine S.reg ?_ | refine S.drw hk.mo (by kernel_rfl) ?_ | (refine S.cond rfl (fun hc => ?_) (fun hc => ?_) <;> try simp only [HC] at hc) | refine S.retH hr rfl ?_ | refine S.finH hr rfl ?_ | (refine S.retK hr ?_; refine TRdt ?_) | fail)
    | ((first | with_reducible refine Ns.go ?_ | with_reducible refine XOs.go ?_ | with_reducible refine XDs.go ?_ | with_reducible refine OK.go ?_); (first | refine TTdt ?_ | (apply Ns.sc ⟨rfl, rfl⟩ rfl; intro hg) | (refine OK.tr ?_; refine TTdt ?_)); (try simp only [HC] at hg))
    | with_reducible exact rfl | exact ⟨rfl, rfl, rfl⟩
    | ((with_reducible refine RunsT.go ?_); first | refine RunsF.apf (h1 _ (by omega)) rfl ?_ | refine RunsF.apf (h2 _ _ hr1) rfl ?_ | fail)
    | ((with_reducible refine RunsD.go ?_); first | refine RunsF.apd (h1 _ (by omega)) rfl ?_ | refine RunsF.apd (h2 _ _ hr1) rfl ?_ | fail)
    | ((with_reducible refine Gd.go ?_); refine Gd.on (fun hg => ?_) (fun hg => ?_) <;> refine TGdt ?_ <;> (try simp only [HC] at hg))
    | ((with_reducible refine Fin.go ?_); first | (refine Fin.p ?_; first | exact FT | (try refine TTdt ?_; try simp only [LF])) | refine Fin.a0 ?_ | refine Fin.a ?_ | refine Fin.ni ?_ | refine Fin.v ?_ ?_ | refine Fin.r ?_ ?_ | exact Fin.th | (refine Fin.t ?_; try simp only [AV.sl.injEq]))
    | (refine And.go ?_; refine AndI ?_)
    | fail)
  all_goals rfl
def C_IsLevel (P : Program) (k : Nat) : Prop := ∀ x : Lvl, ok mxs x → RunsF P k [.agg (Dat.row x)] (.bool (isGram x.1 x.2))
/-- spec.IsLevel -/
def s_IsLevel.x (c_s_AreConstraints c_s_IsRanking : Nat) : XCode :=
  (.seq
    (.reg [⟨(some 1), .boxF, [.t 0], none⟩,
      ⟨(some 2), .mv, [.k (.bool false)], none⟩] [1])
    (.seq
      (.reg (flatNs none (nl [.op (some 3) (.fldA 0) [.t 1], .op (some 4) (.ld none) [.t 3], .op (some 5) .call [.k (.fn c_s_AreConstraints []), .t 4], .op (some 6) .mv [.t 5], .sc 6 true (nl [.op (some 7) (.fldA 1) [.t 1], .op (some 8) (.ld none) [.t 7], .op (some 9) (.fldA 0) [.t 1], .op (some 10) (.ld none) [.t 9], .op (some 11) .lenL [.t 10], .op (some 12) .call [.k (.fn c_s_IsRanking []), .t 8, .t 11]]) (.t 12) (some 13), .op (some 2) .mv [.t 13]])) [2])
      .ret))
def s_IsLevel.F : Cfg := ⟨fun _ => 0, fun r => match r with | 0 => [1] | 1 => [2] | _ => []⟩
def s_IsLevel.X (c_s_AreConstraints c_s_IsRanking : Nat) : FX := ⟨14, [.tmp 2], s_IsLevel.F, s_IsLevel.x c_s_AreConstraints c_s_IsRanking⟩

theorem s_IsLevel.ok {P : Program} {k c_s_AreConstraints c_s_IsRanking : Nat} (hk : Has P k (s_IsLevel.X c_s_AreConstraints c_s_IsRanking)) (h1 : C_AreConstraints P c_s_AreConstraints) (h2 : C_IsRanking P c_s_IsRanking) : C_IsLevel P k := by
  intro x hx n H
  obtain ⟨⟨ha, -⟩, ⟨hb, -⟩⟩ := hx
  unfold mxs at ha hb
  refine S.ofX hk rfl fun hB fn hr => ?_
  unfold s_IsLevel.x
  repeat' (first
    | ((with_reducible refine S.go ?_); first | refine S.seq ?_ | refine S.skip ?_ | refine S.block ?_ | refine S.inBlock ?_ | refine S.exit rfl ?_ | refine S.regN ?_ | refine S.reg ?_ | refine S.drw hk.mo (by kernel_rfl) ?_ | (refine S.cond rfl (fun hc => ?_) (fun hc => ?_) <;> try simp only [HC] at hc) | refine S.retH hr rfl ?_ | refine S.finH hr rfl ?_ | (refine S.retK hr ?_; refine TRdt ?_) | fail)
    | ((first | with_reducible refine Ns.go ?_ | with_reducible refine XOs.go ?_ | with_reducible refine XDs.go ?_ | with_reducible refine OK.go ?_); (first | refine TTdt ?_ | (apply Ns.sc ⟨rfl, rfl⟩ rfl; intro hg) | (refine OK.tr ?_; refine TTdt ?_)); (try simp only [HC] at hg))
    | with_reducible exact rfl | exact ⟨rfl, rfl, rfl⟩
    | ((with_reducible refine RunsT.go ?_); first | refine RunsF.apf (h1 _ (by omega)) rfl ?_ | refine RunsF.apf (h2 _ _ (by omega)) rfl ?_ | fail)
    | ((with_reducible refine RunsD.go ?_); first | refine RunsF.apd (h1 _ (by omega)) rfl ?_ | refine RunsF.apd (h2 _ _ (by omega)) rfl ?_ | fail)
    | ((with_reducible refine Gd.go ?_); refine Gd.on (fun hg => ?_) (fun hg => ?_) <;> refine TGdt ?_ <;> (try simp only [HC] at hg))
    | ((with_reducible refine Fin.go ?_); first | (refine Fin.p ?_; first | exact FT | (try refine TTdt ?_; try simp only [LF])) | refine Fin.a0 ?_ | refine Fin.a ?_ | refine Fin.ni ?_ | refine Fin.v ?_ ?_ | refine Fin.r ?_ ?_ | exact Fin.th | (refine Fin.t ?_; try simp only [AV.sl.injEq]))
    | (refine And.go ?_; refine AndI ?_)
    | fail)
  all_goals rfl
def C_law1 (α : Type) [Dat α] [Siz α] (P : Program) (k : Nat) : Prop := ∀ (x : α), ok mxi x → RunsF P k [.agg (Dat.row x)] (.bool true)
end Go.N02
end
section
namespace Go.G01
open Go.Ab Go.Lib01 Go.M01 Go.M02
set_option linter.unusedVariables false

def bef (x : Lnk) (l : List (List Lnk)) : List (List Lnk) := l.map (x :: ·)
def ins (l : List (List Lnk)) : List (List Lnk) := bef (0, 116) l ++ bef (0, 105) l
/-- The candidates of a form with at most m edits. -/
def gen : List UInt8 → Nat → List (List Lnk)
  | [], 0 => [[]]
  | [], m + 1 => [[]] ++ ins (gen [] m)
  | c :: t, 0 => bef (c, c) (gen t 0)
  | c :: t, m + 1 => bef (c, c) (gen t (m + 1)) ++ (bef (c, 0) (gen t m) ++ (if isObs c then bef (c, swapV c) (gen t m) else [])) ++ ins (gen (c :: t) m)
termination_by s m => s.length + m
theorem bef_len (x : Lnk) (l : List (List Lnk)) : (bef x l).length = l.length := by simp [bef]
theorem ins_len' (l : List (List Lnk)) : (ins l).length = l.length + l.length := by simp [ins, bef]
theorem gen_len : ∀ (s : List UInt8) (m : Nat), (gen s m).length ≤ 5 ^ (s.length + m)
  | [], 0 => by rw [gen]; simp
  | [], m + 1 => by
    have h := gen_len [] m
    have h1 : 0 < 5 ^ m := Nat.pow_pos (by decide)
    rw [gen, List.length_append, ins_len']
    simp only [List.length_cons, List.length_nil, Nat.zero_add, Nat.pow_succ] at h ⊢
    omega
  | c :: t, 0 => by
    have h := gen_len t 0
    rw [gen, bef_len]
    simp only [List.length_cons, Nat.add_zero, Nat.pow_succ] at h ⊢
    omega
  | c :: t, m + 1 => by
    have h1 := gen_len t (m + 1)
    have h2 := gen_len t m
    have h3 := gen_len (c :: t) m
    have e1 : t.length + 1 + m = t.length + m + 1 := by omega
    have e2 : t.length + 1 + (m + 1) = t.length + m + 1 + 1 := by omega
    rw [gen]
    simp only [List.length_append, ins_len', bef_len, List.length_cons, e1, e2, ← Nat.add_assoc, Nat.pow_succ] at h1 h2 h3 ⊢
    split <;> simp only [bef_len, List.length_nil] <;> omega
termination_by s m => s.length + m
theorem gen_pos : ∀ (s : List UInt8) (m : Nat), 0 < (gen s m).length
  | [], 0 => by rw [gen]; simp
  | [], m + 1 => by rw [gen]; simp
  | c :: t, 0 => by rw [gen, bef_len]; exact gen_pos t 0
  | c :: t, m + 1 => by
    have := gen_pos t (m + 1)
    rw [gen, List.length_append, List.length_append, bef_len]; omega
theorem bef_el {x : Lnk} {l : List (List Lnk)} {m : Nat} (h : ∀ c ∈ l, c.length ≤ m) : ∀ c ∈ bef x l, c.length ≤ m + 1 := by
  intro c hc
  obtain ⟨d, hd, rfl⟩ := List.mem_map.mp hc
  have := h d hd
  simp; omega
theorem gen_el : ∀ (s : List UInt8) (m : Nat), ∀ c ∈ gen s m, c.length ≤ s.length + m
  | [], 0 => by rw [gen]; simp
  | [], m + 1 => by
    have h := bef_el (x := (0, 116)) (gen_el [] m)
    have h2 := bef_el (x := (0, 105)) (gen_el [] m)
    rw [gen]
    intro c hc
    simp only [ins, List.mem_append, List.mem_singleton, List.length_nil] at *
    rcases hc with rfl | hc | hc
    · simp
    · have := h c hc; omega
    · have := h2 c hc; omega
  | a :: t, 0 => by
    have h := bef_el (x := (a, a)) (gen_el t 0)
    rw [gen]
    intro c hc
    have := h c hc
    simp only [List.length_cons]; omega
  | a :: t, m + 1 => by
    have h1 := bef_el (x := (a, a)) (gen_el t (m + 1))
    have h2 := bef_el (x := (a, 0)) (gen_el t m)
    have h3 := bef_el (x := (a, swapV a)) (gen_el t m)
    have h4 := bef_el (x := (0, 116)) (gen_el (a :: t) m)
    have h5 := bef_el (x := (0, 105)) (gen_el (a :: t) m)
    rw [gen]
    intro c hc
    simp only [ins, List.mem_append, List.length_cons] at *
    rcases hc with (hc | hc | hc) | hc | hc
    · have := h1 c hc; omega
    · have := h2 c hc; omega
    · split at hc
      · have := h3 c hc; omega
      · cases hc
    · have := h4 c hc; omega
    · have := h5 c hc; omega
termination_by s m => s.length + m
/-! ### What becomes of the links' block -/
def go1 (x : Lnk) (f : Nat → List AV → List AV) (L : Nat) (c : List AV) : List AV := f (L + 1) (c.take (L * 2) ++ Dat.row x)
def gst : List UInt8 → Nat → Nat → List AV → List AV
  | [], 0 => fun _ c => c
  | [], m + 1 => fun L c => go1 (0, 105) (gst [] m) L (go1 (0, 116) (gst [] m) L c)
  | a :: t, 0 => fun L c => go1 (a, a) (gst t 0) L c
  | a :: t, m + 1 => fun L c => go1 (0, 105) (gst (a :: t) m) L (go1 (0, 116) (gst (a :: t) m) L
      (if isObs a then go1 (a, swapV a) (gst t m) L (go1 (a, 0) (gst t m) L (go1 (a, a) (gst t (m + 1)) L c)) else go1 (a, 0) (gst t m) L (go1 (a, a) (gst t (m + 1)) L c)))
termination_by s m => s.length + m
def vcn : List UInt8 → Nat → Nat
  | [], 0 => 0
  | [], m + 1 => (1 + vcn [] m) + (1 + vcn [] m)
  | a :: t, 0 => 1 + vcn t 0
  | a :: t, m + 1 => (1 + vcn t (m + 1)) + (1 + vcn t m) + (if isObs a then 1 + vcn t m else 0) + (1 + vcn (a :: t) m) + (1 + vcn (a :: t) m)
termination_by s m => s.length + m
/-- A function that leaves the first links alone. -/
def keeps (f : Nat → List AV → List AV) : Prop := ∀ L c, L * 2 ≤ c.length → (f L c).take (L * 2) = c.take (L * 2) ∧ L * 2 ≤ (f L c).length
theorem go1_keeps {x : Lnk} {f : Nat → List AV → List AV} (h : keeps f) : keeps (go1 x f) := by
  intro L c hc
  have hx : (Dat.row x).length = 2 := Dat.rl x
  have h1 := h (L + 1) (c.take (L * 2) ++ Dat.row x) (by rw [List.length_append, List.length_take, hx]; omega)
  unfold go1
  refine ⟨?_, by omega⟩
  have h2 := congrArg (List.take (L * 2)) h1.1
  rw [List.take_take, List.take_take, Nat.min_eq_left (by omega)] at h2
  rw [h2, List.take_append_of_le_length (by rw [List.length_take]; omega), List.take_take, Nat.min_self]
theorem comp_keeps {f g : Nat → List AV → List AV} (hf : keeps f) (hg : keeps g) : keeps (fun L c => f L (g L c)) := fun L c hc => by
  obtain ⟨h1, h2⟩ := hg L c hc
  obtain ⟨h3, h4⟩ := hf L _ h2
  exact ⟨h3.trans h1, h4⟩
theorem gst_keeps : ∀ (s : List UInt8) (m : Nat), keeps (gst s m)
  | [], 0 => by rw [gst]; exact fun L c hc => ⟨rfl, hc⟩
  | [], m + 1 => by rw [gst]; exact comp_keeps (go1_keeps (gst_keeps [] m)) (go1_keeps (gst_keeps [] m))
  | a :: t, 0 => by rw [gst]; exact go1_keeps (gst_keeps t 0)
  | a :: t, m + 1 => by
    rw [gst]
    have h1 := go1_keeps (x := (a, a)) (gst_keeps t (m + 1))
    have h2 := gst_keeps t m
    have h3 := gst_keeps (a :: t) m
    split
    · exact comp_keeps (go1_keeps h3) (comp_keeps (go1_keeps h3) (comp_keeps (go1_keeps h2) (comp_keeps (go1_keeps h2) h1)))
    · exact comp_keeps (go1_keeps h3) (comp_keeps (go1_keeps h3) (comp_keeps (go1_keeps h2) h1))
termination_by s m => s.length + m
end Go.G01
end
section
namespace Go.G02
open Go.Ab Siz Go.Lib01 Go.Lib03 Go.M01 Go.M02 Go.N02 Go.G01
set_option linter.unusedVariables false

def bfr (s : List UInt8) (i : Nat) : UInt8 := if 0 < i then s.getD (i - 1) 0 else 0
abbrev H3 := UInt8 → UInt8 → UInt8 → Bool
/-- How often something holds of a sound and its neighbours. -/
def cpt (h : H3) (s : List UInt8) : Nat → Nat
  | 0 => 0
  | k + 1 => cpt h s k + (if h (bfr s k) (s.getD k 0) (s.getD (k + 1) 0) then 1 else 0)
def pls (h : H3) (s : List UInt8) : Nat := if isForm s then cpt h s s.length else 0
theorem cpt_le (h : H3) (s : List UInt8) : ∀ k, cpt h s k ≤ k
  | 0 => Nat.le_refl _
  | k + 1 => by have := cpt_le h s k; unfold cpt; split <;> omega
theorem cpt_congr {h h' : H3} {s : List UInt8} {m : Nat} (e : ∀ i, i < m → h (bfr s i) (s.getD i 0) (s.getD (i + 1) 0) = h' (bfr s i) (s.getD i 0) (s.getD (i + 1) 0)) : ∀ k, k ≤ m → cpt h s k = cpt h' s k
  | 0, _ => rfl
  | k + 1, hk => by unfold cpt; rw [cpt_congr e k (by omega), e k (by omega)]
theorem form_snd {s : List UInt8} (h : isForm s = true) {i : Nat} (hi : i < s.length) : isSnd (s.getD i 0) = true := by
  simp only [isForm, Bool.and_eq_true, List.all_eq_true] at h
  have := h.1 s[i] (List.getElem_mem hi)
  rwa [List.getD_eq_getElem?_getD, List.getElem?_eq_getElem hi]

/-- The links of which something holds. -/
def cln (h : Lnk → Bool) (c : List Lnk) : Nat → Nat
  | 0 => 0
  | k + 1 => cln h c k + (if h (c.getD k default) then 1 else 0)
def lks (h : Lnk → Bool) (c : List Lnk) : Nat := if isCand c then cln h c c.length else 0
theorem cln_le (h : Lnk → Bool) (c : List Lnk) : ∀ k, cln h c k ≤ k
  | 0 => Nat.le_refl _
  | k + 1 => by have := cln_le h c k; unfold cln; split <;> omega

/-! ### Breaks -/
def kept (x : Lnk) : Bool := x.1 != 0 && x.2 != 0
def stp (q : Nat × Nat × Bool) (x : Lnk) : Nat × Nat × Bool := if kept x then (q.1 + q.2.1, 0, true) else if q.2.2 then (q.1, q.2.1 + 1, true) else q
def bst (c : List Lnk) : Nat → Nat × Nat × Bool
  | 0 => (0, 0, false)
  | i + 1 => stp (bst c i) (c.getD i default)
def fst2 (c : List Lnk) : Nat → Int × Int
  | 0 => (-1, -1)
  | i + 1 => if kept (c.getD i default) then (if (fst2 c i).1 < 0 then (i : Int) else (fst2 c i).1, (i : Int)) else fst2 c i
def cnk (c : List Lnk) : Nat → Nat
  | 0 => 0
  | i + 1 => cnk c i + (if kept (c.getD i default) then 0 else 1)
def brk (c : List Lnk) : Nat := if isCand c then (bst c c.length).1 else 0
theorem brk_inv (c : List Lnk) : ∀ i, (bst c i = (0, 0, false) ∧ fst2 c i = (-1, -1)) ∨ ((bst c i).2.2 = true ∧ 0 ≤ (fst2 c i).1 ∧ (fst2 c i).1 ≤ (fst2 c i).2 ∧ (fst2 c i).2 < i ∧
    (bst c i).1 + cnk c (fst2 c i).1.toNat = cnk c (fst2 c i).2.toNat ∧ (bst c i).2.1 + cnk c (fst2 c i).2.toNat = cnk c i)
  | 0 => .inl ⟨rfl, rfl⟩
  | i + 1 => by
    have ih := brk_inv c i
    by_cases hk : kept (c.getD i default) = true
    · right
      have e1 : bst c (i + 1) = ((bst c i).1 + (bst c i).2.1, 0, true) := by simp only [bst, stp, hk, if_true]
      have e2 : fst2 c (i + 1) = (if (fst2 c i).1 < 0 then (i : Int) else (fst2 c i).1, (i : Int)) := by simp only [fst2, hk, if_true]
      have e3 : cnk c (i + 1) = cnk c i := by simp only [cnk, hk, if_true, Nat.add_zero]
      rw [e1, e2, e3]
      rcases ih with ⟨q1, q2⟩ | ⟨q1, q2, q3, q4, q5, q6⟩
      · rw [q1, q2]
        simp only [show ((-1 : Int) < 0) = True by simp, if_true, Int.toNat_natCast]
        exact ⟨trivial, by omega, by omega, by omega, by omega, by omega⟩
      · rw [if_neg (by omega)]
        simp only [Int.toNat_natCast]
        exact ⟨trivial, q2, by omega, by omega, by omega, by omega⟩
    · have e2 : fst2 c (i + 1) = fst2 c i := by simp only [fst2, if_neg hk]
      have e3 : cnk c (i + 1) = cnk c i + 1 := by simp only [cnk, if_neg hk]
      rw [e2, e3]
      rcases ih with ⟨q1, q2⟩ | ⟨q1, q2, q3, q4, q5, q6⟩
      · left
        refine ⟨?_, q2⟩
        simp only [bst, stp, if_neg hk, q1]; rfl
      · right
        have e1 : bst c (i + 1) = ((bst c i).1, (bst c i).2.1 + 1, true) := by simp only [bst, stp, if_neg hk, q1, if_true]
        rw [e1]
        exact ⟨rfl, q2, q3, by omega, q5, by simp only []; omega⟩

/-! ### Marks compared -/
def cmpG (a b : List Int) : List Int → Int
  | [] => 0
  | k :: r => if a.getD k.toNat default < b.getD k.toNat default then -1 else if b.getD k.toNat default < a.getD k.toNat default then 1 else cmpG a b r
def cmpM (a b r : List Int) : Int := if isRnk r a.length = true ∧ a.length = b.length then cmpG a b r else 0
theorem cmpG_drop {a b r : List Int} {i : Nat} (h : i < r.length) : cmpG a b (r.drop i) = if a.getD (r.getD i default).toNat default < b.getD (r.getD i default).toNat default then -1 else if b.getD (r.getD i default).toNat default < a.getD (r.getD i default).toNat default then 1 else cmpG a b (r.drop (i + 1)) := by
  rw [List.drop_eq_getElem_cons h, getD_at h]; rfl
/-- The best one, by what compares. -/
def bestL (lt : List Lnk → List Lnk → Bool) : List (List Lnk) → List Lnk → List Lnk
  | [], b => b
  | c :: l, b => bestL lt l (if lt c b then c else b)
theorem bestL_drop {lt : List Lnk → List Lnk → Bool} {l : List (List Lnk)} {b : List Lnk} {i : Nat} (h : i < l.length) : bestL lt (l.drop i) b = bestL lt (l.drop (i + 1)) (if lt (l.getD i default) b then l.getD i default else b) := by
  rw [List.drop_eq_getElem_cons h, getD_at h]; rfl
theorem bestL_mem {lt : List Lnk → List Lnk → Bool} : ∀ (l : List (List Lnk)) (b : List Lnk), bestL lt l b = b ∨ bestL lt l b ∈ l
  | [], b => .inl rfl
  | c :: l, b => by
    unfold bestL
    rcases bestL_mem (lt := lt) l (if lt c b then c else b) with h | h
    · rw [h]
      split
      · exact .inr (List.mem_cons_self ..)
      · exact .inl rfl
    · exact .inr (List.mem_cons_of_mem _ h)
end Go.G02
end
section
namespace Go.G03
open Go.Ab Siz Go.Lib01 Go.Lib03 Go.M01 Go.M02 Go.N02 Go.G01 Go.G02
set_option linter.unusedVariables false
set_option linter.unusedSimpArgs false
set_option maxRecDepth 2000
def O_cloneL (P : Program) (k : Nat) : Prop := ∀ c : List Lnk, c.length ≤ 4294967295 → RunsO P k [.sl (enc c)] (.sl (enc c))
/-- impl.Link] -/
def slices_Clone_impl_Link_impl_Link.x : XCode :=
  (.seq
    (.reg [⟨(some 2), .mv, [.k (.nilsl)], none⟩] [0])
    (.seq
      (.seq
        (.reg [⟨(some 3), .mv, [.t 0], none⟩,
          ⟨(some 4), .eqNil, [.t 3, .k (.nilsl)], none⟩] [0, 4])
        (.cond (.t 4)
          (.seq
            (.reg [⟨(some 2), .mv, [.k (.nilsl)], none⟩] [2])
            .ret)
          .skip))
      (.seq
        (.reg [⟨(some 5), (.bsl 1 2), [], none⟩,
          ⟨(some 6), .mv, [.t 0], none⟩,
          ⟨(some 7), (.app 2 2), [.t 5, .t 6], none⟩,
          ⟨(some 2), .mv, [.t 7], none⟩] [2])
        .ret)))
def slices_Clone_impl_Link_impl_Link.F : Cfg := ⟨fun d => if d = 5 then 1 else 0, fun r => match r with | 0 => [0] | 1 => [0, 4] | 2 => [2] | 3 => [2] | _ => []⟩
def slices_Clone_impl_Link_impl_Link.X : FX := ⟨8, [.tmp 2], slices_Clone_impl_Link_impl_Link.F, slices_Clone_impl_Link_impl_Link.x⟩

theorem slices_Clone_impl_Link_impl_Link.ok {P : Program} {k : Nat} (hk : Has P k (slices_Clone_impl_Link_impl_Link.X)) : O_cloneL P k := by
  intro c hc n H
  refine S.ofX hk rfl fun hB fn hr => ?_
  unfold slices_Clone_impl_Link_impl_Link.x
  repeat' (first
    | ((with_reducible refine S.go ?_); first | refine S.seq ?_ | refine S.skip ?_ | refine S.block ?_ | refine S.inBlock ?_ | refine S.exit rfl ?_ | refine S.regN ?_ | refine S.reg ?_ | refine S.drw hk.mo (by kernel_rfl) ?_ | (refine S.cond rfl (fun hc => ?_) (fun hc => ?_) <;> try simp only [HC] at hc) | refine S.retH hr rfl ?_ | refine S.finH hr rfl ?_ | (refine S.retK hr ?_; refine TRdt ?_) | fail)
    | ((first | with_reducible refine Ns.go ?_ | with_reducible refine XOs.go ?_ | with_reducible refine XDs.go ?_ | with_reducible refine OK.go ?_); (first | refine TTdt ?_ | (apply Ns.sc ⟨rfl, rfl⟩ rfl; intro hg) | (refine OK.tr ?_; refine TTdt ?_)); (try simp only [HC] at hg))
    | with_reducible exact rfl | exact ⟨rfl, rfl, rfl⟩
    | (with_reducible refine And.intro ?_ (fun (he : enc _ = []) => ?_))
    | ((with_reducible refine Gd.go ?_); refine Gd.on (fun hg => ?_) (fun hg => ?_) <;> refine TGdt ?_ <;> (try simp only [HC] at hg))
    | ((with_reducible refine Fin.go ?_); first | (refine Fin.p ?_; first | exact FT | (try refine TTdt ?_; try simp only [LF])) | refine Fin.a0 ?_ | refine Fin.a ?_ | refine Fin.ni ?_ | refine Fin.v ?_ ?_ | refine Fin.r ?_ ?_ | exact Fin.th | (refine Fin.t ?_; try simp only [AV.sl.injEq]))
    | (refine And.go ?_; refine AndI ?_)
    | fail)
  all_goals (try clear hr hk hB)
  all_goals first | omega | (cases hc; done) | (cases c with | nil => rfl | cons a l => exact absurd ‹enc _ = []› (by simp [enc]))
/-- The boxes of generate: the links, what has come, the function itself. -/
def ctx (b kr : Nat) (s : List UInt8) (out : List (List Lnk)) (L ver : Nat) (cells : List AV) (R : Heap) : Heap :=
  (b + 4, .own [.fn kr [.ptr (b + 3) 0, .ptr (b + 4) 0, .fptr [.str s], .ptr (b + 2) 0]]) :: (b + 3, .own [.vec (b + 1) ver 2 0 L]) :: (b + 2, .own [.acc b 1 (enc out)]) :: (b + 1, .vob ver 2 cells) :: (b, .tok 1 out.length) :: R
theorem enc_appLL (l : List (List Lnk)) (a : List Lnk) : enc l ++ [[AV.sl (enc a)]] = enc (l ++ [a]) := by rw [enc_snoc]; rfl
theorem TTg3 {A B : Prop} (hb : B) (h : B → A := by (intro hb; simp (disch := first | omega | decide | rfl) only [enc_appLL, row_ii, row_ss, row_ll, row_bb, eqLnk, stc5, stc6, stc7, stc8, stc9, tkl5, tkl6, tkl7, tkl8, tkl9, tkl10, Z, ZH, List.set_cons_zero, List.set_cons_succ, ↓reduceIte, Nat.reduceEqDiff, Nat.reduceBEq, Nat.reduceAdd, reduceCtorEq, UInt8.reduceOfNat]; exact hb)) : A := h hb
theorem TRg3 {A B : Prop} (hb : B) (h : B → A := by (intro hb; simp (disch := first | omega | decide | rfl) only [ZR, enc_appLL, row_ii, row_ss, row_ll, row_bb, eqLnk, stc5, stc6, stc7, stc8, stc9, tkl5, tkl6, tkl7, tkl8, tkl9, tkl10, Z, ZH, List.set_cons_zero, List.set_cons_succ, ↓reduceIte, Nat.reduceEqDiff, Nat.reduceBEq, Nat.reduceAdd, reduceCtorEq, UInt8.reduceOfNat]; exact hb)) : A := h hb
theorem TGg3 {A B : Prop} (hb : B) (h : B → A := by (intro hb; simp (disch := first | omega | decide | rfl) only [hg, enc_appLL, row_ii, row_ss, row_ll, row_bb, eqLnk, stc5, stc6, stc7, stc8, stc9, tkl5, tkl6, tkl7, tkl8, tkl9, tkl10, Z, ZH, List.set_cons_zero, List.set_cons_succ, ↓reduceIte, Nat.reduceEqDiff, Nat.reduceBEq, Nat.reduceAdd, reduceCtorEq, UInt8.reduceOfNat]; exact hb)) : A := h hb
def Good (lk : List Lnk) (cells : List AV) : Prop := cells.take (lk.length * 2) = (enc lk).flatten ∧ lk.length * 2 ≤ cells.length
theorem good_go1 {lk : List Lnk} {cells : List AV} {x : Lnk} {s : List UInt8} {m : Nat} (h : Good lk cells) : Good lk (go1 x (gst s m) lk.length cells) := by
  obtain ⟨h1, h2⟩ := go1_keeps (x := x) (gst_keeps s m) _ _ h.2
  exact ⟨h1.trans h.1, h2⟩
def RestOK (P : Program) (kr b : Nat) (s : List UInt8) (R : Heap) (i m : Nat) : Prop := ∀ (n : Nat) (out : List (List Lnk)) (lk : List Lnk) (ver : Nat) (cells : List AV), Good lk cells → lk.length + (s.length - i) + m ≤ 1000 → out.length + 5 ^ (s.length - i + m) ≤ 1000000000 →
  Runs P kr [.int .i64 (i : Int), .int .i64 (m : Int), .ptr (b + 3) 0, .ptr (b + 4) 0, .fptr [.str s], .ptr (b + 2) 0] n (ctx b kr s out lk.length ver cells R)
    (fun v n' H' => v = .tup [] ∧ n' = n ∧ H' = ctx b kr s (out ++ (gen (s.drop i) m).map (lk ++ ·)) lk.length (ver + vcn (s.drop i) m) (gst (s.drop i) m lk.length cells) R)
def C_go1 (P : Program) (k : Nat) : Prop := ∀ (kr b : Nat) (s : List UInt8) (R : Heap) (j m : Nat) (ji mi : Int), RestOK P kr b s R j m → ji = j → mi = m → ∀ (n : Nat) (x : Lnk) (out : List (List Lnk)) (lk : List Lnk) (ver : Nat) (cells : List AV), Good lk cells →
  lk.length + 1 + (s.length - j) + m ≤ 1000 → out.length + 5 ^ (s.length - j + m) ≤ 1000000000 →
  Runs P k [.agg (Dat.row x), .int .i64 ji, .int .i64 mi, .ptr (b + 3) 0, .ptr (b + 4) 0] n (ctx b kr s out lk.length ver cells R)
    (fun v n' H' => v = .tup [] ∧ n' = n ∧ H' = ctx b kr s (out ++ (bef x (gen (s.drop j) m)).map (lk ++ ·)) lk.length (ver + (1 + vcn (s.drop j) m)) (go1 x (gst (s.drop j) m) lk.length cells) R)
theorem bef_map (lk : List Lnk) (x : Lnk) (G : List (List Lnk)) : (bef x G).map (lk ++ ·) = G.map (fun y => lk ++ [x] ++ y) := by simp [bef, Function.comp_def]
theorem flatL (lk : List Lnk) : (enc lk).flatten.length = lk.length * 2 := enc_flen lk
/-- impl.generate$1$1 -/
def i_generate_1_1.x : XCode :=
  (.seq
    (.reg [⟨(some 5), .boxF, [.t 0], none⟩] [1, 2, 3, 4, 5])
    (.seq
      (.reg [⟨(some 8), (.ld none), [.t 3], none⟩,
        ⟨(some 9), (.ld (some 2)), [.t 5], none⟩,
        ⟨(some 10), (.bsl 0 2), [.t 9], none⟩,
        ⟨(some 11), (.appV 2 2), [.t 8, .t 10], none⟩,
        ⟨none, (.st none), [.t 3, .t 11], none⟩] [1, 2, 3, 4])
      (.seq
        (.reg [⟨(some 12), (.ld none), [.t 4], none⟩,
          ⟨(some 13), .mv, [.t 1], none⟩,
          ⟨(some 14), .mv, [.t 2], none⟩,
          ⟨(some 15), .call, [.t 12, .t 13, .t 14], none⟩] [3])
        (.reg [⟨(some 16), (.ld none), [.t 3], none⟩,
          ⟨(some 17), (.ld none), [.t 3], none⟩,
          ⟨(some 18), .lenL, [.t 17], none⟩,
          ⟨(some 19), (.bin .sub), [.t 18, .k (.int .i64 1)], none⟩,
          ⟨(some 20), (.slL 2 false true), [.t 16, .t 19], none⟩,
          ⟨none, (.st none), [.t 3, .t 20], none⟩] []))))
def i_generate_1_1.F : Cfg := ⟨fun d => if d = 8 then 3 else if d = 11 then 3 else 0, fun r => match r with | 0 => [1, 2, 3, 4, 5] | 1 => [1, 2, 3, 4] | 2 => [3] | 3 => [] | _ => []⟩
def i_generate_1_1.X : FX := ⟨21, [], i_generate_1_1.F, i_generate_1_1.x⟩

theorem i_generate_1_1.ok {P : Program} {k : Nat} (hk : Has P k (i_generate_1_1.X)) : C_go1 P k := by
  intro kr b s R j m ji mi hrest e3 e4 n x out lk ver cells hc hb1 hb2
  subst e3 e4
  obtain ⟨hc, hcl⟩ := hc
  have hc2 : (cells.take (lk.length * 2) ++ Dat.row x).take ((lk ++ [x]).length * 2) = (enc (lk ++ [x])).flatten := by
    rw [hc, enc_snoc, List.flatten_append, List.take_of_length_le]; simp
    have : (Dat.row x).length = 2 := Dat.rl x
    simp only [List.length_append, flatL, this, List.length_cons, List.length_nil]; omega
  have k1 := fun n => hrest n out (lk ++ [x]) (ver + 1) (cells.take (lk.length * 2) ++ Dat.row x) ⟨hc2, by have : (Dat.row x).length = 2 := Dat.rl x; simp only [List.length_append, List.length_take, this, List.length_cons, List.length_nil]; omega⟩ (by simp; omega) hb2
  have e1 : (lk ++ [x]).length = lk.length + 1 := by simp
  simp only [e1] at k1
  unfold ctx at k1 ⊢
  refine S.ofX hk rfl fun hB fn hr => ?_
  unfold i_generate_1_1.x
  repeat' (first
    | ((with_reducible refine S.go ?_); first | refine S.seq ?_ | refine S.skip ?_ | refine S.block ?_ | refine S.inBlock ?_ | refine S.exit rfl ?_ | refine S.regN ?_ | refine S.reg ?_ | refine S.drw hk.mo (by kernel_rfl) ?_ | (refine S.cond rfl (fun hc => ?_) (fun hc => ?_) <;> try simp only [HC] at hc) | refine S.retH hr rfl ?_ | refine S.finH hr rfl ?_ | (refine S.retK hr ?_; refine TRg3 ?_) | fail)
    | ((first | with_reducible refine Ns.go ?_ | with_reducible refine XOs.go ?_ | with_reducible refine XDs.go ?_ | with_reducible refine OK.go ?_); (first | refine TTg3 ?_ | (apply Ns.sc ⟨rfl, rfl⟩ rfl; intro hg) | (refine OK.tr ?_; refine TTg3 ?_)); (try simp only [HC] at hg))
    | with_reducible exact rfl | exact ⟨rfl, rfl, rfl⟩
    | (refine Runs.det (k1 _) ?_; try refine TTg3 ?_)
    | ((with_reducible refine Gd.go ?_); refine Gd.on (fun hg => ?_) (fun hg => ?_) <;> refine TGg3 ?_ <;> (try simp only [HC] at hg))
    | ((with_reducible refine Fin.go ?_); first | (refine Fin.p ?_; first | exact FT | (try refine TTg3 ?_; try simp only [LF])) | refine Fin.a0 ?_ | refine Fin.a ?_ | refine Fin.ni ?_ | refine Fin.v ?_ ?_ | refine Fin.r ?_ ?_ | exact Fin.th | (refine Fin.t ?_; try simp only [AV.sl.injEq]))
    | (refine And.go ?_; refine AndI ?_)
    | fail)
  all_goals (try clear hr hk hB)
  refine Fin.same ⟨rfl, rfl, ?_⟩
  have e2 : (((lk.length + 1 : Nat) : Int) - 1 - 0).toNat = lk.length := by omega
  rw [bef_map, ← Nat.add_assoc ver 1, e2]
  rfl
theorem ctx_tree {b ver : Nat} {lk : List Lnk} {cells : List AV} (h : cells.take (lk.length * 2) = (enc lk).flatten) : Tree true [(b + 1, .vob ver 2 cells)] (.sl (enc lk)) (.vec (b + 1) ver 2 0 lk.length) := by
  have t : Tree true [(b + 1, .vob ver 2 cells)] (.sl (enc lk)) (.vec (b + 1) ver 2 0 (enc lk).length) := .vec rfl enc_row (by
    rw [enc_len, h]; exact Trees.leaves (enc_simple fun _ => rfl))
  rwa [enc_len] at t
theorem good0 : Good [] [] := ⟨rfl, Nat.le_refl _⟩
theorem Xd.call1 {P : Program} {n : Nat} {H : Heap} {f : FuncId} {cap args args' : List AV} {r : AV} {K : AV → Nat → Heap → Prop} {t : Tag K} (h : RunsO P f args' r) (hb : Lens H (args ++ cap) args') (hz : belows 0 args' = true) (hk : K r n H) : Xd P 1 .call (.fn f cap :: args) n H K t :=
  ⟨r, n, H, ⟨rfl, rfl, fun n => h.lenF (t := Tag.mk) (K := fun v1 n1 H1 => v1 = r ∧ n1 = n ∧ H1 = H) hb hz ⟨rfl, rfl, rfl⟩⟩, hk⟩
theorem RunsO.lenFD {P : Program} {n : Nat} {H : Heap} {f : FuncId} {args args' : List AV} {r : AV} {K : AV → Nat → Heap → Prop} {t : Tag K} (h : RunsO P f args' r) (hb : Lens H args args') (hz : belows 0 args' = true) (hk : K r n H) : RunsD P 2 f args n H K t :=
  ⟨r, n, H, h.lenF (t := Tag.mk) (K := fun v1 n1 H1 => v1 = r ∧ n1 = n ∧ H1 = H) hb hz ⟨rfl, rfl, rfl⟩, hk⟩
def C_rest (P : Program) (k : Nat) : Prop := ∀ (b : Nat) (s : List UInt8) (R : Heap) (i m : Nat), i ≤ s.length → m ≤ 8 → s.length ≤ 8 → RestOK P k b s R i m
/-- impl.generate$1 -/
def i_generate_1.x (c_i_generate_1_1 c_i_SwapVoice c_slices_Clone_impl_Link_impl_Link : Nat) : XCode :=
  (.seq
    (.reg [⟨(some 11), (.mkfn c_i_generate_1_1), [.t 2, .t 3], none⟩,
      ⟨(some 8), .mv, [.t 11], none⟩] [0, 1, 2, 4, 5, 8])
    (.seq
      (.seq
        (.reg [⟨(some 12), .mv, [.t 0], none⟩,
          ⟨(some 13), (.ld none), [.t 4], none⟩,
          ⟨(some 14), .lenS, [.t 13], none⟩,
          ⟨(some 15), (.bin .lss), [.t 12, .t 14], none⟩] [0, 1, 2, 4, 5, 8, 15])
        (.cond (.t 15)
          (.seq
            (.drw [(⟨(some 16), .mv, [.t 8], none⟩, []),
              (⟨(some 17), (.ld none), [.t 4], none⟩, []),
              (⟨(some 18), .mv, [.t 0], none⟩, []),
              (⟨(some 19), .idxS, [.t 17, .t 18], none⟩, [1, 2]),
              (⟨(some 20), (.ld none), [.t 4], none⟩, []),
              (⟨(some 21), .mv, [.t 0], none⟩, []),
              (⟨(some 22), .idxS, [.t 20, .t 21], none⟩, [4, 5]),
              (⟨(some 23), (.build [.int .u8 0, .int .u8 0] [(0, 1), (1, 1)]), [.t 19, .t 22], none⟩, [3, 6]),
              (⟨(some 24), .mv, [.t 0], none⟩, []),
              (⟨(some 25), (.bin .add), [.t 24, .k (.int .i64 1)], none⟩, [8]),
              (⟨(some 26), .mv, [.t 1], none⟩, []),
              (⟨(some 27), .call, [.t 16, .t 23, .t 25, .t 26], none⟩, [0, 7, 9, 10])] [0, 1, 4, 8] [0, 0, 0, 0, 0, 0, 0, 0, 0, 0, 0, 2])
            (.seq
              (.reg [⟨(some 28), .mv, [.t 1], none⟩,
                ⟨(some 29), (.bin .gtr), [.t 28, .k (.int .i64 0)], none⟩] [0, 1, 4, 8, 29])
              (.cond (.t 29)
                (.seq
                  (.reg [⟨(some 30), .mv, [.t 8], none⟩,
                    ⟨(some 31), (.ld none), [.t 4], none⟩,
                    ⟨(some 32), .mv, [.t 0], none⟩,
                    ⟨(some 33), .idxS, [.t 31, .t 32], none⟩,
                    ⟨(some 34), (.build [.int .u8 0, .int .u8 0] [(0, 1), (1, 1)]), [.t 33, .k (.int .u8 0)], none⟩,
                    ⟨(some 35), .mv, [.t 0], none⟩,
                    ⟨(some 36), (.bin .add), [.t 35, .k (.int .i64 1)], none⟩,
                    ⟨(some 37), .mv, [.t 1], none⟩,
                    ⟨(some 38), (.bin .sub), [.t 37, .k (.int .i64 1)], none⟩,
                    ⟨(some 39), .call, [.t 30, .t 34, .t 36, .t 38], none⟩] [0, 1, 4, 8])
                  (.seq
                    (.reg [⟨(some 41), (.ld none), [.t 4], none⟩,
                      ⟨(some 42), .mv, [.t 0], none⟩,
                      ⟨(some 43), .idxS, [.t 41, .t 42], none⟩,
                      ⟨(some 44), .call, [.k (.fn c_i_SwapVoice []), .t 43], none⟩,
                      ⟨(some 40), .mv, [.t 44], none⟩,
                      ⟨(some 45), (.ext 0), [.t 40], none⟩,
                      ⟨(some 46), (.ext 1), [.t 40], none⟩,
                      ⟨(some 9), .mv, [.t 45], none⟩,
                      ⟨(some 10), .mv, [.t 46], none⟩] [0, 1, 4, 8, 9, 10])
                    (.seq
                      (.reg [⟨(some 47), .mv, [.t 10], none⟩] [0, 1, 4, 8, 9, 47])
                      (.cond (.t 47)
                        (.reg [⟨(some 48), .mv, [.t 8], none⟩,
                          ⟨(some 49), (.ld none), [.t 4], none⟩,
                          ⟨(some 50), .mv, [.t 0], none⟩,
                          ⟨(some 51), .idxS, [.t 49, .t 50], none⟩,
                          ⟨(some 52), .mv, [.t 9], none⟩,
                          ⟨(some 53), (.build [.int .u8 0, .int .u8 0] [(0, 1), (1, 1)]), [.t 51, .t 52], none⟩,
                          ⟨(some 54), .mv, [.t 0], none⟩,
                          ⟨(some 55), (.bin .add), [.t 54, .k (.int .i64 1)], none⟩,
                          ⟨(some 56), .mv, [.t 1], none⟩,
                          ⟨(some 57), (.bin .sub), [.t 56, .k (.int .i64 1)], none⟩,
                          ⟨(some 58), .call, [.t 48, .t 53, .t 55, .t 57], none⟩] [0, 1, 8])
                        .skip))))
                .skip)))
          (.drw [(⟨(some 59), (.ld none), [.t 5], none⟩, []),
            (⟨(some 60), (.ld none), [.t 2], none⟩, []),
            (⟨(some 61), .call, [.k (.fn c_slices_Clone_impl_Link_impl_Link []), .t 60], none⟩, [1]),
            (⟨(some 62), (.build [.nilsl] [(0, 1)]), [.t 61], none⟩, [2]),
            (⟨(some 63), (.bsl 0 1), [.t 62], none⟩, [3]),
            (⟨(some 64), (.app 1 24), [.t 59, .t 63], none⟩, [0, 4, 2]),
            (⟨none, (.st none), [.t 5, .t 64], none⟩, [5, 5, 0, 1, 2, 3, 4, 5])] [0, 1, 8] [1, 1, 1, 0, 0, 2, 2])))
      (.seq
        (.reg [⟨(some 65), .mv, [.t 1], none⟩,
          ⟨(some 66), (.bin .gtr), [.t 65, .k (.int .i64 0)], none⟩] [0, 1, 8, 66])
        (.cond (.t 66)
          (.seq
            (.reg [⟨(some 67), .mv, [.t 8], none⟩,
              ⟨(some 68), (.build [.int .u8 0, .int .u8 0] [(0, 1), (1, 1)]), [.k (.int .u8 0), .k (.int .u8 116)], none⟩,
              ⟨(some 69), .mv, [.t 0], none⟩,
              ⟨(some 70), .mv, [.t 1], none⟩,
              ⟨(some 71), (.bin .sub), [.t 70, .k (.int .i64 1)], none⟩,
              ⟨(some 72), .call, [.t 67, .t 68, .t 69, .t 71], none⟩] [0, 1, 8])
            (.reg [⟨(some 73), .mv, [.t 8], none⟩,
              ⟨(some 74), (.build [.int .u8 0, .int .u8 0] [(0, 1), (1, 1)]), [.k (.int .u8 0), .k (.int .u8 105)], none⟩,
              ⟨(some 75), .mv, [.t 0], none⟩,
              ⟨(some 76), .mv, [.t 1], none⟩,
              ⟨(some 77), (.bin .sub), [.t 76, .k (.int .i64 1)], none⟩,
              ⟨(some 78), .call, [.t 73, .t 74, .t 75, .t 77], none⟩] []))
          .skip))))
def i_generate_1.F : Cfg := ⟨fun _ => 0, fun r => match r with | 0 => [0, 1, 2, 4, 5, 8] | 1 => [0, 1, 2, 4, 5, 8, 15] | 2 => [0, 1, 4, 8] | 3 => [0, 1, 4, 8, 29] | 4 => [0, 1, 4, 8] | 5 => [0, 1, 4, 8, 9, 10] | 6 => [0, 1, 4, 8, 9, 47] | 7 => [0, 1, 8] | 8 => [0, 1, 8] | 9 => [0, 1, 8, 66] | 10 => [0, 1, 8] | 11 => [] | 1000002 => [0, 0, 0, 0, 0, 0, 0, 0, 0, 0, 0, 2] | 1000008 => [1, 1, 1, 0, 0, 2, 2] | _ => []⟩
def i_generate_1.X (c_i_generate_1_1 c_i_SwapVoice c_slices_Clone_impl_Link_impl_Link : Nat) : FX := ⟨79, [], i_generate_1.F, i_generate_1.x c_i_generate_1_1 c_i_SwapVoice c_slices_Clone_impl_Link_impl_Link⟩

set_option maxHeartbeats 2000000 in
theorem i_generate_1.ok {P : Program} {k c_i_generate_1_1 c_i_SwapVoice c_slices_Clone_impl_Link_impl_Link : Nat} (hk : Has P k (i_generate_1.X c_i_generate_1_1 c_i_SwapVoice c_slices_Clone_impl_Link_impl_Link)) (h1 : C_go1 P c_i_generate_1_1) (h2 : C_SwapVoice P c_i_SwapVoice) (h3 : O_cloneL P c_slices_Clone_impl_Link_impl_Link) : C_rest P k := by
  intro b s R
  suffices key : ∀ (q i m : Nat), s.length - i + m = q → i ≤ s.length → m ≤ 8 → s.length ≤ 8 → RestOK P k b s R i m from fun i m hi hm hs => key _ i m rfl hi hm hs
  intro q
  induction q using Nat.strongRecOn with
  | ind q ih =>
  intro i m hq hi hm hs n out lk ver cells hcc hb1 hb2
  have hg : ∀ j m', s.length - j + m' < q → j ≤ s.length → m' ≤ 8 → RestOK P k b s R j m' := fun j m' q1 q2 q3 => ih _ q1 j m' rfl q2 q3 hs
  clear ih
  have hp0 : 0 < 5 ^ (s.length - i + m) := Nat.pow_pos (by decide)
  have hlk := h3 lk (by omega)
  by_cases hlt : i < s.length
  · have hd : s.drop i = s.getD i 0 :: s.drop (i + 1) := by
      rw [List.drop_eq_getElem_cons hlt, List.getD_eq_getElem?_getD, List.getElem?_eq_getElem hlt]; rfl
    have hdl : (s.drop (i + 1)).length = s.length - (i + 1) := List.length_drop
    have hdl2 : (s.drop i).length = s.length - i := List.length_drop
    cases m with
    | zero =>
      have c1 := fun ji mi => h1 k b s R (i + 1) 0 ji mi (hg _ _ (by omega) (by omega) (by omega))
      have p1 : 5 ^ (s.length - i + 0) = 5 * 5 ^ (s.length - (i + 1) + 0) := by
        show 5 ^ (s.length - i + 0) = 5 * 5 ^ (s.length - (i + 1))
        rw [show s.length - i + 0 = s.length - (i + 1) + 1 by omega, Nat.pow_succ, Nat.mul_comm, Nat.add_zero]
      unfold ctx at c1 ⊢
      refine S.ofX hk rfl fun hB fn hr => ?_
      unfold i_generate_1.x
      repeat' (first
        | ((with_reducible refine S.go ?_); first | refine S.seq ?_ | refine S.skip ?_ | refine S.block ?_ | refine S.inBlock ?_ | refine S.exit rfl ?_ | refine S.regN ?_ | refine S.reg ?_ | refine S.drw hk.mo (by kernel_rfl) ?_ | (refine S.cond rfl (fun hc => ?_) (fun hc => ?_) <;> try simp only [HC] at hc) | refine S.retH hr rfl ?_ | refine S.finH hr rfl ?_ | (refine S.retK hr ?_; refine TRg3 ?_) | fail)
        | ((first | with_reducible refine Ns.go ?_ | with_reducible refine XOs.go ?_ | with_reducible refine XDs.go ?_ | with_reducible refine OK.go ?_); (first | refine TTg3 ?_ | (apply Ns.sc ⟨rfl, rfl⟩ rfl; intro hg) | (refine OK.tr ?_; refine TTg3 ?_)); (try simp only [HC] at hg))
        | with_reducible exact rfl | exact ⟨rfl, rfl, rfl⟩
        | (refine Runs.apd (c1 _ _ (by omega) (by omega) _ (s.getD i 0, s.getD i 0) out lk ver cells hcc (by omega) (by omega)) ?_; try refine TTg3 ?_)
        | (exfalso; omega)
        | ((with_reducible refine Gd.go ?_); refine Gd.on (fun hg => ?_) (fun hg => ?_) <;> refine TGg3 ?_ <;> (try simp only [HC] at hg))
        | ((with_reducible refine Fin.go ?_); first | (refine Fin.p ?_; first | exact FT | (try refine TTg3 ?_; try simp only [LF])) | refine Fin.a0 ?_ | refine Fin.a ?_ | refine Fin.ni ?_ | refine Fin.v ?_ ?_ | refine Fin.r ?_ ?_ | exact Fin.th | (refine Fin.t ?_; try simp only [AV.sl.injEq]))
        | (refine And.go ?_; refine AndI ?_)
        | fail)
      all_goals (try clear hr hk hB)
      refine Fin.same ⟨rfl, rfl, ?_⟩
      rw [hd, gen, vcn, gst]
    | succ m =>
      have c1 := fun ji mi => h1 k b s R (i + 1) (m + 1) ji mi (hg _ _ (by omega) (by omega) (by omega))
      have c2 := fun ji mi => h1 k b s R (i + 1) m ji mi (hg _ _ (by omega) (by omega) (by omega))
      have c3 := fun ji mi => h1 k b s R i m ji mi (hg _ _ (by omega) (by omega) (by omega))
      have p1 : 5 ^ (s.length - (i + 1) + (m + 1)) = 5 * 5 ^ (s.length - (i + 1) + m) := by
        rw [show s.length - (i + 1) + (m + 1) = s.length - (i + 1) + m + 1 by omega, Nat.pow_succ, Nat.mul_comm]
      have p2 : 5 ^ (s.length - i + m) = 5 * 5 ^ (s.length - (i + 1) + m) := by
        rw [show s.length - i + m = s.length - (i + 1) + m + 1 by omega, Nat.pow_succ, Nat.mul_comm]
      have p3 : 5 ^ (s.length - i + (m + 1)) = 25 * 5 ^ (s.length - (i + 1) + m) := by
        rw [show s.length - i + (m + 1) = s.length - (i + 1) + m + 1 + 1 by omega, Nat.pow_succ, Nat.pow_succ]; omega
      have g1 := gen_len (s.drop (i + 1)) (m + 1)
      have g2 := gen_len (s.drop (i + 1)) m
      have g3 := gen_len (s.drop i) m
      rw [hdl, p1] at g1
      rw [hdl] at g2
      rw [hdl2, p2] at g3
      rw [p3] at hb2
      unfold ctx at c1 c2 c3 ⊢
      refine S.ofX hk rfl fun hB fn hr => ?_
      unfold i_generate_1.x
      repeat' (first
        | ((with_reducible refine S.go ?_); first | refine S.seq ?_ | refine S.skip ?_ | refine S.block ?_ | refine S.inBlock ?_ | refine S.exit rfl ?_ | refine S.regN ?_ | refine S.reg ?_ | refine S.drw hk.mo (by kernel_rfl) ?_ | (refine S.cond rfl (fun hc => ?_) (fun hc => ?_) <;> try simp only [HC] at hc) | refine S.retH hr rfl ?_ | refine S.finH hr rfl ?_ | (refine S.retK hr ?_; refine TRg3 ?_) | fail)
        | ((first | with_reducible refine Ns.go ?_ | with_reducible refine XOs.go ?_ | with_reducible refine XDs.go ?_ | with_reducible refine OK.go ?_); (first | refine TTg3 ?_ | (apply Ns.sc ⟨rfl, rfl⟩ rfl; intro hg) | (refine OK.tr ?_; refine TTg3 ?_)); (try simp only [HC] at hg))
        | with_reducible exact rfl | exact ⟨rfl, rfl, rfl⟩
        | ((with_reducible refine RunsT.go ?_); first | refine RunsF.apf (h2 _) rfl ?_ | fail)
        | ((with_reducible refine RunsD.go ?_); first | refine RunsF.apd (h2 _) rfl ?_ | fail)
        | (refine Runs.apd (c1 _ _ (by omega) (by omega) _ (s.getD i 0, s.getD i 0) out lk ver cells hcc (by omega) (by rw [p1]; omega)) ?_; try refine TTg3 ?_)
        | (refine Runs.det (c2 _ _ (by omega) (by omega) _ (s.getD i 0, 0) _ lk _ _ (by repeat (first | exact hcc | apply good_go1)) (by omega) (by simp only [List.length_append, List.length_map, bef_len]; omega)) ?_; try refine TTg3 ?_)
        | (refine Runs.det (c2 _ _ (by omega) (by omega) _ (s.getD i 0, swapV (s.getD i 0)) _ lk _ _ (by repeat (first | exact hcc | apply good_go1)) (by omega) (by simp only [List.length_append, List.length_map, bef_len]; omega)) ?_; try refine TTg3 ?_)
        | (refine Runs.det (c3 _ _ (by omega) (by omega) _ (0, 116) _ lk _ _ (by repeat (first | exact hcc | apply good_go1)) (by omega) (by simp only [List.length_append, List.length_map, bef_len, p2]; omega)) ?_; try refine TTg3 ?_)
        | (refine Runs.det (c3 _ _ (by omega) (by omega) _ (0, 105) _ lk _ _ (by repeat (first | exact hcc | apply good_go1)) (by omega) (by simp only [List.length_append, List.length_map, bef_len, p2]; omega)) ?_; try refine TTg3 ?_)
        | (exfalso; omega)
        | ((with_reducible refine Gd.go ?_); refine Gd.on (fun hg => ?_) (fun hg => ?_) <;> refine TGg3 ?_ <;> (try simp only [HC] at hg))
        | ((with_reducible refine Fin.go ?_); first | (refine Fin.p ?_; first | exact FT | (try refine TTg3 ?_; try simp only [LF])) | refine Fin.a0 ?_ | refine Fin.a ?_ | refine Fin.ni ?_ | refine Fin.v ?_ ?_ | refine Fin.r ?_ ?_ | exact Fin.th | (refine Fin.t ?_; try simp only [AV.sl.injEq]))
        | (refine And.go ?_; refine AndI ?_)
        | fail)
      all_goals (try clear hr hk hB)
      · refine Fin.same ⟨rfl, rfl, ?_⟩
        have ho : isObs (s.getD i 0) = true := ‹_›
        rw [hd, gen, vcn, gst]
        simp only [ho, if_true, ins, List.map_append, List.append_assoc, Nat.add_assoc]
      · refine Fin.same ⟨rfl, rfl, ?_⟩
        have ho : isObs (s.getD i 0) = false := ‹_›
        rw [hd, gen, vcn, gst]
        simp only [ho, Bool.false_eq_true, if_false, ins, List.map_append, List.append_assoc, Nat.add_assoc, List.map_nil, List.nil_append, List.append_nil, Nat.zero_add]
  · have hd : s.drop i = [] := List.drop_eq_nil_of_le (by omega)
    have hie : i = s.length := by omega
    have hmem : ∀ p ∈ [(b + 1, HObj.vob ver 2 cells)], p ∈ ctx b k s out lk.length ver cells R := fun p hp => by
      rw [List.mem_singleton] at hp; subst hp; simp [ctx]
    have htr := ctx_tree (b := b) (ver := ver) hcc.1
    cases m with
    | zero =>
      unfold ctx at hmem ⊢
      refine S.ofX hk rfl fun hB fn hr => ?_
      unfold i_generate_1.x
      repeat' (first
        | ((with_reducible refine S.go ?_); first | refine S.seq ?_ | refine S.skip ?_ | refine S.block ?_ | refine S.inBlock ?_ | refine S.exit rfl ?_ | refine S.regN ?_ | refine S.reg ?_ | refine S.drw hk.mo (by kernel_rfl) ?_ | (refine S.cond rfl (fun hc => ?_) (fun hc => ?_) <;> try simp only [HC] at hc) | refine S.retH hr rfl ?_ | refine S.finH hr rfl ?_ | (refine S.retK hr ?_; refine TRg3 ?_) | fail)
        | ((first | with_reducible refine Ns.go ?_ | with_reducible refine XOs.go ?_ | with_reducible refine XDs.go ?_ | with_reducible refine OK.go ?_); (first | refine TTg3 ?_ | (apply Ns.sc ⟨rfl, rfl⟩ rfl; intro hg) | (refine OK.tr ?_; refine TTg3 ?_)); (try simp only [HC] at hg))
        | with_reducible exact rfl | exact ⟨rfl, rfl, rfl⟩
        | (refine Xd.call1 hlk (.cons (.tree htr hmem) .nil) rfl ?_; try refine TTg3 ?_)
        | (exfalso; omega)
        | ((with_reducible refine Gd.go ?_); refine Gd.on (fun hg => ?_) (fun hg => ?_) <;> refine TGg3 ?_ <;> (try simp only [HC] at hg))
        | ((with_reducible refine Fin.go ?_); first | (refine Fin.p ?_; first | exact FT | (try refine TTg3 ?_; try simp only [LF])) | refine Fin.a0 ?_ | refine Fin.a ?_ | refine Fin.ni ?_ | refine Fin.v ?_ ?_ | refine Fin.r ?_ ?_ | exact Fin.th | (refine Fin.t ?_; try simp only [AV.sl.injEq]))
        | (refine And.go ?_; refine AndI ?_)
        | fail)
      all_goals (try clear hr hk hB)
      refine Fin.same ⟨rfl, rfl, ?_⟩
      rw [hd, gen, vcn, gst]
      simp only [List.map_cons, List.map_nil, List.append_nil, Nat.add_zero, enc_appLL, List.length_append, List.length_cons, List.length_nil]
    | succ m =>
      have c3 := fun ji mi => h1 k b s R i m ji mi (hg _ _ (by omega) (by omega) (by omega))
      have p2 : 5 ^ (s.length - i + (m + 1)) = 5 * 5 ^ (s.length - i + m) := by
        rw [show s.length - i + (m + 1) = s.length - i + m + 1 by omega, Nat.pow_succ, Nat.mul_comm]
      have g3 := gen_len (s.drop i) m
      rw [List.length_drop] at g3
      have hp1 : 0 < 5 ^ (s.length - i + m) := Nat.pow_pos (by decide)
      rw [p2] at hb2
      unfold ctx at c3 hmem ⊢
      refine S.ofX hk rfl fun hB fn hr => ?_
      unfold i_generate_1.x
      repeat' (first
        | ((with_reducible refine S.go ?_); first | refine S.seq ?_ | refine S.skip ?_ | refine S.block ?_ | refine S.inBlock ?_ | refine S.exit rfl ?_ | refine S.regN ?_ | refine S.reg ?_ | refine S.drw hk.mo (by kernel_rfl) ?_ | (refine S.cond rfl (fun hc => ?_) (fun hc => ?_) <;> try simp only [HC] at hc) | refine S.retH hr rfl ?_ | refine S.finH hr rfl ?_ | (refine S.retK hr ?_; refine TRg3 ?_) | fail)
        | ((first | with_reducible refine Ns.go ?_ | with_reducible refine XOs.go ?_ | with_reducible refine XDs.go ?_ | with_reducible refine OK.go ?_); (first | refine TTg3 ?_ | (apply Ns.sc ⟨rfl, rfl⟩ rfl; intro hg) | (refine OK.tr ?_; refine TTg3 ?_)); (try simp only [HC] at hg))
        | with_reducible exact rfl | exact ⟨rfl, rfl, rfl⟩
        | (refine Xd.call1 hlk (.cons (.tree htr hmem) .nil) rfl ?_; try refine TTg3 ?_)
        | (rw [show out.length + 1 = (out ++ [lk]).length from (by simp)]; refine Runs.det (c3 _ _ (by omega) (by omega) _ (0, 116) _ lk _ _ (by repeat (first | exact hcc | apply good_go1)) (by omega) (by simp only [List.length_append, List.length_map, bef_len, List.length_cons, List.length_nil]; omega)) ?_; try refine TTg3 ?_)
        | (refine Runs.det (c3 _ _ (by omega) (by omega) _ (0, 105) _ lk _ _ (by repeat (first | exact hcc | apply good_go1)) (by omega) (by simp only [List.length_append, List.length_map, bef_len, List.length_cons, List.length_nil]; omega)) ?_; try refine TTg3 ?_)
        | (exfalso; omega)
        | ((with_reducible refine Gd.go ?_); refine Gd.on (fun hg => ?_) (fun hg => ?_) <;> refine TGg3 ?_ <;> (try simp only [HC] at hg))
        | ((with_reducible refine Fin.go ?_); first | (refine Fin.p ?_; first | exact FT | (try refine TTg3 ?_; try simp only [LF])) | refine Fin.a0 ?_ | refine Fin.a ?_ | refine Fin.ni ?_ | refine Fin.v ?_ ?_ | refine Fin.r ?_ ?_ | exact Fin.th | (refine Fin.t ?_; try simp only [AV.sl.injEq]))
        | (refine And.go ?_; refine AndI ?_)
        | fail)
      all_goals (try clear hr hk hB)
      all_goals skip
      refine Fin.same ⟨rfl, rfl, ?_⟩
      rw [hd, gen, vcn, gst]
      simp only [ins, List.map_append, List.append_assoc, Nat.add_assoc, List.map_cons, List.map_nil, List.append_nil]
def C_generate (P : Program) (k : Nat) : Prop := ∀ (s : List UInt8) (m : Nat), s.length ≤ 8 → m ≤ 4 → RunsF P k [.str s, .int .i64 (m : Int)] (.sl (enc (gen s m)))
/-- impl.generate -/
def i_generate.x (c_i_generate_1 : Nat) : XCode :=
  (.seq
    (.reg [⟨(some 2), .boxF, [.t 0], none⟩,
      ⟨(some 4), .mv, [.k (.nilsl)], none⟩] [1, 2])
    (.seq
      (.reg [⟨(some 8), (.bsl 1 1), [], none⟩,
        ⟨(some 9), (.bsl 3 2), [], none⟩,
        ⟨(some 5), (.alloc [.nilsl]), [], none⟩,
        ⟨(some 6), (.alloc [.nilsl]), [], none⟩,
        ⟨none, (.st none), [.t 5, .t 8], none⟩,
        ⟨none, (.st none), [.t 6, .t 9], none⟩] [1, 2, 5, 6])
      (.seq
        (.reg [⟨(some 7), (.alloc [.junk]), [], none⟩] [1, 2, 5, 6, 7])
        (.seq
          (.reg [⟨(some 10), (.mkfn c_i_generate_1), [.t 6, .t 7, .t 2, .t 5], none⟩,
            ⟨none, (.st none), [.t 7, .t 10], none⟩] [1, 5, 7])
          (.seq
            (.reg [⟨(some 11), (.ld none), [.t 7], none⟩,
              ⟨(some 12), .mv, [.t 1], none⟩,
              ⟨(some 13), .call, [.t 11, .k (.int .i64 0), .t 12], none⟩] [5])
            (.seq
              (.reg [⟨(some 14), (.ld none), [.t 5], none⟩,
                ⟨(some 4), .mv, [.t 14], none⟩] [4])
              .ret))))))
def i_generate.F : Cfg := ⟨fun d => if d = 8 then 1 else if d = 9 then 3 else 0, fun r => match r with | 0 => [1, 2] | 1 => [1, 2, 5, 6] | 2 => [1, 2, 5, 6, 7] | 3 => [1, 5, 7] | 4 => [5] | 5 => [4] | _ => []⟩
def i_generate.X (c_i_generate_1 : Nat) : FX := ⟨15, [.tmp 4], i_generate.F, i_generate.x c_i_generate_1⟩

theorem i_generate.ok {P : Program} {k c_i_generate_1 : Nat} (hk : Has P k (i_generate.X c_i_generate_1)) (h1 : C_rest P c_i_generate_1) : C_generate P k := by
  intro s m hs hm n H
  have k1 := fun R => h1 n s R 0 m (Nat.zero_le _) (by omega) hs
  have hp : 5 ^ (s.length - 0 + m) ≤ 5 ^ 12 := Nat.pow_le_pow_right (by decide) (by omega)
  unfold RestOK ctx at k1
  refine S.ofX hk rfl fun hB fn hr => ?_
  unfold i_generate.x
  repeat' (first
    | ((with_reducible refine S.go ?_); first | refine S.seq ?_ | refine S.skip ?_ | refine S.block ?_ | refine S.inBlock ?_ | refine S.exit rfl ?_ | refine S.regN ?_ | refine S.reg ?_ | refine S.drw hk.mo (by kernel_rfl) ?_ | (refine S.cond rfl (fun hc => ?_) (fun hc => ?_) <;> try simp only [HC] at hc) | refine S.retH hr rfl ?_ | refine S.finH hr rfl ?_ | (refine S.retK hr ?_; refine TRg3 ?_) | fail)
    | ((first | with_reducible refine Ns.go ?_ | with_reducible refine XOs.go ?_ | with_reducible refine XDs.go ?_ | with_reducible refine OK.go ?_); (first | refine TTg3 ?_ | (apply Ns.sc ⟨rfl, rfl⟩ rfl; intro hg) | (refine OK.tr ?_; refine TTg3 ?_)); (try simp only [HC] at hg))
    | with_reducible exact rfl | exact ⟨rfl, rfl, rfl⟩
    | (refine And.intro (by first | decide | (simp [rawOk]; done)) ?_)
    | (refine Runs.det (k1 H _ [] [] 0 [] good0 (by simp; omega) (by simp only [List.length_nil]; omega)) ?_; try refine TTg3 ?_)
    | ((with_reducible refine Gd.go ?_); refine Gd.on (fun hg => ?_) (fun hg => ?_) <;> refine TGg3 ?_ <;> (try simp only [HC] at hg))
    | ((with_reducible refine Fin.go ?_); first | (refine Fin.p ?_; first | exact FT | (try refine TTg3 ?_; try simp only [LF])) | refine Fin.a0 ?_ | refine Fin.a ?_ | refine Fin.ni ?_ | refine Fin.v ?_ ?_ | refine Fin.r ?_ ?_ | exact Fin.th | (refine Fin.t ?_; try simp only [AV.sl.injEq]))
    | (refine And.go ?_; refine AndI ?_)
    | fail)
  all_goals (try clear hr hk hB)
  all_goals simp
end Go.G03
end
section
namespace Go.G04
open Go.Ab Siz Go.Lib01 Go.Lib03 Go.M01 Go.M02 Go.N02 Go.G01 Go.G02 Go.G03
set_option linter.unusedVariables false
set_option linter.unusedSimpArgs false
set_option maxRecDepth 2000
theorem enc_cL (x : Lnk) (c : List Lnk) : [AV.int .u8 (x.1.toNat : Int), AV.int .u8 (x.2.toNat : Int)] :: enc c = enc (x :: c) := rfl
theorem TTg4 {A B : Prop} (hb : B) (h : B → A := by (intro hb; simp (disch := first | omega | decide | rfl) only [enc_cL, enc_appLL, row_ii, row_ss, row_ll, row_bb, eqLnk, stc5, stc6, stc7, stc8, stc9, tkl5, tkl6, tkl7, tkl8, tkl9, tkl10, Z, ZH, List.set_cons_zero, List.set_cons_succ, ↓reduceIte, Nat.reduceEqDiff, Nat.reduceBEq, Nat.reduceAdd, reduceCtorEq, UInt8.reduceOfNat]; exact hb)) : A := h hb
theorem TRg4 {A B : Prop} (hb : B) (h : B → A := by (intro hb; simp (disch := first | omega | decide | rfl) only [ZR, enc_cL, enc_appLL, row_ii, row_ss, row_ll, row_bb, eqLnk, stc5, stc6, stc7, stc8, stc9, tkl5, tkl6, tkl7, tkl8, tkl9, tkl10, Z, ZH, List.set_cons_zero, List.set_cons_succ, ↓reduceIte, Nat.reduceEqDiff, Nat.reduceBEq, Nat.reduceAdd, reduceCtorEq, UInt8.reduceOfNat]; exact hb)) : A := h hb
theorem TGg4 {A B : Prop} (hb : B) (h : B → A := by (intro hb; simp (disch := first | omega | decide | rfl) only [hg, enc_cL, enc_appLL, row_ii, row_ss, row_ll, row_bb, eqLnk, stc5, stc6, stc7, stc8, stc9, tkl5, tkl6, tkl7, tkl8, tkl9, tkl10, Z, ZH, List.set_cons_zero, List.set_cons_succ, ↓reduceIte, Nat.reduceEqDiff, Nat.reduceBEq, Nat.reduceAdd, reduceCtorEq, UInt8.reduceOfNat]; exact hb)) : A := h hb
def genQ (s : List UInt8) : List (List Lnk) := if isForm s = true ∧ s.length ≤ 4 then gen s 2 else []
def oneQ (s : List UInt8) : List (List Lnk) := if isForm s = true ∧ s.length ≤ 7 then gen s 1 else []
def C_gen (f : List UInt8 → List (List Lnk)) (P : Program) (k : Nat) : Prop := ∀ s : List UInt8, s.length ≤ 4294967296 → RunsF P k [.str s] (.sl (enc (f s)))
theorem form_le {s : List UInt8} (h : isForm s = true) : s.length ≤ 8 := by
  simp only [isForm, Bool.and_eq_true, decide_eq_true_eq] at h; exact h.2
/-- impl.Generate -/
def i_Generate.x (c_i_IsForm c_i_generate : Nat) : XCode :=
  (.seq
    (.reg [⟨(some 2), .mv, [.k (.nilsl)], none⟩] [0])
    (.seq
      (.seq
        (.reg (flatNs none (nl [.op (some 3) .mv [.t 0], .op (some 4) .call [.k (.fn c_i_IsForm []), .t 3], .op (some 5) (.un .not) [.t 4], .op (some 6) .mv [.t 5], .sc 6 false (nl [.op (some 7) .mv [.t 0], .op (some 8) .lenS [.t 7], .op (some 9) (.bin .gtr) [.t 8, .k (.int .i64 4)]]) (.t 9) (some 10)])) [0, 10])
        (.cond (.t 10)
          (.seq
            (.reg [⟨(some 2), .mv, [.k (.nilsl)], none⟩] [2])
            .ret)
          .skip))
      (.seq
        (.reg [⟨(some 11), .mv, [.t 0], none⟩,
          ⟨(some 12), .call, [.k (.fn c_i_generate []), .t 11, .k (.int .i64 2)], none⟩,
          ⟨(some 2), .mv, [.t 12], none⟩] [2])
        .ret)))
def i_Generate.F : Cfg := ⟨fun _ => 0, fun r => match r with | 0 => [0] | 1 => [0, 10] | 2 => [2] | 3 => [2] | _ => []⟩
def i_Generate.X (c_i_IsForm c_i_generate : Nat) : FX := ⟨13, [.tmp 2], i_Generate.F, i_Generate.x c_i_IsForm c_i_generate⟩

theorem i_Generate.ok {P : Program} {k c_i_IsForm c_i_generate : Nat} (hk : Has P k (i_Generate.X c_i_IsForm c_i_generate)) (h1 : C_IsForm P c_i_IsForm) (h2 : C_generate P c_i_generate) : C_gen genQ P k := by
  intro s hs n H
  refine S.ofX hk rfl fun hB fn hr => ?_
  unfold i_Generate.x
  repeat' (first
    | ((with_reducible refine S.go ?_); first | refine S.seq ?_ | refine S.skip ?_ | refine S.block ?_ | refine S.inBlock ?_ | refine S.exit rfl ?_ | refine S.regN ?_ | refine S.reg ?_ | refine S.drw hk.mo (by kernel_rfl) ?_ | (refine S.cond rfl (fun hc => ?_) (fun hc => ?_) <;> try simp only [HC] at hc) | refine S.retH hr rfl ?_ | refine S.finH hr rfl ?_ | (refine S.retK hr ?_; refine TRg4 ?_) | fail)
    | ((first | with_reducible refine Ns.go ?_ | with_reducible refine XOs.go ?_ | with_reducible refine XDs.go ?_ | with_reducible refine OK.go ?_); (first | refine TTg4 ?_ | (apply Ns.sc ⟨rfl, rfl⟩ rfl; intro hg) | (refine OK.tr ?_; refine TTg4 ?_)); (try simp only [HC] at hg))
    | with_reducible exact rfl | exact ⟨rfl, rfl, rfl⟩
    | ((with_reducible refine RunsT.go ?_); first | refine RunsF.apf (h1 _ hs) rfl ?_ | refine RunsF.apf (h2 s 2 (by omega) (by omega)) rfl ?_ | fail)
    | ((with_reducible refine RunsD.go ?_); first | refine RunsF.apd (h1 _ hs) rfl ?_ | refine RunsF.apd (h2 s 2 (by omega) (by omega)) rfl ?_ | fail)
    | ((with_reducible refine Gd.go ?_); refine Gd.on (fun hg => ?_) (fun hg => ?_) <;> refine TGg4 ?_ <;> (try simp only [HC] at hg))
    | ((with_reducible refine Fin.go ?_); first | (refine Fin.p ?_; first | exact FT | (try refine TTg4 ?_; try simp only [LF])) | refine Fin.a0 ?_ | refine Fin.a ?_ | refine Fin.ni ?_ | refine Fin.v ?_ ?_ | refine Fin.r ?_ ?_ | exact Fin.th | (refine Fin.t ?_; try simp only [AV.sl.injEq]))
    | (refine And.go ?_; refine AndI ?_)
    | fail)
  all_goals (try clear hr hk hB)
  all_goals first | (rw [genQ, if_neg (by simp only [not_and]; grind)]; rfl) | (rw [genQ, if_pos ⟨hc.1, by omega⟩])
theorem lenD {α : Type} {l : List (List α)} {m : Nat} (h : ∀ c ∈ l, c.length ≤ m) (i : Nat) : l.length ≤ i ∨ (l.getD i default).length ≤ m := by
  by_cases hi : i < l.length
  · exact .inr (by rw [getD_at hi]; exact h _ (List.getElem_mem hi))
  · exact .inl (by omega)
theorem bef_next {x : Lnk} {l : List (List Lnk)} {i : Nat} (h : i < l.length) : bef x (l.take (i + 1)) = bef x (l.take i) ++ [x :: l.getD i default] := by
  rw [take_succ _ _ h]; simp [bef]
def C_before (P : Program) (k : Nat) : Prop := ∀ (x : Lnk) (l : List (List Lnk)), l.length ≤ 1000000000 → (∀ c ∈ l, c.length ≤ 1000) → RunsF P k [.agg (Dat.row x), .sl (enc l)] (.sl (enc (bef x l)))
/-- spec.l7Before -/
def s_l7Before.x : XCode :=
  (.seq
    (.reg [⟨(some 2), .boxF, [.t 0], none⟩,
      ⟨(some 4), .mv, [.k (.nilsl)], none⟩] [1, 2])
    (.seq
      (.reg [⟨(some 7), (.bsl 1 1), [], none⟩,
        ⟨(some 5), .mv, [.t 7], none⟩] [1, 2, 5])
      (.seq
        (.seq
          (.reg [⟨(some 6), .mv, [.k (.int .i64 0)], none⟩] [1, 2, 5, 6])
          (.block 0
            (.loop
              (.seq
                (.seq
                  (.reg [⟨(some 8), .mv, [.t 6], none⟩,
                    ⟨(some 9), .mv, [.t 1], none⟩,
                    ⟨(some 10), .lenL, [.t 9], none⟩,
                    ⟨(some 11), (.bin .lss), [.t 8, .t 10], none⟩] [1, 2, 5, 6, 11])
                  (.cond (.t 11)
                    .skip
                    (.exit 0)))
                (.seq
                  (.block 1
                    (.drw [(⟨(some 14), .mv, [.t 5], none⟩, []),
                      (⟨(some 15), (.ld (some 2)), [.t 2], none⟩, []),
                      (⟨(some 16), (.bsl 1 2), [.t 15], none⟩, [1]),
                      (⟨(some 17), .mv, [.t 1], none⟩, []),
                      (⟨(some 18), .mv, [.t 6], none⟩, []),
                      (⟨(some 19), (.idxA 1), [.t 17, .t 18], none⟩, [3, 4]),
                      (⟨(some 20), (.fldA 0), [.t 19], none⟩, [5]),
                      (⟨(some 21), (.ld none), [.t 20], none⟩, [6]),
                      (⟨(some 22), (.app 2 2), [.t 16, .t 21], none⟩, [2, 7]),
                      (⟨(some 23), (.build [.nilsl] [(0, 1)]), [.t 22], none⟩, [8]),
                      (⟨(some 24), (.bsl 0 1), [.t 23], none⟩, [9]),
                      (⟨(some 25), (.app 1 24), [.t 14, .t 24], none⟩, [0, 10, 8]),
                      (⟨(some 5), .mv, [.t 25], none⟩, [11, 11, 0, 1, 2, 3, 4, 5, 6, 7, 8, 9, 10, 11])] [1, 2, 5, 6] [0, 0, 2, 0, 0, 0, 0, 0, 2, 0, 0, 2, 0]))
                  (.reg [⟨(some 12), .mv, [.t 6], none⟩,
                    ⟨(some 13), (.bin .add), [.t 12, .k (.int .i64 1)], none⟩,
                    ⟨(some 6), .mv, [.t 13], none⟩] [1, 2, 5, 6]))))))
        (.seq
          (.reg [⟨(some 26), .mv, [.t 5], none⟩,
            ⟨(some 4), .mv, [.t 26], none⟩] [4])
          .ret))))
def s_l7Before.F : Cfg := ⟨fun d => if d = 7 then 1 else if d = 16 then 1 else 0, fun r => match r with | 0 => [1, 2] | 1 => [1, 2, 5] | 2 => [1, 2, 5, 6] | 3 => [1, 2, 5, 6, 11] | 4 => [1, 2, 5, 6] | 5 => [1, 2, 5, 6] | 6 => [4] | 1000005 => [0, 0, 2, 0, 0, 0, 0, 0, 2, 0, 0, 2, 0] | _ => []⟩
def s_l7Before.X : FX := ⟨27, [.tmp 4], s_l7Before.F, s_l7Before.x⟩

theorem s_l7Before.ok {P : Program} {k : Nat} (hk : Has P k (s_l7Before.X)) : C_before P k := by
  intro x l hl hc n H
  refine S.ofX hk rfl fun hB fn hr => ?_
  unfold s_l7Before.x
  repeat' (first
    | ((with_reducible refine S.go ?_); first | refine S.seq ?_ | refine S.skip ?_ | refine S.block ?_ | refine S.inBlock ?_ | refine S.exit rfl ?_ | refine S.regN ?_ | refine S.reg ?_ | refine S.drw hk.mo (by kernel_rfl) ?_ | (refine S.cond rfl (fun hc => ?_) (fun hc => ?_) <;> try simp only [HC] at hc) | refine S.retH hr rfl ?_ | refine S.finH hr rfl ?_ | (refine S.retK hr ?_; refine TRg4 ?_) | fail)
    | ((first | with_reducible refine Ns.go ?_ | with_reducible refine XOs.go ?_ | with_reducible refine XDs.go ?_ | with_reducible refine OK.go ?_); (first | refine TTg4 ?_ | (apply Ns.sc ⟨rfl, rfl⟩ rfl; intro hg) | (refine OK.tr ?_; refine TTg4 ?_)); (try simp only [HC] at hg))
    | with_reducible exact rfl | exact ⟨rfl, rfl, rfl⟩
    | ((with_reducible refine Gd.go ?_); refine Gd.on (fun hg => ?_) (fun hg => ?_) <;> refine TGg4 ?_ <;> (try simp only [HC] at hg))
    | ((with_reducible refine Fin.go ?_); first | (refine Fin.p ?_; first | exact FT | (try refine TTg4 ?_; try simp only [LF])) | refine Fin.a0 ?_ | refine Fin.a ?_ | refine Fin.ni ?_ | refine Fin.v ?_ ?_ | refine Fin.r ?_ ?_ | exact Fin.th | (refine Fin.t ?_; try simp only [AV.sl.injEq]))
    | (refine And.go ?_; refine AndI ?_)
    | fail)
  refine S.loopV (σ := Nat × (List (List Lnk))) [1, 2, 5, 6] (fun s => [(5, .acc n 1 (enc s.2)), (6, .int .i64 (s.1 : Int))]) (fun s => s.1 ≤ l.length ∧ s.2 = bef x (l.take s.1) ∧ s.2.length = s.1) (fun s => n + 1 + s.1) (fun s => (n, .tok 1 s.2.length) :: H) (fun s => l.length - s.1) (0, []) (⟨by omega, ?_, ?_⟩) ?_
  · first | rfl | omega | (simp; done) | (simp; omega) | skip
  · first | rfl | omega | (simp; done) | (simp; omega) | skip
  rintro ⟨i, out⟩ ⟨hi1, hi2, hi3⟩ ih
  try dsimp only at hi1 hi2 hi3
  have hq := lenD hc i
  repeat' (first
    | ((with_reducible refine S.go ?_); first | refine S.seq ?_ | refine S.skip ?_ | refine S.block ?_ | refine S.inBlock ?_ | refine S.exit rfl ?_ | refine S.regN ?_ | refine S.reg ?_ | refine S.drw hk.mo (by kernel_rfl) ?_ | refine S.ag (ih ((i + 1, _)) ?_ ?_) | (refine S.cond rfl (fun hc => ?_) (fun hc => ?_) <;> try simp only [HC] at hc) | refine S.retH hr rfl ?_ | refine S.finH hr rfl ?_ | (refine S.retK hr ?_; refine TRg4 ?_) | fail)
    | ((first | with_reducible refine Ns.go ?_ | with_reducible refine XOs.go ?_ | with_reducible refine XDs.go ?_ | with_reducible refine OK.go ?_); (first | refine TTg4 ?_ | (apply Ns.sc ⟨rfl, rfl⟩ rfl; intro hg) | (refine OK.tr ?_; refine TTg4 ?_)); (try simp only [HC] at hg))
    | with_reducible exact rfl | exact ⟨rfl, rfl, rfl⟩
    | ((with_reducible refine Gd.go ?_); refine Gd.on (fun hg => ?_) (fun hg => ?_) <;> refine TGg4 ?_ <;> (try simp only [HC] at hg))
    | ((with_reducible refine Fin.go ?_); first | (refine Fin.p ?_; first | exact FT | (try refine TTg4 ?_; try simp only [LF])) | refine Fin.a0 ?_ | refine Fin.a ?_ | refine Fin.ni ?_ | refine Fin.v ?_ ?_ | refine Fin.r ?_ ?_ | exact Fin.th | (refine Fin.t ?_; try simp only [AV.sl.injEq]))
    | (refine And.go ?_; refine AndI ?_)
    | fail)
  all_goals (try clear ih)
  all_goals (try dsimp only)
  all_goals (repeat' apply And.intro)
  all_goals first | omega | (simp only [ZL]; omega) | skip
  all_goals (try clear hr hk hB)
  all_goals first | (rw [bef_next (by omega), ← hi2]) | (rw [hi2, List.take_of_length_le (by omega)]; done) | skip
def C_l7From (P : Program) (k : Nat) : Prop := ∀ (s : List UInt8) (i m : Nat), i ≤ s.length → s.length ≤ 8 → m ≤ 4 → ∀ (ii mi : Int), ii = i → mi = m → RunsF P k [.str s, .int .i64 ii, .int .i64 mi] (.sl (enc (gen (s.drop i) m)))
def tis : List UInt8 := [116, 105]
def insN (G : List (List Lnk)) : Nat → List (List Lnk)
  | 0 => []
  | i + 1 => insN G i ++ bef (0, tis.getD i 0) G
theorem insN_len (G : List (List Lnk)) : ∀ i, (insN G i).length = i * G.length
  | 0 => by simp [insN]
  | i + 1 => by rw [insN, List.length_append, insN_len G i, bef_len, Nat.succ_mul]
theorem gen_b {s : List UInt8} {m : Nat} (h : s.length ≤ 8) (hm : m ≤ 4) : (gen s m).length ≤ 244140625 := Nat.le_trans (gen_len s m) (Nat.pow_le_pow_right (n := 5) (by decide) (show s.length + m ≤ 12 by omega))
theorem gen_c {s : List UInt8} {m : Nat} (h : s.length ≤ 8) (hm : m ≤ 4) : ∀ c ∈ gen s m, c.length ≤ 1000 := fun c hc => by have := gen_el s m c hc; omega
/-- spec.l7From -/
def s_l7From.x (c_s_l7From c_s_l7Before c_s_SwapVoice : Nat) : XCode :=
  (.seq
    (.reg [⟨(some 6), .mv, [.k (.nilsl)], none⟩] [0, 1, 2])
    (.seq
      (.reg [⟨(some 13), (.bsl 1 1), [], none⟩,
        ⟨(some 7), .mv, [.t 13], none⟩] [0, 1, 2, 7])
      (.seq
        (.seq
          (.reg [⟨(some 14), .mv, [.t 1], none⟩,
            ⟨(some 15), .mv, [.t 0], none⟩,
            ⟨(some 16), .lenS, [.t 15], none⟩,
            ⟨(some 17), (.bin .eql), [.t 14, .t 16], none⟩] [0, 1, 2, 7, 17])
          (.cond (.t 17)
            (.reg [⟨(some 18), .mv, [.t 7], none⟩,
              ⟨(some 19), (.build [.nilsl] []), [], none⟩,
              ⟨(some 20), (.bsl 0 1), [.t 19], none⟩,
              ⟨(some 21), (.app 1 24), [.t 18, .t 20], none⟩,
              ⟨(some 7), .mv, [.t 21], none⟩] [0, 1, 2, 7])
            (.drw [(⟨(some 22), .mv, [.t 7], none⟩, []),
              (⟨(some 23), .mv, [.t 0], none⟩, []),
              (⟨(some 24), .mv, [.t 1], none⟩, []),
              (⟨(some 25), .idxS, [.t 23, .t 24], none⟩, [1, 2]),
              (⟨(some 26), .mv, [.t 0], none⟩, []),
              (⟨(some 27), .mv, [.t 1], none⟩, []),
              (⟨(some 28), .idxS, [.t 26, .t 27], none⟩, [4, 5]),
              (⟨(some 29), (.build [.int .u8 0, .int .u8 0] [(0, 1), (1, 1)]), [.t 25, .t 28], none⟩, [3, 6]),
              (⟨(some 30), .mv, [.t 0], none⟩, []),
              (⟨(some 31), .mv, [.t 1], none⟩, []),
              (⟨(some 32), (.bin .add), [.t 31, .k (.int .i64 1)], none⟩, [9]),
              (⟨(some 33), .mv, [.t 2], none⟩, []),
              (⟨(some 34), .call, [.k (.fn c_s_l7From []), .t 30, .t 32, .t 33], none⟩, [8, 10, 11]),
              (⟨(some 35), .call, [.k (.fn c_s_l7Before []), .t 29, .t 34], none⟩, [7, 12, 12]),
              (⟨(some 36), (.app 1 24), [.t 22, .t 35], none⟩, [0, 13, 13]),
              (⟨(some 7), .mv, [.t 36], none⟩, [14, 14, 0, 1, 2, 3, 4, 5, 6, 7, 8, 9, 10, 11, 12, 13, 14])] [0, 1, 2, 7] [0, 0, 0, 0, 0, 0, 0, 0, 0, 0, 0, 0, 0, 0, 2, 0])))
        (.seq
          (.seq
            (.reg [⟨(some 37), .mv, [.t 2], none⟩,
              ⟨(some 38), (.bin .eql), [.t 37, .k (.int .i64 0)], none⟩] [0, 1, 2, 7, 38])
            (.cond (.t 38)
              (.seq
                (.reg [⟨(some 39), .mv, [.t 7], none⟩,
                  ⟨(some 6), .mv, [.t 39], none⟩] [6])
                .ret)
              .skip))
          (.seq
            (.seq
              (.reg [⟨(some 40), .mv, [.t 1], none⟩,
                ⟨(some 41), .mv, [.t 0], none⟩,
                ⟨(some 42), .lenS, [.t 41], none⟩,
                ⟨(some 43), (.bin .lss), [.t 40, .t 42], none⟩] [0, 1, 2, 7, 43])
              (.cond (.t 43)
                (.seq
                  (.reg [⟨(some 44), .mv, [.t 0], none⟩,
                    ⟨(some 45), .mv, [.t 1], none⟩,
                    ⟨(some 46), (.bin .add), [.t 45, .k (.int .i64 1)], none⟩,
                    ⟨(some 47), .mv, [.t 2], none⟩,
                    ⟨(some 48), (.bin .sub), [.t 47, .k (.int .i64 1)], none⟩,
                    ⟨(some 49), .call, [.k (.fn c_s_l7From []), .t 44, .t 46, .t 48], none⟩,
                    ⟨(some 8), .mv, [.t 49], none⟩] [0, 1, 2, 7, 8])
                  (.seq
                    (.reg [⟨(some 50), .mv, [.t 7], none⟩,
                      ⟨(some 51), .mv, [.t 0], none⟩,
                      ⟨(some 52), .mv, [.t 1], none⟩,
                      ⟨(some 53), .idxS, [.t 51, .t 52], none⟩,
                      ⟨(some 54), (.build [.int .u8 0, .int .u8 0] [(0, 1)]), [.t 53], none⟩,
                      ⟨(some 55), .mv, [.t 8], none⟩,
                      ⟨(some 56), .call, [.k (.fn c_s_l7Before []), .t 54, .t 55], none⟩,
                      ⟨(some 57), (.app 1 24), [.t 50, .t 56], none⟩,
                      ⟨(some 7), .mv, [.t 57], none⟩] [0, 1, 2, 7, 8])
                    (.seq
                      (.reg [⟨(some 59), .mv, [.t 0], none⟩,
                        ⟨(some 60), .mv, [.t 1], none⟩,
                        ⟨(some 61), .idxS, [.t 59, .t 60], none⟩,
                        ⟨(some 62), .call, [.k (.fn c_s_SwapVoice []), .t 61], none⟩,
                        ⟨(some 58), .mv, [.t 62], none⟩,
                        ⟨(some 63), (.ext 0), [.t 58], none⟩,
                        ⟨(some 64), (.ext 1), [.t 58], none⟩,
                        ⟨(some 9), .mv, [.t 63], none⟩,
                        ⟨(some 10), .mv, [.t 64], none⟩] [0, 1, 2, 7, 8, 9, 10])
                      (.seq
                        (.reg [⟨(some 65), .mv, [.t 10], none⟩] [0, 1, 2, 7, 8, 9, 65])
                        (.cond (.t 65)
                          (.reg [⟨(some 66), .mv, [.t 7], none⟩,
                            ⟨(some 67), .mv, [.t 0], none⟩,
                            ⟨(some 68), .mv, [.t 1], none⟩,
                            ⟨(some 69), .idxS, [.t 67, .t 68], none⟩,
                            ⟨(some 70), .mv, [.t 9], none⟩,
                            ⟨(some 71), (.build [.int .u8 0, .int .u8 0] [(0, 1), (1, 1)]), [.t 69, .t 70], none⟩,
                            ⟨(some 72), .mv, [.t 8], none⟩,
                            ⟨(some 73), .call, [.k (.fn c_s_l7Before []), .t 71, .t 72], none⟩,
                            ⟨(some 74), (.app 1 24), [.t 66, .t 73], none⟩,
                            ⟨(some 7), .mv, [.t 74], none⟩] [0, 1, 2, 7])
                          .skip)))))
                .skip))
            (.seq
              (.reg [⟨(some 75), .mv, [.t 0], none⟩,
                ⟨(some 76), .mv, [.t 1], none⟩,
                ⟨(some 77), .mv, [.t 2], none⟩,
                ⟨(some 78), (.bin .sub), [.t 77, .k (.int .i64 1)], none⟩,
                ⟨(some 79), .call, [.k (.fn c_s_l7From []), .t 75, .t 76, .t 78], none⟩,
                ⟨(some 11), .mv, [.t 79], none⟩] [7, 11])
              (.seq
                (.seq
                  (.reg [⟨(some 12), .mv, [.k (.int .i64 0)], none⟩] [7, 11, 12])
                  (.block 0
                    (.loop
                      (.seq
                        (.seq
                          (.reg [⟨(some 80), .mv, [.t 12], none⟩,
                            ⟨(some 81), (.bin .lss), [.t 80, .k (.int .i64 2)], none⟩] [7, 11, 12, 81])
                          (.cond (.t 81)
                            .skip
                            (.exit 0)))
                        (.seq
                          (.block 1
                            (.reg [⟨(some 84), .mv, [.t 7], none⟩,
                              ⟨(some 85), .mv, [.t 12], none⟩,
                              ⟨(some 86), .idxS, [.k (.str [116, 105]), .t 85], none⟩,
                              ⟨(some 87), (.build [.int .u8 0, .int .u8 0] [(1, 1)]), [.t 86], none⟩,
                              ⟨(some 88), .mv, [.t 11], none⟩,
                              ⟨(some 89), .call, [.k (.fn c_s_l7Before []), .t 87, .t 88], none⟩,
                              ⟨(some 90), (.app 1 24), [.t 84, .t 89], none⟩,
                              ⟨(some 7), .mv, [.t 90], none⟩] [7, 11, 12]))
                          (.reg [⟨(some 82), .mv, [.t 12], none⟩,
                            ⟨(some 83), (.bin .add), [.t 82, .k (.int .i64 1)], none⟩,
                            ⟨(some 12), .mv, [.t 83], none⟩] [7, 11, 12]))))))
                (.seq
                  (.reg [⟨(some 91), .mv, [.t 7], none⟩,
                    ⟨(some 6), .mv, [.t 91], none⟩] [6])
                  .ret))))))))
def s_l7From.F : Cfg := ⟨fun d => if d = 13 then 1 else 0, fun r => match r with | 0 => [0, 1, 2] | 1 => [0, 1, 2, 7] | 2 => [0, 1, 2, 7, 17] | 3 => [0, 1, 2, 7] | 4 => [0, 1, 2, 7] | 5 => [0, 1, 2, 7, 38] | 6 => [6] | 7 => [0, 1, 2, 7, 43] | 8 => [0, 1, 2, 7, 8] | 9 => [0, 1, 2, 7, 8] | 10 => [0, 1, 2, 7, 8, 9, 10] | 11 => [0, 1, 2, 7, 8, 9, 65] | 12 => [0, 1, 2, 7] | 13 => [7, 11] | 14 => [7, 11, 12] | 15 => [7, 11, 12, 81] | 16 => [7, 11, 12] | 17 => [7, 11, 12] | 18 => [6] | 1000004 => [0, 0, 0, 0, 0, 0, 0, 0, 0, 0, 0, 0, 0, 0, 2, 0] | _ => []⟩
def s_l7From.X (c_s_l7From c_s_l7Before c_s_SwapVoice : Nat) : FX := ⟨92, [.tmp 6], s_l7From.F, s_l7From.x c_s_l7From c_s_l7Before c_s_SwapVoice⟩

set_option maxHeartbeats 2000000 in
theorem s_l7From.ok {P : Program} {k c_s_l7Before c_s_SwapVoice : Nat} (hk : Has P k (s_l7From.X k c_s_l7Before c_s_SwapVoice)) (h1 : C_before P c_s_l7Before) (h2 : C_SwapVoice P c_s_SwapVoice) : C_l7From P k := by
  intro w
  suffices key : ∀ (q i m : Nat), w.length - i + m = q → i ≤ w.length → w.length ≤ 8 → m ≤ 4 → ∀ (ii mi : Int), ii = i → mi = m → RunsF P k [.str w, .int .i64 ii, .int .i64 mi] (.sl (enc (gen (w.drop i) m))) from fun i m hi hs hm => key _ i m rfl hi hs hm
  intro q
  induction q using Nat.strongRecOn with
  | ind q ih =>
  intro i m hq hi hs hm ii mi e1 e2 n H
  subst e1 e2
  have hg : ∀ j m', w.length - j + m' < q → j ≤ w.length → m' ≤ 4 → ∀ (ii mi : Int), ii = j → mi = m' → RunsF P k [.str w, .int .i64 ii, .int .i64 mi] (.sl (enc (gen (w.drop j) m'))) := fun j m' q1 q2 q3 => ih _ q1 j m' rfl q2 hs q3
  clear ih
  have hb := fun j m' (hm' : m' ≤ 4) => gen_b (s := w.drop j) (m := m') (by simp; omega) hm'
  have hc0 := fun j m' (hm' : m' ≤ 4) => gen_c (s := w.drop j) (m := m') (by simp; omega) hm'
  by_cases hlt : i < w.length
  · have hd : w.drop i = w.getD i 0 :: w.drop (i + 1) := by
      rw [List.drop_eq_getElem_cons hlt, List.getD_eq_getElem?_getD, List.getElem?_eq_getElem hlt]; rfl
    cases m with
    | zero =>
      have b1 := hb (i + 1) 0 (by omega)
      refine S.ofX hk rfl fun hB fn hr => ?_
      unfold s_l7From.x
      repeat' (first
        | ((with_reducible refine S.go ?_); first | refine S.seq ?_ | refine S.skip ?_ | refine S.block ?_ | refine S.inBlock ?_ | refine S.exit rfl ?_ | refine S.regN ?_ | refine S.reg ?_ | refine S.drw hk.mo (by kernel_rfl) ?_ | (refine S.cond rfl (fun hc => ?_) (fun hc => ?_) <;> try simp only [HC] at hc) | refine S.retH hr rfl ?_ | refine S.finH hr rfl ?_ | (refine S.retK hr ?_; refine TRg4 ?_) | fail)
        | ((first | with_reducible refine Ns.go ?_ | with_reducible refine XOs.go ?_ | with_reducible refine XDs.go ?_ | with_reducible refine OK.go ?_); (first | refine TTg4 ?_ | (apply Ns.sc ⟨rfl, rfl⟩ rfl; intro hg) | (refine OK.tr ?_; refine TTg4 ?_)); (try simp only [HC] at hg))
        | with_reducible exact rfl | exact ⟨rfl, rfl, rfl⟩
        | ((with_reducible refine RunsT.go ?_); first | refine RunsF.apf (hg (i + 1) 0 (by omega) (by omega) (by omega) _ _ (by omega) (by omega)) rfl ?_ | refine RunsF.apf (h1 (w.getD i 0, w.getD i 0) _ (by omega) (hc0 (i + 1) 0 (by omega))) rfl ?_ | fail)
        | ((with_reducible refine RunsD.go ?_); first | refine RunsF.apd (hg (i + 1) 0 (by omega) (by omega) (by omega) _ _ (by omega) (by omega)) rfl ?_ | refine RunsF.apd (h1 (w.getD i 0, w.getD i 0) _ (by omega) (hc0 (i + 1) 0 (by omega))) rfl ?_ | fail)
        | (refine And.intro (by first | (simp only [List.length_append, bef_len, List.length_cons, List.length_nil]; omega) | (refine ⟨?_, ?_⟩ <;> simp only [List.length_append, bef_len, List.length_cons, List.length_nil, Option.some.injEq, HObj.tok.injEq, true_and] <;> omega) | fail) ?_)
        | (exfalso; omega)
        | ((with_reducible refine Gd.go ?_); refine Gd.on (fun hg => ?_) (fun hg => ?_) <;> refine TGg4 ?_ <;> (try simp only [HC] at hg))
        | ((with_reducible refine Fin.go ?_); first | (refine Fin.p ?_; first | exact FT | (try refine TTg4 ?_; try simp only [LF])) | refine Fin.a0 ?_ | refine Fin.a ?_ | refine Fin.ni ?_ | refine Fin.v ?_ ?_ | refine Fin.r ?_ ?_ | exact Fin.th | (refine Fin.t ?_; try simp only [AV.sl.injEq]))
        | (refine And.go ?_; refine AndI ?_)
        | fail)
      all_goals (try clear hr hk hB)
      all_goals (rw [hd, gen])
    | succ m =>
      have b1 := hb (i + 1) (m + 1) (by omega)
      have b2 := hb (i + 1) m (by omega)
      have b3 := hb i m (by omega)
      by_cases ho : isObs (w.getD i 0) = true
      · skip
        refine S.ofX hk rfl fun hB fn hr => ?_
        unfold s_l7From.x
        repeat' (first
          | ((with_reducible refine S.go ?_); first | refine S.seq ?_ | refine S.skip ?_ | refine S.block ?_ | refine S.inBlock ?_ | refine S.exit rfl ?_ | refine S.regN ?_ | refine S.reg ?_ | refine S.drw hk.mo (by kernel_rfl) ?_ | (refine S.cond rfl (fun hc => ?_) (fun hc => ?_) <;> try simp only [HC] at hc) | refine S.retH hr rfl ?_ | refine S.finH hr rfl ?_ | (refine S.retK hr ?_; refine TRg4 ?_) | fail)
          | ((first | with_reducible refine Ns.go ?_ | with_reducible refine XOs.go ?_ | with_reducible refine XDs.go ?_ | with_reducible refine OK.go ?_); (first | refine TTg4 ?_ | (apply Ns.sc ⟨rfl, rfl⟩ rfl; intro hg) | (refine OK.tr ?_; refine TTg4 ?_)); (try simp only [HC] at hg))
          | with_reducible exact rfl | exact ⟨rfl, rfl, rfl⟩
          | ((with_reducible refine RunsT.go ?_); first | refine RunsF.apf (h2 _) rfl ?_ | refine RunsF.apf (hg (i + 1) (m + 1) (by omega) (by omega) (by omega) _ _ (by omega) (by omega)) rfl ?_ | refine RunsF.apf (hg (i + 1) m (by omega) (by omega) (by omega) _ _ (by omega) (by omega)) rfl ?_ | refine RunsF.apf (hg i m (by omega) (by omega) (by omega) _ _ (by omega) (by omega)) rfl ?_ | refine RunsF.apf (h1 (w.getD i 0, w.getD i 0) _ (by omega) (hc0 (i + 1) (m + 1) (by omega))) rfl ?_ | refine RunsF.apf (h1 (w.getD i 0, 0) _ (by omega) (hc0 (i + 1) m (by omega))) rfl ?_ | refine RunsF.apf (h1 (w.getD i 0, swapV (w.getD i 0)) _ (by omega) (hc0 (i + 1) m (by omega))) rfl ?_ | fail)
          | ((with_reducible refine RunsD.go ?_); first | refine RunsF.apd (h2 _) rfl ?_ | refine RunsF.apd (hg (i + 1) (m + 1) (by omega) (by omega) (by omega) _ _ (by omega) (by omega)) rfl ?_ | refine RunsF.apd (hg (i + 1) m (by omega) (by omega) (by omega) _ _ (by omega) (by omega)) rfl ?_ | refine RunsF.apd (hg i m (by omega) (by omega) (by omega) _ _ (by omega) (by omega)) rfl ?_ | refine RunsF.apd (h1 (w.getD i 0, w.getD i 0) _ (by omega) (hc0 (i + 1) (m + 1) (by omega))) rfl ?_ | refine RunsF.apd (h1 (w.getD i 0, 0) _ (by omega) (hc0 (i + 1) m (by omega))) rfl ?_ | refine RunsF.apd (h1 (w.getD i 0, swapV (w.getD i 0)) _ (by omega) (hc0 (i + 1) m (by omega))) rfl ?_ | fail)
          | (refine And.intro (by first | (simp only [List.length_append, bef_len, List.length_cons, List.length_nil]; omega) | (refine ⟨?_, ?_⟩ <;> simp only [List.length_append, bef_len, List.length_cons, List.length_nil, Option.some.injEq, HObj.tok.injEq, true_and] <;> omega) | fail) ?_)
          | (exfalso; omega)
          | (exact absurd (ho.symm.trans hc) (by decide))
          | ((with_reducible refine Gd.go ?_); refine Gd.on (fun hg => ?_) (fun hg => ?_) <;> refine TGg4 ?_ <;> (try simp only [HC] at hg))
          | ((with_reducible refine Fin.go ?_); first | (refine Fin.p ?_; first | exact FT | (try refine TTg4 ?_; try simp only [LF])) | refine Fin.a0 ?_ | refine Fin.a ?_ | refine Fin.ni ?_ | refine Fin.v ?_ ?_ | refine Fin.r ?_ ?_ | exact Fin.th | (refine Fin.t ?_; try simp only [AV.sl.injEq]))
          | (refine And.go ?_; refine AndI ?_)
          | fail)
        simp only [← List.length_append]
        generalize hBs : bef (w.getD i 0, w.getD i 0) (gen (w.drop (i + 1)) (m + 1)) ++ bef (w.getD i 0, 0) (gen (w.drop (i + 1)) m) ++ bef (w.getD i 0, swapV (w.getD i 0)) (gen (w.drop (i + 1)) m) = Bs
        have hBl : Bs.length ≤ 1000000000 := by rw [← hBs]; simp only [List.length_append, bef_len]; omega
        refine S.loopV (σ := Nat × (List (List Lnk))) [7, 11, 12] (fun s => [(7, .acc n 1 (enc s.2)), (12, .int .i64 (s.1 : Int))]) (fun s => s.1 ≤ 2 ∧ s.2 = Bs ++ insN (gen (w.drop i) m) s.1) (fun s => n + 1) (fun s => (n, .tok 1 s.2.length) :: H) (fun s => 2 - s.1) (0, Bs) (⟨by omega, by simp [insN]⟩) ?_
        rintro ⟨j, out⟩ ⟨hi1, hi2⟩ ih
        try dsimp only at hi1 hi2
        have hil := insN_len (gen (w.drop i) m) j
        have hjl : j = 0 ∨ j = 1 ∨ j = 2 := by omega
        have hol : out.length ≤ 2000000000 := by rw [hi2, List.length_append, hil]; rcases hjl with e | e | e <;> rw [e] <;> omega
        repeat' (first
          | ((with_reducible refine S.go ?_); first | refine S.seq ?_ | refine S.skip ?_ | refine S.block ?_ | refine S.inBlock ?_ | refine S.exit rfl ?_ | refine S.regN ?_ | refine S.reg ?_ | refine S.drw hk.mo (by kernel_rfl) ?_ | refine S.ag (ih ((j + 1, _)) ?_ ?_) | (refine S.cond rfl (fun hc => ?_) (fun hc => ?_) <;> try simp only [HC] at hc) | refine S.retH hr rfl ?_ | refine S.finH hr rfl ?_ | (refine S.retK hr ?_; refine TRg4 ?_) | fail)
          | ((first | with_reducible refine Ns.go ?_ | with_reducible refine XOs.go ?_ | with_reducible refine XDs.go ?_ | with_reducible refine OK.go ?_); (first | refine TTg4 ?_ | (apply Ns.sc ⟨rfl, rfl⟩ rfl; intro hg) | (refine OK.tr ?_; refine TTg4 ?_)); (try simp only [HC] at hg))
          | with_reducible exact rfl | exact ⟨rfl, rfl, rfl⟩
          | ((with_reducible refine RunsT.go ?_); first | refine RunsF.apf (h1 (0, tis.getD j 0) _ (by omega) (hc0 i m (by omega))) rfl ?_ | fail)
          | ((with_reducible refine RunsD.go ?_); first | refine RunsF.apd (h1 (0, tis.getD j 0) _ (by omega) (hc0 i m (by omega))) rfl ?_ | fail)
          | (refine And.intro (by first | (simp only [List.length_append, bef_len, List.length_cons, List.length_nil]; omega) | (refine ⟨?_, ?_⟩ <;> simp only [List.length_append, bef_len, List.length_cons, List.length_nil, Option.some.injEq, HObj.tok.injEq, true_and] <;> omega) | fail) ?_)
          | ((with_reducible refine Gd.go ?_); refine Gd.on (fun hg => ?_) (fun hg => ?_) <;> refine TGg4 ?_ <;> (try simp only [HC] at hg))
          | ((with_reducible refine Fin.go ?_); first | (refine Fin.p ?_; first | exact FT | (try refine TTg4 ?_; try simp only [LF])) | refine Fin.a0 ?_ | refine Fin.a ?_ | refine Fin.ni ?_ | refine Fin.v ?_ ?_ | refine Fin.r ?_ ?_ | exact Fin.th | (refine Fin.t ?_; try simp only [AV.sl.injEq]))
          | (refine And.go ?_; refine AndI ?_)
          | fail)
        all_goals (try clear ih)
        all_goals (try dsimp only)
        all_goals (repeat' apply And.intro)
        all_goals first | omega | (simp only [ZL]; omega) | skip
        all_goals (try clear hr hk hB)
        all_goals first | (rw [hi2, insN, List.append_assoc]; done) | (have hj2 : j = 2 := (by omega); subst hj2; rw [hi2, ← hBs]; exact congrArg enc (by rw [hd, gen]; simp only [ho, if_true, Bool.false_eq_true, if_false, List.append_assoc, List.append_nil, insN, ins, List.nil_append]; rfl)) | skip
      · have ho : isObs (w.getD i 0) = false := by simpa using ho
        refine S.ofX hk rfl fun hB fn hr => ?_
        unfold s_l7From.x
        repeat' (first
          | ((with_reducible refine S.go ?_); first | refine S.seq ?_ | refine S.skip ?_ | refine S.block ?_ | refine S.inBlock ?_ | refine S.exit rfl ?_ | refine S.regN ?_ | refine S.reg ?_ | refine S.drw hk.mo (by kernel_rfl) ?_ | (refine S.cond rfl (fun hc => ?_) (fun hc => ?_) <;> try simp only [HC] at hc) | refine S.retH hr rfl ?_ | refine S.finH hr rfl ?_ | (refine S.retK hr ?_; refine TRg4 ?_) | fail)
          | ((first | with_reducible refine Ns.go ?_ | with_reducible refine XOs.go ?_ | with_reducible refine XDs.go ?_ | with_reducible refine OK.go ?_); (first | refine TTg4 ?_ | (apply Ns.sc ⟨rfl, rfl⟩ rfl; intro hg) | (refine OK.tr ?_; refine TTg4 ?_)); (try simp only [HC] at hg))
          | with_reducible exact rfl | exact ⟨rfl, rfl, rfl⟩
          | ((with_reducible refine RunsT.go ?_); first | refine RunsF.apf (h2 _) rfl ?_ | refine RunsF.apf (hg (i + 1) (m + 1) (by omega) (by omega) (by omega) _ _ (by omega) (by omega)) rfl ?_ | refine RunsF.apf (hg (i + 1) m (by omega) (by omega) (by omega) _ _ (by omega) (by omega)) rfl ?_ | refine RunsF.apf (hg i m (by omega) (by omega) (by omega) _ _ (by omega) (by omega)) rfl ?_ | refine RunsF.apf (h1 (w.getD i 0, w.getD i 0) _ (by omega) (hc0 (i + 1) (m + 1) (by omega))) rfl ?_ | refine RunsF.apf (h1 (w.getD i 0, 0) _ (by omega) (hc0 (i + 1) m (by omega))) rfl ?_ | refine RunsF.apf (h1 (w.getD i 0, swapV (w.getD i 0)) _ (by omega) (hc0 (i + 1) m (by omega))) rfl ?_ | fail)
          | ((with_reducible refine RunsD.go ?_); first | refine RunsF.apd (h2 _) rfl ?_ | refine RunsF.apd (hg (i + 1) (m + 1) (by omega) (by omega) (by omega) _ _ (by omega) (by omega)) rfl ?_ | refine RunsF.apd (hg (i + 1) m (by omega) (by omega) (by omega) _ _ (by omega) (by omega)) rfl ?_ | refine RunsF.apd (hg i m (by omega) (by omega) (by omega) _ _ (by omega) (by omega)) rfl ?_ | refine RunsF.apd (h1 (w.getD i 0, w.getD i 0) _ (by omega) (hc0 (i + 1) (m + 1) (by omega))) rfl ?_ | refine RunsF.apd (h1 (w.getD i 0, 0) _ (by omega) (hc0 (i + 1) m (by omega))) rfl ?_ | refine RunsF.apd (h1 (w.getD i 0, swapV (w.getD i 0)) _ (by omega) (hc0 (i + 1) m (by omega))) rfl ?_ | fail)
          | (refine And.intro (by first | (simp only [List.length_append, bef_len, List.length_cons, List.length_nil]; omega) | (refine ⟨?_, ?_⟩ <;> simp only [List.length_append, bef_len, List.length_cons, List.length_nil, Option.some.injEq, HObj.tok.injEq, true_and] <;> omega) | fail) ?_)
          | (exfalso; omega)
          | (exact absurd (ho.symm.trans hc) (by decide))
          | ((with_reducible refine Gd.go ?_); refine Gd.on (fun hg => ?_) (fun hg => ?_) <;> refine TGg4 ?_ <;> (try simp only [HC] at hg))
          | ((with_reducible refine Fin.go ?_); first | (refine Fin.p ?_; first | exact FT | (try refine TTg4 ?_; try simp only [LF])) | refine Fin.a0 ?_ | refine Fin.a ?_ | refine Fin.ni ?_ | refine Fin.v ?_ ?_ | refine Fin.r ?_ ?_ | exact Fin.th | (refine Fin.t ?_; try simp only [AV.sl.injEq]))
          | (refine And.go ?_; refine AndI ?_)
          | fail)
        simp only [← List.length_append]
        generalize hBs : bef (w.getD i 0, w.getD i 0) (gen (w.drop (i + 1)) (m + 1)) ++ bef (w.getD i 0, 0) (gen (w.drop (i + 1)) m) = Bs
        have hBl : Bs.length ≤ 1000000000 := by rw [← hBs]; simp only [List.length_append, bef_len]; omega
        refine S.loopV (σ := Nat × (List (List Lnk))) [7, 11, 12] (fun s => [(7, .acc n 1 (enc s.2)), (12, .int .i64 (s.1 : Int))]) (fun s => s.1 ≤ 2 ∧ s.2 = Bs ++ insN (gen (w.drop i) m) s.1) (fun s => n + 1) (fun s => (n, .tok 1 s.2.length) :: H) (fun s => 2 - s.1) (0, Bs) (⟨by omega, by simp [insN]⟩) ?_
        rintro ⟨j, out⟩ ⟨hi1, hi2⟩ ih
        try dsimp only at hi1 hi2
        have hil := insN_len (gen (w.drop i) m) j
        have hjl : j = 0 ∨ j = 1 ∨ j = 2 := by omega
        have hol : out.length ≤ 2000000000 := by rw [hi2, List.length_append, hil]; rcases hjl with e | e | e <;> rw [e] <;> omega
        repeat' (first
          | ((with_reducible refine S.go ?_); first | refine S.seq ?_ | refine S.skip ?_ | refine S.block ?_ | refine S.inBlock ?_ | refine S.exit rfl ?_ | refine S.regN ?_ | refine S.reg ?_ | refine S.drw hk.mo (by kernel_rfl) ?_ | refine S.ag (ih ((j + 1, _)) ?_ ?_) | (refine S.cond rfl (fun hc => ?_) (fun hc => ?_) <;> try simp only [HC] at hc) | refine S.retH hr rfl ?_ | refine S.finH hr rfl ?_ | (refine S.retK hr ?_; refine TRg4 ?_) | fail)
          | ((first | with_reducible refine Ns.go ?_ | with_reducible refine XOs.go ?_ | with_reducible refine XDs.go ?_ | with_reducible refine OK.go ?_); (first | refine TTg4 ?_ | (apply Ns.sc ⟨rfl, rfl⟩ rfl; intro hg) | (refine OK.tr ?_; refine TTg4 ?_)); (try simp only [HC] at hg))
          | with_reducible exact rfl | exact ⟨rfl, rfl, rfl⟩
          | ((with_reducible refine RunsT.go ?_); first | refine RunsF.apf (h1 (0, tis.getD j 0) _ (by omega) (hc0 i m (by omega))) rfl ?_ | fail)
          | ((with_reducible refine RunsD.go ?_); first | refine RunsF.apd (h1 (0, tis.getD j 0) _ (by omega) (hc0 i m (by omega))) rfl ?_ | fail)
          | (refine And.intro (by first | (simp only [List.length_append, bef_len, List.length_cons, List.length_nil]; omega) | (refine ⟨?_, ?_⟩ <;> simp only [List.length_append, bef_len, List.length_cons, List.length_nil, Option.some.injEq, HObj.tok.injEq, true_and] <;> omega) | fail) ?_)
          | ((with_reducible refine Gd.go ?_); refine Gd.on (fun hg => ?_) (fun hg => ?_) <;> refine TGg4 ?_ <;> (try simp only [HC] at hg))
          | ((with_reducible refine Fin.go ?_); first | (refine Fin.p ?_; first | exact FT | (try refine TTg4 ?_; try simp only [LF])) | refine Fin.a0 ?_ | refine Fin.a ?_ | refine Fin.ni ?_ | refine Fin.v ?_ ?_ | refine Fin.r ?_ ?_ | exact Fin.th | (refine Fin.t ?_; try simp only [AV.sl.injEq]))
          | (refine And.go ?_; refine AndI ?_)
          | fail)
        all_goals (try clear ih)
        all_goals (try dsimp only)
        all_goals (repeat' apply And.intro)
        all_goals first | omega | (simp only [ZL]; omega) | skip
        all_goals (try clear hr hk hB)
        all_goals first | (rw [hi2, insN, List.append_assoc]; done) | (have hj2 : j = 2 := (by omega); subst hj2; rw [hi2, ← hBs]; exact congrArg enc (by rw [hd, gen]; simp only [ho, if_true, Bool.false_eq_true, if_false, List.append_assoc, List.append_nil, insN, ins, List.nil_append]; rfl)) | skip
  · have hd : w.drop i = [] := List.drop_eq_nil_of_le (by omega)
    cases m with
    | zero =>
      refine S.ofX hk rfl fun hB fn hr => ?_
      unfold s_l7From.x
      repeat' (first
        | ((with_reducible refine S.go ?_); first | refine S.seq ?_ | refine S.skip ?_ | refine S.block ?_ | refine S.inBlock ?_ | refine S.exit rfl ?_ | refine S.regN ?_ | refine S.reg ?_ | refine S.drw hk.mo (by kernel_rfl) ?_ | (refine S.cond rfl (fun hc => ?_) (fun hc => ?_) <;> try simp only [HC] at hc) | refine S.retH hr rfl ?_ | refine S.finH hr rfl ?_ | (refine S.retK hr ?_; refine TRg4 ?_) | fail)
        | ((first | with_reducible refine Ns.go ?_ | with_reducible refine XOs.go ?_ | with_reducible refine XDs.go ?_ | with_reducible refine OK.go ?_); (first | refine TTg4 ?_ | (apply Ns.sc ⟨rfl, rfl⟩ rfl; intro hg) | (refine OK.tr ?_; refine TTg4 ?_)); (try simp only [HC] at hg))
        | with_reducible exact rfl | exact ⟨rfl, rfl, rfl⟩
        | (refine And.intro (by first | (simp only [List.length_append, bef_len, List.length_cons, List.length_nil]; omega) | (refine ⟨?_, ?_⟩ <;> simp only [List.length_append, bef_len, List.length_cons, List.length_nil, Option.some.injEq, HObj.tok.injEq, true_and] <;> omega) | fail) ?_)
        | (exfalso; omega)
        | ((with_reducible refine Gd.go ?_); refine Gd.on (fun hg => ?_) (fun hg => ?_) <;> refine TGg4 ?_ <;> (try simp only [HC] at hg))
        | ((with_reducible refine Fin.go ?_); first | (refine Fin.p ?_; first | exact FT | (try refine TTg4 ?_; try simp only [LF])) | refine Fin.a0 ?_ | refine Fin.a ?_ | refine Fin.ni ?_ | refine Fin.v ?_ ?_ | refine Fin.r ?_ ?_ | exact Fin.th | (refine Fin.t ?_; try simp only [AV.sl.injEq]))
        | (refine And.go ?_; refine AndI ?_)
        | fail)
      all_goals (try clear hr hk hB)
      all_goals (rw [hd, gen]; rfl)
    | succ m =>
      have b3 := hb i m (by omega)
      refine S.ofX hk rfl fun hB fn hr => ?_
      unfold s_l7From.x
      repeat' (first
        | ((with_reducible refine S.go ?_); first | refine S.seq ?_ | refine S.skip ?_ | refine S.block ?_ | refine S.inBlock ?_ | refine S.exit rfl ?_ | refine S.regN ?_ | refine S.reg ?_ | refine S.drw hk.mo (by kernel_rfl) ?_ | (refine S.cond rfl (fun hc => ?_) (fun hc => ?_) <;> try simp only [HC] at hc) | refine S.retH hr rfl ?_ | refine S.finH hr rfl ?_ | (refine S.retK hr ?_; refine TRg4 ?_) | fail)
        | ((first | with_reducible refine Ns.go ?_ | with_reducible refine XOs.go ?_ | with_reducible refine XDs.go ?_ | with_reducible refine OK.go ?_); (first | refine TTg4 ?_ | (apply Ns.sc ⟨rfl, rfl⟩ rfl; intro hg) | (refine OK.tr ?_; refine TTg4 ?_)); (try simp only [HC] at hg))
        | with_reducible exact rfl | exact ⟨rfl, rfl, rfl⟩
        | ((with_reducible refine RunsT.go ?_); first | refine RunsF.apf (hg i m (by omega) (by omega) (by omega) _ _ (by omega) (by omega)) rfl ?_ | fail)
        | ((with_reducible refine RunsD.go ?_); first | refine RunsF.apd (hg i m (by omega) (by omega) (by omega) _ _ (by omega) (by omega)) rfl ?_ | fail)
        | (refine And.intro (by first | (simp only [List.length_append, bef_len, List.length_cons, List.length_nil]; omega) | (refine ⟨?_, ?_⟩ <;> simp only [List.length_append, bef_len, List.length_cons, List.length_nil, Option.some.injEq, HObj.tok.injEq, true_and] <;> omega) | fail) ?_)
        | (exfalso; omega)
        | ((with_reducible refine Gd.go ?_); refine Gd.on (fun hg => ?_) (fun hg => ?_) <;> refine TGg4 ?_ <;> (try simp only [HC] at hg))
        | ((with_reducible refine Fin.go ?_); first | (refine Fin.p ?_; first | exact FT | (try refine TTg4 ?_; try simp only [LF])) | refine Fin.a0 ?_ | refine Fin.a ?_ | refine Fin.ni ?_ | refine Fin.v ?_ ?_ | refine Fin.r ?_ ?_ | exact Fin.th | (refine Fin.t ?_; try simp only [AV.sl.injEq]))
        | (refine And.go ?_; refine AndI ?_)
        | fail)
      refine S.loopV (σ := Nat × (List (List Lnk))) [7, 11, 12] (fun s => [(7, .acc n 1 (enc s.2)), (12, .int .i64 (s.1 : Int))]) (fun s => s.1 ≤ 2 ∧ s.2 = [[]] ++ insN (gen (w.drop i) m) s.1) (fun s => n + 1) (fun s => (n, .tok 1 s.2.length) :: H) (fun s => 2 - s.1) (0, [[]]) (⟨by omega, by simp [insN]⟩) ?_
      rintro ⟨j, out⟩ ⟨hi1, hi2⟩ ih
      try dsimp only at hi1 hi2
      have hil := insN_len (gen (w.drop i) m) j
      have hjl : j = 0 ∨ j = 1 ∨ j = 2 := by omega
      have hol : out.length ≤ 2000000000 := by rw [hi2, List.length_append, hil]; simp only [List.length_cons, List.length_nil]; rcases hjl with e | e | e <;> rw [e] <;> omega
      repeat' (first
        | ((with_reducible refine S.go ?_); first | refine S.seq ?_ | refine S.skip ?_ | refine S.block ?_ | refine S.inBlock ?_ | refine S.exit rfl ?_ | refine S.regN ?_ | refine S.reg ?_ | refine S.drw hk.mo (by kernel_rfl) ?_ | refine S.ag (ih ((j + 1, _)) ?_ ?_) | (refine S.cond rfl (fun hc => ?_) (fun hc => ?_) <;> try simp only [HC] at hc) | refine S.retH hr rfl ?_ | refine S.finH hr rfl ?_ | (refine S.retK hr ?_; refine TRg4 ?_) | fail)
        | ((first | with_reducible refine Ns.go ?_ | with_reducible refine XOs.go ?_ | with_reducible refine XDs.go ?_ | with_reducible refine OK.go ?_); (first | refine TTg4 ?_ | (apply Ns.sc ⟨rfl, rfl⟩ rfl; intro hg) | (refine OK.tr ?_; refine TTg4 ?_)); (try simp only [HC] at hg))
        | with_reducible exact rfl | exact ⟨rfl, rfl, rfl⟩
        | ((with_reducible refine RunsT.go ?_); first | refine RunsF.apf (h1 (0, tis.getD j 0) _ (by omega) (hc0 i m (by omega))) rfl ?_ | fail)
        | ((with_reducible refine RunsD.go ?_); first | refine RunsF.apd (h1 (0, tis.getD j 0) _ (by omega) (hc0 i m (by omega))) rfl ?_ | fail)
        | (refine And.intro (by first | (simp only [List.length_append, bef_len, List.length_cons, List.length_nil]; omega) | (refine ⟨?_, ?_⟩ <;> simp only [List.length_append, bef_len, List.length_cons, List.length_nil, Option.some.injEq, HObj.tok.injEq, true_and] <;> omega) | fail) ?_)
        | ((with_reducible refine Gd.go ?_); refine Gd.on (fun hg => ?_) (fun hg => ?_) <;> refine TGg4 ?_ <;> (try simp only [HC] at hg))
        | ((with_reducible refine Fin.go ?_); first | (refine Fin.p ?_; first | exact FT | (try refine TTg4 ?_; try simp only [LF])) | refine Fin.a0 ?_ | refine Fin.a ?_ | refine Fin.ni ?_ | refine Fin.v ?_ ?_ | refine Fin.r ?_ ?_ | exact Fin.th | (refine Fin.t ?_; try simp only [AV.sl.injEq]))
        | (refine And.go ?_; refine AndI ?_)
        | fail)
      all_goals (try clear ih)
      all_goals (try dsimp only)
      all_goals (repeat' apply And.intro)
      all_goals first | omega | (simp only [ZL]; omega) | skip
      all_goals (try clear hr hk hB)
      all_goals first | (rw [hi2, insN, List.append_assoc]; done) | (have hj2 : j = 2 := (by omega); subst hj2; rw [hi2]; exact congrArg enc (by rw [hd, gen]; simp [insN, ins, tis])) | skip
/-- spec.Generate -/
def s_Generate.x (c_s_IsForm c_s_l7From : Nat) : XCode :=
  (.seq
    (.reg [⟨(some 2), .mv, [.k (.nilsl)], none⟩] [0])
    (.seq
      (.seq
        (.reg (flatNs none (nl [.op (some 3) .mv [.t 0], .op (some 4) .call [.k (.fn c_s_IsForm []), .t 3], .op (some 5) (.un .not) [.t 4], .op (some 6) .mv [.t 5], .sc 6 false (nl [.op (some 7) .mv [.t 0], .op (some 8) .lenS [.t 7], .op (some 9) (.bin .gtr) [.t 8, .k (.int .i64 4)]]) (.t 9) (some 10)])) [0, 10])
        (.cond (.t 10)
          (.seq
            (.reg [⟨(some 11), (.bsl 1 1), [], none⟩,
              ⟨(some 2), .mv, [.t 11], none⟩] [2])
            .ret)
          .skip))
      (.seq
        (.reg [⟨(some 12), .mv, [.t 0], none⟩,
          ⟨(some 13), .call, [.k (.fn c_s_l7From []), .t 12, .k (.int .i64 0), .k (.int .i64 2)], none⟩,
          ⟨(some 2), .mv, [.t 13], none⟩] [2])
        .ret)))
def s_Generate.F : Cfg := ⟨fun d => if d = 11 then 1 else 0, fun r => match r with | 0 => [0] | 1 => [0, 10] | 2 => [2] | 3 => [2] | _ => []⟩
def s_Generate.X (c_s_IsForm c_s_l7From : Nat) : FX := ⟨14, [.tmp 2], s_Generate.F, s_Generate.x c_s_IsForm c_s_l7From⟩

theorem s_Generate.ok {P : Program} {k c_s_IsForm c_s_l7From : Nat} (hk : Has P k (s_Generate.X c_s_IsForm c_s_l7From)) (h1 : C_IsForm P c_s_IsForm) (h2 : C_l7From P c_s_l7From) : C_gen genQ P k := by
  intro s hs n H
  refine S.ofX hk rfl fun hB fn hr => ?_
  unfold s_Generate.x
  repeat' (first
    | ((with_reducible refine S.go ?_); first | refine S.seq ?_ | refine S.skip ?_ | refine S.block ?_ | refine S.inBlock ?_ | refine S.exit rfl ?_ | refine S.regN ?_ | refine S.reg ?_ | refine S.drw hk.mo (by kernel_rfl) ?_ | (refine S.cond rfl (fun hc => ?_) (fun hc => ?_) <;> try simp only [HC] at hc) | refine S.retH hr rfl ?_ | refine S.finH hr rfl ?_ | (refine S.retK hr ?_; refine TRg4 ?_) | fail)
    | ((first | with_reducible refine Ns.go ?_ | with_reducible refine XOs.go ?_ | with_reducible refine XDs.go ?_ | with_reducible refine OK.go ?_); (first | refine TTg4 ?_ | (apply Ns.sc ⟨rfl, rfl⟩ rfl; intro hg) | (refine OK.tr ?_; refine TTg4 ?_)); (try simp only [HC] at hg))
    | with_reducible exact rfl | exact ⟨rfl, rfl, rfl⟩
    | ((with_reducible refine RunsT.go ?_); first | refine RunsF.apf (h1 _ hs) rfl ?_ | refine RunsF.apf (h2 s 0 2 (by omega) (by omega) (by omega) _ _ rfl rfl) rfl ?_ | fail)
    | ((with_reducible refine RunsD.go ?_); first | refine RunsF.apd (h1 _ hs) rfl ?_ | refine RunsF.apd (h2 s 0 2 (by omega) (by omega) (by omega) _ _ rfl rfl) rfl ?_ | fail)
    | ((with_reducible refine Gd.go ?_); refine Gd.on (fun hg => ?_) (fun hg => ?_) <;> refine TGg4 ?_ <;> (try simp only [HC] at hg))
    | ((with_reducible refine Fin.go ?_); first | (refine Fin.p ?_; first | exact FT | (try refine TTg4 ?_; try simp only [LF])) | refine Fin.a0 ?_ | refine Fin.a ?_ | refine Fin.ni ?_ | refine Fin.v ?_ ?_ | refine Fin.r ?_ ?_ | exact Fin.th | (refine Fin.t ?_; try simp only [AV.sl.injEq]))
    | (refine And.go ?_; refine AndI ?_)
    | fail)
  all_goals (try clear hr hk hB)
  all_goals first | (rw [genQ, if_neg (by simp only [not_and]; grind)]; rfl) | (rw [genQ, if_pos ⟨hc.1, by omega⟩]; rfl)
end Go.G04
end
