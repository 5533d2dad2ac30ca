/- The law of the marks of paths. Over any program. -/
import Derived.Test.YtobhjgipeepmoaaM07
namespace Go.M08
open Go.Ab Go.Lib01 Go.Lib02 Go.Lib03 Go.Lib04 Go.M01 Go.M02 Go.M03 Go.M04 Go.M06 Go.M07
set_option linter.unusedVariables false
set_option linter.unusedSimpArgs false
set_option maxRecDepth 2000

def C_lawPath (P : Program) (k : Nat) : Prop := ∀ (l : List (List UInt8)) (c : List Link), Big l → c.length ≤ 9223372036854775807 → Runs P k [.sl (enc l), .agg [.sl (enc c)]] 0 [] (fun v n' H' => v = .bool true ∧ n' = 0 ∧ H' = [])
theorem pathM_len (names : List (List UInt8)) (c : List Link) : (pathM names c).length ≤ names.length := by
  unfold pathM
  split
  · rename_i h
    simp only [Bool.and_eq_true] at h
    have g3 : c.all isLnk = true := by have := h.2; simp only [isCand, Bool.and_eq_true] at this; exact this.1
    obtain ⟨q1, q2, q3⟩ := pgo_inv h.1 c g3
    rw [addM_len (by rw [endM_full h.1 q3]; exact q1), q1]; exact Nat.le_refl _
  · exact Nat.zero_le _
/-- laws.FnExactPathMarks -/
def w_FnExactPathMarks.x (c_w_szStringS c_w_szCandidate c_w_toStringS c_w_toCandidate c_s_PathMarks c_i_PathMarks c_w_eqIntS c_w_eqStringS c_w_eqCandidate c_w_markStringS c_w_markCandidate c_w_markIntS c_w_heldIntS : Nat) : XCode :=
  (.seq
    (.reg [⟨(some 3), .boxF, [.t 1], none⟩,
      ⟨(some 4), .mv, [.k (.bool false)], none⟩] [0, 3])
    (.seq
      (.reg [⟨(some 5), .mv, [.k (.int .i64 1048576)], none⟩] [0, 3, 5])
      (.seq
        (.reg [⟨(some 14), .mv, [.t 0], none⟩,
          ⟨(some 15), .mv, [.t 5], none⟩,
          ⟨(some 16), .call, [.k (.fn c_w_szStringS []), .t 14, .t 15], none⟩,
          ⟨(some 5), .mv, [.t 16], none⟩] [0, 3, 5])
        (.seq
          (.seq
            (.reg [⟨(some 17), .mv, [.t 5], none⟩,
              ⟨(some 18), (.bin .lss), [.t 17, .k (.int .i64 0)], none⟩] [0, 3, 5, 18])
            (.cond (.t 18)
              (.seq
                (.reg [⟨(some 4), .mv, [.k (.bool true)], none⟩] [4])
                .ret)
              .skip))
          (.seq
            (.reg [⟨(some 19), (.ld (some 1)), [.t 3], none⟩,
              ⟨(some 20), .mv, [.t 5], none⟩,
              ⟨(some 21), .call, [.k (.fn c_w_szCandidate []), .t 19, .t 20], none⟩,
              ⟨(some 5), .mv, [.t 21], none⟩] [0, 3, 5])
            (.seq
              (.seq
                (.reg [⟨(some 22), .mv, [.t 5], none⟩,
                  ⟨(some 23), (.bin .lss), [.t 22, .k (.int .i64 0)], none⟩] [0, 3, 23])
                (.cond (.t 23)
                  (.seq
                    (.reg [⟨(some 4), .mv, [.k (.bool true)], none⟩] [4])
                    .ret)
                  .skip))
              (.seq
                (.drw [(⟨(some 24), .mv, [.t 0], none⟩, []),
                  (⟨(some 25), .call, [.k (.fn c_w_toStringS []), .t 24], none⟩, [0]),
                  (⟨(some 26), (.ld (some 1)), [.t 3], none⟩, []),
                  (⟨(some 27), .call, [.k (.fn c_w_toCandidate []), .t 26], none⟩, [2, 1]),
                  (⟨(some 28), .call, [.k (.fn c_s_PathMarks []), .t 25, .t 27], none⟩, [1, 3, 3]),
                  (⟨(some 6), .mv, [.t 28], none⟩, [4, 4, 0, 1, 2, 3, 4])] [0, 3, 6] [0, 0, 0, 0, 0, 0])
                (.seq
                  (.reg [⟨(some 29), .mv, [.t 0], none⟩,
                    ⟨(some 30), .call, [.k (.fn c_w_toStringS []), .t 29], none⟩,
                    ⟨(some 7), .mv, [.t 30], none⟩] [0, 3, 6, 7])
                  (.seq
                    (.reg [⟨(some 31), (.ld (some 1)), [.t 3], none⟩,
                      ⟨(some 32), .call, [.k (.fn c_w_toCandidate []), .t 31], none⟩,
                      ⟨(some 8), (.alloc [.nilsl]), [], none⟩,
                      ⟨none, (.st (some 1)), [.t 8, .t 32], none⟩] [0, 3, 6, 7, 8])
                    (.seq
                      (.reg [⟨(some 33), .mv, [.t 7], none⟩,
                        ⟨(some 34), (.ld (some 1)), [.t 8], none⟩,
                        ⟨(some 35), .call, [.k (.fn c_i_PathMarks []), .t 33, .t 34], none⟩,
                        ⟨(some 9), .mv, [.t 35], none⟩] [0, 3, 6, 7, 8, 9])
                      (.seq
                        (.seq
                          (.reg [⟨(some 36), .mv, [.t 9], none⟩,
                            ⟨(some 37), .mv, [.t 6], none⟩,
                            ⟨(some 38), .call, [.k (.fn c_w_eqIntS []), .t 36, .t 37], none⟩,
                            ⟨(some 39), (.un .not), [.t 38], none⟩] [0, 3, 6, 7, 8, 9, 39])
                          (.cond (.t 39)
                            (.seq
                              (.reg [⟨(some 4), .mv, [.k (.bool false)], none⟩] [4])
                              .ret)
                            .skip))
                        (.seq
                          (.seq
                            (.reg [⟨(some 40), .mv, [.t 7], none⟩,
                              ⟨(some 41), .mv, [.t 0], none⟩,
                              ⟨(some 42), .call, [.k (.fn c_w_toStringS []), .t 41], none⟩,
                              ⟨(some 43), .call, [.k (.fn c_w_eqStringS []), .t 40, .t 42], none⟩,
                              ⟨(some 44), (.un .not), [.t 43], none⟩] [0, 3, 6, 7, 8, 9, 44])
                            (.cond (.t 44)
                              (.seq
                                (.reg [⟨(some 4), .mv, [.k (.bool false)], none⟩] [4])
                                .ret)
                              .skip))
                          (.seq
                            (.seq
                              (.drw [(⟨(some 45), (.ld (some 1)), [.t 8], none⟩, []),
                                (⟨(some 46), (.ld (some 1)), [.t 3], none⟩, []),
                                (⟨(some 47), .call, [.k (.fn c_w_toCandidate []), .t 46], none⟩, [1]),
                                (⟨(some 48), .call, [.k (.fn c_w_eqCandidate []), .t 45, .t 47], none⟩, [0, 2, 2]),
                                (⟨(some 49), (.un .not), [.t 48], none⟩, [3])] [0, 3, 6, 7, 8, 9, 49] [1, 0, 0, 2, 0])
                              (.cond (.t 49)
                                (.seq
                                  (.reg [⟨(some 4), .mv, [.k (.bool false)], none⟩] [4])
                                  .ret)
                                .skip))
                            (.seq
                              (.reg [⟨(some 10), .mv, [.k (.int .i64 1)], none⟩] [0, 3, 6, 7, 8, 9, 10])
                              (.seq
                                (.reg [⟨(some 50), .mv, [.t 7], none⟩,
                                  ⟨(some 51), .mv, [.t 10], none⟩,
                                  ⟨(some 52), .call, [.k (.fn c_w_markStringS []), .t 50, .t 51], none⟩,
                                  ⟨(some 10), .mv, [.t 52], none⟩] [0, 3, 6, 8, 9, 10])
                                (.seq
                                  (.reg [⟨(some 53), (.ld (some 1)), [.t 8], none⟩,
                                    ⟨(some 54), .mv, [.t 10], none⟩,
                                    ⟨(some 55), .call, [.k (.fn c_w_markCandidate []), .t 53, .t 54], none⟩,
                                    ⟨(some 10), .mv, [.t 55], none⟩] [0, 3, 6, 9, 10])
                                  (.seq
                                    (.seq
                                      (.reg (flatNs none (nl [.op (some 56) .mv [.t 10], .op (some 57) (.bin .lss) [.t 56, .k (.int .i64 0)], .op (some 58) .mv [.t 57], .sc 58 false (nl [.op (some 59) .mv [.t 9], .op (some 60) .mv [.t 6], .op (some 61) .call [.k (.fn c_w_eqIntS []), .t 59, .t 60], .op (some 62) (.un .not) [.t 61]]) (.t 62) (some 63)])) [0, 3, 6, 9, 63])
                                      (.cond (.t 63)
                                        (.seq
                                          (.reg [⟨(some 4), .mv, [.k (.bool false)], none⟩] [4])
                                          .ret)
                                        .skip))
                                    (.seq
                                      (.reg [⟨(some 11), .mv, [.k (.int .i64 1)], none⟩] [0, 3, 6, 9, 11])
                                      (.seq
                                        (.reg [⟨(some 64), .mv, [.t 9], none⟩,
                                          ⟨(some 65), .mv, [.t 11], none⟩,
                                          ⟨(some 66), .call, [.k (.fn c_w_markIntS []), .t 64, .t 65], none⟩,
                                          ⟨(some 11), .mv, [.t 66], none⟩] [0, 3, 6, 9, 11])
                                        (.seq
                                          (.reg [⟨(some 12), .mv, [.k (.int .i64 1)], none⟩] [0, 3, 6, 9, 11, 12])
                                          (.seq
                                            (.reg [⟨(some 67), .mv, [.t 9], none⟩,
                                              ⟨(some 68), .mv, [.t 12], none⟩,
                                              ⟨(some 69), .call, [.k (.fn c_w_heldIntS []), .t 67, .t 68], none⟩,
                                              ⟨(some 12), .mv, [.t 69], none⟩] [0, 3, 6, 9, 11, 12])
                                            (.seq
                                              (.seq
                                                (.reg [⟨(some 70), .mv, [.t 12], none⟩,
                                                  ⟨(some 71), (.bin .lss), [.t 70, .k (.int .i64 0)], none⟩] [0, 3, 6, 9, 11, 12, 71])
                                                (.cond (.t 71)
                                                  (.seq
                                                    (.reg [⟨(some 4), .mv, [.k (.bool false)], none⟩] [4])
                                                    .ret)
                                                  .skip))
                                              (.seq
                                                (.seq
                                                  (.reg [⟨(some 72), .mv, [.t 12], none⟩,
                                                    ⟨(some 73), .mv, [.t 11], none⟩,
                                                    ⟨(some 74), (.bin .neq), [.t 72, .t 73], none⟩] [0, 3, 6, 9, 11, 74])
                                                  (.cond (.t 74)
                                                    (.seq
                                                      (.reg [⟨(some 4), .mv, [.k (.bool false)], none⟩] [4])
                                                      .ret)
                                                    .skip))
                                                (.seq
                                                  (.drw [(⟨(some 75), .mv, [.t 0], none⟩, []),
                                                    (⟨(some 76), .call, [.k (.fn c_w_toStringS []), .t 75], none⟩, [0]),
                                                    (⟨(some 77), (.ld (some 1)), [.t 3], none⟩, []),
                                                    (⟨(some 78), .call, [.k (.fn c_w_toCandidate []), .t 77], none⟩, [2, 1]),
                                                    (⟨(some 79), .call, [.k (.fn c_i_PathMarks []), .t 76, .t 78], none⟩, [1, 3, 3]),
                                                    (⟨(some 13), .mv, [.t 79], none⟩, [4, 4, 0, 1, 2, 3, 4])] [6, 9, 11, 13] [0, 0, 0, 0, 0, 0])
                                                  (.seq
                                                    (.seq
                                                      (.reg [⟨(some 80), .mv, [.t 13], none⟩,
                                                        ⟨(some 81), .mv, [.t 6], none⟩,
                                                        ⟨(some 82), .call, [.k (.fn c_w_eqIntS []), .t 80, .t 81], none⟩,
                                                        ⟨(some 83), (.un .not), [.t 82], none⟩] [9, 11, 83])
                                                      (.cond (.t 83)
                                                        (.seq
                                                          (.reg [⟨(some 4), .mv, [.k (.bool false)], none⟩] [4])
                                                          .ret)
                                                        .skip))
                                                    (.seq
                                                      (.reg [⟨(some 12), .mv, [.k (.int .i64 1)], none⟩] [9, 11, 12])
                                                      (.seq
                                                        (.reg [⟨(some 84), .mv, [.t 9], none⟩,
                                                          ⟨(some 85), .mv, [.t 12], none⟩,
                                                          ⟨(some 86), .call, [.k (.fn c_w_heldIntS []), .t 84, .t 85], none⟩,
                                                          ⟨(some 12), .mv, [.t 86], none⟩] [11, 12])
                                                        (.seq
                                                          (.seq
                                                            (.reg [⟨(some 87), .mv, [.t 12], none⟩,
                                                              ⟨(some 88), (.bin .lss), [.t 87, .k (.int .i64 0)], none⟩] [11, 12, 88])
                                                            (.cond (.t 88)
                                                              (.seq
                                                                (.reg [⟨(some 4), .mv, [.k (.bool false)], none⟩] [4])
                                                                .ret)
                                                              .skip))
                                                          (.seq
                                                            (.seq
                                                              (.reg [⟨(some 89), .mv, [.t 12], none⟩,
                                                                ⟨(some 90), .mv, [.t 11], none⟩,
                                                                ⟨(some 91), (.bin .neq), [.t 89, .t 90], none⟩] [91])
                                                              (.cond (.t 91)
                                                                (.seq
                                                                  (.reg [⟨(some 4), .mv, [.k (.bool false)], none⟩] [4])
                                                                  .ret)
                                                                .skip))
                                                            (.seq
                                                              (.reg [⟨(some 4), .mv, [.k (.bool true)], none⟩] [4])
                                                              .ret))))))))))))))))))))))))))))))
def w_FnExactPathMarks.F : Cfg := ⟨fun _ => 0, fun r => match r with | 0 => [0, 3] | 1 => [0, 3, 5] | 2 => [0, 3, 5] | 3 => [0, 3, 5, 18] | 4 => [4] | 5 => [0, 3, 5] | 6 => [0, 3, 23] | 7 => [4] | 8 => [0, 3, 6] | 9 => [0, 3, 6, 7] | 10 => [0, 3, 6, 7, 8] | 11 => [0, 3, 6, 7, 8, 9] | 12 => [0, 3, 6, 7, 8, 9, 39] | 13 => [4] | 14 => [0, 3, 6, 7, 8, 9, 44] | 15 => [4] | 16 => [0, 3, 6, 7, 8, 9, 49] | 17 => [4] | 18 => [0, 3, 6, 7, 8, 9, 10] | 19 => [0, 3, 6, 8, 9, 10] | 20 => [0, 3, 6, 9, 10] | 21 => [0, 3, 6, 9, 63] | 22 => [4] | 23 => [0, 3, 6, 9, 11] | 24 => [0, 3, 6, 9, 11] | 25 => [0, 3, 6, 9, 11, 12] | 26 => [0, 3, 6, 9, 11, 12] | 27 => [0, 3, 6, 9, 11, 12, 71] | 28 => [4] | 29 => [0, 3, 6, 9, 11, 74] | 30 => [4] | 31 => [6, 9, 11, 13] | 32 => [9, 11, 83] | 33 => [4] | 34 => [9, 11, 12] | 35 => [11, 12] | 36 => [11, 12, 88] | 37 => [4] | 38 => [91] | 39 => [4] | 40 => [4] | 1000008 => [0, 0, 0, 0, 0, 0] | 1000016 => [1, 0, 0, 2, 0] | 1000031 => [0, 0, 0, 0, 0, 0] | _ => []⟩
def w_FnExactPathMarks.X (c_w_szStringS c_w_szCandidate c_w_toStringS c_w_toCandidate c_s_PathMarks c_i_PathMarks c_w_eqIntS c_w_eqStringS c_w_eqCandidate c_w_markStringS c_w_markCandidate c_w_markIntS c_w_heldIntS : Nat) : FX := ⟨92, [.tmp 4], w_FnExactPathMarks.F, w_FnExactPathMarks.x c_w_szStringS c_w_szCandidate c_w_toStringS c_w_toCandidate c_s_PathMarks c_i_PathMarks c_w_eqIntS c_w_eqStringS c_w_eqCandidate c_w_markStringS c_w_markCandidate c_w_markIntS c_w_heldIntS⟩

set_option maxHeartbeats 4000000 in
theorem w_FnExactPathMarks.ok {P : Program} {k c_w_szStringS c_w_szCandidate c_w_toStringS c_w_toCandidate c_s_PathMarks c_i_PathMarks c_w_eqIntS c_w_eqStringS c_w_eqCandidate c_w_markStringS c_w_markCandidate c_w_markIntS c_w_heldIntS : Nat} (hk : Has P k (w_FnExactPathMarks.X c_w_szStringS c_w_szCandidate c_w_toStringS c_w_toCandidate c_s_PathMarks c_i_PathMarks c_w_eqIntS c_w_eqStringS c_w_eqCandidate c_w_markStringS c_w_markCandidate c_w_markIntS c_w_heldIntS)) (h1 : C_szStringS P c_w_szStringS) (h0 : C_szCand P c_w_szCandidate) (h2 : O_strs P c_w_toStringS) (h3 : O_cand P c_w_toCandidate) (h4 : C_PathMarks P c_s_PathMarks) (h5 : C_PathMarks P c_i_PathMarks) (h6 : C_eqInts P c_w_eqIntS) (h7 : C_eqStringS P c_w_eqStringS) (h10 : C_eqCand P c_w_eqCandidate) (h11 : C_markS P c_w_markStringS) (h12 : C_markCT P c_w_markCandidate) (h8 : C_markI P c_w_markIntS) (h9 : C_heldI P c_w_heldIntS) : C_lawPath P k := by
  intro l c hl hcl
  have k1 := h1 _ _ hl (show (-1 : Int) ≤ 1048576 by omega) (show (1048576 : Int) ≤ 1048576 by omega)
  by_cases hs : szStr l 1048576 < 0
  · skip
    refine S.ofL hk rfl fun hB fn hr => ?_
    unfold w_FnExactPathMarks.x
    repeat' (first
      | ((with_reducible refine S.go ?_); first | refine S.seq ?_ | refine S.skip ?_ | refine S.block ?_ | refine S.inBlock ?_ | refine S.exit rfl ?_ | refine S.regN ?_ | refine S.reg ?_ | refine S.drw hk.mo (by kernel_rfl) ?_ | (refine S.cond rfl (fun hc => ?_) (fun hc => ?_) <;> try simp only [HC] at hc) | refine S.retH hr rfl ?_ | refine S.finH hr rfl ?_ | (refine S.retK hr ?_; refine TRm7 ?_) | fail)
      | ((first | with_reducible refine Ns.go ?_ | with_reducible refine XOs.go ?_ | with_reducible refine XDs.go ?_ | with_reducible refine OK.go ?_); (first | refine TTm7 ?_ | (apply Ns.sc ⟨rfl, rfl⟩ rfl; intro hg) | (refine OK.tr ?_; refine TTm7 ?_)); (try simp only [HC] at hg))
      | with_reducible exact rfl | exact ⟨rfl, rfl, rfl⟩
      | ((with_reducible refine RunsT.go ?_); first | refine RunsF.apf (k1) rfl ?_ | fail)
      | ((with_reducible refine RunsD.go ?_); first | refine RunsF.apd (k1) rfl ?_ | fail)
      | ((with_reducible refine Gd.go ?_); refine Gd.on (fun hg => ?_) (fun hg => ?_) <;> refine TGm7 ?_ <;> (try simp only [HC] at hg))
      | ((with_reducible refine Fin.go ?_); first | (refine Fin.p ?_; first | exact FT | (try refine TTm7 ?_; try simp only [LF])) | refine Fin.a0 ?_ | refine Fin.a ?_ | refine Fin.ni ?_ | refine Fin.v ?_ ?_ | refine Fin.r ?_ ?_ | exact Fin.th | (refine Fin.t ?_; try simp only [AV.sl.injEq]))
      | (refine And.go ?_; refine AndI ?_)
      | fail)
    all_goals first | (exfalso; omega) | skip
  have hq := szStr_le (show 0 ≤ szStr l 1048576 by omega)
  have hz : szStr l 1048576 ≤ 1048576 := szStr_up l 1048576
  have k0 := h0 c (szStr l 1048576) hcl (by omega) hz
  by_cases hs2 : szN c.length (szStr l 1048576) < 0
  · skip
    refine S.ofL hk rfl fun hB fn hr => ?_
    unfold w_FnExactPathMarks.x
    repeat' (first
      | ((with_reducible refine S.go ?_); first | refine S.seq ?_ | refine S.skip ?_ | refine S.block ?_ | refine S.inBlock ?_ | refine S.exit rfl ?_ | refine S.regN ?_ | refine S.reg ?_ | refine S.drw hk.mo (by kernel_rfl) ?_ | (refine S.cond rfl (fun hc => ?_) (fun hc => ?_) <;> try simp only [HC] at hc) | refine S.retH hr rfl ?_ | refine S.finH hr rfl ?_ | (refine S.retK hr ?_; refine TRm7 ?_) | fail)
      | ((first | with_reducible refine Ns.go ?_ | with_reducible refine XOs.go ?_ | with_reducible refine XDs.go ?_ | with_reducible refine OK.go ?_); (first | refine TTm7 ?_ | (apply Ns.sc ⟨rfl, rfl⟩ rfl; intro hg) | (refine OK.tr ?_; refine TTm7 ?_)); (try simp only [HC] at hg))
      | with_reducible exact rfl | exact ⟨rfl, rfl, rfl⟩
      | ((with_reducible refine RunsT.go ?_); first | refine RunsF.apf (k1) rfl ?_ | refine RunsF.apf (k0) rfl ?_ | fail)
      | ((with_reducible refine RunsD.go ?_); first | refine RunsF.apd (k1) rfl ?_ | refine RunsF.apd (k0) rfl ?_ | fail)
      | ((with_reducible refine Gd.go ?_); refine Gd.on (fun hg => ?_) (fun hg => ?_) <;> refine TGm7 ?_ <;> (try simp only [HC] at hg))
      | ((with_reducible refine Fin.go ?_); first | (refine Fin.p ?_; first | exact FT | (try refine TTm7 ?_; try simp only [LF])) | refine Fin.a0 ?_ | refine Fin.a ?_ | refine Fin.ni ?_ | refine Fin.v ?_ ?_ | refine Fin.r ?_ ?_ | exact Fin.th | (refine Fin.t ?_; try simp only [AV.sl.injEq]))
      | (refine And.go ?_; refine AndI ?_)
      | fail)
    all_goals first | (exfalso; omega) | skip
  have hcn : c.length ≤ 1048576 := by unfold szN at hs2; split at hs2 <;> omega
  have hm := pathM_len l c
  have hql := hq.1
  have k2 := h2 l (by omega)
  have k3 := h3 c (by omega)
  have k4 := h4 l c (by omega) (by omega)
  have k5 := h5 l c (by omega) (by omega)
  have k6 := h6 (pathM l c) (pathM l c) (by omega) (by omega)
  have k7 := h7 l l (by omega) (by omega)
  have k10 := h10 c c (by omega) (by omega)
  have k11 := h11 l (by omega)
  have k12 := h12 c (by omega)
  have k8 := h8 (pathM l c) (by omega)
  have k9 := h9 1 (pathM l c).length (by omega) (by omega) (by omega)
  clear h0 h1 h2 h3 h4 h5 h6 h7 h8 h9 h10 h11 h12
  refine S.ofL hk rfl fun hB fn hr => ?_
  unfold w_FnExactPathMarks.x
  repeat' (first
    | ((with_reducible refine S.go ?_); first | refine S.seq ?_ | refine S.skip ?_ | refine S.block ?_ | refine S.inBlock ?_ | refine S.exit rfl ?_ | refine S.regN ?_ | refine S.reg ?_ | refine S.drw hk.mo (by kernel_rfl) ?_ | (refine S.cond rfl (fun hc => ?_) (fun hc => ?_) <;> try simp only [HC] at hc) | refine S.retH hr rfl ?_ | refine S.finH hr rfl ?_ | (refine S.retK hr ?_; refine TRm7 ?_) | fail)
    | ((first | with_reducible refine Ns.go ?_ | with_reducible refine XOs.go ?_ | with_reducible refine XDs.go ?_ | with_reducible refine OK.go ?_); (first | refine TTm7 ?_ | (apply Ns.sc ⟨rfl, rfl⟩ rfl; intro hg) | (refine OK.tr ?_; refine TTm7 ?_)); (try simp only [HC] at hg))
    | with_reducible exact rfl | exact ⟨rfl, rfl, rfl⟩
    | ((with_reducible refine RunsT.go ?_); first | (refine RunsO.l ( k2) (fun v n2 N hle hf ht => ?_); (first | (obtain ⟨c1, rfl⟩ := ht.agg1) | (obtain ⟨c1, c2, rfl⟩ := ht.agg2) | (obtain ⟨c1, c2, c3, rfl⟩ := ht.agg3) | skip)) | (refine RunsO.l ( k3) (fun v n2 N hle hf ht => ?_); (first | (obtain ⟨c1, rfl⟩ := ht.agg1) | (obtain ⟨c1, c2, rfl⟩ := ht.agg2) | (obtain ⟨c1, c2, c3, rfl⟩ := ht.agg3) | skip)) | (refine RunsO.l ( k5) (fun v n2 N hle hf ht => ?_); (first | (obtain ⟨c1, rfl⟩ := ht.agg1) | (obtain ⟨c1, c2, rfl⟩ := ht.agg2) | (obtain ⟨c1, c2, c3, rfl⟩ := ht.agg3) | skip)) | refine RunsF.l ( k6) ?_ | refine RunsF.l ( k7) ?_ | refine RunsF.l ( k10) ?_ | refine MarkT.a ( k11) (fun N hnm ht => ?_) | refine MarkT.a ( k12) (fun N hnm ht => ?_) | refine MarkT.a ( k8) (fun N hnm ht => ?_) | refine RunsF.l ( k9) ?_ | refine RunsF.apf (k1) rfl ?_ | refine RunsF.apf (k0) rfl ?_ | fail)
    | ((with_reducible refine RunsD.go ?_); first | refine RunsF.apd ( k2.f) rfl ?_ | refine RunsF.apd ( k3.f) rfl ?_ | refine RunsF.apd ( k4.f) rfl ?_ | refine RunsF.apd ( k5.f) rfl ?_ | refine RunsF.ld ( k6) ?_ | refine RunsF.ld ( k7) ?_ | refine RunsF.ld ( k10) ?_ | refine RunsF.ld ( k9) ?_ | refine RunsF.apd (k1) rfl ?_ | refine RunsF.apd (k0) rfl ?_ | fail)
    | ((with_reducible refine Gd.go ?_); refine Gd.on (fun hg => ?_) (fun hg => ?_) <;> refine TGm7 ?_ <;> (try simp only [HC] at hg))
    | ((with_reducible refine Fin.go ?_); first | (refine Fin.p ?_; first | exact FT | (try refine TTm7 ?_; try simp only [LF])) | refine Fin.a0 ?_ | refine Fin.a ?_ | refine Fin.ni ?_ | refine Fin.v ?_ ?_ | refine Fin.r ?_ ?_ | exact Fin.th | (refine Fin.t ?_; try simp only [AV.sl.injEq]))
    | (refine And.go ?_; refine AndI ?_)
    | fail)
  all_goals first | (exfalso; first | omega | exact hc trivial | grind) | trace_state
end Go.M08
