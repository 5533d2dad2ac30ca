/- The laws of the marks of ends and of steps. Over any program. -/
import Derived.Test.YtobhjgipeepmoaaM04
namespace Go.M05
open Go.Ab Go.Lib01 Go.Lib02 Go.Lib03 Go.Lib04 Go.M01 Go.M02 Go.M03 Go.M04
set_option linter.unusedVariables false
set_option linter.unusedSimpArgs false
set_option maxRecDepth 2000

def C_lawEnd (P : Program) (k : Nat) : Prop := ∀ (l : List (List UInt8)) (last : UInt8), Big l → Runs P k [.sl (enc l), .int .u8 (last.toNat : Int)] 0 [] (fun v n' H' => v = .bool true ∧ n' = 0 ∧ H' = [])
def C_lawStep (P : Program) (k : Nat) : Prop := ∀ (l : List (List UInt8)) (last : UInt8) (x : Link), Big l → Runs P k [.sl (enc l), .int .u8 (last.toNat : Int), .agg (Dat.row x)] 0 [] (fun v n' H' => v = .bool true ∧ n' = 0 ∧ H' = [])
/-- laws.FnExactStepMarks -/
def w_FnExactStepMarks.x (c_w_szStringS c_w_toStringS c_w_toLink c_s_StepMarks c_i_StepMarks c_w_eqIntS c_w_eqStringS c_w_markStringS c_w_markIntS c_w_heldIntS : Nat) : XCode :=
  (.seq
    (.reg [⟨(some 5), .boxF, [.t 2], none⟩,
      ⟨(some 6), .mv, [.k (.bool false)], none⟩] [0, 1, 5])
    (.seq
      (.reg [⟨(some 7), .mv, [.k (.int .i64 1048576)], none⟩] [0, 1, 5, 7])
      (.seq
        (.reg [⟨(some 15), .mv, [.t 0], none⟩,
          ⟨(some 16), .mv, [.t 7], none⟩,
          ⟨(some 17), .call, [.k (.fn c_w_szStringS []), .t 15, .t 16], none⟩,
          ⟨(some 7), .mv, [.t 17], none⟩] [0, 1, 5, 7])
        (.seq
          (.seq
            (.reg [⟨(some 18), .mv, [.t 7], none⟩,
              ⟨(some 19), (.bin .lss), [.t 18, .k (.int .i64 0)], none⟩] [0, 1, 5, 19])
            (.cond (.t 19)
              (.seq
                (.reg [⟨(some 6), .mv, [.k (.bool true)], none⟩] [6])
                .ret)
              .skip))
          (.seq
            (.drw [(⟨(some 20), .mv, [.t 0], none⟩, []),
              (⟨(some 21), .call, [.k (.fn c_w_toStringS []), .t 20], none⟩, [0]),
              (⟨(some 22), .mv, [.t 1], none⟩, []),
              (⟨(some 23), (.ld (some 2)), [.t 5], none⟩, []),
              (⟨(some 24), .call, [.k (.fn c_w_toLink []), .t 23], none⟩, [3, 1]),
              (⟨(some 25), .call, [.k (.fn c_s_StepMarks []), .t 21, .t 22, .t 24], none⟩, [1, 2, 4, 4]),
              (⟨(some 8), .mv, [.t 25], none⟩, [5, 5, 0, 1, 2, 3, 4, 5])] [0, 1, 5, 8] [0, 0, 0, 0, 0, 0, 0])
            (.seq
              (.reg [⟨(some 26), .mv, [.t 0], none⟩,
                ⟨(some 27), .call, [.k (.fn c_w_toStringS []), .t 26], none⟩,
                ⟨(some 9), .mv, [.t 27], none⟩] [0, 1, 5, 8, 9])
              (.seq
                (.reg [⟨(some 28), .mv, [.t 9], none⟩,
                  ⟨(some 29), .mv, [.t 1], none⟩,
                  ⟨(some 30), (.ld (some 2)), [.t 5], none⟩,
                  ⟨(some 31), .call, [.k (.fn c_w_toLink []), .t 30], none⟩,
                  ⟨(some 32), .call, [.k (.fn c_i_StepMarks []), .t 28, .t 29, .t 31], none⟩,
                  ⟨(some 10), .mv, [.t 32], none⟩] [0, 1, 5, 8, 9, 10])
                (.seq
                  (.seq
                    (.reg [⟨(some 33), .mv, [.t 10], none⟩,
                      ⟨(some 34), .mv, [.t 8], none⟩,
                      ⟨(some 35), .call, [.k (.fn c_w_eqIntS []), .t 33, .t 34], none⟩,
                      ⟨(some 36), (.un .not), [.t 35], none⟩] [0, 1, 5, 8, 9, 10, 36])
                    (.cond (.t 36)
                      (.seq
                        (.reg [⟨(some 6), .mv, [.k (.bool false)], none⟩] [6])
                        .ret)
                      .skip))
                  (.seq
                    (.seq
                      (.reg [⟨(some 37), .mv, [.t 9], none⟩,
                        ⟨(some 38), .mv, [.t 0], none⟩,
                        ⟨(some 39), .call, [.k (.fn c_w_toStringS []), .t 38], none⟩,
                        ⟨(some 40), .call, [.k (.fn c_w_eqStringS []), .t 37, .t 39], none⟩,
                        ⟨(some 41), (.un .not), [.t 40], none⟩] [0, 1, 5, 8, 9, 10, 41])
                      (.cond (.t 41)
                        (.seq
                          (.reg [⟨(some 6), .mv, [.k (.bool false)], none⟩] [6])
                          .ret)
                        .skip))
                    (.seq
                      (.reg [⟨(some 11), .mv, [.k (.int .i64 1)], none⟩] [0, 1, 5, 8, 9, 10, 11])
                      (.seq
                        (.reg [⟨(some 42), .mv, [.t 9], none⟩,
                          ⟨(some 43), .mv, [.t 11], none⟩,
                          ⟨(some 44), .call, [.k (.fn c_w_markStringS []), .t 42, .t 43], none⟩,
                          ⟨(some 11), .mv, [.t 44], none⟩] [0, 1, 5, 8, 10, 11])
                        (.seq
                          (.seq
                            (.reg (flatNs none (nl [.op (some 45) .mv [.t 11], .op (some 46) (.bin .lss) [.t 45, .k (.int .i64 0)], .op (some 47) .mv [.t 46], .sc 47 false (nl [.op (some 48) .mv [.t 10], .op (some 49) .mv [.t 8], .op (some 50) .call [.k (.fn c_w_eqIntS []), .t 48, .t 49], .op (some 51) (.un .not) [.t 50]]) (.t 51) (some 52)])) [0, 1, 5, 8, 10, 52])
                            (.cond (.t 52)
                              (.seq
                                (.reg [⟨(some 6), .mv, [.k (.bool false)], none⟩] [6])
                                .ret)
                              .skip))
                          (.seq
                            (.reg [⟨(some 12), .mv, [.k (.int .i64 1)], none⟩] [0, 1, 5, 8, 10, 12])
                            (.seq
                              (.reg [⟨(some 53), .mv, [.t 10], none⟩,
                                ⟨(some 54), .mv, [.t 12], none⟩,
                                ⟨(some 55), .call, [.k (.fn c_w_markIntS []), .t 53, .t 54], none⟩,
                                ⟨(some 12), .mv, [.t 55], none⟩] [0, 1, 5, 8, 10, 12])
                              (.seq
                                (.reg [⟨(some 13), .mv, [.k (.int .i64 1)], none⟩] [0, 1, 5, 8, 10, 12, 13])
                                (.seq
                                  (.reg [⟨(some 56), .mv, [.t 10], none⟩,
                                    ⟨(some 57), .mv, [.t 13], none⟩,
                                    ⟨(some 58), .call, [.k (.fn c_w_heldIntS []), .t 56, .t 57], none⟩,
                                    ⟨(some 13), .mv, [.t 58], none⟩] [0, 1, 5, 8, 10, 12, 13])
                                  (.seq
                                    (.seq
                                      (.reg [⟨(some 59), .mv, [.t 13], none⟩,
                                        ⟨(some 60), (.bin .lss), [.t 59, .k (.int .i64 0)], none⟩] [0, 1, 5, 8, 10, 12, 13, 60])
                                      (.cond (.t 60)
                                        (.seq
                                          (.reg [⟨(some 6), .mv, [.k (.bool false)], none⟩] [6])
                                          .ret)
                                        .skip))
                                    (.seq
                                      (.seq
                                        (.reg [⟨(some 61), .mv, [.t 13], none⟩,
                                          ⟨(some 62), .mv, [.t 12], none⟩,
                                          ⟨(some 63), (.bin .neq), [.t 61, .t 62], none⟩] [0, 1, 5, 8, 10, 12, 63])
                                        (.cond (.t 63)
                                          (.seq
                                            (.reg [⟨(some 6), .mv, [.k (.bool false)], none⟩] [6])
                                            .ret)
                                          .skip))
                                      (.seq
                                        (.drw [(⟨(some 64), .mv, [.t 0], none⟩, []),
                                          (⟨(some 65), .call, [.k (.fn c_w_toStringS []), .t 64], none⟩, [0]),
                                          (⟨(some 66), .mv, [.t 1], none⟩, []),
                                          (⟨(some 67), (.ld (some 2)), [.t 5], none⟩, []),
                                          (⟨(some 68), .call, [.k (.fn c_w_toLink []), .t 67], none⟩, [3, 1]),
                                          (⟨(some 69), .call, [.k (.fn c_i_StepMarks []), .t 65, .t 66, .t 68], none⟩, [1, 2, 4, 4]),
                                          (⟨(some 14), .mv, [.t 69], none⟩, [5, 5, 0, 1, 2, 3, 4, 5])] [8, 10, 12, 14] [0, 0, 0, 0, 0, 0, 0])
                                        (.seq
                                          (.seq
                                            (.reg [⟨(some 70), .mv, [.t 14], none⟩,
                                              ⟨(some 71), .mv, [.t 8], none⟩,
                                              ⟨(some 72), .call, [.k (.fn c_w_eqIntS []), .t 70, .t 71], none⟩,
                                              ⟨(some 73), (.un .not), [.t 72], none⟩] [10, 12, 73])
                                            (.cond (.t 73)
                                              (.seq
                                                (.reg [⟨(some 6), .mv, [.k (.bool false)], none⟩] [6])
                                                .ret)
                                              .skip))
                                          (.seq
                                            (.reg [⟨(some 13), .mv, [.k (.int .i64 1)], none⟩] [10, 12, 13])
                                            (.seq
                                              (.reg [⟨(some 74), .mv, [.t 10], none⟩,
                                                ⟨(some 75), .mv, [.t 13], none⟩,
                                                ⟨(some 76), .call, [.k (.fn c_w_heldIntS []), .t 74, .t 75], none⟩,
                                                ⟨(some 13), .mv, [.t 76], none⟩] [12, 13])
                                              (.seq
                                                (.seq
                                                  (.reg [⟨(some 77), .mv, [.t 13], none⟩,
                                                    ⟨(some 78), (.bin .lss), [.t 77, .k (.int .i64 0)], none⟩] [12, 13, 78])
                                                  (.cond (.t 78)
                                                    (.seq
                                                      (.reg [⟨(some 6), .mv, [.k (.bool false)], none⟩] [6])
                                                      .ret)
                                                    .skip))
                                                (.seq
                                                  (.seq
                                                    (.reg [⟨(some 79), .mv, [.t 13], none⟩,
                                                      ⟨(some 80), .mv, [.t 12], none⟩,
                                                      ⟨(some 81), (.bin .neq), [.t 79, .t 80], none⟩] [81])
                                                    (.cond (.t 81)
                                                      (.seq
                                                        (.reg [⟨(some 6), .mv, [.k (.bool false)], none⟩] [6])
                                                        .ret)
                                                      .skip))
                                                  (.seq
                                                    (.reg [⟨(some 6), .mv, [.k (.bool true)], none⟩] [6])
                                                    .ret)))))))))))))))))))))))))
def w_FnExactStepMarks.F : Cfg := ⟨fun _ => 0, fun r => match r with | 0 => [0, 1, 5] | 1 => [0, 1, 5, 7] | 2 => [0, 1, 5, 7] | 3 => [0, 1, 5, 19] | 4 => [6] | 5 => [0, 1, 5, 8] | 6 => [0, 1, 5, 8, 9] | 7 => [0, 1, 5, 8, 9, 10] | 8 => [0, 1, 5, 8, 9, 10, 36] | 9 => [6] | 10 => [0, 1, 5, 8, 9, 10, 41] | 11 => [6] | 12 => [0, 1, 5, 8, 9, 10, 11] | 13 => [0, 1, 5, 8, 10, 11] | 14 => [0, 1, 5, 8, 10, 52] | 15 => [6] | 16 => [0, 1, 5, 8, 10, 12] | 17 => [0, 1, 5, 8, 10, 12] | 18 => [0, 1, 5, 8, 10, 12, 13] | 19 => [0, 1, 5, 8, 10, 12, 13] | 20 => [0, 1, 5, 8, 10, 12, 13, 60] | 21 => [6] | 22 => [0, 1, 5, 8, 10, 12, 63] | 23 => [6] | 24 => [8, 10, 12, 14] | 25 => [10, 12, 73] | 26 => [6] | 27 => [10, 12, 13] | 28 => [12, 13] | 29 => [12, 13, 78] | 30 => [6] | 31 => [81] | 32 => [6] | 33 => [6] | 1000005 => [0, 0, 0, 0, 0, 0, 0] | 1000024 => [0, 0, 0, 0, 0, 0, 0] | _ => []⟩
def w_FnExactStepMarks.X (c_w_szStringS c_w_toStringS c_w_toLink c_s_StepMarks c_i_StepMarks c_w_eqIntS c_w_eqStringS c_w_markStringS c_w_markIntS c_w_heldIntS : Nat) : FX := ⟨82, [.tmp 6], w_FnExactStepMarks.F, w_FnExactStepMarks.x c_w_szStringS c_w_toStringS c_w_toLink c_s_StepMarks c_i_StepMarks c_w_eqIntS c_w_eqStringS c_w_markStringS c_w_markIntS c_w_heldIntS⟩

set_option maxHeartbeats 2000000 in
theorem w_FnExactStepMarks.ok {P : Program} {k c_w_szStringS c_w_toStringS c_w_toLink c_s_StepMarks c_i_StepMarks c_w_eqIntS c_w_eqStringS c_w_markStringS c_w_markIntS c_w_heldIntS : Nat} (hk : Has P k (w_FnExactStepMarks.X c_w_szStringS c_w_toStringS c_w_toLink c_s_StepMarks c_i_StepMarks c_w_eqIntS c_w_eqStringS c_w_markStringS c_w_markIntS c_w_heldIntS)) (h1 : C_szStringS P c_w_szStringS) (h2 : O_strs P c_w_toStringS) (h0 : C_linkV P c_w_toLink) (h3 : C_StepMarks P c_s_StepMarks) (h4 : C_StepMarks P c_i_StepMarks) (h5 : C_eqInts P c_w_eqIntS) (h6 : C_eqStringS P c_w_eqStringS) (h7 : C_markS P c_w_markStringS) (h8 : C_markI P c_w_markIntS) (h9 : C_heldI P c_w_heldIntS) : C_lawStep P k := by
  intro l last x hl
  have k1 := h1 _ _ hl (show (-1 : Int) ≤ 1048576 by omega) (show (1048576 : Int) ≤ 1048576 by omega)
  by_cases hs : szStr l 1048576 < 0
  · skip
    refine S.ofL hk rfl fun hB fn hr => ?_
    unfold w_FnExactStepMarks.x
    repeat' (first
      | refine S.seq ?_ | refine S.skip ?_ | refine S.block ?_ | refine S.inBlock ?_ | refine S.exit rfl ?_ | refine S.regN ?_ | refine S.reg ?_ | refine S.drw hk.mo (by kernel_rfl) ?_
      | (refine Ns.go ?_; simp (disch := first | omega | decide | rfl) only [Z, ↓reduceIte, Nat.reduceEqDiff, Nat.reduceBEq, Nat.reduceAdd, reduceCtorEq, UInt8.reduceOfNat]) | (apply Ns.sc ⟨rfl, rfl⟩ rfl; intro hg; (try simp only [HC] at hg)) | with_reducible exact rfl | exact ⟨rfl, rfl, rfl⟩ | (refine XOs.go ?_; simp (disch := first | omega | decide | rfl) only [Z, ↓reduceIte, Nat.reduceEqDiff, Nat.reduceBEq, Nat.reduceAdd, reduceCtorEq, UInt8.reduceOfNat]) | (refine XDs.go ?_; simp (disch := first | omega | decide | rfl) only [Z, ↓reduceIte, Nat.reduceEqDiff, Nat.reduceBEq, Nat.reduceAdd, reduceCtorEq, UInt8.reduceOfNat]) | (refine OK.go ?_; simp (disch := first | omega | decide | rfl) only [Z, ↓reduceIte, Nat.reduceEqDiff, Nat.reduceBEq, Nat.reduceAdd, reduceCtorEq, UInt8.reduceOfNat])
      | (refine OK.tree (by assumption) ?_; simp (disch := first | omega | decide | rfl) only [Z, ↓reduceIte, Nat.reduceEqDiff, Nat.reduceBEq, Nat.reduceAdd, reduceCtorEq, UInt8.reduceOfNat])
      | refine RunsF.apf (k1) rfl ?_ | refine RunsF.apd (k1) rfl ?_
      | (refine S.cond rfl (fun hc => ?_) (fun hc => ?_) <;> try simp only [HC] at hc)
      | (refine Gd.on (fun hg => ?_) (fun hg => ?_) <;> simp (disch := first | omega | decide | rfl) only [hg, Z, ↓reduceIte, Nat.reduceEqDiff, Nat.reduceBEq, Nat.reduceAdd, reduceCtorEq, UInt8.reduceOfNat] <;> (try simp only [HC] at hg))
      | refine S.retH hr rfl ?_ | refine S.finH hr rfl ?_
      | (refine S.retK hr ?_; simp (disch := first | omega | decide | rfl) only [ZR, Z, ↓reduceIte, Nat.reduceEqDiff, Nat.reduceBEq, Nat.reduceAdd, reduceCtorEq, UInt8.reduceOfNat])
      | (refine Fin.pure hB (by first | exact List.Sublist.refl _ | (simp only [hp, List.flatten_cons, List.flatten_nil, List.append_nil, List.append_assoc, List.cons_append, List.nil_append]; (repeat first | exact List.Sublist.refl _ | exact List.sublist_append_right _ _ | apply List.Sublist.cons | apply List.Sublist.append_left); done) | exact List.nil_sublist _ | (rw [enc_rep]; exact List.Sublist.refl _) | (rw [hset_self (by assumption)]; exact List.Sublist.refl _) | ((repeat first | exact List.Sublist.refl _ | apply List.Sublist.cons); done) | (simp only [ZL]; (repeat first | exact List.Sublist.refl _ | apply List.Sublist.cons); done)) rfl ?_; try simp (disch := first | omega | decide | rfl) only [Z, ↓reduceIte, Nat.reduceEqDiff, Nat.reduceBEq, Nat.reduceAdd, reduceCtorEq, UInt8.reduceOfNat]; try simp only [LF])
      | refine Fin.treeH hB (by first | exact List.Sublist.refl _ | (simp only [hp, List.flatten_cons, List.flatten_nil, List.append_nil, List.append_assoc, List.cons_append, List.nil_append]; (repeat first | exact List.Sublist.refl _ | exact List.sublist_append_right _ _ | apply List.Sublist.cons | apply List.Sublist.append_left); done) | exact List.nil_sublist _ | (rw [enc_rep]; exact List.Sublist.refl _) | (rw [hset_self (by assumption)]; exact List.Sublist.refl _) | ((repeat first | exact List.Sublist.refl _ | apply List.Sublist.cons); done) | (simp only [ZL]; (repeat first | exact List.Sublist.refl _ | apply List.Sublist.cons); done)) (fun p hp => by have := hf p hp; (try dsimp only); omega) (Tree.mk1 ht) | refine Fin.acc0 hB (by first | exact List.Sublist.refl _ | (simp only [hp, List.flatten_cons, List.flatten_nil, List.append_nil, List.append_assoc, List.cons_append, List.nil_append]; (repeat first | exact List.Sublist.refl _ | exact List.sublist_append_right _ _ | apply List.Sublist.cons | apply List.Sublist.append_left); done) | exact List.nil_sublist _ | (rw [enc_rep]; exact List.Sublist.refl _) | (rw [hset_self (by assumption)]; exact List.Sublist.refl _) | ((repeat first | exact List.Sublist.refl _ | apply List.Sublist.cons); done) | (simp only [ZL]; (repeat first | exact List.Sublist.refl _ | apply List.Sublist.cons); done)) (by (try dsimp only); omega) ?_ | refine Fin.accD (fun _ => rfl) hB (by first | exact List.Sublist.refl _ | (simp only [hp, List.flatten_cons, List.flatten_nil, List.append_nil, List.append_assoc, List.cons_append, List.nil_append]; (repeat first | exact List.Sublist.refl _ | exact List.sublist_append_right _ _ | apply List.Sublist.cons | apply List.Sublist.append_left); done) | exact List.nil_sublist _ | (rw [enc_rep]; exact List.Sublist.refl _) | (rw [hset_self (by assumption)]; exact List.Sublist.refl _) | ((repeat first | exact List.Sublist.refl _ | apply List.Sublist.cons); done) | (simp only [ZL]; (repeat first | exact List.Sublist.refl _ | apply List.Sublist.cons); done)) (by (try dsimp only); omega) ?_ | refine Fin.nilD hB (by first | exact List.Sublist.refl _ | (simp only [hp, List.flatten_cons, List.flatten_nil, List.append_nil, List.append_assoc, List.cons_append, List.nil_append]; (repeat first | exact List.Sublist.refl _ | exact List.sublist_append_right _ _ | apply List.Sublist.cons | apply List.Sublist.append_left); done) | exact List.nil_sublist _ | (rw [enc_rep]; exact List.Sublist.refl _) | (rw [hset_self (by assumption)]; exact List.Sublist.refl _) | ((repeat first | exact List.Sublist.refl _ | apply List.Sublist.cons); done) | (simp only [ZL]; (repeat first | exact List.Sublist.refl _ | apply List.Sublist.cons); done)) ?_ | refine Fin.vecD (fun _ => rfl) hB (by first | exact List.Sublist.refl _ | (simp only [hp, List.flatten_cons, List.flatten_nil, List.append_nil, List.append_assoc, List.cons_append, List.nil_append]; (repeat first | exact List.Sublist.refl _ | exact List.sublist_append_right _ _ | apply List.Sublist.cons | apply List.Sublist.append_left); done) | exact List.nil_sublist _ | (rw [enc_rep]; exact List.Sublist.refl _) | (rw [hset_self (by assumption)]; exact List.Sublist.refl _) | ((repeat first | exact List.Sublist.refl _ | apply List.Sublist.cons); done) | (simp only [ZL]; (repeat first | exact List.Sublist.refl _ | apply List.Sublist.cons); done)) (by (try dsimp only); omega) ?_ ?_ rfl | refine Fin.refD (fun _ => rfl) hB (by first | exact List.Sublist.refl _ | (simp only [hp, List.flatten_cons, List.flatten_nil, List.append_nil, List.append_assoc, List.cons_append, List.nil_append]; (repeat first | exact List.Sublist.refl _ | exact List.sublist_append_right _ _ | apply List.Sublist.cons | apply List.Sublist.append_left); done) | exact List.nil_sublist _ | (rw [enc_rep]; exact List.Sublist.refl _) | (rw [hset_self (by assumption)]; exact List.Sublist.refl _) | ((repeat first | exact List.Sublist.refl _ | apply List.Sublist.cons); done) | (simp only [ZL]; (repeat first | exact List.Sublist.refl _ | apply List.Sublist.cons); done)) (by (try dsimp only); omega) ?_ ?_ rfl | (refine Fin.treeE hB (by first | exact List.Sublist.refl _ | (simp only [hp, List.flatten_cons, List.flatten_nil, List.append_nil, List.append_assoc, List.cons_append, List.nil_append]; (repeat first | exact List.Sublist.refl _ | exact List.sublist_append_right _ _ | apply List.Sublist.cons | apply List.Sublist.append_left); done) | exact List.nil_sublist _ | (rw [enc_rep]; exact List.Sublist.refl _) | (rw [hset_self (by assumption)]; exact List.Sublist.refl _) | ((repeat first | exact List.Sublist.refl _ | apply List.Sublist.cons); done) | (simp only [ZL]; (repeat first | exact List.Sublist.refl _ | apply List.Sublist.cons); done)) (fun p hp => by first | (have := hN p hp; (try dsimp only); omega) | (have := hf p hp; (try dsimp only); omega)) (by first | exact ht | exact ht.up | exact Tree.mk1 ht.up) ?_; try simp only [AV.sl.injEq])
      | (with_reducible refine And.intro ?_ ?_; focus (first | omega | (simp only [List.length_cons, List.length_nil]; omega) | (simp [rowsOk]; done) | exact Tree.plain (by assumption) | exact And.intro (by omega) (Tree.plain (by assumption)) | exact And.intro (by omega) (Tree.plain1 (by assumption)) | assumption)))
    all_goals first | (exfalso; omega) | skip
  have hq := (szStr_le (show 0 ≤ szStr l 1048576 by omega)).1
  have hm := stepM_len l last x
  have k2 := h2 l (by omega)
  have k3 := h3 l last x (by omega)
  have k4 := h4 l last x (by omega)
  have k5 := h5 (stepM l last x) (stepM l last x) (by omega) (by omega)
  have k6 := h6 l l (by omega) (by omega)
  have k7 := h7 l (by omega)
  have k8 := h8 (stepM l last x) (by omega)
  have k9 := h9 1 (stepM l last x).length (by omega) (by omega) (by omega)
  have k0 := h0 x
  clear h0 h1 h2 h3 h4 h5 h6 h7 h8 h9
  refine S.ofL hk rfl fun hB fn hr => ?_
  unfold w_FnExactStepMarks.x
  repeat' (first
    | refine S.seq ?_ | refine S.skip ?_ | refine S.block ?_ | refine S.inBlock ?_ | refine S.exit rfl ?_ | refine S.regN ?_ | refine S.reg ?_ | refine S.drw hk.mo (by kernel_rfl) ?_
    | (refine Ns.go ?_; simp (disch := first | omega | decide | rfl) only [Z, ↓reduceIte, Nat.reduceEqDiff, Nat.reduceBEq, Nat.reduceAdd, reduceCtorEq, UInt8.reduceOfNat]) | (apply Ns.sc ⟨rfl, rfl⟩ rfl; intro hg; (try simp only [HC] at hg)) | with_reducible exact rfl | exact ⟨rfl, rfl, rfl⟩ | (refine XOs.go ?_; simp (disch := first | omega | decide | rfl) only [Z, ↓reduceIte, Nat.reduceEqDiff, Nat.reduceBEq, Nat.reduceAdd, reduceCtorEq, UInt8.reduceOfNat]) | (refine XDs.go ?_; simp (disch := first | omega | decide | rfl) only [Z, ↓reduceIte, Nat.reduceEqDiff, Nat.reduceBEq, Nat.reduceAdd, reduceCtorEq, UInt8.reduceOfNat]) | (refine OK.go ?_; simp (disch := first | omega | decide | rfl) only [Z, ↓reduceIte, Nat.reduceEqDiff, Nat.reduceBEq, Nat.reduceAdd, reduceCtorEq, UInt8.reduceOfNat])
    | (refine OK.tree (by assumption) ?_; simp (disch := first | omega | decide | rfl) only [Z, ↓reduceIte, Nat.reduceEqDiff, Nat.reduceBEq, Nat.reduceAdd, reduceCtorEq, UInt8.reduceOfNat])
    | (refine RunsF.apd ( k2.f) rfl ?_; try simp (disch := first | omega | decide | rfl) only [Z, ZH, List.set_cons_zero, List.set_cons_succ, ↓reduceIte, Nat.reduceEqDiff, Nat.reduceBEq, Nat.reduceAdd, reduceCtorEq, UInt8.reduceOfNat])
    | (refine RunsF.apd ( k3.f) rfl ?_; try simp (disch := first | omega | decide | rfl) only [Z, ZH, List.set_cons_zero, List.set_cons_succ, ↓reduceIte, Nat.reduceEqDiff, Nat.reduceBEq, Nat.reduceAdd, reduceCtorEq, UInt8.reduceOfNat])
    | (refine RunsF.apd ( k4.f) rfl ?_; try simp (disch := first | omega | decide | rfl) only [Z, ZH, List.set_cons_zero, List.set_cons_succ, ↓reduceIte, Nat.reduceEqDiff, Nat.reduceBEq, Nat.reduceAdd, reduceCtorEq, UInt8.reduceOfNat])
    | (refine RunsO.lst ( k2) (by (repeat' (first | exact Lens.nil | refine Lens.cons ?_ ?_)); all_goals (first | exact Len.at 0 rfl (by assumption) | exact Len.at 1 rfl (by assumption) | exact Len.at 2 rfl (by assumption) | exact Len.at 3 rfl (by assumption) | exact Len.at 4 rfl (by assumption) | exact Len.at 5 rfl (by assumption) | exact Len.at 6 rfl (by assumption) | exact Len.same _ | exact Len.fz _)) rfl ?_; intro v n2 N hle hf ht; (first | (obtain ⟨c1, rfl⟩ := ht.agg1) | (obtain ⟨c1, c2, rfl⟩ := ht.agg2) | (obtain ⟨c1, c2, c3, rfl⟩ := ht.agg3) | skip); try simp (disch := first | omega | decide | rfl) only [Z, ZH, List.set_cons_zero, List.set_cons_succ, ↓reduceIte, Nat.reduceEqDiff, Nat.reduceBEq, Nat.reduceAdd, reduceCtorEq, UInt8.reduceOfNat])
    | (refine RunsO.lst ( k3) (by (repeat' (first | exact Lens.nil | refine Lens.cons ?_ ?_)); all_goals (first | exact Len.at 0 rfl (by assumption) | exact Len.at 1 rfl (by assumption) | exact Len.at 2 rfl (by assumption) | exact Len.at 3 rfl (by assumption) | exact Len.at 4 rfl (by assumption) | exact Len.at 5 rfl (by assumption) | exact Len.at 6 rfl (by assumption) | exact Len.same _ | exact Len.fz _)) rfl ?_; intro v n2 N hle hf ht; (first | (obtain ⟨c1, rfl⟩ := ht.agg1) | (obtain ⟨c1, c2, rfl⟩ := ht.agg2) | (obtain ⟨c1, c2, c3, rfl⟩ := ht.agg3) | skip); try simp (disch := first | omega | decide | rfl) only [Z, ZH, List.set_cons_zero, List.set_cons_succ, ↓reduceIte, Nat.reduceEqDiff, Nat.reduceBEq, Nat.reduceAdd, reduceCtorEq, UInt8.reduceOfNat])
    | (refine RunsO.lst ( k4) (by (repeat' (first | exact Lens.nil | refine Lens.cons ?_ ?_)); all_goals (first | exact Len.at 0 rfl (by assumption) | exact Len.at 1 rfl (by assumption) | exact Len.at 2 rfl (by assumption) | exact Len.at 3 rfl (by assumption) | exact Len.at 4 rfl (by assumption) | exact Len.at 5 rfl (by assumption) | exact Len.at 6 rfl (by assumption) | exact Len.same _ | exact Len.fz _)) rfl ?_; intro v n2 N hle hf ht; (first | (obtain ⟨c1, rfl⟩ := ht.agg1) | (obtain ⟨c1, c2, rfl⟩ := ht.agg2) | (obtain ⟨c1, c2, c3, rfl⟩ := ht.agg3) | skip); try simp (disch := first | omega | decide | rfl) only [Z, ZH, List.set_cons_zero, List.set_cons_succ, ↓reduceIte, Nat.reduceEqDiff, Nat.reduceBEq, Nat.reduceAdd, reduceCtorEq, UInt8.reduceOfNat])
    | ((first | refine RunsF.len ( k5) rfl (by (repeat' (first | exact Lens.nil | refine Lens.cons ?_ ?_)); all_goals (first | exact Len.at 0 rfl (by assumption) | exact Len.at 1 rfl (by assumption) | exact Len.at 2 rfl (by assumption) | exact Len.at 3 rfl (by assumption) | exact Len.at 4 rfl (by assumption) | exact Len.at 5 rfl (by assumption) | exact Len.at 6 rfl (by assumption) | exact Len.same _ | exact Len.fz _)) ?_ | refine RunsF.lenD ( k5) rfl (by (repeat' (first | exact Lens.nil | refine Lens.cons ?_ ?_)); all_goals (first | exact Len.at 0 rfl (by assumption) | exact Len.at 1 rfl (by assumption) | exact Len.at 2 rfl (by assumption) | exact Len.at 3 rfl (by assumption) | exact Len.at 4 rfl (by assumption) | exact Len.at 5 rfl (by assumption) | exact Len.at 6 rfl (by assumption) | exact Len.same _ | exact Len.fz _)) ?_); try simp (disch := first | omega | decide | rfl) only [Z, ZH, List.set_cons_zero, List.set_cons_succ, ↓reduceIte, Nat.reduceEqDiff, Nat.reduceBEq, Nat.reduceAdd, reduceCtorEq, UInt8.reduceOfNat])
    | ((first | refine RunsF.len ( k6) rfl (by (repeat' (first | exact Lens.nil | refine Lens.cons ?_ ?_)); all_goals (first | exact Len.at 0 rfl (by assumption) | exact Len.at 1 rfl (by assumption) | exact Len.at 2 rfl (by assumption) | exact Len.at 3 rfl (by assumption) | exact Len.at 4 rfl (by assumption) | exact Len.at 5 rfl (by assumption) | exact Len.at 6 rfl (by assumption) | exact Len.same _ | exact Len.fz _)) ?_ | refine RunsF.lenD ( k6) rfl (by (repeat' (first | exact Lens.nil | refine Lens.cons ?_ ?_)); all_goals (first | exact Len.at 0 rfl (by assumption) | exact Len.at 1 rfl (by assumption) | exact Len.at 2 rfl (by assumption) | exact Len.at 3 rfl (by assumption) | exact Len.at 4 rfl (by assumption) | exact Len.at 5 rfl (by assumption) | exact Len.at 6 rfl (by assumption) | exact Len.same _ | exact Len.fz _)) ?_); try simp (disch := first | omega | decide | rfl) only [Z, ZH, List.set_cons_zero, List.set_cons_succ, ↓reduceIte, Nat.reduceEqDiff, Nat.reduceBEq, Nat.reduceAdd, reduceCtorEq, UInt8.reduceOfNat])
    | (first | refine MarkT.at 0 ( k7) (by omega) (by omega) rfl (by assumption) ?_ | refine MarkT.at 1 ( k7) (by omega) (by omega) rfl (by assumption) ?_ | refine MarkT.at 2 ( k7) (by omega) (by omega) rfl (by assumption) ?_ | refine MarkT.at 3 ( k7) (by omega) (by omega) rfl (by assumption) ?_ | refine MarkT.at 4 ( k7) (by omega) (by omega) rfl (by assumption) ?_ | refine MarkT.at 5 ( k7) (by omega) (by omega) rfl (by assumption) ?_ | refine MarkT.at 6 ( k7) (by omega) (by omega) rfl (by assumption) ?_); intro N ht; try simp (disch := first | omega | decide | rfl) only [Z, ZH, List.set_cons_zero, List.set_cons_succ, ↓reduceIte, Nat.reduceEqDiff, Nat.reduceBEq, Nat.reduceAdd, reduceCtorEq, UInt8.reduceOfNat]
    | (first | refine MarkT.at 0 ( k8) (by omega) (by omega) rfl (by assumption) ?_ | refine MarkT.at 1 ( k8) (by omega) (by omega) rfl (by assumption) ?_ | refine MarkT.at 2 ( k8) (by omega) (by omega) rfl (by assumption) ?_ | refine MarkT.at 3 ( k8) (by omega) (by omega) rfl (by assumption) ?_ | refine MarkT.at 4 ( k8) (by omega) (by omega) rfl (by assumption) ?_ | refine MarkT.at 5 ( k8) (by omega) (by omega) rfl (by assumption) ?_ | refine MarkT.at 6 ( k8) (by omega) (by omega) rfl (by assumption) ?_); intro N ht; try simp (disch := first | omega | decide | rfl) only [Z, ZH, List.set_cons_zero, List.set_cons_succ, ↓reduceIte, Nat.reduceEqDiff, Nat.reduceBEq, Nat.reduceAdd, reduceCtorEq, UInt8.reduceOfNat]
    | ((first | refine RunsF.len ( k9) rfl (by (repeat' (first | exact Lens.nil | refine Lens.cons ?_ ?_)); all_goals (first | exact Len.at 0 rfl (by assumption) | exact Len.at 1 rfl (by assumption) | exact Len.at 2 rfl (by assumption) | exact Len.at 3 rfl (by assumption) | exact Len.at 4 rfl (by assumption) | exact Len.at 5 rfl (by assumption) | exact Len.at 6 rfl (by assumption) | exact Len.same _ | exact Len.fz _)) ?_ | refine RunsF.lenD ( k9) rfl (by (repeat' (first | exact Lens.nil | refine Lens.cons ?_ ?_)); all_goals (first | exact Len.at 0 rfl (by assumption) | exact Len.at 1 rfl (by assumption) | exact Len.at 2 rfl (by assumption) | exact Len.at 3 rfl (by assumption) | exact Len.at 4 rfl (by assumption) | exact Len.at 5 rfl (by assumption) | exact Len.at 6 rfl (by assumption) | exact Len.same _ | exact Len.fz _)) ?_); try simp (disch := first | omega | decide | rfl) only [Z, ZH, List.set_cons_zero, List.set_cons_succ, ↓reduceIte, Nat.reduceEqDiff, Nat.reduceBEq, Nat.reduceAdd, reduceCtorEq, UInt8.reduceOfNat])
    | refine RunsF.apf (k1) rfl ?_ | refine RunsF.apd (k1) rfl ?_
    | refine RunsF.apf (k0) rfl ?_ | refine RunsF.apd (k0) rfl ?_
    | (refine S.cond rfl (fun hc => ?_) (fun hc => ?_) <;> try simp only [HC] at hc)
    | (refine Gd.on (fun hg => ?_) (fun hg => ?_) <;> simp (disch := first | omega | decide | rfl) only [hg, Z, ↓reduceIte, Nat.reduceEqDiff, Nat.reduceBEq, Nat.reduceAdd, reduceCtorEq, UInt8.reduceOfNat] <;> (try simp only [HC] at hg))
    | refine S.retH hr rfl ?_ | refine S.finH hr rfl ?_
    | (refine S.retK hr ?_; simp (disch := first | omega | decide | rfl) only [ZR, Z, ↓reduceIte, Nat.reduceEqDiff, Nat.reduceBEq, Nat.reduceAdd, reduceCtorEq, UInt8.reduceOfNat])
    | (refine Fin.pure hB (by first | exact List.Sublist.refl _ | (simp only [hp, List.flatten_cons, List.flatten_nil, List.append_nil, List.append_assoc, List.cons_append, List.nil_append]; (repeat first | exact List.Sublist.refl _ | exact List.sublist_append_right _ _ | apply List.Sublist.cons | apply List.Sublist.append_left); done) | exact List.nil_sublist _ | (rw [enc_rep]; exact List.Sublist.refl _) | (rw [hset_self (by assumption)]; exact List.Sublist.refl _) | ((repeat first | exact List.Sublist.refl _ | apply List.Sublist.cons); done) | (simp only [ZL]; (repeat first | exact List.Sublist.refl _ | apply List.Sublist.cons); done)) rfl ?_; try simp (disch := first | omega | decide | rfl) only [Z, ↓reduceIte, Nat.reduceEqDiff, Nat.reduceBEq, Nat.reduceAdd, reduceCtorEq, UInt8.reduceOfNat]; try simp only [LF])
    | refine Fin.treeH hB (by first | exact List.Sublist.refl _ | (simp only [hp, List.flatten_cons, List.flatten_nil, List.append_nil, List.append_assoc, List.cons_append, List.nil_append]; (repeat first | exact List.Sublist.refl _ | exact List.sublist_append_right _ _ | apply List.Sublist.cons | apply List.Sublist.append_left); done) | exact List.nil_sublist _ | (rw [enc_rep]; exact List.Sublist.refl _) | (rw [hset_self (by assumption)]; exact List.Sublist.refl _) | ((repeat first | exact List.Sublist.refl _ | apply List.Sublist.cons); done) | (simp only [ZL]; (repeat first | exact List.Sublist.refl _ | apply List.Sublist.cons); done)) (fun p hp => by have := hf p hp; (try dsimp only); omega) (Tree.mk1 ht) | refine Fin.acc0 hB (by first | exact List.Sublist.refl _ | (simp only [hp, List.flatten_cons, List.flatten_nil, List.append_nil, List.append_assoc, List.cons_append, List.nil_append]; (repeat first | exact List.Sublist.refl _ | exact List.sublist_append_right _ _ | apply List.Sublist.cons | apply List.Sublist.append_left); done) | exact List.nil_sublist _ | (rw [enc_rep]; exact List.Sublist.refl _) | (rw [hset_self (by assumption)]; exact List.Sublist.refl _) | ((repeat first | exact List.Sublist.refl _ | apply List.Sublist.cons); done) | (simp only [ZL]; (repeat first | exact List.Sublist.refl _ | apply List.Sublist.cons); done)) (by (try dsimp only); omega) ?_ | refine Fin.accD (fun _ => rfl) hB (by first | exact List.Sublist.refl _ | (simp only [hp, List.flatten_cons, List.flatten_nil, List.append_nil, List.append_assoc, List.cons_append, List.nil_append]; (repeat first | exact List.Sublist.refl _ | exact List.sublist_append_right _ _ | apply List.Sublist.cons | apply List.Sublist.append_left); done) | exact List.nil_sublist _ | (rw [enc_rep]; exact List.Sublist.refl _) | (rw [hset_self (by assumption)]; exact List.Sublist.refl _) | ((repeat first | exact List.Sublist.refl _ | apply List.Sublist.cons); done) | (simp only [ZL]; (repeat first | exact List.Sublist.refl _ | apply List.Sublist.cons); done)) (by (try dsimp only); omega) ?_ | refine Fin.nilD hB (by first | exact List.Sublist.refl _ | (simp only [hp, List.flatten_cons, List.flatten_nil, List.append_nil, List.append_assoc, List.cons_append, List.nil_append]; (repeat first | exact List.Sublist.refl _ | exact List.sublist_append_right _ _ | apply List.Sublist.cons | apply List.Sublist.append_left); done) | exact List.nil_sublist _ | (rw [enc_rep]; exact List.Sublist.refl _) | (rw [hset_self (by assumption)]; exact List.Sublist.refl _) | ((repeat first | exact List.Sublist.refl _ | apply List.Sublist.cons); done) | (simp only [ZL]; (repeat first | exact List.Sublist.refl _ | apply List.Sublist.cons); done)) ?_ | refine Fin.vecD (fun _ => rfl) hB (by first | exact List.Sublist.refl _ | (simp only [hp, List.flatten_cons, List.flatten_nil, List.append_nil, List.append_assoc, List.cons_append, List.nil_append]; (repeat first | exact List.Sublist.refl _ | exact List.sublist_append_right _ _ | apply List.Sublist.cons | apply List.Sublist.append_left); done) | exact List.nil_sublist _ | (rw [enc_rep]; exact List.Sublist.refl _) | (rw [hset_self (by assumption)]; exact List.Sublist.refl _) | ((repeat first | exact List.Sublist.refl _ | apply List.Sublist.cons); done) | (simp only [ZL]; (repeat first | exact List.Sublist.refl _ | apply List.Sublist.cons); done)) (by (try dsimp only); omega) ?_ ?_ rfl | refine Fin.refD (fun _ => rfl) hB (by first | exact List.Sublist.refl _ | (simp only [hp, List.flatten_cons, List.flatten_nil, List.append_nil, List.append_assoc, List.cons_append, List.nil_append]; (repeat first | exact List.Sublist.refl _ | exact List.sublist_append_right _ _ | apply List.Sublist.cons | apply List.Sublist.append_left); done) | exact List.nil_sublist _ | (rw [enc_rep]; exact List.Sublist.refl _) | (rw [hset_self (by assumption)]; exact List.Sublist.refl _) | ((repeat first | exact List.Sublist.refl _ | apply List.Sublist.cons); done) | (simp only [ZL]; (repeat first | exact List.Sublist.refl _ | apply List.Sublist.cons); done)) (by (try dsimp only); omega) ?_ ?_ rfl | (refine Fin.treeE hB (by first | exact List.Sublist.refl _ | (simp only [hp, List.flatten_cons, List.flatten_nil, List.append_nil, List.append_assoc, List.cons_append, List.nil_append]; (repeat first | exact List.Sublist.refl _ | exact List.sublist_append_right _ _ | apply List.Sublist.cons | apply List.Sublist.append_left); done) | exact List.nil_sublist _ | (rw [enc_rep]; exact List.Sublist.refl _) | (rw [hset_self (by assumption)]; exact List.Sublist.refl _) | ((repeat first | exact List.Sublist.refl _ | apply List.Sublist.cons); done) | (simp only [ZL]; (repeat first | exact List.Sublist.refl _ | apply List.Sublist.cons); done)) (fun p hp => by first | (have := hN p hp; (try dsimp only); omega) | (have := hf p hp; (try dsimp only); omega)) (by first | exact ht | exact ht.up | exact Tree.mk1 ht.up) ?_; try simp only [AV.sl.injEq])
    | (with_reducible refine And.intro ?_ ?_; focus (first | omega | (simp only [List.length_cons, List.length_nil]; omega) | (simp [rowsOk]; done) | exact Tree.plain (by assumption) | exact And.intro (by omega) (Tree.plain (by assumption)) | exact And.intro (by omega) (Tree.plain1 (by assumption)) | assumption)))
  all_goals (exfalso; first | omega | exact hc trivial | grind)
end Go.M05
