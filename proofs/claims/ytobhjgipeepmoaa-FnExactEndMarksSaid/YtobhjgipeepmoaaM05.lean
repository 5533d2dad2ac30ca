/- The laws of the marks of ends and of steps. Over any program. -/
import Derived.Test.YtobhjgipeepmoaaM04
namespace Go.M05
open Go.Ab Go.Lib01 Go.Lib02 Go.Lib03 Go.Lib04 Go.M01 Go.M02 Go.M03 Go.M04
set_option linter.unusedVariables false
set_option linter.unusedSimpArgs false
set_option maxRecDepth 2000

def C_lawEnd (P : Program) (k : Nat) : Prop := ∀ (l : List (List UInt8)) (last : UInt8), Big l → Runs P k [.sl (enc l), .int .u8 (last.toNat : Int)] 0 [] (fun v n' H' => v = .bool true ∧ n' = 0 ∧ H' = [])
/-- laws.FnExactEndMarks -/
def w_FnExactEndMarks.x (c_w_szStringS c_w_toStringS c_s_EndMarks c_i_EndMarks c_w_eqIntS c_w_eqStringS c_w_markStringS c_w_markIntS c_w_heldIntS : Nat) : XCode :=
  (.seq
    (.reg [⟨(some 4), .mv, [.k (.bool false)], none⟩] [0, 1])
    (.seq
      (.reg [⟨(some 5), .mv, [.k (.int .i64 1048576)], none⟩] [0, 1, 5])
      (.seq
        (.reg [⟨(some 13), .mv, [.t 0], none⟩,
          ⟨(some 14), .mv, [.t 5], none⟩,
          ⟨(some 15), .call, [.k (.fn c_w_szStringS []), .t 13, .t 14], none⟩,
          ⟨(some 5), .mv, [.t 15], none⟩] [0, 1, 5])
        (.seq
          (.seq
            (.reg [⟨(some 16), .mv, [.t 5], none⟩,
              ⟨(some 17), (.bin .lss), [.t 16, .k (.int .i64 0)], none⟩] [0, 1, 17])
            (.cond (.t 17)
              (.seq
                (.reg [⟨(some 4), .mv, [.k (.bool true)], none⟩] [4])
                .ret)
              .skip))
          (.seq
            (.reg [⟨(some 18), .mv, [.t 0], none⟩,
              ⟨(some 19), .call, [.k (.fn c_w_toStringS []), .t 18], none⟩,
              ⟨(some 20), .mv, [.t 1], none⟩,
              ⟨(some 21), .call, [.k (.fn c_s_EndMarks []), .t 19, .t 20], none⟩,
              ⟨(some 6), .mv, [.t 21], none⟩] [0, 1, 6])
            (.seq
              (.reg [⟨(some 22), .mv, [.t 0], none⟩,
                ⟨(some 23), .call, [.k (.fn c_w_toStringS []), .t 22], none⟩,
                ⟨(some 7), .mv, [.t 23], none⟩] [0, 1, 6, 7])
              (.seq
                (.reg [⟨(some 24), .mv, [.t 7], none⟩,
                  ⟨(some 25), .mv, [.t 1], none⟩,
                  ⟨(some 26), .call, [.k (.fn c_i_EndMarks []), .t 24, .t 25], none⟩,
                  ⟨(some 8), .mv, [.t 26], none⟩] [0, 1, 6, 7, 8])
                (.seq
                  (.seq
                    (.reg [⟨(some 27), .mv, [.t 8], none⟩,
                      ⟨(some 28), .mv, [.t 6], none⟩,
                      ⟨(some 29), .call, [.k (.fn c_w_eqIntS []), .t 27, .t 28], none⟩,
                      ⟨(some 30), (.un .not), [.t 29], none⟩] [0, 1, 6, 7, 8, 30])
                    (.cond (.t 30)
                      (.seq
                        (.reg [⟨(some 4), .mv, [.k (.bool false)], none⟩] [4])
                        .ret)
                      .skip))
                  (.seq
                    (.seq
                      (.reg [⟨(some 31), .mv, [.t 7], none⟩,
                        ⟨(some 32), .mv, [.t 0], none⟩,
                        ⟨(some 33), .call, [.k (.fn c_w_toStringS []), .t 32], none⟩,
                        ⟨(some 34), .call, [.k (.fn c_w_eqStringS []), .t 31, .t 33], none⟩,
                        ⟨(some 35), (.un .not), [.t 34], none⟩] [0, 1, 6, 7, 8, 35])
                      (.cond (.t 35)
                        (.seq
                          (.reg [⟨(some 4), .mv, [.k (.bool false)], none⟩] [4])
                          .ret)
                        .skip))
                    (.seq
                      (.reg [⟨(some 9), .mv, [.k (.int .i64 1)], none⟩] [0, 1, 6, 7, 8, 9])
                      (.seq
                        (.reg [⟨(some 36), .mv, [.t 7], none⟩,
                          ⟨(some 37), .mv, [.t 9], none⟩,
                          ⟨(some 38), .call, [.k (.fn c_w_markStringS []), .t 36, .t 37], none⟩,
                          ⟨(some 9), .mv, [.t 38], none⟩] [0, 1, 6, 8, 9])
                        (.seq
                          (.seq
                            (.reg (flatNs none (nl [.op (some 39) .mv [.t 9], .op (some 40) (.bin .lss) [.t 39, .k (.int .i64 0)], .op (some 41) .mv [.t 40], .sc 41 false (nl [.op (some 42) .mv [.t 8], .op (some 43) .mv [.t 6], .op (some 44) .call [.k (.fn c_w_eqIntS []), .t 42, .t 43], .op (some 45) (.un .not) [.t 44]]) (.t 45) (some 46)])) [0, 1, 6, 8, 46])
                            (.cond (.t 46)
                              (.seq
                                (.reg [⟨(some 4), .mv, [.k (.bool false)], none⟩] [4])
                                .ret)
                              .skip))
                          (.seq
                            (.reg [⟨(some 10), .mv, [.k (.int .i64 1)], none⟩] [0, 1, 6, 8, 10])
                            (.seq
                              (.reg [⟨(some 47), .mv, [.t 8], none⟩,
                                ⟨(some 48), .mv, [.t 10], none⟩,
                                ⟨(some 49), .call, [.k (.fn c_w_markIntS []), .t 47, .t 48], none⟩,
                                ⟨(some 10), .mv, [.t 49], none⟩] [0, 1, 6, 8, 10])
                              (.seq
                                (.reg [⟨(some 11), .mv, [.k (.int .i64 1)], none⟩] [0, 1, 6, 8, 10, 11])
                                (.seq
                                  (.reg [⟨(some 50), .mv, [.t 8], none⟩,
                                    ⟨(some 51), .mv, [.t 11], none⟩,
                                    ⟨(some 52), .call, [.k (.fn c_w_heldIntS []), .t 50, .t 51], none⟩,
                                    ⟨(some 11), .mv, [.t 52], none⟩] [0, 1, 6, 8, 10, 11])
                                  (.seq
                                    (.seq
                                      (.reg [⟨(some 53), .mv, [.t 11], none⟩,
                                        ⟨(some 54), (.bin .lss), [.t 53, .k (.int .i64 0)], none⟩] [0, 1, 6, 8, 10, 11, 54])
                                      (.cond (.t 54)
                                        (.seq
                                          (.reg [⟨(some 4), .mv, [.k (.bool false)], none⟩] [4])
                                          .ret)
                                        .skip))
                                    (.seq
                                      (.seq
                                        (.reg [⟨(some 55), .mv, [.t 11], none⟩,
                                          ⟨(some 56), .mv, [.t 10], none⟩,
                                          ⟨(some 57), (.bin .neq), [.t 55, .t 56], none⟩] [0, 1, 6, 8, 10, 57])
                                        (.cond (.t 57)
                                          (.seq
                                            (.reg [⟨(some 4), .mv, [.k (.bool false)], none⟩] [4])
                                            .ret)
                                          .skip))
                                      (.seq
                                        (.reg [⟨(some 58), .mv, [.t 0], none⟩,
                                          ⟨(some 59), .call, [.k (.fn c_w_toStringS []), .t 58], none⟩,
                                          ⟨(some 60), .mv, [.t 1], none⟩,
                                          ⟨(some 61), .call, [.k (.fn c_i_EndMarks []), .t 59, .t 60], none⟩,
                                          ⟨(some 12), .mv, [.t 61], none⟩] [6, 8, 10, 12])
                                        (.seq
                                          (.seq
                                            (.reg [⟨(some 62), .mv, [.t 12], none⟩,
                                              ⟨(some 63), .mv, [.t 6], none⟩,
                                              ⟨(some 64), .call, [.k (.fn c_w_eqIntS []), .t 62, .t 63], none⟩,
                                              ⟨(some 65), (.un .not), [.t 64], none⟩] [8, 10, 65])
                                            (.cond (.t 65)
                                              (.seq
                                                (.reg [⟨(some 4), .mv, [.k (.bool false)], none⟩] [4])
                                                .ret)
                                              .skip))
                                          (.seq
                                            (.reg [⟨(some 11), .mv, [.k (.int .i64 1)], none⟩] [8, 10, 11])
                                            (.seq
                                              (.reg [⟨(some 66), .mv, [.t 8], none⟩,
                                                ⟨(some 67), .mv, [.t 11], none⟩,
                                                ⟨(some 68), .call, [.k (.fn c_w_heldIntS []), .t 66, .t 67], none⟩,
                                                ⟨(some 11), .mv, [.t 68], none⟩] [10, 11])
                                              (.seq
                                                (.seq
                                                  (.reg [⟨(some 69), .mv, [.t 11], none⟩,
                                                    ⟨(some 70), (.bin .lss), [.t 69, .k (.int .i64 0)], none⟩] [10, 11, 70])
                                                  (.cond (.t 70)
                                                    (.seq
                                                      (.reg [⟨(some 4), .mv, [.k (.bool false)], none⟩] [4])
                                                      .ret)
                                                    .skip))
                                                (.seq
                                                  (.seq
                                                    (.reg [⟨(some 71), .mv, [.t 11], none⟩,
                                                      ⟨(some 72), .mv, [.t 10], none⟩,
                                                      ⟨(some 73), (.bin .neq), [.t 71, .t 72], none⟩] [73])
                                                    (.cond (.t 73)
                                                      (.seq
                                                        (.reg [⟨(some 4), .mv, [.k (.bool false)], none⟩] [4])
                                                        .ret)
                                                      .skip))
                                                  (.seq
                                                    (.reg [⟨(some 4), .mv, [.k (.bool true)], none⟩] [4])
                                                    .ret)))))))))))))))))))))))))
def w_FnExactEndMarks.F : Cfg := ⟨fun _ => 0, fun r => match r with | 0 => [0, 1] | 1 => [0, 1, 5] | 2 => [0, 1, 5] | 3 => [0, 1, 17] | 4 => [4] | 5 => [0, 1, 6] | 6 => [0, 1, 6, 7] | 7 => [0, 1, 6, 7, 8] | 8 => [0, 1, 6, 7, 8, 30] | 9 => [4] | 10 => [0, 1, 6, 7, 8, 35] | 11 => [4] | 12 => [0, 1, 6, 7, 8, 9] | 13 => [0, 1, 6, 8, 9] | 14 => [0, 1, 6, 8, 46] | 15 => [4] | 16 => [0, 1, 6, 8, 10] | 17 => [0, 1, 6, 8, 10] | 18 => [0, 1, 6, 8, 10, 11] | 19 => [0, 1, 6, 8, 10, 11] | 20 => [0, 1, 6, 8, 10, 11, 54] | 21 => [4] | 22 => [0, 1, 6, 8, 10, 57] | 23 => [4] | 24 => [6, 8, 10, 12] | 25 => [8, 10, 65] | 26 => [4] | 27 => [8, 10, 11] | 28 => [10, 11] | 29 => [10, 11, 70] | 30 => [4] | 31 => [73] | 32 => [4] | 33 => [4] | _ => []⟩
def w_FnExactEndMarks.X (c_w_szStringS c_w_toStringS c_s_EndMarks c_i_EndMarks c_w_eqIntS c_w_eqStringS c_w_markStringS c_w_markIntS c_w_heldIntS : Nat) : FX := ⟨74, [.tmp 4], w_FnExactEndMarks.F, w_FnExactEndMarks.x c_w_szStringS c_w_toStringS c_s_EndMarks c_i_EndMarks c_w_eqIntS c_w_eqStringS c_w_markStringS c_w_markIntS c_w_heldIntS⟩

set_option maxHeartbeats 2000000 in
theorem w_FnExactEndMarks.ok {P : Program} {k c_w_szStringS c_w_toStringS c_s_EndMarks c_i_EndMarks c_w_eqIntS c_w_eqStringS c_w_markStringS c_w_markIntS c_w_heldIntS : Nat} (hk : Has P k (w_FnExactEndMarks.X c_w_szStringS c_w_toStringS c_s_EndMarks c_i_EndMarks c_w_eqIntS c_w_eqStringS c_w_markStringS c_w_markIntS c_w_heldIntS)) (h1 : C_szStringS P c_w_szStringS) (h2 : O_strs P c_w_toStringS) (h3 : C_EndMarks P c_s_EndMarks) (h4 : C_EndMarks P c_i_EndMarks) (h5 : C_eqInts P c_w_eqIntS) (h6 : C_eqStringS P c_w_eqStringS) (h7 : C_markS P c_w_markStringS) (h8 : C_markI P c_w_markIntS) (h9 : C_heldI P c_w_heldIntS) : C_lawEnd P k := by
  intro l last hl
  have k1 := h1 _ _ hl (show (-1 : Int) ≤ 1048576 by omega) (show (1048576 : Int) ≤ 1048576 by omega)
  by_cases hs : szStr l 1048576 < 0
  · skip
    refine S.ofL hk rfl fun hB fn hr => ?_
    unfold w_FnExactEndMarks.x
    repeat' (first
      | refine S.seq ?_ | refine S.skip ?_ | refine S.block ?_ | refine S.inBlock ?_ | refine S.exit rfl ?_ | refine S.regN ?_ | refine S.reg ?_ | refine S.drw hk.mo (by kernel_rfl) ?_
      | (refine Ns.go ?_; simp (disch := first | omega | decide | rfl) only [Z, ↓reduceIte, Nat.reduceEqDiff, Nat.reduceBEq, Nat.reduceAdd, reduceCtorEq, UInt8.reduceOfNat]) | (apply Ns.sc ⟨rfl, rfl⟩ rfl; intro hg; (try simp only [HC] at hg)) | with_reducible exact rfl | exact ⟨rfl, rfl, rfl⟩ | (refine XOs.go ?_; simp (disch := first | omega | decide | rfl) only [Z, ↓reduceIte, Nat.reduceEqDiff, Nat.reduceBEq, Nat.reduceAdd, reduceCtorEq, UInt8.reduceOfNat]) | (refine XDs.go ?_; simp (disch := first | omega | decide | rfl) only [Z, ↓reduceIte, Nat.reduceEqDiff, Nat.reduceBEq, Nat.reduceAdd, reduceCtorEq, UInt8.reduceOfNat]) | (refine OK.go ?_; simp (disch := first | omega | decide | rfl) only [Z, ↓reduceIte, Nat.reduceEqDiff, Nat.reduceBEq, Nat.reduceAdd, reduceCtorEq, UInt8.reduceOfNat])
      | (refine OK.tree (by assumption) ?_; simp (disch := first | omega | decide | rfl) only [Z, ↓reduceIte, Nat.reduceEqDiff, Nat.reduceBEq, Nat.reduceAdd, reduceCtorEq, UInt8.reduceOfNat])
      | refine RunsF.apf (k1) rfl ?_ | refine RunsF.apd (k1) rfl ?_
      | (refine S.cond rfl (fun hc => ?_) (fun hc => ?_) <;> try simp only [HC] at hc)
      | (refine Gd.on (fun hg => ?_) (fun hg => ?_) <;> simp (disch := first | omega | decide | rfl) only [hg, Z, ↓reduceIte, Nat.reduceEqDiff, Nat.reduceBEq, Nat.reduceAdd, reduceCtorEq, UInt8.reduceOfNat] <;> (try simp only [HC] at hg))
      | refine S.retH hr rfl ?_ | refine S.finH hr rfl ?_
      | (refine S.retK hr ?_; simp (disch := first | omega | decide | rfl) only [ZR, Z, ↓reduceIte, Nat.reduceEqDiff, Nat.reduceBEq, Nat.reduceAdd, reduceCtorEq, UInt8.reduceOfNat])
      | (refine Fin.pure hB (by first | exact List.Sublist.refl _ | (simp only [hp, List.flatten_cons, List.flatten_nil, List.append_nil, List.append_assoc, List.cons_append, List.nil_append]; (repeat first | exact List.Sublist.refl _ | exact List.sublist_append_right _ _ | apply List.Sublist.cons | apply List.Sublist.append_left); done) | exact List.nil_sublist _ | (rw [enc_rep]; exact List.Sublist.refl _) | (rw [hset_self (by assumption)]; exact List.Sublist.refl _) | ((repeat first | exact List.Sublist.refl _ | apply List.Sublist.cons); done) | (simp only [ZL]; (repeat first | exact List.Sublist.refl _ | apply List.Sublist.cons); done)) rfl ?_; try simp (disch := first | omega | decide | rfl) only [Z, ↓reduceIte, Nat.reduceEqDiff, Nat.reduceBEq, Nat.reduceAdd, reduceCtorEq, UInt8.reduceOfNat]; try simp only [LF])
      | refine Fin.treeH hB (by first | exact List.Sublist.refl _ | (simp only [hp, List.flatten_cons, List.flatten_nil, List.append_nil, List.append_assoc, List.cons_append, List.nil_append]; (repeat first | exact List.Sublist.refl _ | exact List.sublist_append_right _ _ | apply List.Sublist.cons | apply List.Sublist.append_left); done) | exact List.nil_sublist _ | (rw [enc_rep]; exact List.Sublist.refl _) | (rw [hset_self (by assumption)]; exact List.Sublist.refl _) | ((repeat first | exact List.Sublist.refl _ | apply List.Sublist.cons); done) | (simp only [ZL]; (repeat first | exact List.Sublist.refl _ | apply List.Sublist.cons); done)) (fun p hp => by have := hf p hp; (try dsimp only); omega) (Tree.mk1 ht) | refine Fin.acc0 hB (by first | exact List.Sublist.refl _ | (simp only [hp, List.flatten_cons, List.flatten_nil, List.append_nil, List.append_assoc, List.cons_append, List.nil_append]; (repeat first | exact List.Sublist.refl _ | exact List.sublist_append_right _ _ | apply List.Sublist.cons | apply List.Sublist.append_left); done) | exact List.nil_sublist _ | (rw [enc_rep]; exact List.Sublist.refl _) | (rw [hset_self (by assumption)]; exact List.Sublist.refl _) | ((repeat first | exact List.Sublist.refl _ | apply List.Sublist.cons); done) | (simp only [ZL]; (repeat first | exact List.Sublist.refl _ | apply List.Sublist.cons); done)) (by (try dsimp only); omega) ?_ | refine Fin.accD (fun _ => rfl) hB (by first | exact List.Sublist.refl _ | (simp only [hp, List.flatten_cons, List.flatten_nil, List.append_nil, List.append_assoc, List.cons_append, List.nil_append]; (repeat first | exact List.Sublist.refl _ | exact List.sublist_append_right _ _ | apply List.Sublist.cons | apply List.Sublist.append_left); done) | exact List.nil_sublist _ | (rw [enc_rep]; exact List.Sublist.refl _) | (rw [hset_self (by assumption)]; exact List.Sublist.refl _) | ((repeat first | exact List.Sublist.refl _ | apply List.Sublist.cons); done) | (simp only [ZL]; (repeat first | exact List.Sublist.refl _ | apply List.Sublist.cons); done)) (by (try dsimp only); omega) ?_ | refine Fin.nilD hB (by first | exact List.Sublist.refl _ | (simp only [hp, List.flatten_cons, List.flatten_nil, List.append_nil, List.append_assoc, List.cons_append, List.nil_append]; (repeat first | exact List.Sublist.refl _ | exact List.sublist_append_right _ _ | apply List.Sublist.cons | apply List.Sublist.append_left); done) | exact List.nil_sublist _ | (rw [enc_rep]; exact List.Sublist.refl _) | (rw [hset_self (by assumption)]; exact List.Sublist.refl _) | ((repeat first | exact List.Sublist.refl _ | apply List.Sublist.cons); done) | (simp only [ZL]; (repeat first | exact List.Sublist.refl _ | apply List.Sublist.cons); done)) ?_ | refine Fin.vecD (fun _ => rfl) hB (by first | exact List.Sublist.refl _ | (simp only [hp, List.flatten_cons, List.flatten_nil, List.append_nil, List.append_assoc, List.cons_append, List.nil_append]; (repeat first | exact List.Sublist.refl _ | exact List.sublist_append_right _ _ | apply List.Sublist.cons | apply List.Sublist.append_left); done) | exact List.nil_sublist _ | (rw [enc_rep]; exact List.Sublist.refl _) | (rw [hset_self (by assumption)]; exact List.Sublist.refl _) | ((repeat first | exact List.Sublist.refl _ | apply List.Sublist.cons); done) | (simp only [ZL]; (repeat first | exact List.Sublist.refl _ | apply List.Sublist.cons); done)) (by (try dsimp only); omega) ?_ ?_ rfl | refine Fin.refD (fun _ => rfl) hB (by first | exact List.Sublist.refl _ | (simp only [hp, List.flatten_cons, List.flatten_nil, List.append_nil, List.append_assoc, List.cons_append, List.nil_append]; (repeat first | exact List.Sublist.refl _ | exact List.sublist_append_right _ _ | apply List.Sublist.cons | apply List.Sublist.append_left); done) | exact List.nil_sublist _ | (rw [enc_rep]; exact List.Sublist.refl _) | (rw [hset_self (by assumption)]; exact List.Sublist.refl _) | ((repeat first | exact List.Sublist.refl _ | apply List.Sublist.cons); done) | (simp only [ZL]; (repeat first | exact List.Sublist.refl _ | apply List.Sublist.cons); done)) (by (try dsimp only); omega) ?_ ?_ rfl | (refine Fin.treeE hB (by first | exact List.Sublist.refl _ | (simp only [hp, List.flatten_cons, List.flatten_nil, List.append_nil, List.append_assoc, List.cons_append, List.nil_append]; (repeat first | exact List.Sublist.refl _ | exact List.sublist_append_right _ _ | apply List.Sublist.cons | apply List.Sublist.append_left); done) | exact List.nil_sublist _ | (rw [enc_rep]; exact List.Sublist.refl _) | (rw [hset_self (by assumption)]; exact List.Sublist.refl _) | ((repeat first | exact List.Sublist.refl _ | apply List.Sublist.cons); done) | (simp only [ZL]; (repeat first | exact List.Sublist.refl _ | apply List.Sublist.cons); done)) (fun p hp => by first | (have := hN p hp; (try dsimp only); omega) | (have := hf p hp; (try dsimp only); omega)) (by first | exact ht | exact ht.up | exact Tree.mk1 ht.up) ?_; try simp only [AV.sl.injEq])
      | (with_reducible refine And.intro ?_ ?_; focus (first | omega | (simp only [List.length_cons, List.length_nil]; omega) | (simp [rowsOk]; done) | exact Tree.plain (by assumption) | exact And.intro (by omega) (Tree.plain (by assumption)) | exact And.intro (by omega) (Tree.plain1 (by assumption)) | assumption)))
    all_goals first | (exfalso; omega) | skip
  have hq := (szStr_le (show 0 ≤ szStr l 1048576 by omega)).1
  have hm := endM_len l last
  have k2 := h2 l (by omega)
  have k3 := h3 l last (by omega)
  have k4 := h4 l last (by omega)
  have k5 := h5 (endM l last) (endM l last) (by omega) (by omega)
  have k6 := h6 l l (by omega) (by omega)
  have k7 := h7 l (by omega)
  have k8 := h8 (endM l last) (by omega)
  have k9 := h9 1 (endM l last).length (by omega) (by omega) (by omega)
  clear h1 h2 h3 h4 h5 h6 h7 h8 h9
  refine S.ofL hk rfl fun hB fn hr => ?_
  unfold w_FnExactEndMarks.x
  repeat' (first
    | refine S.seq ?_ | refine S.skip ?_ | refine S.block ?_ | refine S.inBlock ?_ | refine S.exit rfl ?_ | refine S.regN ?_ | refine S.reg ?_ | refine S.drw hk.mo (by kernel_rfl) ?_
    | (refine Ns.go ?_; simp (disch := first | omega | decide | rfl) only [Z, ↓reduceIte, Nat.reduceEqDiff, Nat.reduceBEq, Nat.reduceAdd, reduceCtorEq, UInt8.reduceOfNat]) | (apply Ns.sc ⟨rfl, rfl⟩ rfl; intro hg; (try simp only [HC] at hg)) | with_reducible exact rfl | exact ⟨rfl, rfl, rfl⟩ | (refine XOs.go ?_; simp (disch := first | omega | decide | rfl) only [Z, ↓reduceIte, Nat.reduceEqDiff, Nat.reduceBEq, Nat.reduceAdd, reduceCtorEq, UInt8.reduceOfNat]) | (refine XDs.go ?_; simp (disch := first | omega | decide | rfl) only [Z, ↓reduceIte, Nat.reduceEqDiff, Nat.reduceBEq, Nat.reduceAdd, reduceCtorEq, UInt8.reduceOfNat]) | (refine OK.go ?_; simp (disch := first | omega | decide | rfl) only [Z, ↓reduceIte, Nat.reduceEqDiff, Nat.reduceBEq, Nat.reduceAdd, reduceCtorEq, UInt8.reduceOfNat])
    | (refine OK.tree (by assumption) ?_; simp (disch := first | omega | decide | rfl) only [Z, ↓reduceIte, Nat.reduceEqDiff, Nat.reduceBEq, Nat.reduceAdd, reduceCtorEq, UInt8.reduceOfNat])
    | (refine RunsO.lst ( k2) (by (repeat' (first | exact Lens.nil | refine Lens.cons ?_ ?_)); all_goals (first | exact Len.at 0 rfl (by assumption) | exact Len.at 1 rfl (by assumption) | exact Len.at 2 rfl (by assumption) | exact Len.at 3 rfl (by assumption) | exact Len.at 4 rfl (by assumption) | exact Len.at 5 rfl (by assumption) | exact Len.at 6 rfl (by assumption) | exact Len.same _ | exact Len.fz _)) rfl ?_; intro v n2 N hle hf ht; (first | (obtain ⟨c1, rfl⟩ := ht.agg1) | (obtain ⟨c1, c2, rfl⟩ := ht.agg2) | (obtain ⟨c1, c2, c3, rfl⟩ := ht.agg3) | skip); try simp (disch := first | omega | decide | rfl) only [Z, ZH, List.set_cons_zero, List.set_cons_succ, ↓reduceIte, Nat.reduceEqDiff, Nat.reduceBEq, Nat.reduceAdd, reduceCtorEq, UInt8.reduceOfNat])
    | (refine RunsO.lst ( k3) (by (repeat' (first | exact Lens.nil | refine Lens.cons ?_ ?_)); all_goals (first | exact Len.at 0 rfl (by assumption) | exact Len.at 1 rfl (by assumption) | exact Len.at 2 rfl (by assumption) | exact Len.at 3 rfl (by assumption) | exact Len.at 4 rfl (by assumption) | exact Len.at 5 rfl (by assumption) | exact Len.at 6 rfl (by assumption) | exact Len.same _ | exact Len.fz _)) rfl ?_; intro v n2 N hle hf ht; (first | (obtain ⟨c1, rfl⟩ := ht.agg1) | (obtain ⟨c1, c2, rfl⟩ := ht.agg2) | (obtain ⟨c1, c2, c3, rfl⟩ := ht.agg3) | skip); try simp (disch := first | omega | decide | rfl) only [Z, ZH, List.set_cons_zero, List.set_cons_succ, ↓reduceIte, Nat.reduceEqDiff, Nat.reduceBEq, Nat.reduceAdd, reduceCtorEq, UInt8.reduceOfNat])
    | (refine RunsO.lst ( k4) (by (repeat' (first | exact Lens.nil | refine Lens.cons ?_ ?_)); all_goals (first | exact Len.at 0 rfl (by assumption) | exact Len.at 1 rfl (by assumption) | exact Len.at 2 rfl (by assumption) | exact Len.at 3 rfl (by assumption) | exact Len.at 4 rfl (by assumption) | exact Len.at 5 rfl (by assumption) | exact Len.at 6 rfl (by assumption) | exact Len.same _ | exact Len.fz _)) rfl ?_; intro v n2 N hle hf ht; (first | (obtain ⟨c1, rfl⟩ := ht.agg1) | (obtain ⟨c1, c2, rfl⟩ := ht.agg2) | (obtain ⟨c1, c2, c3, rfl⟩ := ht.agg3) | skip); try simp (disch := first | omega | decide | rfl) only [Z, ZH, List.set_cons_zero, List.set_cons_succ, ↓reduceIte, Nat.reduceEqDiff, Nat.reduceBEq, Nat.reduceAdd, reduceCtorEq, UInt8.reduceOfNat])
    | ((first | refine RunsF.len ( k5) rfl (by (repeat' (first | exact Lens.nil | refine Lens.cons ?_ ?_)); all_goals (first | exact Len.at 0 rfl (by assumption) | exact Len.at 1 rfl (by assumption) | exact Len.at 2 rfl (by assumption) | exact Len.at 3 rfl (by assumption) | exact Len.at 4 rfl (by assumption) | exact Len.at 5 rfl (by assumption) | exact Len.at 6 rfl (by assumption) | exact Len.same _ | exact Len.fz _)) ?_ | refine RunsF.lenD ( k5) rfl (by (repeat' (first | exact Lens.nil | refine Lens.cons ?_ ?_)); all_goals (first | exact Len.at 0 rfl (by assumption) | exact Len.at 1 rfl (by assumption) | exact Len.at 2 rfl (by assumption) | exact Len.at 3 rfl (by assumption) | exact Len.at 4 rfl (by assumption) | exact Len.at 5 rfl (by assumption) | exact Len.at 6 rfl (by assumption) | exact Len.same _ | exact Len.fz _)) ?_); try simp (disch := first | omega | decide | rfl) only [Z, ZH, List.set_cons_zero, List.set_cons_succ, ↓reduceIte, Nat.reduceEqDiff, Nat.reduceBEq, Nat.reduceAdd, reduceCtorEq, UInt8.reduceOfNat])
    | ((first | refine RunsF.len ( k6) rfl (by (repeat' (first | exact Lens.nil | refine Lens.cons ?_ ?_)); all_goals (first | exact Len.at 0 rfl (by assumption) | exact Len.at 1 rfl (by assumption) | exact Len.at 2 rfl (by assumption) | exact Len.at 3 rfl (by assumption) | exact Len.at 4 rfl (by assumption) | exact Len.at 5 rfl (by assumption) | exact Len.at 6 rfl (by assumption) | exact Len.same _ | exact Len.fz _)) ?_ | refine RunsF.lenD ( k6) rfl (by (repeat' (first | exact Lens.nil | refine Lens.cons ?_ ?_)); all_goals (first | exact Len.at 0 rfl (by assumption) | exact Len.at 1 rfl (by assumption) | exact Len.at 2 rfl (by assumption) | exact Len.at 3 rfl (by assumption) | exact Len.at 4 rfl (by assumption) | exact Len.at 5 rfl (by assumption) | exact Len.at 6 rfl (by assumption) | exact Len.same _ | exact Len.fz _)) ?_); try simp (disch := first | omega | decide | rfl) only [Z, ZH, List.set_cons_zero, List.set_cons_succ, ↓reduceIte, Nat.reduceEqDiff, Nat.reduceBEq, Nat.reduceAdd, reduceCtorEq, UInt8.reduceOfNat])
    | (first | refine MarkT.at 0 ( k7) (by omega) (by omega) rfl (by assumption) ?_ | refine MarkT.at 1 ( k7) (by omega) (by omega) rfl (by assumption) ?_ | refine MarkT.at 2 ( k7) (by omega) (by omega) rfl (by assumption) ?_ | refine MarkT.at 3 ( k7) (by omega) (by omega) rfl (by assumption) ?_ | refine MarkT.at 4 ( k7) (by omega) (by omega) rfl (by assumption) ?_ | refine MarkT.at 5 ( k7) (by omega) (by omega) rfl (by assumption) ?_ | refine MarkT.at 6 ( k7) (by omega) (by omega) rfl (by assumption) ?_); intro N ht; try simp (disch := first | omega | decide | rfl) only [Z, ZH, List.set_cons_zero, List.set_cons_succ, ↓reduceIte, Nat.reduceEqDiff, Nat.reduceBEq, Nat.reduceAdd, reduceCtorEq, UInt8.reduceOfNat]
    | (first | refine MarkT.at 0 ( k8) (by omega) (by omega) rfl (by assumption) ?_ | refine MarkT.at 1 ( k8) (by omega) (by omega) rfl (by assumption) ?_ | refine MarkT.at 2 ( k8) (by omega) (by omega) rfl (by assumption) ?_ | refine MarkT.at 3 ( k8) (by omega) (by omega) rfl (by assumption) ?_ | refine MarkT.at 4 ( k8) (by omega) (by omega) rfl (by assumption) ?_ | refine MarkT.at 5 ( k8) (by omega) (by omega) rfl (by assumption) ?_ | refine MarkT.at 6 ( k8) (by omega) (by omega) rfl (by assumption) ?_); intro N ht; try simp (disch := first | omega | decide | rfl) only [Z, ZH, List.set_cons_zero, List.set_cons_succ, ↓reduceIte, Nat.reduceEqDiff, Nat.reduceBEq, Nat.reduceAdd, reduceCtorEq, UInt8.reduceOfNat]
    | ((first | refine RunsF.len ( k9) rfl (by (repeat' (first | exact Lens.nil | refine Lens.cons ?_ ?_)); all_goals (first | exact Len.at 0 rfl (by assumption) | exact Len.at 1 rfl (by assumption) | exact Len.at 2 rfl (by assumption) | exact Len.at 3 rfl (by assumption) | exact Len.at 4 rfl (by assumption) | exact Len.at 5 rfl (by assumption) | exact Len.at 6 rfl (by assumption) | exact Len.same _ | exact Len.fz _)) ?_ | refine RunsF.lenD ( k9) rfl (by (repeat' (first | exact Lens.nil | refine Lens.cons ?_ ?_)); all_goals (first | exact Len.at 0 rfl (by assumption) | exact Len.at 1 rfl (by assumption) | exact Len.at 2 rfl (by assumption) | exact Len.at 3 rfl (by assumption) | exact Len.at 4 rfl (by assumption) | exact Len.at 5 rfl (by assumption) | exact Len.at 6 rfl (by assumption) | exact Len.same _ | exact Len.fz _)) ?_); try simp (disch := first | omega | decide | rfl) only [Z, ZH, List.set_cons_zero, List.set_cons_succ, ↓reduceIte, Nat.reduceEqDiff, Nat.reduceBEq, Nat.reduceAdd, reduceCtorEq, UInt8.reduceOfNat])
    | refine RunsF.apf (k1) rfl ?_ | refine RunsF.apd (k1) rfl ?_
    | (refine S.cond rfl (fun hc => ?_) (fun hc => ?_) <;> try simp only [HC] at hc)
    | (refine Gd.on (fun hg => ?_) (fun hg => ?_) <;> simp (disch := first | omega | decide | rfl) only [hg, Z, ↓reduceIte, Nat.reduceEqDiff, Nat.reduceBEq, Nat.reduceAdd, reduceCtorEq, UInt8.reduceOfNat] <;> (try simp only [HC] at hg))
    | refine S.retH hr rfl ?_ | refine S.finH hr rfl ?_
    | (refine S.retK hr ?_; simp (disch := first | omega | decide | rfl) only [ZR, Z, ↓reduceIte, Nat.reduceEqDiff, Nat.reduceBEq, Nat.reduceAdd, reduceCtorEq, UInt8.reduceOfNat])
    | (refine Fin.pure hB (by first | exact List.Sublist.refl _ | (simp only [hp, List.flatten_cons, List.flatten_nil, List.append_nil, List.append_assoc, List.cons_append, List.nil_append]; (repeat first | exact List.Sublist.refl _ | exact List.sublist_append_right _ _ | apply List.Sublist.cons | apply List.Sublist.append_left); done) | exact List.nil_sublist _ | (rw [enc_rep]; exact List.Sublist.refl _) | (rw [hset_self (by assumption)]; exact List.Sublist.refl _) | ((repeat first | exact List.Sublist.refl _ | apply List.Sublist.cons); done) | (simp only [ZL]; (repeat first | exact List.Sublist.refl _ | apply List.Sublist.cons); done)) rfl ?_; try simp (disch := first | omega | decide | rfl) only [Z, ↓reduceIte, Nat.reduceEqDiff, Nat.reduceBEq, Nat.reduceAdd, reduceCtorEq, UInt8.reduceOfNat]; try simp only [LF])
    | refine Fin.treeH hB (by first | exact List.Sublist.refl _ | (simp only [hp, List.flatten_cons, List.flatten_nil, List.append_nil, List.append_assoc, List.cons_append, List.nil_append]; (repeat first | exact List.Sublist.refl _ | exact List.sublist_append_right _ _ | apply List.Sublist.cons | apply List.Sublist.append_left); done) | exact List.nil_sublist _ | (rw [enc_rep]; exact List.Sublist.refl _) | (rw [hset_self (by assumption)]; exact List.Sublist.refl _) | ((repeat first | exact List.Sublist.refl _ | apply List.Sublist.cons); done) | (simp only [ZL]; (repeat first | exact List.Sublist.refl _ | apply List.Sublist.cons); done)) (fun p hp => by have := hf p hp; (try dsimp only); omega) (Tree.mk1 ht) | refine Fin.acc0 hB (by first | exact List.Sublist.refl _ | (simp only [hp, List.flatten_cons, List.flatten_nil, List.append_nil, List.append_assoc, List.cons_append, List.nil_append]; (repeat first | exact List.Sublist.refl _ | exact List.sublist_append_right _ _ | apply List.Sublist.cons | apply List.Sublist.append_left); done) | exact List.nil_sublist _ | (rw [enc_rep]; exact List.Sublist.refl _) | (rw [hset_self (by assumption)]; exact List.Sublist.refl _) | ((repeat first | exact List.Sublist.refl _ | apply List.Sublist.cons); done) | (simp only [ZL]; (repeat first | exact List.Sublist.refl _ | apply List.Sublist.cons); done)) (by (try dsimp only); omega) ?_ | refine Fin.accD (fun _ => rfl) hB (by first | exact List.Sublist.refl _ | (simp only [hp, List.flatten_cons, List.flatten_nil, List.append_nil, List.append_assoc, List.cons_append, List.nil_append]; (repeat first | exact List.Sublist.refl _ | exact List.sublist_append_right _ _ | apply List.Sublist.cons | apply List.Sublist.append_left); done) | exact List.nil_sublist _ | (rw [enc_rep]; exact List.Sublist.refl _) | (rw [hset_self (by assumption)]; exact List.Sublist.refl _) | ((repeat first | exact List.Sublist.refl _ | apply List.Sublist.cons); done) | (simp only [ZL]; (repeat first | exact List.Sublist.refl _ | apply List.Sublist.cons); done)) (by (try dsimp only); omega) ?_ | refine Fin.nilD hB (by first | exact List.Sublist.refl _ | (simp only [hp, List.flatten_cons, List.flatten_nil, List.append_nil, List.append_assoc, List.cons_append, List.nil_append]; (repeat first | exact List.Sublist.refl _ | exact List.sublist_append_right _ _ | apply List.Sublist.cons | apply List.Sublist.append_left); done) | exact List.nil_sublist _ | (rw [enc_rep]; exact List.Sublist.refl _) | (rw [hset_self (by assumption)]; exact List.Sublist.refl _) | ((repeat first | exact List.Sublist.refl _ | apply List.Sublist.cons); done) | (simp only [ZL]; (repeat first | exact List.Sublist.refl _ | apply List.Sublist.cons); done)) ?_ | refine Fin.vecD (fun _ => rfl) hB (by first | exact List.Sublist.refl _ | (simp only [hp, List.flatten_cons, List.flatten_nil, List.append_nil, List.append_assoc, List.cons_append, List.nil_append]; (repeat first | exact List.Sublist.refl _ | exact List.sublist_append_right _ _ | apply List.Sublist.cons | apply List.Sublist.append_left); done) | exact List.nil_sublist _ | (rw [enc_rep]; exact List.Sublist.refl _) | (rw [hset_self (by assumption)]; exact List.Sublist.refl _) | ((repeat first | exact List.Sublist.refl _ | apply List.Sublist.cons); done) | (simp only [ZL]; (repeat first | exact List.Sublist.refl _ | apply List.Sublist.cons); done)) (by (try dsimp only); omega) ?_ ?_ rfl | refine Fin.refD (fun _ => rfl) hB (by first | exact List.Sublist.refl _ | (simp only [hp, List.flatten_cons, List.flatten_nil, List.append_nil, List.append_assoc, List.cons_append, List.nil_append]; (repeat first | exact List.Sublist.refl _ | exact List.sublist_append_right _ _ | apply List.Sublist.cons | apply List.Sublist.append_left); done) | exact List.nil_sublist _ | (rw [enc_rep]; exact List.Sublist.refl _) | (rw [hset_self (by assumption)]; exact List.Sublist.refl _) | ((repeat first | exact List.Sublist.refl _ | apply List.Sublist.cons); done) | (simp only [ZL]; (repeat first | exact List.Sublist.refl _ | apply List.Sublist.cons); done)) (by (try dsimp only); omega) ?_ ?_ rfl | (refine Fin.treeE hB (by first | exact List.Sublist.refl _ | (simp only [hp, List.flatten_cons, List.flatten_nil, List.append_nil, List.append_assoc, List.cons_append, List.nil_append]; (repeat first | exact List.Sublist.refl _ | exact List.sublist_append_right _ _ | apply List.Sublist.cons | apply List.Sublist.append_left); done) | exact List.nil_sublist _ | (rw [enc_rep]; exact List.Sublist.refl _) | (rw [hset_self (by assumption)]; exact List.Sublist.refl _) | ((repeat first | exact List.Sublist.refl _ | apply List.Sublist.cons); done) | (simp only [ZL]; (repeat first | exact List.Sublist.refl _ | apply List.Sublist.cons); done)) (fun p hp => by first | (have := hN p hp; (try dsimp only); omega) | (have := hf p hp; (try dsimp only); omega)) (by first | exact ht | exact ht.up | exact Tree.mk1 ht.up) ?_; try simp only [AV.sl.injEq])
    | (with_reducible refine And.intro ?_ ?_; focus (first | omega | (simp only [List.length_cons, List.length_nil]; omega) | (simp [rowsOk]; done) | exact Tree.plain (by assumption) | exact And.intro (by omega) (Tree.plain (by assumption)) | exact And.intro (by omega) (Tree.plain1 (by assumption)) | assumption)))
  all_goals (exfalso; first | omega | exact hc trivial | grind)
def C_lawStep (P : Program) (k : Nat) : Prop := ∀ (l : List (List UInt8)) (last : UInt8) (x : Link), Big l → Runs P k [.sl (enc l), .int .u8 (last.toNat : Int), .agg (Dat.row x)] 0 [] (fun v n' H' => v = .bool true ∧ n' = 0 ∧ H' = [])
end Go.M05
