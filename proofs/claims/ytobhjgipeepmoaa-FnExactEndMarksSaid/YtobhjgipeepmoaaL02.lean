/- The laws of paradigms: IsParadigm and IsAlternating answer as the reference does. Over any program. -/
import Derived.Test.YtobhjgipeepmoaaL01
namespace Go.Lib02
open Go.Ab Go.Lib01
set_option linter.unusedVariables false
set_option linter.unusedSimpArgs false
set_option maxRecDepth 2000

/-- What is left of a size. -/
def szTwo (a b : List UInt8) (l : Int) : Int := if l - a.length < 0 then -1 else if l - a.length - b.length < 0 then -1 else l - a.length - b.length
def C_szParadigm (P : Program) (k : Nat) : Prop := ∀ (a b : List UInt8) (l : Int), a.length ≤ 9223372036854775807 → b.length ≤ 9223372036854775807 → -1 ≤ l → l ≤ 1048576 → RunsF P k [.agg [.str a, .str b], .int .i64 l] (.int .i64 (szTwo a b l))
/-- laws.szParadigm -/
def w_szParadigm.x : XCode :=
  (.seq
    (.reg [⟨(some 2), .boxF, [.t 0], none⟩,
      ⟨(some 4), .mv, [.k (.int .i64 0)], none⟩] [1, 2])
    (.seq
      (.reg [⟨(some 5), .mv, [.t 1], none⟩,
        ⟨(some 6), (.fldA 0), [.t 2], none⟩,
        ⟨(some 7), (.ld none), [.t 6], none⟩,
        ⟨(some 8), .lenS, [.t 7], none⟩,
        ⟨(some 9), (.bin .sub), [.t 5, .t 8], none⟩,
        ⟨(some 1), .mv, [.t 9], none⟩] [1, 2])
      (.seq
        (.seq
          (.reg [⟨(some 10), .mv, [.t 1], none⟩,
            ⟨(some 11), (.bin .lss), [.t 10, .k (.int .i64 0)], none⟩] [1, 2, 11])
          (.cond (.t 11)
            (.seq
              (.reg [⟨(some 4), .mv, [.k (.int .i64 (-1))], none⟩] [4])
              .ret)
            .skip))
        (.seq
          (.reg [⟨(some 12), .mv, [.t 1], none⟩,
            ⟨(some 13), (.fldA 1), [.t 2], none⟩,
            ⟨(some 14), (.ld none), [.t 13], none⟩,
            ⟨(some 15), .lenS, [.t 14], none⟩,
            ⟨(some 16), (.bin .sub), [.t 12, .t 15], none⟩,
            ⟨(some 1), .mv, [.t 16], none⟩] [1])
          (.seq
            (.seq
              (.reg [⟨(some 17), .mv, [.t 1], none⟩,
                ⟨(some 18), (.bin .lss), [.t 17, .k (.int .i64 0)], none⟩] [1, 18])
              (.cond (.t 18)
                (.seq
                  (.reg [⟨(some 4), .mv, [.k (.int .i64 (-1))], none⟩] [4])
                  .ret)
                .skip))
            (.seq
              (.reg [⟨(some 19), .mv, [.t 1], none⟩,
                ⟨(some 4), .mv, [.t 19], none⟩] [4])
              .ret))))))
def w_szParadigm.F : Cfg := ⟨fun _ => 0, fun r => match r with | 0 => [1, 2] | 1 => [1, 2] | 2 => [1, 2, 11] | 3 => [4] | 4 => [1] | 5 => [1, 18] | 6 => [4] | 7 => [4] | _ => []⟩
def w_szParadigm.X : FX := ⟨20, [.tmp 4], w_szParadigm.F, w_szParadigm.x⟩

theorem w_szParadigm.ok {P : Program} {k : Nat} (hk : Has P k (w_szParadigm.X)) : C_szParadigm P k := by
  intro a b l ha hb hl1 hl2 n H
  refine S.ofX hk rfl fun hB fn hr => ?_
  unfold w_szParadigm.x
  repeat' (first
    | refine S.seq ?_ | refine S.skip ?_ | refine S.block ?_ | refine S.inBlock ?_ | refine S.exit rfl ?_ | refine S.regN ?_ | refine S.reg ?_ | refine S.drw hk.mo (by kernel_rfl) ?_
    | (refine Ns.go ?_; simp (disch := first | omega | decide | rfl) only [Z, ↓reduceIte, Nat.reduceEqDiff, Nat.reduceBEq, Nat.reduceAdd, reduceCtorEq, UInt8.reduceOfNat]) | (apply Ns.sc ⟨rfl, rfl⟩ rfl; intro hg; (try simp only [HC] at hg)) | with_reducible exact rfl | exact ⟨rfl, rfl, rfl⟩ | (refine XOs.go ?_; simp (disch := first | omega | decide | rfl) only [Z, ↓reduceIte, Nat.reduceEqDiff, Nat.reduceBEq, Nat.reduceAdd, reduceCtorEq, UInt8.reduceOfNat]) | (refine XDs.go ?_; simp (disch := first | omega | decide | rfl) only [Z, ↓reduceIte, Nat.reduceEqDiff, Nat.reduceBEq, Nat.reduceAdd, reduceCtorEq, UInt8.reduceOfNat]) | (refine OK.go ?_; simp (disch := first | omega | decide | rfl) only [Z, ↓reduceIte, Nat.reduceEqDiff, Nat.reduceBEq, Nat.reduceAdd, reduceCtorEq, UInt8.reduceOfNat])
    | (refine S.cond rfl (fun hc => ?_) (fun hc => ?_) <;> try simp only [HC] at hc)
    | (refine Gd.on (fun hg => ?_) (fun hg => ?_) <;> simp (disch := first | omega | decide | rfl) only [hg, Z, ↓reduceIte, Nat.reduceEqDiff, Nat.reduceBEq, Nat.reduceAdd, reduceCtorEq, UInt8.reduceOfNat] <;> (try simp only [HC] at hg))
    | refine S.retH hr rfl ?_ | refine S.finH hr rfl ?_
    | (refine S.retK hr ?_; simp (disch := first | omega | decide | rfl) only [ZR, Z, ↓reduceIte, Nat.reduceEqDiff, Nat.reduceBEq, Nat.reduceAdd, reduceCtorEq, UInt8.reduceOfNat])
    | (refine Fin.pure hB (by first | exact List.Sublist.refl _ | exact List.nil_sublist _ | (rw [enc_rep]; exact List.Sublist.refl _) | ((repeat first | exact List.Sublist.refl _ | apply List.Sublist.cons); done) | (simp only [ZL]; (repeat first | exact List.Sublist.refl _ | apply List.Sublist.cons); done)) rfl ?_; try simp (disch := first | omega | decide | rfl) only [Z, ↓reduceIte, Nat.reduceEqDiff, Nat.reduceBEq, Nat.reduceAdd, reduceCtorEq, UInt8.reduceOfNat]; try simp only [LF])
    | refine Fin.accD (fun _ => rfl) hB (by first | exact List.Sublist.refl _ | exact List.nil_sublist _ | (rw [enc_rep]; exact List.Sublist.refl _) | ((repeat first | exact List.Sublist.refl _ | apply List.Sublist.cons); done) | (simp only [ZL]; (repeat first | exact List.Sublist.refl _ | apply List.Sublist.cons); done)) (by dsimp only; omega) ?_ | refine Fin.nilD hB (by first | exact List.Sublist.refl _ | exact List.nil_sublist _ | (rw [enc_rep]; exact List.Sublist.refl _) | ((repeat first | exact List.Sublist.refl _ | apply List.Sublist.cons); done) | (simp only [ZL]; (repeat first | exact List.Sublist.refl _ | apply List.Sublist.cons); done)) ?_ | refine Fin.vecD (fun _ => rfl) hB (by first | exact List.Sublist.refl _ | exact List.nil_sublist _ | (rw [enc_rep]; exact List.Sublist.refl _) | ((repeat first | exact List.Sublist.refl _ | apply List.Sublist.cons); done) | (simp only [ZL]; (repeat first | exact List.Sublist.refl _ | apply List.Sublist.cons); done)) (by dsimp only; omega) ?_ ?_ rfl | refine Fin.refD (fun _ => rfl) hB (by first | exact List.Sublist.refl _ | exact List.nil_sublist _ | (rw [enc_rep]; exact List.Sublist.refl _) | ((repeat first | exact List.Sublist.refl _ | apply List.Sublist.cons); done) | (simp only [ZL]; (repeat first | exact List.Sublist.refl _ | apply List.Sublist.cons); done)) (by dsimp only; omega) ?_ ?_ rfl | (refine Fin.treeE hB (by first | exact List.Sublist.refl _ | exact List.nil_sublist _ | (rw [enc_rep]; exact List.Sublist.refl _) | ((repeat first | exact List.Sublist.refl _ | apply List.Sublist.cons); done) | (simp only [ZL]; (repeat first | exact List.Sublist.refl _ | apply List.Sublist.cons); done)) (fun p hp => by have := hN p hp; dsimp only; omega) (by first | exact ht | exact ht.up) ?_; try simp only [AV.sl.injEq])
    | (with_reducible refine And.intro ?_ ?_; focus (first | omega | (simp only [List.length_cons, List.length_nil]; omega) | (simp [rowsOk]; done) | assumption)))
  all_goals (try clear ih); (try clear ih2); (try clear hr hk hB); (try dsimp only)
  all_goals (try simp only [szTwo] at *)
  all_goals first | rfl | omega | (simp_all; done) | (simp_all; omega) | (rw [Bool.eq_iff_iff]; simp_all; done) | (rw [Bool.eq_iff_iff]; simp_all; omega) | grind | (rw [Bool.eq_iff_iff]; grind)
def C_toParadigm (P : Program) (k : Nat) : Prop := ∀ (a b : List UInt8), RunsF P k [.agg [.str a, .str b]] (.agg [.str a, .str b])
/-- laws.toParadigm -/
def w_toParadigm.x : XCode :=
  (.seq
    (.reg [⟨(some 1), .boxF, [.t 0], none⟩,
      ⟨(some 2), (.alloc [.str [], .str []]), [], none⟩] [1, 2])
    (.seq
      (.reg [⟨(some 3), (.alloc [.str [], .str []]), [], none⟩] [1, 2, 3])
      (.seq
        (.reg [⟨(some 4), (.fldA 0), [.t 1], none⟩,
          ⟨(some 5), (.ld none), [.t 4], none⟩,
          ⟨(some 6), (.fldA 0), [.t 3], none⟩,
          ⟨none, (.st none), [.t 6, .t 5], none⟩] [1, 2, 3])
        (.seq
          (.reg [⟨(some 7), (.fldA 1), [.t 1], none⟩,
            ⟨(some 8), (.ld none), [.t 7], none⟩,
            ⟨(some 9), (.fldA 1), [.t 3], none⟩,
            ⟨none, (.st none), [.t 9, .t 8], none⟩] [2, 3])
          (.seq
            (.reg [⟨(some 10), (.ld (some 2)), [.t 3], none⟩,
              ⟨none, (.st (some 2)), [.t 2, .t 10], none⟩] [2])
            .ret)))))
def w_toParadigm.F : Cfg := ⟨fun _ => 0, fun r => match r with | 0 => [1, 2] | 1 => [1, 2, 3] | 2 => [1, 2, 3] | 3 => [2, 3] | 4 => [2] | _ => []⟩
def w_toParadigm.X : FX := ⟨11, [.cell 2 (some 2)], w_toParadigm.F, w_toParadigm.x⟩

theorem w_toParadigm.ok {P : Program} {k : Nat} (hk : Has P k (w_toParadigm.X)) : C_toParadigm P k := by
  intro a b n H
  refine S.ofX hk rfl fun hB fn hr => ?_
  unfold w_toParadigm.x
  repeat' (first
    | refine S.seq ?_ | refine S.skip ?_ | refine S.block ?_ | refine S.inBlock ?_ | refine S.exit rfl ?_ | refine S.regN ?_ | refine S.reg ?_ | refine S.drw hk.mo (by kernel_rfl) ?_
    | (refine Ns.go ?_; simp (disch := first | omega | decide | rfl) only [Z, ↓reduceIte, Nat.reduceEqDiff, Nat.reduceBEq, Nat.reduceAdd, reduceCtorEq, UInt8.reduceOfNat]) | (apply Ns.sc ⟨rfl, rfl⟩ rfl; intro hg; (try simp only [HC] at hg)) | with_reducible exact rfl | exact ⟨rfl, rfl, rfl⟩ | (refine XOs.go ?_; simp (disch := first | omega | decide | rfl) only [Z, ↓reduceIte, Nat.reduceEqDiff, Nat.reduceBEq, Nat.reduceAdd, reduceCtorEq, UInt8.reduceOfNat]) | (refine XDs.go ?_; simp (disch := first | omega | decide | rfl) only [Z, ↓reduceIte, Nat.reduceEqDiff, Nat.reduceBEq, Nat.reduceAdd, reduceCtorEq, UInt8.reduceOfNat]) | (refine OK.go ?_; simp (disch := first | omega | decide | rfl) only [Z, ↓reduceIte, Nat.reduceEqDiff, Nat.reduceBEq, Nat.reduceAdd, reduceCtorEq, UInt8.reduceOfNat])
    | (refine S.cond rfl (fun hc => ?_) (fun hc => ?_) <;> try simp only [HC] at hc)
    | (refine Gd.on (fun hg => ?_) (fun hg => ?_) <;> simp (disch := first | omega | decide | rfl) only [hg, Z, ↓reduceIte, Nat.reduceEqDiff, Nat.reduceBEq, Nat.reduceAdd, reduceCtorEq, UInt8.reduceOfNat] <;> (try simp only [HC] at hg))
    | refine S.retH hr rfl ?_ | refine S.finH hr rfl ?_
    | (refine S.retK hr ?_; simp (disch := first | omega | decide | rfl) only [ZR, Z, ↓reduceIte, Nat.reduceEqDiff, Nat.reduceBEq, Nat.reduceAdd, reduceCtorEq, UInt8.reduceOfNat])
    | (refine Fin.pure hB (by first | exact List.Sublist.refl _ | exact List.nil_sublist _ | (rw [enc_rep]; exact List.Sublist.refl _) | ((repeat first | exact List.Sublist.refl _ | apply List.Sublist.cons); done) | (simp only [ZL]; (repeat first | exact List.Sublist.refl _ | apply List.Sublist.cons); done)) rfl ?_; try simp (disch := first | omega | decide | rfl) only [Z, ↓reduceIte, Nat.reduceEqDiff, Nat.reduceBEq, Nat.reduceAdd, reduceCtorEq, UInt8.reduceOfNat]; try simp only [LF])
    | refine Fin.accD (fun _ => rfl) hB (by first | exact List.Sublist.refl _ | exact List.nil_sublist _ | (rw [enc_rep]; exact List.Sublist.refl _) | ((repeat first | exact List.Sublist.refl _ | apply List.Sublist.cons); done) | (simp only [ZL]; (repeat first | exact List.Sublist.refl _ | apply List.Sublist.cons); done)) (by dsimp only; omega) ?_ | refine Fin.nilD hB (by first | exact List.Sublist.refl _ | exact List.nil_sublist _ | (rw [enc_rep]; exact List.Sublist.refl _) | ((repeat first | exact List.Sublist.refl _ | apply List.Sublist.cons); done) | (simp only [ZL]; (repeat first | exact List.Sublist.refl _ | apply List.Sublist.cons); done)) ?_ | refine Fin.vecD (fun _ => rfl) hB (by first | exact List.Sublist.refl _ | exact List.nil_sublist _ | (rw [enc_rep]; exact List.Sublist.refl _) | ((repeat first | exact List.Sublist.refl _ | apply List.Sublist.cons); done) | (simp only [ZL]; (repeat first | exact List.Sublist.refl _ | apply List.Sublist.cons); done)) (by dsimp only; omega) ?_ ?_ rfl | refine Fin.refD (fun _ => rfl) hB (by first | exact List.Sublist.refl _ | exact List.nil_sublist _ | (rw [enc_rep]; exact List.Sublist.refl _) | ((repeat first | exact List.Sublist.refl _ | apply List.Sublist.cons); done) | (simp only [ZL]; (repeat first | exact List.Sublist.refl _ | apply List.Sublist.cons); done)) (by dsimp only; omega) ?_ ?_ rfl | (refine Fin.treeE hB (by first | exact List.Sublist.refl _ | exact List.nil_sublist _ | (rw [enc_rep]; exact List.Sublist.refl _) | ((repeat first | exact List.Sublist.refl _ | apply List.Sublist.cons); done) | (simp only [ZL]; (repeat first | exact List.Sublist.refl _ | apply List.Sublist.cons); done)) (fun p hp => by have := hN p hp; dsimp only; omega) (by first | exact ht | exact ht.up) ?_; try simp only [AV.sl.injEq])
    | (with_reducible refine And.intro ?_ ?_; focus (first | omega | (simp only [List.length_cons, List.length_nil]; omega) | (simp [rowsOk]; done) | assumption)))
  all_goals (try clear ih); (try clear ih2); (try clear hr hk hB); (try dsimp only)
  all_goals first | rfl | omega | (simp_all; done) | (simp_all; omega) | (rw [Bool.eq_iff_iff]; simp_all; done) | (rw [Bool.eq_iff_iff]; simp_all; omega) | grind | (rw [Bool.eq_iff_iff]; grind)
theorem szTwo_le {a b : List UInt8} {l : Int} (h : 0 ≤ szTwo a b l) : a.length + b.length ≤ l := by
  unfold szTwo at h
  split at h
  · omega
  · split at h <;> omega
def C_lawPara (P : Program) (k : Nat) : Prop := ∀ (a b : List UInt8), a.length ≤ 9223372036854775807 → b.length ≤ 9223372036854775807 → RunsF P k [.agg [.str a, .str b]] (.bool true)
/-- laws.FnExactIsParadigm -/
def w_FnExactIsParadigm.x (c_w_szParadigm c_w_toParadigm c_s_IsParadigm c_i_IsParadigm : Nat) : XCode :=
  (.seq
    (.reg [⟨(some 1), .boxF, [.t 0], none⟩,
      ⟨(some 2), .mv, [.k (.bool false)], none⟩] [1])
    (.seq
      (.reg [⟨(some 3), .mv, [.k (.int .i64 1048576)], none⟩] [1, 3])
      (.seq
        (.reg [⟨(some 6), (.ld (some 2)), [.t 1], none⟩,
          ⟨(some 7), .mv, [.t 3], none⟩,
          ⟨(some 8), .call, [.k (.fn c_w_szParadigm []), .t 6, .t 7], none⟩,
          ⟨(some 3), .mv, [.t 8], none⟩] [1, 3])
        (.seq
          (.seq
            (.reg [⟨(some 9), .mv, [.t 3], none⟩,
              ⟨(some 10), (.bin .lss), [.t 9, .k (.int .i64 0)], none⟩] [1, 10])
            (.cond (.t 10)
              (.seq
                (.reg [⟨(some 2), .mv, [.k (.bool true)], none⟩] [2])
                .ret)
              .skip))
          (.seq
            (.reg [⟨(some 11), (.ld (some 2)), [.t 1], none⟩,
              ⟨(some 12), .call, [.k (.fn c_w_toParadigm []), .t 11], none⟩,
              ⟨(some 13), .call, [.k (.fn c_s_IsParadigm []), .t 12], none⟩,
              ⟨(some 4), .mv, [.t 13], none⟩] [1, 4])
            (.seq
              (.reg [⟨(some 14), (.ld (some 2)), [.t 1], none⟩,
                ⟨(some 15), .call, [.k (.fn c_w_toParadigm []), .t 14], none⟩,
                ⟨(some 16), .call, [.k (.fn c_i_IsParadigm []), .t 15], none⟩,
                ⟨(some 5), .mv, [.t 16], none⟩] [4, 5])
              (.seq
                (.seq
                  (.reg [⟨(some 17), .mv, [.t 5], none⟩,
                    ⟨(some 18), .mv, [.t 4], none⟩,
                    ⟨(some 19), (.binB true), [.t 17, .t 18], none⟩] [19])
                  (.cond (.t 19)
                    (.seq
                      (.reg [⟨(some 2), .mv, [.k (.bool false)], none⟩] [2])
                      .ret)
                    .skip))
                (.seq
                  (.reg [⟨(some 2), .mv, [.k (.bool true)], none⟩] [2])
                  .ret))))))))
def w_FnExactIsParadigm.F : Cfg := ⟨fun _ => 0, fun r => match r with | 0 => [1] | 1 => [1, 3] | 2 => [1, 3] | 3 => [1, 10] | 4 => [2] | 5 => [1, 4] | 6 => [4, 5] | 7 => [19] | 8 => [2] | 9 => [2] | _ => []⟩
def w_FnExactIsParadigm.X (c_w_szParadigm c_w_toParadigm c_s_IsParadigm c_i_IsParadigm : Nat) : FX := ⟨20, [.tmp 2], w_FnExactIsParadigm.F, w_FnExactIsParadigm.x c_w_szParadigm c_w_toParadigm c_s_IsParadigm c_i_IsParadigm⟩

theorem w_FnExactIsParadigm.ok {P : Program} {k c_w_szParadigm c_w_toParadigm c_s_IsParadigm c_i_IsParadigm : Nat} (hk : Has P k (w_FnExactIsParadigm.X c_w_szParadigm c_w_toParadigm c_s_IsParadigm c_i_IsParadigm)) (h1 : C_szParadigm P c_w_szParadigm) (h2 : C_toParadigm P c_w_toParadigm) (h3 : C_IsParadigm P c_s_IsParadigm) (h4 : C_IsParadigm P c_i_IsParadigm) : C_lawPara P k := by
  intro a b ha hb n H
  refine S.ofX hk rfl fun hB fn hr => ?_
  unfold w_FnExactIsParadigm.x
  repeat' (first
    | refine S.seq ?_ | refine S.skip ?_ | refine S.block ?_ | refine S.inBlock ?_ | refine S.exit rfl ?_ | refine S.regN ?_ | refine S.reg ?_ | refine S.drw hk.mo (by kernel_rfl) ?_
    | (refine Ns.go ?_; simp (disch := first | omega | decide | rfl) only [Z, ↓reduceIte, Nat.reduceEqDiff, Nat.reduceBEq, Nat.reduceAdd, reduceCtorEq, UInt8.reduceOfNat]) | (apply Ns.sc ⟨rfl, rfl⟩ rfl; intro hg; (try simp only [HC] at hg)) | with_reducible exact rfl | exact ⟨rfl, rfl, rfl⟩ | (refine XOs.go ?_; simp (disch := first | omega | decide | rfl) only [Z, ↓reduceIte, Nat.reduceEqDiff, Nat.reduceBEq, Nat.reduceAdd, reduceCtorEq, UInt8.reduceOfNat]) | (refine XDs.go ?_; simp (disch := first | omega | decide | rfl) only [Z, ↓reduceIte, Nat.reduceEqDiff, Nat.reduceBEq, Nat.reduceAdd, reduceCtorEq, UInt8.reduceOfNat]) | (refine OK.go ?_; simp (disch := first | omega | decide | rfl) only [Z, ↓reduceIte, Nat.reduceEqDiff, Nat.reduceBEq, Nat.reduceAdd, reduceCtorEq, UInt8.reduceOfNat])
    | refine RunsF.apf (h1 _ _ _ ha hb (by omega) (by omega)) rfl ?_ | refine RunsF.apd (h1 _ _ _ ha hb (by omega) (by omega)) rfl ?_
    | refine RunsF.apf (h2 _ _) rfl ?_ | refine RunsF.apd (h2 _ _) rfl ?_
    | refine RunsF.apf (h3 _ _ (by have := szTwo_le hc; omega) (by have := szTwo_le hc; omega)) rfl ?_ | refine RunsF.apd (h3 _ _ (by have := szTwo_le hc; omega) (by have := szTwo_le hc; omega)) rfl ?_
    | refine RunsF.apf (h4 _ _ (by have := szTwo_le hc; omega) (by have := szTwo_le hc; omega)) rfl ?_ | refine RunsF.apd (h4 _ _ (by have := szTwo_le hc; omega) (by have := szTwo_le hc; omega)) rfl ?_
    | (refine S.cond rfl (fun hc => ?_) (fun hc => ?_) <;> try simp only [HC] at hc)
    | (refine Gd.on (fun hg => ?_) (fun hg => ?_) <;> simp (disch := first | omega | decide | rfl) only [hg, Z, ↓reduceIte, Nat.reduceEqDiff, Nat.reduceBEq, Nat.reduceAdd, reduceCtorEq, UInt8.reduceOfNat] <;> (try simp only [HC] at hg))
    | refine S.retH hr rfl ?_ | refine S.finH hr rfl ?_
    | (refine S.retK hr ?_; simp (disch := first | omega | decide | rfl) only [ZR, Z, ↓reduceIte, Nat.reduceEqDiff, Nat.reduceBEq, Nat.reduceAdd, reduceCtorEq, UInt8.reduceOfNat])
    | (refine Fin.pure hB (by first | exact List.Sublist.refl _ | exact List.nil_sublist _ | (rw [enc_rep]; exact List.Sublist.refl _) | ((repeat first | exact List.Sublist.refl _ | apply List.Sublist.cons); done) | (simp only [ZL]; (repeat first | exact List.Sublist.refl _ | apply List.Sublist.cons); done)) rfl ?_; try simp (disch := first | omega | decide | rfl) only [Z, ↓reduceIte, Nat.reduceEqDiff, Nat.reduceBEq, Nat.reduceAdd, reduceCtorEq, UInt8.reduceOfNat]; try simp only [LF])
    | refine Fin.accD (fun _ => rfl) hB (by first | exact List.Sublist.refl _ | exact List.nil_sublist _ | (rw [enc_rep]; exact List.Sublist.refl _) | ((repeat first | exact List.Sublist.refl _ | apply List.Sublist.cons); done) | (simp only [ZL]; (repeat first | exact List.Sublist.refl _ | apply List.Sublist.cons); done)) (by dsimp only; omega) ?_ | refine Fin.nilD hB (by first | exact List.Sublist.refl _ | exact List.nil_sublist _ | (rw [enc_rep]; exact List.Sublist.refl _) | ((repeat first | exact List.Sublist.refl _ | apply List.Sublist.cons); done) | (simp only [ZL]; (repeat first | exact List.Sublist.refl _ | apply List.Sublist.cons); done)) ?_ | refine Fin.vecD (fun _ => rfl) hB (by first | exact List.Sublist.refl _ | exact List.nil_sublist _ | (rw [enc_rep]; exact List.Sublist.refl _) | ((repeat first | exact List.Sublist.refl _ | apply List.Sublist.cons); done) | (simp only [ZL]; (repeat first | exact List.Sublist.refl _ | apply List.Sublist.cons); done)) (by dsimp only; omega) ?_ ?_ rfl | refine Fin.refD (fun _ => rfl) hB (by first | exact List.Sublist.refl _ | exact List.nil_sublist _ | (rw [enc_rep]; exact List.Sublist.refl _) | ((repeat first | exact List.Sublist.refl _ | apply List.Sublist.cons); done) | (simp only [ZL]; (repeat first | exact List.Sublist.refl _ | apply List.Sublist.cons); done)) (by dsimp only; omega) ?_ ?_ rfl | (refine Fin.treeE hB (by first | exact List.Sublist.refl _ | exact List.nil_sublist _ | (rw [enc_rep]; exact List.Sublist.refl _) | ((repeat first | exact List.Sublist.refl _ | apply List.Sublist.cons); done) | (simp only [ZL]; (repeat first | exact List.Sublist.refl _ | apply List.Sublist.cons); done)) (fun p hp => by have := hN p hp; dsimp only; omega) (by first | exact ht | exact ht.up) ?_; try simp only [AV.sl.injEq])
    | (with_reducible refine And.intro ?_ ?_; focus (first | omega | (simp only [List.length_cons, List.length_nil]; omega) | (simp [rowsOk]; done) | assumption)))
  all_goals (try clear ih); (try clear ih2); (try clear hr hk hB); (try dsimp only)
  all_goals first | rfl | omega | (simp_all; done) | (simp_all; omega) | (rw [Bool.eq_iff_iff]; simp_all; done) | (rw [Bool.eq_iff_iff]; simp_all; omega) | grind | (rw [Bool.eq_iff_iff]; grind)
/-- laws.FnExactIsAlternating -/
def w_FnExactIsAlternating.x (c_w_szParadigm c_w_toParadigm c_s_IsAlternating c_i_IsAlternating : Nat) : XCode :=
  (.seq
    (.reg [⟨(some 1), .boxF, [.t 0], none⟩,
      ⟨(some 2), .mv, [.k (.bool false)], none⟩] [1])
    (.seq
      (.reg [⟨(some 3), .mv, [.k (.int .i64 1048576)], none⟩] [1, 3])
      (.seq
        (.reg [⟨(some 6), (.ld (some 2)), [.t 1], none⟩,
          ⟨(some 7), .mv, [.t 3], none⟩,
          ⟨(some 8), .call, [.k (.fn c_w_szParadigm []), .t 6, .t 7], none⟩,
          ⟨(some 3), .mv, [.t 8], none⟩] [1, 3])
        (.seq
          (.seq
            (.reg [⟨(some 9), .mv, [.t 3], none⟩,
              ⟨(some 10), (.bin .lss), [.t 9, .k (.int .i64 0)], none⟩] [1, 10])
            (.cond (.t 10)
              (.seq
                (.reg [⟨(some 2), .mv, [.k (.bool true)], none⟩] [2])
                .ret)
              .skip))
          (.seq
            (.reg [⟨(some 11), (.ld (some 2)), [.t 1], none⟩,
              ⟨(some 12), .call, [.k (.fn c_w_toParadigm []), .t 11], none⟩,
              ⟨(some 13), .call, [.k (.fn c_s_IsAlternating []), .t 12], none⟩,
              ⟨(some 4), .mv, [.t 13], none⟩] [1, 4])
            (.seq
              (.reg [⟨(some 14), (.ld (some 2)), [.t 1], none⟩,
                ⟨(some 15), .call, [.k (.fn c_w_toParadigm []), .t 14], none⟩,
                ⟨(some 16), .call, [.k (.fn c_i_IsAlternating []), .t 15], none⟩,
                ⟨(some 5), .mv, [.t 16], none⟩] [4, 5])
              (.seq
                (.seq
                  (.reg [⟨(some 17), .mv, [.t 5], none⟩,
                    ⟨(some 18), .mv, [.t 4], none⟩,
                    ⟨(some 19), (.binB true), [.t 17, .t 18], none⟩] [19])
                  (.cond (.t 19)
                    (.seq
                      (.reg [⟨(some 2), .mv, [.k (.bool false)], none⟩] [2])
                      .ret)
                    .skip))
                (.seq
                  (.reg [⟨(some 2), .mv, [.k (.bool true)], none⟩] [2])
                  .ret))))))))
def w_FnExactIsAlternating.F : Cfg := ⟨fun _ => 0, fun r => match r with | 0 => [1] | 1 => [1, 3] | 2 => [1, 3] | 3 => [1, 10] | 4 => [2] | 5 => [1, 4] | 6 => [4, 5] | 7 => [19] | 8 => [2] | 9 => [2] | _ => []⟩
def w_FnExactIsAlternating.X (c_w_szParadigm c_w_toParadigm c_s_IsAlternating c_i_IsAlternating : Nat) : FX := ⟨20, [.tmp 2], w_FnExactIsAlternating.F, w_FnExactIsAlternating.x c_w_szParadigm c_w_toParadigm c_s_IsAlternating c_i_IsAlternating⟩

theorem w_FnExactIsAlternating.ok {P : Program} {k c_w_szParadigm c_w_toParadigm c_s_IsAlternating c_i_IsAlternating : Nat} (hk : Has P k (w_FnExactIsAlternating.X c_w_szParadigm c_w_toParadigm c_s_IsAlternating c_i_IsAlternating)) (h1 : C_szParadigm P c_w_szParadigm) (h2 : C_toParadigm P c_w_toParadigm) (h3 : C_IsAlternating P c_s_IsAlternating) (h4 : C_IsAlternating P c_i_IsAlternating) : C_lawPara P k := by
  intro a b ha hb n H
  refine S.ofX hk rfl fun hB fn hr => ?_
  unfold w_FnExactIsAlternating.x
  repeat' (first
    | refine S.seq ?_ | refine S.skip ?_ | refine S.block ?_ | refine S.inBlock ?_ | refine S.exit rfl ?_ | refine S.regN ?_ | refine S.reg ?_ | refine S.drw hk.mo (by kernel_rfl) ?_
    | (refine Ns.go ?_; simp (disch := first | omega | decide | rfl) only [Z, ↓reduceIte, Nat.reduceEqDiff, Nat.reduceBEq, Nat.reduceAdd, reduceCtorEq, UInt8.reduceOfNat]) | (apply Ns.sc ⟨rfl, rfl⟩ rfl; intro hg; (try simp only [HC] at hg)) | with_reducible exact rfl | exact ⟨rfl, rfl, rfl⟩ | (refine XOs.go ?_; simp (disch := first | omega | decide | rfl) only [Z, ↓reduceIte, Nat.reduceEqDiff, Nat.reduceBEq, Nat.reduceAdd, reduceCtorEq, UInt8.reduceOfNat]) | (refine XDs.go ?_; simp (disch := first | omega | decide | rfl) only [Z, ↓reduceIte, Nat.reduceEqDiff, Nat.reduceBEq, Nat.reduceAdd, reduceCtorEq, UInt8.reduceOfNat]) | (refine OK.go ?_; simp (disch := first | omega | decide | rfl) only [Z, ↓reduceIte, Nat.reduceEqDiff, Nat.reduceBEq, Nat.reduceAdd, reduceCtorEq, UInt8.reduceOfNat])
    | refine RunsF.apf (h1 _ _ _ ha hb (by omega) (by omega)) rfl ?_ | refine RunsF.apd (h1 _ _ _ ha hb (by omega) (by omega)) rfl ?_
    | refine RunsF.apf (h2 _ _) rfl ?_ | refine RunsF.apd (h2 _ _) rfl ?_
    | refine RunsF.apf (h3 _ _ (by have := szTwo_le hc; omega) (by have := szTwo_le hc; omega)) rfl ?_ | refine RunsF.apd (h3 _ _ (by have := szTwo_le hc; omega) (by have := szTwo_le hc; omega)) rfl ?_
    | refine RunsF.apf (h4 _ _ (by have := szTwo_le hc; omega) (by have := szTwo_le hc; omega)) rfl ?_ | refine RunsF.apd (h4 _ _ (by have := szTwo_le hc; omega) (by have := szTwo_le hc; omega)) rfl ?_
    | (refine S.cond rfl (fun hc => ?_) (fun hc => ?_) <;> try simp only [HC] at hc)
    | (refine Gd.on (fun hg => ?_) (fun hg => ?_) <;> simp (disch := first | omega | decide | rfl) only [hg, Z, ↓reduceIte, Nat.reduceEqDiff, Nat.reduceBEq, Nat.reduceAdd, reduceCtorEq, UInt8.reduceOfNat] <;> (try simp only [HC] at hg))
    | refine S.retH hr rfl ?_ | refine S.finH hr rfl ?_
    | (refine S.retK hr ?_; simp (disch := first | omega | decide | rfl) only [ZR, Z, ↓reduceIte, Nat.reduceEqDiff, Nat.reduceBEq, Nat.reduceAdd, reduceCtorEq, UInt8.reduceOfNat])
    | (refine Fin.pure hB (by first | exact List.Sublist.refl _ | exact List.nil_sublist _ | (rw [enc_rep]; exact List.Sublist.refl _) | ((repeat first | exact List.Sublist.refl _ | apply List.Sublist.cons); done) | (simp only [ZL]; (repeat first | exact List.Sublist.refl _ | apply List.Sublist.cons); done)) rfl ?_; try simp (disch := first | omega | decide | rfl) only [Z, ↓reduceIte, Nat.reduceEqDiff, Nat.reduceBEq, Nat.reduceAdd, reduceCtorEq, UInt8.reduceOfNat]; try simp only [LF])
    | refine Fin.accD (fun _ => rfl) hB (by first | exact List.Sublist.refl _ | exact List.nil_sublist _ | (rw [enc_rep]; exact List.Sublist.refl _) | ((repeat first | exact List.Sublist.refl _ | apply List.Sublist.cons); done) | (simp only [ZL]; (repeat first | exact List.Sublist.refl _ | apply List.Sublist.cons); done)) (by dsimp only; omega) ?_ | refine Fin.nilD hB (by first | exact List.Sublist.refl _ | exact List.nil_sublist _ | (rw [enc_rep]; exact List.Sublist.refl _) | ((repeat first | exact List.Sublist.refl _ | apply List.Sublist.cons); done) | (simp only [ZL]; (repeat first | exact List.Sublist.refl _ | apply List.Sublist.cons); done)) ?_ | refine Fin.vecD (fun _ => rfl) hB (by first | exact List.Sublist.refl _ | exact List.nil_sublist _ | (rw [enc_rep]; exact List.Sublist.refl _) | ((repeat first | exact List.Sublist.refl _ | apply List.Sublist.cons); done) | (simp only [ZL]; (repeat first | exact List.Sublist.refl _ | apply List.Sublist.cons); done)) (by dsimp only; omega) ?_ ?_ rfl | refine Fin.refD (fun _ => rfl) hB (by first | exact List.Sublist.refl _ | exact List.nil_sublist _ | (rw [enc_rep]; exact List.Sublist.refl _) | ((repeat first | exact List.Sublist.refl _ | apply List.Sublist.cons); done) | (simp only [ZL]; (repeat first | exact List.Sublist.refl _ | apply List.Sublist.cons); done)) (by dsimp only; omega) ?_ ?_ rfl | (refine Fin.treeE hB (by first | exact List.Sublist.refl _ | exact List.nil_sublist _ | (rw [enc_rep]; exact List.Sublist.refl _) | ((repeat first | exact List.Sublist.refl _ | apply List.Sublist.cons); done) | (simp only [ZL]; (repeat first | exact List.Sublist.refl _ | apply List.Sublist.cons); done)) (fun p hp => by have := hN p hp; dsimp only; omega) (by first | exact ht | exact ht.up) ?_; try simp only [AV.sl.injEq])
    | (with_reducible refine And.intro ?_ ?_; focus (first | omega | (simp only [List.length_cons, List.length_nil]; omega) | (simp [rowsOk]; done) | assumption)))
  all_goals (try clear ih); (try clear ih2); (try clear hr hk hB); (try dsimp only)
  all_goals first | rfl | omega | (simp_all; done) | (simp_all; omega) | (rw [Bool.eq_iff_iff]; simp_all; done) | (rw [Bool.eq_iff_iff]; simp_all; omega) | grind | (rw [Bool.eq_iff_iff]; grind)
end Go.Lib02
