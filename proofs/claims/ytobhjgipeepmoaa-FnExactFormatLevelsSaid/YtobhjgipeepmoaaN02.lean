/- Rankings, grammars, levels. Over any program. -/
import Derived.Test.YtobhjgipeepmoaaAbSrt
import Derived.Test.YtobhjgipeepmoaaL03
import Derived.Test.YtobhjgipeepmoaaD01
namespace Go.N02
open Go.Ab Siz Go.Lib01 Go.Lib03 Go.D01
set_option linter.unusedVariables false
set_option linter.unusedSimpArgs false
set_option maxRecDepth 2000

def C_collect (P : Program) (k : Nat) : Prop := ∀ v, C_V1 P v → ∀ l : List Int, l.length ≤ 4294967295 → RunsO P k [.fn v [.fptr [.sl (enc l)]]] (.sl (enc l))
/-- slices.Collect[int] -/
def slices_Collect_int.x (c_slices_AppendSeq_int_int : Nat) : XCode :=
  (.seq
    (.reg [⟨(some 2), .mv, [.k (.nilsl)], none⟩] [0])
    (.seq
      (.reg [⟨(some 3), .mv, [.t 0], none⟩,
        ⟨(some 4), .call, [.k (.fn c_slices_AppendSeq_int_int []), .k (.nilsl), .t 3], none⟩,
        ⟨(some 2), .mv, [.t 4], none⟩] [2])
      .ret))
def slices_Collect_int.F : Cfg := ⟨fun _ => 0, fun r => match r with | 0 => [0] | 1 => [2] | _ => []⟩
def slices_Collect_int.X (c_slices_AppendSeq_int_int : Nat) : FX := ⟨5, [.tmp 2], slices_Collect_int.F, slices_Collect_int.x c_slices_AppendSeq_int_int⟩

theorem slices_Collect_int.ok {P : Program} {k c_slices_AppendSeq_int_int : Nat} (hk : Has P k (slices_Collect_int.X c_slices_AppendSeq_int_int)) (h1 : C_app P c_slices_AppendSeq_int_int) : C_collect P k := by
  intro v hv l hl n H
  have k1 := app_runs h1 hv l hl
  refine S.ofX hk rfl fun hB fn hr => ?_
  unfold slices_Collect_int.x
  repeat' (first
    | ((with_reducible refine S.go ?_); first | refine S.seq ?_ | refine S.skip ?_ | refine S.block ?_ | refine S.inBlock ?_ | refine S.exit rfl ?_ | refine S.regN ?_ | refine S.reg ?_ | refine S.drw hk.mo (by kernel_rfl) ?_ | (refine S.cond rfl (fun hc => ?_) (fun hc => ?_) <;> try simp only [HC] at hc) | refine S.retH hr rfl ?_ | refine S.finH hr rfl ?_ | (refine S.retK hr ?_; refine TRdt ?_) | fail)
    | ((first | with_reducible refine Ns.go ?_ | with_reducible refine XOs.go ?_ | with_reducible refine XDs.go ?_ | with_reducible refine OK.go ?_); (first | refine TTdt ?_ | (apply Ns.sc ⟨rfl, rfl⟩ rfl; intro hg) | (refine OK.tr ?_; refine TTdt ?_)); (try simp only [HC] at hg))
    | with_reducible exact rfl | exact ⟨rfl, rfl, rfl⟩
    | (refine RunsO.lenO k1 (.cons (.same _) (.cons (.same _) .nil)) rfl (fun v' n' N ht hN hle => ?_); try refine TTdt ?_)
    | ((with_reducible refine Gd.go ?_); refine Gd.on (fun hg => ?_) (fun hg => ?_) <;> refine TGdt ?_ <;> (try simp only [HC] at hg))
    | ((with_reducible refine Fin.go ?_); first | (refine Fin.p ?_; first | exact FT | (try refine TTdt ?_; try simp only [LF])) | refine Fin.a0 ?_ | refine Fin.a ?_ | refine Fin.ni ?_ | refine Fin.v ?_ ?_ | refine Fin.r ?_ ?_ | exact Fin.th | (refine Fin.t ?_; try simp only [AV.sl.injEq]))
    | (refine And.go ?_; refine AndI ?_)
    | fail)
def C_sorted (P : Program) (k : Nat) : Prop := ∀ v, C_V1 P v → ∀ l : List Int, l.length ≤ 4294967295 → RunsO P k [.fn v [.fptr [.sl (enc l)]]] (.sl (enc (srt l)))
/-- slices.Sorted[int] -/
def slices_Sorted_int.x (c_slices_Collect_int c_slices_Sort_int_int : Nat) : XCode :=
  (.seq
    (.reg [⟨(some 2), .mv, [.k (.nilsl)], none⟩] [0])
    (.seq
      (.reg [⟨(some 4), .mv, [.t 0], none⟩,
        ⟨(some 5), .call, [.k (.fn c_slices_Collect_int []), .t 4], none⟩,
        ⟨(some 3), .mv, [.t 5], none⟩] [3])
      (.seq
        (.reg [⟨(some 6), .mv, [.t 3], none⟩,
          ⟨(some 7), .call, [.k (.fn c_slices_Sort_int_int []), .t 6], none⟩] [3])
        (.seq
          (.reg [⟨(some 8), .mv, [.t 3], none⟩,
            ⟨(some 2), .mv, [.t 8], none⟩] [2])
          .ret))))
def slices_Sorted_int.F : Cfg := ⟨fun d => if d = 3 then 2 else 0, fun r => match r with | 0 => [0] | 1 => [3] | 2 => [3] | 3 => [2] | _ => []⟩
def slices_Sorted_int.X (c_slices_Collect_int c_slices_Sort_int_int : Nat) : FX := ⟨9, [.tmp 2], slices_Sorted_int.F, slices_Sorted_int.x c_slices_Collect_int c_slices_Sort_int_int⟩

theorem slices_Sorted_int.ok {P : Program} {k c_slices_Collect_int c_slices_Sort_int_int : Nat} (hk : Has P k (slices_Sorted_int.X c_slices_Collect_int c_slices_Sort_int_int)) (h1 : C_collect P c_slices_Collect_int) (h2 : C_srt P c_slices_Sort_int_int) : C_sorted P k := by
  intro v hv l hl n H
  have k1 := h1 v hv l hl
  have k2 := sort_runs h2
  refine S.ofX hk rfl fun hB fn hr => ?_
  unfold slices_Sorted_int.x
  repeat' (first
    | ((with_reducible refine S.go ?_); first | refine S.seq ?_ | refine S.skip ?_ | refine S.block ?_ | refine S.inBlock ?_ | refine S.exit rfl ?_ | refine S.regN ?_ | refine S.reg ?_ | refine S.drw hk.mo (by kernel_rfl) ?_ | (refine S.cond rfl (fun hc => ?_) (fun hc => ?_) <;> try simp only [HC] at hc) | refine S.retH hr rfl ?_ | refine S.finH hr rfl ?_ | (refine S.retK hr ?_; refine TRdt ?_) | fail)
    | ((first | with_reducible refine Ns.go ?_ | with_reducible refine XOs.go ?_ | with_reducible refine XDs.go ?_ | with_reducible refine OK.go ?_); (first | refine TTdt ?_ | (apply Ns.sc ⟨rfl, rfl⟩ rfl; intro hg) | (refine OK.tr ?_; refine TTdt ?_)); (try simp only [HC] at hg))
    | with_reducible exact rfl | exact ⟨rfl, rfl, rfl⟩
    | (refine RunsO.lenO k1 (.cons (.same _) .nil) rfl (fun v' n' N ht hN hle => ?_); try refine TTdt ?_)
    | (refine C_sortT.a k2 hl ht (fun N' ht' hnm => ?_); replace hN := fst_le hnm (fun p hp => (hN p hp).1); replace ht := ht'; try refine TTdt ?_)
    | ((with_reducible refine Gd.go ?_); refine Gd.on (fun hg => ?_) (fun hg => ?_) <;> refine TGdt ?_ <;> (try simp only [HC] at hg))
    | ((with_reducible refine Fin.go ?_); first | (refine Fin.p ?_; first | exact FT | (try refine TTdt ?_; try simp only [LF])) | refine Fin.a0 ?_ | refine Fin.a ?_ | refine Fin.ni ?_ | refine Fin.v ?_ ?_ | refine Fin.r ?_ ?_ | exact Fin.th | (refine Fin.t ?_; try simp only [AV.sl.injEq]))
    | (refine And.go ?_; refine AndI ?_)
    | fail)
def C_values (P : Program) (k : Nat) : Prop := ∃ v, C_V1 P v ∧ ∀ l : List Int, RunsF P k [.sl (enc l)] (.fn v [.fptr [.sl (enc l)]])
/-- slices.Values[[]int,int] -/
def slices_Values_int_int.x (c_slices_Values_int_int_1 : Nat) : XCode :=
  (.seq
    (.reg [⟨(some 1), .boxF, [.t 0], none⟩,
      ⟨(some 2), .mv, [.k (.junk)], none⟩] [1])
    (.seq
      (.reg [⟨(some 3), (.mkfn c_slices_Values_int_int_1), [.t 1], none⟩,
        ⟨(some 2), .mv, [.t 3], none⟩] [2])
      .ret))
def slices_Values_int_int.F : Cfg := ⟨fun _ => 0, fun r => match r with | 0 => [1] | 1 => [2] | _ => []⟩
def slices_Values_int_int.X (c_slices_Values_int_int_1 : Nat) : FX := ⟨4, [.tmp 2], slices_Values_int_int.F, slices_Values_int_int.x c_slices_Values_int_int_1⟩

theorem slices_Values_int_int.ok {P : Program} {k c_slices_Values_int_int_1 : Nat} (hk : Has P k (slices_Values_int_int.X c_slices_Values_int_int_1)) (h1 : C_V1 P c_slices_Values_int_int_1) : C_values P k := by
  refine ⟨_, h1, fun l => ?_⟩
  intro n H
  refine S.ofX hk rfl fun hB fn hr => ?_
  unfold slices_Values_int_int.x
  repeat' (first
    | ((with_reducible refine S.go ?_); first | refine S.seq ?_ | refine S.skip ?_ | refine S.block ?_ | refine S.inBlock ?_ | refine S.exit rfl ?_ | refine S.regN ?_ | refine S.reg ?_ | refine S.drw hk.mo (by kernel_rfl) ?_ | (refine S.cond rfl (fun hc => ?_) (fun hc => ?_) <;> try simp only [HC] at hc) | refine S.retH hr rfl ?_ | refine S.finH hr rfl ?_ | (refine S.retK hr ?_; refine TRdt ?_) | fail)
    | ((first | with_reducible refine Ns.go ?_ | with_reducible refine XOs.go ?_ | with_reducible refine XDs.go ?_ | with_reducible refine OK.go ?_); (first | refine TTdt ?_ | (apply Ns.sc ⟨rfl, rfl⟩ rfl; intro hg) | (refine OK.tr ?_; refine TTdt ?_)); (try simp only [HC] at hg))
    | with_reducible exact rfl | exact ⟨rfl, rfl, rfl⟩
    | ((with_reducible refine Gd.go ?_); refine Gd.on (fun hg => ?_) (fun hg => ?_) <;> refine TGdt ?_ <;> (try simp only [HC] at hg))
    | ((with_reducible refine Fin.go ?_); first | (refine Fin.p ?_; first | exact FT | (try refine TTdt ?_; try simp only [LF])) | refine Fin.a0 ?_ | refine Fin.a ?_ | refine Fin.ni ?_ | refine Fin.v ?_ ?_ | refine Fin.r ?_ ?_ | exact Fin.th | (refine Fin.t ?_; try simp only [AV.sl.injEq]))
    | (refine And.go ?_; refine AndI ?_)
    | fail)
def C_isStrict (P : Program) (k : Nat) : Prop := ∀ (l : List Int) (m : Int), l.length ≤ 4294967295 → -1000 ≤ m → m ≤ 4294967296 → RunsF P k [.sl (enc l), .int .i64 m] (.bool (isStr l m))
/-- impl.isStrict -/
def i_isStrict.x (c_i_within : Nat) : XCode :=
  (.seq
    (.reg [⟨(some 4), .mv, [.k (.bool false)], none⟩] [0, 1])
    (.seq
      (.seq
        (.reg [⟨(some 7), .mv, [.t 0], none⟩,
          ⟨(some 8), .lenL, [.t 7], none⟩,
          ⟨(some 9), .mv, [.k (.int .i64 0)], none⟩] [0, 1, 7, 8, 9])
        (.block 0
          (.loop
            (.seq
              (.reg [⟨(some 10), (.bin .lss), [.t 9, .t 8], none⟩] [0, 1, 7, 8, 9, 10])
              (.seq
                (.cond (.t 10)
                  .skip
                  (.exit 0))
                (.seq
                  (.block 1
                    (.seq
                      (.reg [⟨(some 11), .mv, [.t 9], none⟩,
                        ⟨(some 12), (.idxA 1), [.t 7, .t 9], none⟩,
                        ⟨(some 13), (.ld none), [.t 12], none⟩,
                        ⟨(some 5), .mv, [.t 11], none⟩,
                        ⟨(some 6), .mv, [.t 13], none⟩] [0, 1, 5, 6, 7, 8, 9])
                      (.seq
                        (.reg (flatNs none (nl [.op (some 14) .mv [.t 6], .op (some 15) .mv [.t 1], .op (some 16) (.bin .sub) [.t 15, .k (.int .i64 1)], .op (some 17) .call [.k (.fn c_i_within []), .t 14, .k (.int .i64 0), .t 16], .op (some 18) (.un .not) [.t 17], .op (some 19) .mv [.t 18], .sc 19 false (nl [.op (some 20) .mv [.t 5], .op (some 21) (.bin .gtr) [.t 20, .k (.int .i64 0)], .op (some 22) .mv [.t 21], .sc 22 true (nl [.op (some 23) .mv [.t 6], .op (some 24) .mv [.t 0], .op (some 25) .mv [.t 5], .op (some 26) (.bin .sub) [.t 25, .k (.int .i64 1)], .op (some 27) (.idxA 1) [.t 24, .t 26], .op (some 28) (.ld none) [.t 27], .op (some 29) (.bin .leq) [.t 23, .t 28]]) (.t 29) (some 30)]) (.t 30) (some 31)])) [0, 1, 7, 8, 9, 31])
                        (.cond (.t 31)
                          (.seq
                            (.reg [⟨(some 4), .mv, [.k (.bool false)], none⟩] [4])
                            .ret)
                          .skip))))
                  (.reg [⟨(some 32), (.bin .add), [.t 9, .k (.int .i64 1)], none⟩,
                    ⟨(some 9), .mv, [.t 32], none⟩] [0, 1, 7, 8, 9])))))))
      (.seq
        (.reg [⟨(some 4), .mv, [.k (.bool true)], none⟩] [4])
        .ret)))
def i_isStrict.F : Cfg := ⟨fun _ => 0, fun r => match r with | 0 => [0, 1] | 1 => [0, 1, 7, 8, 9] | 2 => [0, 1, 7, 8, 9, 10] | 3 => [0, 1, 5, 6, 7, 8, 9] | 4 => [0, 1, 7, 8, 9, 31] | 5 => [4] | 6 => [0, 1, 7, 8, 9] | 7 => [4] | _ => []⟩
def i_isStrict.X (c_i_within : Nat) : FX := ⟨33, [.tmp 4], i_isStrict.F, i_isStrict.x c_i_within⟩

theorem i_isStrict.ok {P : Program} {k c_i_within : Nat} (hk : Has P k (i_isStrict.X c_i_within)) (h1 : C_within P c_i_within) : C_isStrict P k := by
  intro l m hl hm1 hm2 n H
  refine S.ofX hk rfl fun hB fn hr => ?_
  unfold i_isStrict.x
  repeat' (first
    | ((with_reducible refine S.go ?_); first | refine S.seq ?_ | refine S.skip ?_ | refine S.block ?_ | refine S.inBlock ?_ | refine S.exit rfl ?_ | refine S.regN ?_ | refine S.reg ?_ | refine S.drw hk.mo (by kernel_rfl) ?_ | (refine S.cond rfl (fun hc => ?_) (fun hc => ?_) <;> try simp only [HC] at hc) | refine S.retH hr rfl ?_ | refine S.finH hr rfl ?_ | (refine S.retK hr ?_; refine TRdt ?_) | fail)
    | ((first | with_reducible refine Ns.go ?_ | with_reducible refine XOs.go ?_ | with_reducible refine XDs.go ?_ | with_reducible refine OK.go ?_); (first | refine TTdt ?_ | (apply Ns.sc ⟨rfl, rfl⟩ rfl; intro hg) | (refine OK.tr ?_; refine TTdt ?_)); (try simp only [HC] at hg))
    | with_reducible exact rfl | exact ⟨rfl, rfl, rfl⟩
    | ((with_reducible refine Gd.go ?_); refine Gd.on (fun hg => ?_) (fun hg => ?_) <;> refine TGdt ?_ <;> (try simp only [HC] at hg))
    | ((with_reducible refine Fin.go ?_); first | (refine Fin.p ?_; first | exact FT | (try refine TTdt ?_; try simp only [LF])) | refine Fin.a0 ?_ | refine Fin.a ?_ | refine Fin.ni ?_ | refine Fin.v ?_ ?_ | refine Fin.r ?_ ?_ | exact Fin.th | (refine Fin.t ?_; try simp only [AV.sl.injEq]))
    | (refine And.go ?_; refine AndI ?_)
    | fail)
  refine S.loopV (σ := Nat) [0, 1, 7, 8, 9] (fun s => [(9, .int .i64 (s : Int))]) (fun s => s ≤ l.length ∧ ∀ j, j < s → strAt l m j = true) (fun s => n) (fun s => H) (fun s => l.length - s) (0) (⟨by omega, ?_⟩) ?_
  · first | rfl | omega | (simp; done) | (simp; omega) | skip
  rintro i ⟨hi1, hi2⟩ ih
  try dsimp only at hi1 hi2
  repeat' (first
    | ((with_reducible refine S.go ?_); first | refine S.seq ?_ | refine S.skip ?_ | refine S.block ?_ | refine S.inBlock ?_ | refine S.exit rfl ?_ | refine S.regN ?_ | refine S.reg ?_ | refine S.drw hk.mo (by kernel_rfl) ?_ | refine S.ag (ih (i + 1) ?_ ?_) | (refine S.cond rfl (fun hc => ?_) (fun hc => ?_) <;> try simp only [HC] at hc) | refine S.retH hr rfl ?_ | refine S.finH hr rfl ?_ | (refine S.retK hr ?_; refine TRdt ?_) | fail)
    | ((first | with_reducible refine Ns.go ?_ | with_reducible refine XOs.go ?_ | with_reducible refine XDs.go ?_ | with_reducible refine OK.go ?_); (first | refine TTdt ?_ | (apply Ns.sc ⟨rfl, rfl⟩ rfl; intro hg) | (refine OK.tr ?_; refine TTdt ?_)); (try simp only [HC] at hg))
    | with_reducible exact rfl | exact ⟨rfl, rfl, rfl⟩
    | ((with_reducible refine RunsT.go ?_); first | refine RunsF.apf (h1 _ _ _) rfl ?_ | fail)
    | ((with_reducible refine RunsD.go ?_); first | refine RunsF.apd (h1 _ _ _) rfl ?_ | fail)
    | ((with_reducible refine Gd.go ?_); refine Gd.on (fun hg => ?_) (fun hg => ?_) <;> refine TGdt ?_ <;> (try simp only [HC] at hg))
    | ((with_reducible refine Fin.go ?_); first | (refine Fin.p ?_; first | exact FT | (try refine TTdt ?_; try simp only [LF])) | refine Fin.a0 ?_ | refine Fin.a ?_ | refine Fin.ni ?_ | refine Fin.v ?_ ?_ | refine Fin.r ?_ ?_ | exact Fin.th | (refine Fin.t ?_; try simp only [AV.sl.injEq]))
    | (refine And.go ?_; refine AndI ?_)
    | fail)
  all_goals (try clear ih)
  all_goals (try dsimp only)
  all_goals (repeat' apply And.intro)
  all_goals first | omega | (simp only [ZL]; omega) | skip
  all_goals (try clear hr hk hB)
  all_goals first | (exact (allAt_false (j := i) (by omega) (by simp only [strAt]; grind)).symm) | (exact (allAt_true.mpr fun j hj => hi2 j (by omega)).symm) | (intro j hj; by_cases e : j = i; (subst e; simp only [strAt]; grind); (exact hi2 j (by omega)))
theorem has_yes {l : List Int} {i : Nat} {x : Int} (hi : i < l.length) (h : l.getD i default = x) : l.contains x = true := by
  rw [List.contains_iff_mem, ← h, getD_at hi]; exact List.getElem_mem hi
theorem has_next {l : List Int} {i : Nat} {x : Int} (hi : i < l.length) (h : ¬ l.getD i default = x) (h2 : (l.take i).contains x = false) : (l.take (i + 1)).contains x = false := by
  rw [take_succ _ _ hi]
  rw [Bool.eq_false_iff, ne_eq, List.contains_iff_mem] at h2 ⊢
  rw [List.mem_append, List.mem_singleton]
  rintro (h3 | h3)
  · exact h2 h3
  · exact h h3.symm
theorem rnk_no {r : List Int} {m : Int} {i : Nat} (hi : i < r.length) (h : rnkAt r m i = false) : isRnk r m = false := by
  unfold isRnk; rw [allAt_false hi h]; rfl
theorem rnk_yes {r : List Int} {m : Int} {i : Nat} (hi : r.length ≤ i) (h : ∀ j, j < i → rnkAt r m j = true) : isRnk r m = ((decide (1 ≤ m) && decide (m ≤ 5)) && decide ((r.length : Int) = m)) := by
  unfold isRnk; rw [allAt_true.mpr fun j hj => h j (by omega)]; rfl
def C_l12Has (P : Program) (k : Nat) : Prop := ∀ (l : List Int) (x : Int), l.length ≤ 4294967295 → RunsF P k [.sl (enc l), .int .i64 x] (.bool (l.contains x))
/-- spec.l12Has -/
def s_l12Has.x : XCode :=
  (.seq
    (.reg [⟨(some 4), .mv, [.k (.bool false)], none⟩] [0, 1])
    (.seq
      (.seq
        (.reg [⟨(some 5), .mv, [.k (.int .i64 0)], none⟩] [0, 1, 5])
        (.block 0
          (.loop
            (.seq
              (.seq
                (.reg [⟨(some 6), .mv, [.t 5], none⟩,
                  ⟨(some 7), .mv, [.t 0], none⟩,
                  ⟨(some 8), .lenL, [.t 7], none⟩,
                  ⟨(some 9), (.bin .lss), [.t 6, .t 8], none⟩] [0, 1, 5, 9])
                (.cond (.t 9)
                  .skip
                  (.exit 0)))
              (.seq
                (.block 1
                  (.seq
                    (.reg [⟨(some 12), .mv, [.t 0], none⟩,
                      ⟨(some 13), .mv, [.t 5], none⟩,
                      ⟨(some 14), (.idxA 1), [.t 12, .t 13], none⟩,
                      ⟨(some 15), (.ld none), [.t 14], none⟩,
                      ⟨(some 16), .mv, [.t 1], none⟩,
                      ⟨(some 17), (.bin .eql), [.t 15, .t 16], none⟩] [0, 1, 5, 17])
                    (.cond (.t 17)
                      (.seq
                        (.reg [⟨(some 4), .mv, [.k (.bool true)], none⟩] [4])
                        .ret)
                      .skip)))
                (.reg [⟨(some 10), .mv, [.t 5], none⟩,
                  ⟨(some 11), (.bin .add), [.t 10, .k (.int .i64 1)], none⟩,
                  ⟨(some 5), .mv, [.t 11], none⟩] [0, 1, 5]))))))
      (.seq
        (.reg [⟨(some 4), .mv, [.k (.bool false)], none⟩] [4])
        .ret)))
def s_l12Has.F : Cfg := ⟨fun _ => 0, fun r => match r with | 0 => [0, 1] | 1 => [0, 1, 5] | 2 => [0, 1, 5, 9] | 3 => [0, 1, 5] | 4 => [0, 1, 5, 17] | 5 => [4] | 6 => [4] | _ => []⟩
def s_l12Has.X : FX := ⟨18, [.tmp 4], s_l12Has.F, s_l12Has.x⟩

theorem s_l12Has.ok {P : Program} {k : Nat} (hk : Has P k (s_l12Has.X)) : C_l12Has P k := by
  intro l x hl n H
  refine S.ofX hk rfl fun hB fn hr => ?_
  unfold s_l12Has.x
  repeat' (first
    | ((with_reducible refine S.go ?_); first | refine S.seq ?_ | refine S.skip ?_ | refine S.block ?_ | refine S.inBlock ?_ | refine S.exit rfl ?_ | refine S.regN ?_ | refine S.reg ?_ | refine S.drw hk.mo (by kernel_rfl) ?_ | (refine S.cond rfl (fun hc => ?_) (fun hc => ?_) <;> try simp only [HC] at hc) | refine S.retH hr rfl ?_ | refine S.finH hr rfl ?_ | (refine S.retK hr ?_; refine TRdt ?_) | fail)
    | ((first | with_reducible refine Ns.go ?_ | with_reducible refine XOs.go ?_ | with_reducible refine XDs.go ?_ | with_reducible refine OK.go ?_); (first | refine TTdt ?_ | (apply Ns.sc ⟨rfl, rfl⟩ rfl; intro hg) | (refine OK.tr ?_; refine TTdt ?_)); (try simp only [HC] at hg))
    | with_reducible exact rfl | exact ⟨rfl, rfl, rfl⟩
    | ((with_reducible refine Gd.go ?_); refine Gd.on (fun hg => ?_) (fun hg => ?_) <;> refine TGdt ?_ <;> (try simp only [HC] at hg))
    | ((with_reducible refine Fin.go ?_); first | (refine Fin.p ?_; first | exact FT | (try refine TTdt ?_; try simp only [LF])) | refine Fin.a0 ?_ | refine Fin.a ?_ | refine Fin.ni ?_ | refine Fin.v ?_ ?_ | refine Fin.r ?_ ?_ | exact Fin.th | (refine Fin.t ?_; try simp only [AV.sl.injEq]))
    | (refine And.go ?_; refine AndI ?_)
    | fail)
  refine S.loopV (σ := Nat) [0, 1, 5] (fun s => [(5, .int .i64 (s : Int))]) (fun s => s ≤ l.length ∧ (l.take s).contains x = false) (fun s => n) (fun s => H) (fun s => l.length - s) (0) (⟨by omega, ?_⟩) ?_
  · first | rfl | omega | (simp; done) | (simp; omega) | skip
  rintro i ⟨hi1, hi2⟩ ih
  try dsimp only at hi1 hi2
  repeat' (first
    | ((with_reducible refine S.go ?_); first | refine S.seq ?_ | refine S.skip ?_ | refine S.block ?_ | refine S.inBlock ?_ | refine S.exit rfl ?_ | refine S.regN ?_ | refine S.reg ?_ | refine S.drw hk.mo (by kernel_rfl) ?_ | refine S.ag (ih (i + 1) ?_ ?_) | (refine S.cond rfl (fun hc => ?_) (fun hc => ?_) <;> try simp only [HC] at hc) | refine S.retH hr rfl ?_ | refine S.finH hr rfl ?_ | (refine S.retK hr ?_; refine TRdt ?_) | fail)
    | ((first | with_reducible refine Ns.go ?_ | with_reducible refine XOs.go ?_ | with_reducible refine XDs.go ?_ | with_reducible refine OK.go ?_); (first | refine TTdt ?_ | (apply Ns.sc ⟨rfl, rfl⟩ rfl; intro hg) | (refine OK.tr ?_; refine TTdt ?_)); (try simp only [HC] at hg))
    | with_reducible exact rfl | exact ⟨rfl, rfl, rfl⟩
    | ((with_reducible refine Gd.go ?_); refine Gd.on (fun hg => ?_) (fun hg => ?_) <;> refine TGdt ?_ <;> (try simp only [HC] at hg))
    | ((with_reducible refine Fin.go ?_); first | (refine Fin.p ?_; first | exact FT | (try refine TTdt ?_; try simp only [LF])) | refine Fin.a0 ?_ | refine Fin.a ?_ | refine Fin.ni ?_ | refine Fin.v ?_ ?_ | refine Fin.r ?_ ?_ | exact Fin.th | (refine Fin.t ?_; try simp only [AV.sl.injEq]))
    | (refine And.go ?_; refine AndI ?_)
    | fail)
  all_goals (try clear ih)
  all_goals (try dsimp only)
  all_goals (repeat' apply And.intro)
  all_goals first | omega | (simp only [ZL]; omega) | skip
  all_goals (try clear hr hk hB)
  all_goals first | exact (has_yes (by omega) hc).symm | exact has_next (by omega) hc hi2 | (rw [List.take_of_length_le (by omega)] at hi2; exact hi2.symm)
def C_IsRanking (P : Program) (k : Nat) : Prop := ∀ (r : List Int) (m : Int), r.length ≤ 4294967295 → RunsF P k [.sl (enc r), .int .i64 m] (.bool (isRnk r m))
/-- spec.IsRanking -/
def s_IsRanking.x (c_s_l12Has c_s_l1In : Nat) : XCode :=
  (.seq
    (.reg [⟨(some 4), .mv, [.k (.bool false)], none⟩] [0, 1])
    (.seq
      (.seq
        (.reg [⟨(some 5), .mv, [.k (.int .i64 0)], none⟩] [0, 1, 5])
        (.block 0
          (.loop
            (.seq
              (.seq
                (.reg [⟨(some 6), .mv, [.t 5], none⟩,
                  ⟨(some 7), .mv, [.t 0], none⟩,
                  ⟨(some 8), .lenL, [.t 7], none⟩,
                  ⟨(some 9), (.bin .lss), [.t 6, .t 8], none⟩] [0, 1, 5, 9])
                (.cond (.t 9)
                  .skip
                  (.exit 0)))
              (.seq
                (.block 1
                  (.seq
                    (.drw [(⟨(some 12), .mv, [.t 0], none⟩, []),
                      (⟨(some 13), .mv, [.t 5], none⟩, []),
                      (⟨(some 14), (.idxA 1), [.t 12, .t 13], none⟩, [0, 1]),
                      (⟨(some 15), (.ld none), [.t 14], none⟩, [2]),
                      (⟨(some 16), (.bin .lss), [.t 15, .k (.int .i64 0)], none⟩, [3]),
                      (⟨(some 17), .mv, [.t 16], none⟩, [4]),
                      (⟨(some 18), .mv, [.t 0], (some (17, false))⟩, [5]),
                      (⟨(some 19), .mv, [.t 5], (some (17, false))⟩, [5]),
                      (⟨(some 20), (.idxA 1), [.t 18, .t 19], (some (17, false))⟩, [6, 7, 5]),
                      (⟨(some 21), (.ld none), [.t 20], (some (17, false))⟩, [8, 5]),
                      (⟨(some 22), .mv, [.t 1], (some (17, false))⟩, [5]),
                      (⟨(some 23), (.bin .geq), [.t 21, .t 22], (some (17, false))⟩, [9, 10, 5]),
                      (⟨(some 24), .pick, [.t 17, .k (.bool true), .t 23], none⟩, [5, 11]),
                      (⟨(some 25), .mv, [.t 24], none⟩, [12, 5]),
                      (⟨(some 26), .mv, [.t 0], (some (25, false))⟩, [13]),
                      (⟨(some 27), .mv, [.t 5], (some (25, false))⟩, [13]),
                      (⟨(some 28), (.slL 1 false true), [.t 26, .t 27], (some (25, false))⟩, [14, 15, 13]),
                      (⟨(some 29), .mv, [.t 0], (some (25, false))⟩, [13]),
                      (⟨(some 30), .mv, [.t 5], (some (25, false))⟩, [13]),
                      (⟨(some 31), (.idxA 1), [.t 29, .t 30], (some (25, false))⟩, [17, 18, 13]),
                      (⟨(some 32), (.ld none), [.t 31], (some (25, false))⟩, [19, 13]),
                      (⟨(some 33), .call, [.k (.fn c_s_l12Has []), .t 28, .t 32], (some (25, false))⟩, [16, 20, 13, 13]),
                      (⟨(some 34), .pick, [.t 25, .k (.bool true), .t 33], none⟩, [13, 21])] [0, 1, 5, 34] [0, 0, 0, 0, 0, 0, 0, 0, 0, 0, 0, 0, 0, 0, 0, 0, 0, 0, 0, 0, 0, 0, 0])
                    (.cond (.t 34)
                      (.seq
                        (.reg [⟨(some 4), .mv, [.k (.bool false)], none⟩] [4])
                        .ret)
                      .skip)))
                (.reg [⟨(some 10), .mv, [.t 5], none⟩,
                  ⟨(some 11), (.bin .add), [.t 10, .k (.int .i64 1)], none⟩,
                  ⟨(some 5), .mv, [.t 11], none⟩] [0, 1, 5]))))))
      (.seq
        (.reg (flatNs none (nl [.op (some 35) .mv [.t 1], .op (some 36) .call [.k (.fn c_s_l1In []), .t 35, .k (.int .i64 1), .k (.int .i64 5)], .op (some 37) .mv [.t 36], .sc 37 true (nl [.op (some 38) .mv [.t 0], .op (some 39) .lenL [.t 38], .op (some 40) .mv [.t 1], .op (some 41) (.bin .eql) [.t 39, .t 40]]) (.t 41) (some 42), .op (some 4) .mv [.t 42]])) [4])
        .ret)))
def s_IsRanking.F : Cfg := ⟨fun _ => 0, fun r => match r with | 0 => [0, 1] | 1 => [0, 1, 5] | 2 => [0, 1, 5, 9] | 3 => [0, 1, 5] | 4 => [0, 1, 5, 34] | 5 => [4] | 6 => [4] | 1000004 => [0, 0, 0, 0, 0, 0, 0, 0, 0, 0, 0, 0, 0, 0, 0, 0, 0, 0, 0, 0, 0, 0, 0] | _ => []⟩
def s_IsRanking.X (c_s_l12Has c_s_l1In : Nat) : FX := ⟨43, [.tmp 4], s_IsRanking.F, s_IsRanking.x c_s_l12Has c_s_l1In⟩

theorem s_IsRanking.ok {P : Program} {k c_s_l12Has c_s_l1In : Nat} (hk : Has P k (s_IsRanking.X c_s_l12Has c_s_l1In)) (h1 : C_within P c_s_l1In) (h2 : C_l12Has P c_s_l12Has) : C_IsRanking P k := by
  intro r m hl n H
  refine S.ofX hk rfl fun hB fn hr => ?_
  unfold s_IsRanking.x
  repeat' (first
    | ((with_reducible refine S.go ?_); first | refine S.seq ?_ | refine S.skip ?_ | refine S.block ?_ | refine S.inBlock ?_ | refine S.exit rfl ?_ | refine S.regN ?_ | refine S.reg ?_ | refine S.drw hk.mo (by kernel_rfl) ?_ | (refine S.cond rfl (fun hc => ?_) (fun hc => ?_) <;> try simp only [HC] at hc) | refine S.retH hr rfl ?_ | refine S.finH hr rfl ?_ | (refine S.retK hr ?_; refine TRdt ?_) | fail)
    | ((first | with_reducible refine Ns.go ?_ | with_reducible refine XOs.go ?_ | with_reducible refine XDs.go ?_ | with_reducible refine OK.go ?_); (first | refine TTdt ?_ | (apply Ns.sc ⟨rfl, rfl⟩ rfl; intro hg) | (refine OK.tr ?_; refine TTdt ?_)); (try simp only [HC] at hg))
    | with_reducible exact rfl | exact ⟨rfl, rfl, rfl⟩
    | ((with_reducible refine Gd.go ?_); refine Gd.on (fun hg => ?_) (fun hg => ?_) <;> refine TGdt ?_ <;> (try simp only [HC] at hg))
    | ((with_reducible refine Fin.go ?_); first | (refine Fin.p ?_; first | exact FT | (try refine TTdt ?_; try simp only [LF])) | refine Fin.a0 ?_ | refine Fin.a ?_ | refine Fin.ni ?_ | refine Fin.v ?_ ?_ | refine Fin.r ?_ ?_ | exact Fin.th | (refine Fin.t ?_; try simp only [AV.sl.injEq]))
    | (refine And.go ?_; refine AndI ?_)
    | fail)
  refine S.loopV (σ := Nat) [0, 1, 5] (fun s => [(5, .int .i64 (s : Int))]) (fun s => s ≤ r.length ∧ ∀ j, j < s → rnkAt r m j = true) (fun s => n) (fun s => H) (fun s => r.length - s) (0) (⟨by omega, ?_⟩) ?_
  · first | rfl | omega | (simp; done) | (simp; omega) | skip
  rintro i ⟨hi1, hi2⟩ ih
  try dsimp only at hi1 hi2
  repeat' (first
    | ((with_reducible refine S.go ?_); first | refine S.seq ?_ | refine S.skip ?_ | refine S.block ?_ | refine S.inBlock ?_ | refine S.exit rfl ?_ | refine S.regN ?_ | refine S.reg ?_ | refine S.drw hk.mo (by kernel_rfl) ?_ | refine S.ag (ih (i + 1) ?_ ?_) | (refine S.cond rfl (fun hc => ?_) (fun hc => ?_) <;> try simp only [HC] at hc) | refine S.retH hr rfl ?_ | refine S.finH hr rfl ?_ | (refine S.retK hr ?_; refine TRdt ?_) | fail)
    | ((first | with_reducible refine Ns.go ?_ | with_reducible refine XOs.go ?_ | with_reducible refine XDs.go ?_ | with_reducible refine OK.go ?_); (first | refine TTdt ?_ | (apply Ns.sc ⟨rfl, rfl⟩ rfl; intro hg) | (refine OK.tr ?_; refine TTdt ?_)); (try simp only [HC] at hg))
    | with_reducible exact rfl | exact ⟨rfl, rfl, rfl⟩
    | ((with_reducible refine RunsT.go ?_); first | refine RunsF.apf (h1 _ _ _) rfl ?_ | refine RunsF.apf (h2 _ _ (by simp only [List.length_take]; omega)) rfl ?_ | fail)
    | ((with_reducible refine RunsD.go ?_); first | refine RunsF.apd (h1 _ _ _) rfl ?_ | refine RunsF.apd (h2 _ _ (by simp only [List.length_take]; omega)) rfl ?_ | fail)
    | ((with_reducible refine Gd.go ?_); refine Gd.on (fun hg => ?_) (fun hg => ?_) <;> refine TGdt ?_ <;> (try simp only [HC] at hg))
    | ((with_reducible refine Fin.go ?_); first | (refine Fin.p ?_; first | exact FT | (try refine TTdt ?_; try simp only [LF])) | refine Fin.a0 ?_ | refine Fin.a ?_ | refine Fin.ni ?_ | refine Fin.v ?_ ?_ | refine Fin.r ?_ ?_ | exact Fin.th | (refine Fin.t ?_; try simp only [AV.sl.injEq]))
    | (refine And.go ?_; refine AndI ?_)
    | fail)
  all_goals (try clear ih)
  all_goals (try dsimp only)
  all_goals (repeat' apply And.intro)
  all_goals first | omega | (simp only [ZL]; omega) | skip
  all_goals (try clear hr hk hB)
  all_goals first | (exact (rnk_no (i := i) (by omega) (by simp only [rnkAt]; grind)).symm) | (exfalso; cases hc; done) | (intro j hj; by_cases e : j = i; (subst e; simp only [rnkAt]; grind); (exact hi2 j (by omega))) | (rw [rnk_yes (by omega) hi2]; rfl)
/-- impl.IsRanking -/
def i_IsRanking.x (c_i_within c_slices_Values_int_int c_slices_Sorted_int c_i_isStrict : Nat) : XCode :=
  (.seq
    (.reg [⟨(some 4), .mv, [.k (.bool false)], none⟩] [0, 1])
    (.seq
      (.reg (flatNs none (nl [.op (some 5) .mv [.t 1], .op (some 6) .call [.k (.fn c_i_within []), .t 5, .k (.int .i64 1), .k (.int .i64 5)], .op (some 7) .mv [.t 6], .sc 7 true (nl [.op (some 8) .mv [.t 0], .op (some 9) .lenL [.t 8], .op (some 10) .mv [.t 1], .op (some 11) (.bin .eql) [.t 9, .t 10]]) (.t 11) (some 12), .op (some 13) .mv [.t 12], .sc 13 true (nl [.op (some 14) .mv [.t 0], .op (some 15) .call [.k (.fn c_slices_Values_int_int []), .t 14], .op (some 16) .call [.k (.fn c_slices_Sorted_int []), .t 15], .op (some 17) .mv [.t 1], .op (some 18) .call [.k (.fn c_i_isStrict []), .t 16, .t 17]]) (.t 18) (some 19), .op (some 4) .mv [.t 19]])) [4])
      .ret))
def i_IsRanking.F : Cfg := ⟨fun _ => 0, fun r => match r with | 0 => [0, 1] | 1 => [4] | _ => []⟩
def i_IsRanking.X (c_i_within c_slices_Values_int_int c_slices_Sorted_int c_i_isStrict : Nat) : FX := ⟨20, [.tmp 4], i_IsRanking.F, i_IsRanking.x c_i_within c_slices_Values_int_int c_slices_Sorted_int c_i_isStrict⟩

theorem i_IsRanking.ok {P : Program} {k c_i_within c_slices_Values_int_int c_slices_Sorted_int c_i_isStrict : Nat} (hk : Has P k (i_IsRanking.X c_i_within c_slices_Values_int_int c_slices_Sorted_int c_i_isStrict)) (h1 : C_within P c_i_within) (h2 : C_values P c_slices_Values_int_int) (h3 : C_sorted P c_slices_Sorted_int) (h4 : C_isStrict P c_i_isStrict) : C_IsRanking P k := by
  intro r m hl n H
  obtain ⟨v, hv, h2⟩ := h2
  have k3 := (h3 v hv r hl).f
  have hsl := srt_len r
  refine S.ofX hk rfl fun hB fn hr => ?_
  unfold i_IsRanking.x
  repeat' (first
    | ((with_reducible refine S.go ?_); first | refine S.seq ?_ | refine S.skip ?_ | refine S.block ?_ | refine S.inBlock ?_ | refine S.exit rfl ?_ | refine S.regN ?_ | refine S.reg ?_ | refine S.drw hk.mo (by kernel_rfl) ?_ | (refine S.cond rfl (fun hc => ?_) (fun hc => ?_) <;> try simp only [HC] at hc) | refine S.retH hr rfl ?_ | refine S.finH hr rfl ?_ | (refine S.retK hr ?_; refine TRdt ?_) | fail)
    | ((first | with_reducible refine Ns.go ?_ | with_reducible refine XOs.go ?_ | with_reducible refine XDs.go ?_ | with_reducible refine OK.go ?_); (first | refine TTdt ?_ | (apply Ns.sc ⟨rfl, rfl⟩ rfl; intro hg) | (refine OK.tr ?_; refine TTdt ?_)); (try simp only [HC] at hg))
    | with_reducible exact rfl | exact ⟨rfl, rfl, rfl⟩
    | ((with_reducible refine RunsT.go ?_); first | refine RunsF.apf (h1 _ _ _) rfl ?_ | refine RunsF.apf (h2 _) rfl ?_ | refine RunsF.apf (k3) rfl ?_ | refine RunsF.apf (h4 _ _ (by omega) (by omega) (by omega)) rfl ?_ | fail)
    | ((with_reducible refine RunsD.go ?_); first | refine RunsF.apd (h1 _ _ _) rfl ?_ | refine RunsF.apd (h2 _) rfl ?_ | refine RunsF.apd (k3) rfl ?_ | refine RunsF.apd (h4 _ _ (by omega) (by omega) (by omega)) rfl ?_ | fail)
    | ((with_reducible refine Gd.go ?_); refine Gd.on (fun hg => ?_) (fun hg => ?_) <;> refine TGdt ?_ <;> (try simp only [HC] at hg))
    | ((with_reducible refine Fin.go ?_); first | (refine Fin.p ?_; first | exact FT | (try refine TTdt ?_; try simp only [LF])) | refine Fin.a0 ?_ | refine Fin.a ?_ | refine Fin.ni ?_ | refine Fin.v ?_ ?_ | refine Fin.r ?_ ?_ | exact Fin.th | (refine Fin.t ?_; try simp only [AV.sl.injEq]))
    | (refine And.go ?_; refine AndI ?_)
    | fail)
  all_goals (try clear hr hk hB)
  all_goals (rw [srt_rnk, Bool.and_comm]; rfl)
/-- Names and a ranking of them. -/
def isGram (c : List (List UInt8)) (r : List Int) : Bool := areCons c && isRnk r c.length
def C_isGrammar (P : Program) (k : Nat) : Prop := ∀ (c : List (List UInt8)) (r : List Int), c.length ≤ 4294967295 → r.length ≤ 4294967295 → RunsF P k [.sl (enc c), .sl (enc r)] (.bool (isGram c r))
def C_IsLevel (P : Program) (k : Nat) : Prop := ∀ x : Lvl, ok mxs x → RunsF P k [.agg (Dat.row x)] (.bool (isGram x.1 x.2))
def C_law1 (α : Type) [Dat α] [Siz α] (P : Program) (k : Nat) : Prop := ∀ (x : α), ok mxi x → RunsF P k [.agg (Dat.row x)] (.bool true)
end Go.N02
