/- Lists of strings: what is in them, their size, copies of them, their equality; lists of constraints. Over any program. -/
import Derived.Test.YtobhjgipeepmoaaL02
namespace Go.Lib03
open Go.Ab Go.Lib01
set_option linter.unusedVariables false
set_option linter.unusedSimpArgs false
set_option maxRecDepth 2000

/-- The place of the first one, or -1. -/
def idxL {α : Type} [BEq α] : List α → α → Int
  | [], _ => -1
  | x :: xs, s => if s == x then 0 else if idxL xs s < 0 then -1 else idxL xs s + 1
theorem idxL_has (l : List (List UInt8)) (s : List UInt8) : decide (0 ≤ idxL l s) = l.contains s := by
  induction l with
  | nil => rfl
  | cons x xs ih =>
    rw [List.contains_cons, ← ih]
    rw [idxL]
    by_cases h : s = x
    · simp [h]
    · have hb : (s == x) = false := by simpa using h
      rw [hb]
      simp only [Bool.false_or, Bool.false_eq_true, if_false]
      by_cases h2 : idxL xs s < 0
      · rw [if_pos h2, decide_eq_false (by omega), decide_eq_false (by omega)]
      · rw [if_neg h2, decide_eq_true (by omega), decide_eq_true (by omega)]
theorem idxL_ge {α : Type} [BEq α] (l : List α) (s : α) : -1 ≤ idxL l s ∧ idxL l s < l.length := by
  induction l with
  | nil => simp [idxL]
  | cons x xs ih =>
    unfold idxL
    simp only [List.length_cons]
    split
    · omega
    · split <;> omega

def C_has (P : Program) (k : Nat) : Prop := ∀ (l : List (List UInt8)) (s : List UInt8), l.length ≤ 4294967296 → RunsF P k [.sl (strs l), .str s] (.bool (l.contains s))
/-- spec.l3Has -/
def s_l3Has.x : XCode :=
  (.seq
    (.reg [⟨(some 4), .mv, [.k (.bool false)], none⟩] [0, 1])
    (.seq
      (.seq
        (.reg [⟨(some 5), .mv, [.k (.int .i64 0)], none⟩] [0, 1, 5])
        (.block 0
          (.loop
            (.seq
              (.seq
                (.reg [⟨(some 6), .mv, [.t 5], none⟩,
                  ⟨(some 7), .mv, [.t 0], none⟩,
                  ⟨(some 8), .lenL, [.t 7], none⟩,
                  ⟨(some 9), (.bin .lss), [.t 6, .t 8], none⟩] [0, 1, 5, 9])
                (.cond (.t 9)
                  .skip
                  (.exit 0)))
              (.seq
                (.block 1
                  (.seq
                    (.reg [⟨(some 12), .mv, [.t 0], none⟩,
                      ⟨(some 13), .mv, [.t 5], none⟩,
                      ⟨(some 14), (.idxA 1), [.t 12, .t 13], none⟩,
                      ⟨(some 15), (.ld none), [.t 14], none⟩,
                      ⟨(some 16), .mv, [.t 1], none⟩,
                      ⟨(some 17), (.bin .eql), [.t 15, .t 16], none⟩] [0, 1, 5, 17])
                    (.cond (.t 17)
                      (.seq
                        (.reg [⟨(some 4), .mv, [.k (.bool true)], none⟩] [4])
                        .ret)
                      .skip)))
                (.reg [⟨(some 10), .mv, [.t 5], none⟩,
                  ⟨(some 11), (.bin .add), [.t 10, .k (.int .i64 1)], none⟩,
                  ⟨(some 5), .mv, [.t 11], none⟩] [0, 1, 5]))))))
      (.seq
        (.reg [⟨(some 4), .mv, [.k (.bool false)], none⟩] [4])
        .ret)))
def s_l3Has.F : Cfg := ⟨fun _ => 0, fun r => match r with | 0 => [0, 1] | 1 => [0, 1, 5] | 2 => [0, 1, 5, 9] | 3 => [0, 1, 5] | 4 => [0, 1, 5, 17] | 5 => [4] | 6 => [4] | _ => []⟩
def s_l3Has.X : FX := ⟨18, [.tmp 4], s_l3Has.F, s_l3Has.x⟩

theorem s_l3Has.ok {P : Program} {k : Nat} (hk : Has P k (s_l3Has.X)) : C_has P k := by
  intro l s hl n H
  refine S.ofX hk rfl fun hB fn hr => ?_
  unfold s_l3Has.x
  repeat' (first
    | ((with_reducible refine S.go ?_); first | refine S.seq ?_ | refine S.skip ?_ | refine S.block ?_ | refine S.inBlock ?_ | refine S.exit rfl ?_ | refine S.regN ?_ | refine S.reg ?_ | refine S.drw hk.mo (by kernel_rfl) ?_ | (refine S.cond rfl (fun hc => ?_) (fun hc => ?_) <;> try simp only [HC] at hc) | refine S.retH hr rfl ?_ | refine S.finH hr rfl ?_ | (refine S.retK hr ?_; refine TR ?_) | fail)
    | ((first | with_reducible refine Ns.go ?_ | with_reducible refine XOs.go ?_ | with_reducible refine XDs.go ?_ | with_reducible refine OK.go ?_); (first | refine TT ?_ | (apply Ns.sc ⟨rfl, rfl⟩ rfl; intro hg) | (refine OK.tr ?_; refine TT ?_)); (try simp only [HC] at hg))
    | with_reducible exact rfl | exact ⟨rfl, rfl, rfl⟩
    | ((with_reducible refine Gd.go ?_); refine Gd.on (fun hg => ?_) (fun hg => ?_) <;> refine TG ?_ <;> (try simp only [HC] at hg))
    | ((with_reducible refine Fin.go ?_); first | (refine Fin.p ?_; first | exact FT | (try refine TT ?_; try simp only [LF])) | refine Fin.a0 ?_ | refine Fin.a ?_ | refine Fin.ni ?_ | refine Fin.v ?_ ?_ | refine Fin.r ?_ ?_ | exact Fin.th | (refine Fin.t ?_; try simp only [AV.sl.injEq]))
    | (refine And.go ?_; refine AndI ?_)
    | fail)
  refine S.loop (σ := Nat) (fun i => i ≤ l.length ∧ (l.drop i).contains s = l.contains s) (fun i => [(0, .sl (strs l)), (1, .str s), (5, .int .i64 (i : Int))]) (fun _ => n) (fun _ => H) (fun i => l.length - i) 0 rfl ⟨by omega, rfl⟩ (Nat.le_refl _) (List.Sublist.refl _) ?_
  intro i hi ih
  obtain ⟨hi1, hi2⟩ := hi
  repeat' (first
    | ((with_reducible refine S.go ?_); first | refine S.seq ?_ | refine S.skip ?_ | refine S.block ?_ | refine S.inBlock ?_ | refine S.exit rfl ?_ | refine S.regN ?_ | refine S.reg ?_ | refine S.drw hk.mo (by kernel_rfl) ?_ | (refine S.cond rfl (fun hc => ?_) (fun hc => ?_) <;> try simp only [HC] at hc) | refine S.retH hr rfl ?_ | refine S.finH hr rfl ?_ | (refine S.retK hr ?_; refine TR ?_) | fail)
    | ((first | with_reducible refine Ns.go ?_ | with_reducible refine XOs.go ?_ | with_reducible refine XDs.go ?_ | with_reducible refine OK.go ?_); (first | refine TT ?_ | (apply Ns.sc ⟨rfl, rfl⟩ rfl; intro hg) | (refine OK.tr ?_; refine TT ?_)); (try simp only [HC] at hg))
    | with_reducible exact rfl | exact ⟨rfl, rfl, rfl⟩
    | (refine S.again (ih (i + 1) ?_ ?_) rfl (Nat.le_refl _) (List.Sublist.refl _))
    | ((with_reducible refine Gd.go ?_); refine Gd.on (fun hg => ?_) (fun hg => ?_) <;> refine TG ?_ <;> (try simp only [HC] at hg))
    | ((with_reducible refine Fin.go ?_); first | (refine Fin.p ?_; first | exact FT | (try refine TT ?_; try simp only [LF])) | refine Fin.a0 ?_ | refine Fin.a ?_ | refine Fin.ni ?_ | refine Fin.v ?_ ?_ | refine Fin.r ?_ ?_ | exact Fin.th | (refine Fin.t ?_; try simp only [AV.sl.injEq]))
    | (refine And.go ?_; refine AndI ?_)
    | fail)
  all_goals first | (have he : i = l.length := (by omega); subst he) | skip
  all_goals first | (have hs := getD_drop l i default (by omega)) | (have hs := getD_drop l i default (by simp only [List.length_cons, List.length_nil]; omega)) | skip
  all_goals (try clear ih); (try clear ih2); (try clear hr hk hB); (try dsimp only)
  all_goals first | rfl | omega | (simp_all; done) | (simp_all; omega) | (rw [Bool.eq_iff_iff]; simp_all; done) | (rw [Bool.eq_iff_iff]; simp_all; omega) | grind | (rw [Bool.eq_iff_iff]; grind)
def C_indexStr (P : Program) (k : Nat) : Prop := ∀ (l : List (List UInt8)) (s : List UInt8), l.length ≤ 4294967296 → RunsF P k [.sl (strs l), .str s] (.int .i64 (idxL l s))
/-- slices.Index[[]string,string] -/
def slices_Index_string_string.x : XCode :=
  (.seq
    (.reg [⟨(some 4), .mv, [.k (.int .i64 0)], none⟩] [0, 1])
    (.seq
      (.seq
        (.reg [⟨(some 6), .mv, [.t 0], none⟩,
          ⟨(some 7), .lenL, [.t 6], none⟩,
          ⟨(some 8), .mv, [.k (.int .i64 0)], none⟩] [0, 1, 7, 8])
        (.block 0
          (.loop
            (.seq
              (.reg [⟨(some 9), (.bin .lss), [.t 8, .t 7], none⟩] [0, 1, 7, 8, 9])
              (.seq
                (.cond (.t 9)
                  .skip
                  (.exit 0))
                (.seq
                  (.block 1
                    (.seq
                      (.reg [⟨(some 10), .mv, [.t 8], none⟩,
                        ⟨(some 5), .mv, [.t 10], none⟩] [0, 1, 5, 7, 8])
                      (.seq
                        (.reg [⟨(some 11), .mv, [.t 1], none⟩,
                          ⟨(some 12), .mv, [.t 0], none⟩,
                          ⟨(some 13), .mv, [.t 5], none⟩,
                          ⟨(some 14), (.idxA 1), [.t 12, .t 13], none⟩,
                          ⟨(some 15), (.ld none), [.t 14], none⟩,
                          ⟨(some 16), (.bin .eql), [.t 11, .t 15], none⟩] [0, 1, 5, 7, 8, 16])
                        (.cond (.t 16)
                          (.seq
                            (.reg [⟨(some 17), .mv, [.t 5], none⟩,
                              ⟨(some 4), .mv, [.t 17], none⟩] [4])
                            .ret)
                          .skip))))
                  (.reg [⟨(some 18), (.bin .add), [.t 8, .k (.int .i64 1)], none⟩,
                    ⟨(some 8), .mv, [.t 18], none⟩] [0, 1, 7, 8])))))))
      (.seq
        (.reg [⟨(some 4), .mv, [.k (.int .i64 (-1))], none⟩] [4])
        .ret)))
def slices_Index_string_string.F : Cfg := ⟨fun _ => 0, fun r => match r with | 0 => [0, 1] | 1 => [0, 1, 7, 8] | 2 => [0, 1, 7, 8, 9] | 3 => [0, 1, 5, 7, 8] | 4 => [0, 1, 5, 7, 8, 16] | 5 => [4] | 6 => [0, 1, 7, 8] | 7 => [4] | _ => []⟩
def slices_Index_string_string.X : FX := ⟨19, [.tmp 4], slices_Index_string_string.F, slices_Index_string_string.x⟩

theorem slices_Index_string_string.ok {P : Program} {k : Nat} (hk : Has P k (slices_Index_string_string.X)) : C_indexStr P k := by
  intro l s hl n H
  refine S.ofX hk rfl fun hB fn hr => ?_
  unfold slices_Index_string_string.x
  repeat' (first
    | ((with_reducible refine S.go ?_); first | refine S.seq ?_ | refine S.skip ?_ | refine S.block ?_ | refine S.inBlock ?_ | refine S.exit rfl ?_ | refine S.regN ?_ | refine S.reg ?_ | refine S.drw hk.mo (by kernel_rfl) ?_ | (refine S.cond rfl (fun hc => ?_) (fun hc => ?_) <;> try simp only [HC] at hc) | refine S.retH hr rfl ?_ | refine S.finH hr rfl ?_ | (refine S.retK hr ?_; refine TR ?_) | fail)
    | ((first | with_reducible refine Ns.go ?_ | with_reducible refine XOs.go ?_ | with_reducible refine XDs.go ?_ | with_reducible refine OK.go ?_); (first | refine TT ?_ | (apply Ns.sc ⟨rfl, rfl⟩ rfl; intro hg) | (refine OK.tr ?_; refine TT ?_)); (try simp only [HC] at hg))
    | with_reducible exact rfl | exact ⟨rfl, rfl, rfl⟩
    | ((with_reducible refine Gd.go ?_); refine Gd.on (fun hg => ?_) (fun hg => ?_) <;> refine TG ?_ <;> (try simp only [HC] at hg))
    | ((with_reducible refine Fin.go ?_); first | (refine Fin.p ?_; first | exact FT | (try refine TT ?_; try simp only [LF])) | refine Fin.a0 ?_ | refine Fin.a ?_ | refine Fin.ni ?_ | refine Fin.v ?_ ?_ | refine Fin.r ?_ ?_ | exact Fin.th | (refine Fin.t ?_; try simp only [AV.sl.injEq]))
    | (refine And.go ?_; refine AndI ?_)
    | fail)
  refine S.loop (σ := Nat) (fun i => i ≤ l.length ∧ idxL l s = if idxL (l.drop i) s < 0 then -1 else idxL (l.drop i) s + i) (fun i => [(0, .sl (strs l)), (1, .str s), (7, .int .i64 (l.length : Int)), (8, .int .i64 (i : Int))]) (fun _ => n) (fun _ => H) (fun i => l.length - i) 0 rfl ?_ (Nat.le_refl _) (List.Sublist.refl _) ?_
  · refine ⟨by omega, ?_⟩
    have := idxL_ge l s
    simp only [List.drop_zero]
    split <;> omega
  intro i hi ih
  obtain ⟨hi1, hi2⟩ := hi
  repeat' (first
    | ((with_reducible refine S.go ?_); first | refine S.seq ?_ | refine S.skip ?_ | refine S.block ?_ | refine S.inBlock ?_ | refine S.exit rfl ?_ | refine S.regN ?_ | refine S.reg ?_ | refine S.drw hk.mo (by kernel_rfl) ?_ | (refine S.cond rfl (fun hc => ?_) (fun hc => ?_) <;> try simp only [HC] at hc) | refine S.retH hr rfl ?_ | refine S.finH hr rfl ?_ | (refine S.retK hr ?_; refine TR ?_) | fail)
    | ((first | with_reducible refine Ns.go ?_ | with_reducible refine XOs.go ?_ | with_reducible refine XDs.go ?_ | with_reducible refine OK.go ?_); (first | refine TT ?_ | (apply Ns.sc ⟨rfl, rfl⟩ rfl; intro hg) | (refine OK.tr ?_; refine TT ?_)); (try simp only [HC] at hg))
    | with_reducible exact rfl | exact ⟨rfl, rfl, rfl⟩
    | (refine S.again (ih (i + 1) ?_ ?_) rfl (Nat.le_refl _) (List.Sublist.refl _))
    | ((with_reducible refine Gd.go ?_); refine Gd.on (fun hg => ?_) (fun hg => ?_) <;> refine TG ?_ <;> (try simp only [HC] at hg))
    | ((with_reducible refine Fin.go ?_); first | (refine Fin.p ?_; first | exact FT | (try refine TT ?_; try simp only [LF])) | refine Fin.a0 ?_ | refine Fin.a ?_ | refine Fin.ni ?_ | refine Fin.v ?_ ?_ | refine Fin.r ?_ ?_ | exact Fin.th | (refine Fin.t ?_; try simp only [AV.sl.injEq]))
    | (refine And.go ?_; refine AndI ?_)
    | fail)
  all_goals first | (have he : i = l.length := (by omega); subst he) | skip
  all_goals first | (have hs := getD_drop l i default (by omega)) | (have hs := getD_drop l i default (by simp only [List.length_cons, List.length_nil]; omega)) | skip
  all_goals try (have hx := idxL_ge (l.drop (i + 1)) s)
  all_goals (try rw [hs] at hi2); (try simp only [idxL, List.drop_length] at hi2)
  all_goals (try clear ih); (try clear ih2); (try clear hr hk hB); (try dsimp only)
  all_goals first | rfl | omega | (simp_all; done) | (simp_all; omega) | (rw [Bool.eq_iff_iff]; simp_all; done) | (rw [Bool.eq_iff_iff]; simp_all; omega) | grind | (rw [Bool.eq_iff_iff]; grind)
/-- slices.Contains[[]string,string] -/
def slices_Contains_string_string.x (c_slices_Index_string_string : Nat) : XCode :=
  (.seq
    (.reg [⟨(some 4), .mv, [.k (.bool false)], none⟩] [0, 1])
    (.seq
      (.reg [⟨(some 5), .mv, [.t 0], none⟩,
        ⟨(some 6), .mv, [.t 1], none⟩,
        ⟨(some 7), .call, [.k (.fn c_slices_Index_string_string []), .t 5, .t 6], none⟩,
        ⟨(some 8), (.bin .geq), [.t 7, .k (.int .i64 0)], none⟩,
        ⟨(some 4), .mv, [.t 8], none⟩] [4])
      .ret))
def slices_Contains_string_string.F : Cfg := ⟨fun _ => 0, fun r => match r with | 0 => [0, 1] | 1 => [4] | _ => []⟩
def slices_Contains_string_string.X (c_slices_Index_string_string : Nat) : FX := ⟨9, [.tmp 4], slices_Contains_string_string.F, slices_Contains_string_string.x c_slices_Index_string_string⟩

theorem slices_Contains_string_string.ok {P : Program} {k c_slices_Index_string_string : Nat} (hk : Has P k (slices_Contains_string_string.X c_slices_Index_string_string)) (h1 : C_indexStr P c_slices_Index_string_string) : C_has P k := by
  intro l s hl n H
  refine S.ofX hk rfl fun hB fn hr => ?_
  unfold slices_Contains_string_string.x
  repeat' (first
    | ((with_reducible refine S.go ?_); first | refine S.seq ?_ | refine S.skip ?_ | refine S.block ?_ | refine S.inBlock ?_ | refine S.exit rfl ?_ | refine S.regN ?_ | refine S.reg ?_ | refine S.drw hk.mo (by kernel_rfl) ?_ | (refine S.cond rfl (fun hc => ?_) (fun hc => ?_) <;> try simp only [HC] at hc) | refine S.retH hr rfl ?_ | refine S.finH hr rfl ?_ | (refine S.retK hr ?_; refine TR ?_) | fail)
    | ((first | with_reducible refine Ns.go ?_ | with_reducible refine XOs.go ?_ | with_reducible refine XDs.go ?_ | with_reducible refine OK.go ?_); (first | refine TT ?_ | (apply Ns.sc ⟨rfl, rfl⟩ rfl; intro hg) | (refine OK.tr ?_; refine TT ?_)); (try simp only [HC] at hg))
    | with_reducible exact rfl | exact ⟨rfl, rfl, rfl⟩
    | ((with_reducible refine RunsT.go ?_); first | refine RunsF.apf (h1 _ _ hl) rfl ?_ | fail)
    | ((with_reducible refine RunsD.go ?_); first | refine RunsF.apd (h1 _ _ hl) rfl ?_ | fail)
    | ((with_reducible refine Gd.go ?_); refine Gd.on (fun hg => ?_) (fun hg => ?_) <;> refine TG ?_ <;> (try simp only [HC] at hg))
    | ((with_reducible refine Fin.go ?_); first | (refine Fin.p ?_; first | exact FT | (try refine TT ?_; try simp only [LF])) | refine Fin.a0 ?_ | refine Fin.a ?_ | refine Fin.ni ?_ | refine Fin.v ?_ ?_ | refine Fin.r ?_ ?_ | exact Fin.th | (refine Fin.t ?_; try simp only [AV.sl.injEq]))
    | (refine And.go ?_; refine AndI ?_)
    | fail)
  all_goals (rw [← idxL_has])

def conNames : List (List UInt8) := [[111, 110, 115, 101, 116], [110, 111, 99, 111, 100, 97], [99, 108, 117, 115, 116, 101, 114], [118, 111, 105, 99, 101], [102, 105, 110, 97, 108], [110, 97, 115, 97, 108], [109, 97, 120], [100, 101, 112], [105, 100, 101, 110, 116], [99, 111, 110, 116, 105, 103]]
def C_ConstraintNames (P : Program) (k : Nat) : Prop := RunsF P k [] (.sl (strs conNames))
/-- spec.ConstraintNames -/
def s_ConstraintNames.x : XCode :=
  (.seq
    (.reg [⟨(some 0), .mv, [.k (.nilsl)], none⟩] [])
    (.seq
      (.reg [⟨(some 1), (.bsl 1 1), [.k (.str [111, 110, 115, 101, 116]), .k (.str [110, 111, 99, 111, 100, 97]), .k (.str [99, 108, 117, 115, 116, 101, 114]), .k (.str [118, 111, 105, 99, 101]), .k (.str [102, 105, 110, 97, 108]), .k (.str [110, 97, 115, 97, 108]), .k (.str [109, 97, 120]), .k (.str [100, 101, 112]), .k (.str [105, 100, 101, 110, 116]), .k (.str [99, 111, 110, 116, 105, 103])], none⟩,
        ⟨(some 0), .mv, [.t 1], none⟩] [0])
      .ret))
def s_ConstraintNames.F : Cfg := ⟨fun d => if d = 1 then 1 else 0, fun r => match r with | 0 => [] | 1 => [0] | _ => []⟩
def s_ConstraintNames.X : FX := ⟨2, [.tmp 0], s_ConstraintNames.F, s_ConstraintNames.x⟩

theorem s_ConstraintNames.ok {P : Program} {k : Nat} (hk : Has P k (s_ConstraintNames.X)) : C_ConstraintNames P k := by
  intro n H
  refine S.ofX hk rfl fun hB fn hr => ?_
  unfold s_ConstraintNames.x
  repeat' (first
    | ((with_reducible refine S.go ?_); first | refine S.seq ?_ | refine S.skip ?_ | refine S.block ?_ | refine S.inBlock ?_ | refine S.exit rfl ?_ | refine S.regN ?_ | refine S.reg ?_ | refine S.drw hk.mo (by kernel_rfl) ?_ | (refine S.cond rfl (fun hc => ?_) (fun hc => ?_) <;> try simp only [HC] at hc) | refine S.retH hr rfl ?_ | refine S.finH hr rfl ?_ | (refine S.retK hr ?_; refine TR ?_) | fail)
    | ((first | with_reducible refine Ns.go ?_ | with_reducible refine XOs.go ?_ | with_reducible refine XDs.go ?_ | with_reducible refine OK.go ?_); (first | refine TT ?_ | (apply Ns.sc ⟨rfl, rfl⟩ rfl; intro hg) | (refine OK.tr ?_; refine TT ?_)); (try simp only [HC] at hg))
    | with_reducible exact rfl | exact ⟨rfl, rfl, rfl⟩
    | ((with_reducible refine Gd.go ?_); refine Gd.on (fun hg => ?_) (fun hg => ?_) <;> refine TG ?_ <;> (try simp only [HC] at hg))
    | ((with_reducible refine Fin.go ?_); first | (refine Fin.p ?_; first | exact FT | (try refine TT ?_; try simp only [LF])) | refine Fin.a0 ?_ | refine Fin.a ?_ | refine Fin.ni ?_ | refine Fin.v ?_ ?_ | refine Fin.r ?_ ?_ | exact Fin.th | (refine Fin.t ?_; try simp only [AV.sl.injEq]))
    | (refine And.go ?_; refine AndI ?_)
    | fail)
  all_goals rfl
/-- impl.ConstraintNames -/
def i_ConstraintNames.x : XCode :=
  (.seq
    (.reg [⟨(some 0), .mv, [.k (.nilsl)], none⟩] [])
    (.seq
      (.reg [⟨(some 1), (.bsl 1 1), [.k (.str [111, 110, 115, 101, 116]), .k (.str [110, 111, 99, 111, 100, 97]), .k (.str [99, 108, 117, 115, 116, 101, 114]), .k (.str [118, 111, 105, 99, 101]), .k (.str [102, 105, 110, 97, 108]), .k (.str [110, 97, 115, 97, 108]), .k (.str [109, 97, 120]), .k (.str [100, 101, 112]), .k (.str [105, 100, 101, 110, 116]), .k (.str [99, 111, 110, 116, 105, 103])], none⟩,
        ⟨(some 0), .mv, [.t 1], none⟩] [0])
      .ret))
def i_ConstraintNames.F : Cfg := ⟨fun d => if d = 1 then 1 else 0, fun r => match r with | 0 => [] | 1 => [0] | _ => []⟩
def i_ConstraintNames.X : FX := ⟨2, [.tmp 0], i_ConstraintNames.F, i_ConstraintNames.x⟩

theorem i_ConstraintNames.ok {P : Program} {k : Nat} (hk : Has P k (i_ConstraintNames.X)) : C_ConstraintNames P k := by
  intro n H
  refine S.ofX hk rfl fun hB fn hr => ?_
  unfold i_ConstraintNames.x
  repeat' (first
    | ((with_reducible refine S.go ?_); first | refine S.seq ?_ | refine S.skip ?_ | refine S.block ?_ | refine S.inBlock ?_ | refine S.exit rfl ?_ | refine S.regN ?_ | refine S.reg ?_ | refine S.drw hk.mo (by kernel_rfl) ?_ | (refine S.cond rfl (fun hc => ?_) (fun hc => ?_) <;> try simp only [HC] at hc) | refine S.retH hr rfl ?_ | refine S.finH hr rfl ?_ | (refine S.retK hr ?_; refine TR ?_) | fail)
    | ((first | with_reducible refine Ns.go ?_ | with_reducible refine XOs.go ?_ | with_reducible refine XDs.go ?_ | with_reducible refine OK.go ?_); (first | refine TT ?_ | (apply Ns.sc ⟨rfl, rfl⟩ rfl; intro hg) | (refine OK.tr ?_; refine TT ?_)); (try simp only [HC] at hg))
    | with_reducible exact rfl | exact ⟨rfl, rfl, rfl⟩
    | ((with_reducible refine Gd.go ?_); refine Gd.on (fun hg => ?_) (fun hg => ?_) <;> refine TG ?_ <;> (try simp only [HC] at hg))
    | ((with_reducible refine Fin.go ?_); first | (refine Fin.p ?_; first | exact FT | (try refine TT ?_; try simp only [LF])) | refine Fin.a0 ?_ | refine Fin.a ?_ | refine Fin.ni ?_ | refine Fin.v ?_ ?_ | refine Fin.r ?_ ?_ | exact Fin.th | (refine Fin.t ?_; try simp only [AV.sl.injEq]))
    | (refine And.go ?_; refine AndI ?_)
    | fail)
  all_goals rfl

def rall (n : Nat) (p : Nat → Bool) : Bool := (List.range n).all p
theorem rall_true {n : Nat} {p : Nat → Bool} (h : ∀ j, j < n → p j = true) : rall n p = true := by
  unfold rall; rw [List.all_eq_true]; intro j hj; exact h j (List.mem_range.mp hj)
theorem rall_false {n j : Nat} {p : Nat → Bool} (h : j < n) (hp : p j = false) : rall n p = false := by
  unfold rall; rw [List.all_eq_false]; exact ⟨j, List.mem_range.mpr h, by simp [hp]⟩
theorem rall_elim {n j : Nat} {p : Nat → Bool} (h : rall n p = true) (hj : j < n) : p j = true := by
  unfold rall at h; rw [List.all_eq_true] at h; exact h j (List.mem_range.mpr hj)

/-- A name of constraints at its place: known, and not named before. -/
def conAt (l : List (List UInt8)) (i : Nat) : Bool := conNames.contains (l.getD i default) && !(l.take i).contains (l.getD i default)
def areCons (l : List (List UInt8)) : Bool := rall l.length (conAt l) && (decide (1 ≤ l.length) && decide (l.length ≤ 5))
def C_AreConstraints (P : Program) (k : Nat) : Prop := ∀ (l : List (List UInt8)), l.length ≤ 4294967296 → RunsF P k [.sl (strs l)] (.bool (areCons l))
theorem con_no {l : List (List UInt8)} {i : Nat} (h : i < l.length) (hc : conAt l i = false) : areCons l = false := by
  unfold areCons; rw [rall_false h hc]; rfl
theorem con_yes {l : List (List UInt8)} (h : ∀ j, j < l.length → conAt l j = true) : areCons l = (decide (1 ≤ l.length) && decide (l.length ≤ 5)) := by
  unfold areCons; rw [rall_true h]; rfl
/-- spec.AreConstraints -/
def s_AreConstraints.x (c_s_ConstraintNames c_s_l3Has c_s_l1In : Nat) : XCode :=
  (.seq
    (.reg [⟨(some 2), .mv, [.k (.bool false)], none⟩] [0])
    (.seq
      (.seq
        (.reg [⟨(some 3), .mv, [.k (.int .i64 0)], none⟩] [0, 3])
        (.block 0
          (.loop
            (.seq
              (.seq
                (.reg [⟨(some 4), .mv, [.t 3], none⟩,
                  ⟨(some 5), .mv, [.t 0], none⟩,
                  ⟨(some 6), .lenL, [.t 5], none⟩,
                  ⟨(some 7), (.bin .lss), [.t 4, .t 6], none⟩] [0, 3, 7])
                (.cond (.t 7)
                  .skip
                  (.exit 0)))
              (.seq
                (.block 1
                  (.seq
                    (.drw [(⟨(some 10), .call, [.k (.fn c_s_ConstraintNames [])], none⟩, []),
                      (⟨(some 11), .mv, [.t 0], none⟩, []),
                      (⟨(some 12), .mv, [.t 3], none⟩, []),
                      (⟨(some 13), (.idxA 1), [.t 11, .t 12], none⟩, [1, 2]),
                      (⟨(some 14), (.ld none), [.t 13], none⟩, [3]),
                      (⟨(some 15), .call, [.k (.fn c_s_l3Has []), .t 10, .t 14], none⟩, [0, 4, 0]),
                      (⟨(some 16), (.un .not), [.t 15], none⟩, [5]),
                      (⟨(some 17), .mv, [.t 16], none⟩, [6, 5]),
                      (⟨(some 18), .mv, [.t 0], (some (17, false))⟩, [7]),
                      (⟨(some 19), .mv, [.t 3], (some (17, false))⟩, [7]),
                      (⟨(some 20), (.slL 1 false true), [.t 18, .t 19], (some (17, false))⟩, [8, 9, 7]),
                      (⟨(some 21), .mv, [.t 0], (some (17, false))⟩, [7]),
                      (⟨(some 22), .mv, [.t 3], (some (17, false))⟩, [7]),
                      (⟨(some 23), (.idxA 1), [.t 21, .t 22], (some (17, false))⟩, [11, 12, 7]),
                      (⟨(some 24), (.ld none), [.t 23], (some (17, false))⟩, [13, 7]),
                      (⟨(some 25), .call, [.k (.fn c_s_l3Has []), .t 20, .t 24], (some (17, false))⟩, [10, 14, 7, 7]),
                      (⟨(some 26), .pick, [.t 17, .k (.bool true), .t 25], none⟩, [7, 15])] [0, 3, 26] [0, 0, 0, 0, 0, 0, 0, 0, 0, 0, 0, 0, 0, 0, 0, 0, 0])
                    (.cond (.t 26)
                      (.seq
                        (.reg [⟨(some 2), .mv, [.k (.bool false)], none⟩] [2])
                        .ret)
                      .skip)))
                (.reg [⟨(some 8), .mv, [.t 3], none⟩,
                  ⟨(some 9), (.bin .add), [.t 8, .k (.int .i64 1)], none⟩,
                  ⟨(some 3), .mv, [.t 9], none⟩] [0, 3]))))))
      (.seq
        (.reg [⟨(some 27), .mv, [.t 0], none⟩,
          ⟨(some 28), .lenL, [.t 27], none⟩,
          ⟨(some 29), .call, [.k (.fn c_s_l1In []), .t 28, .k (.int .i64 1), .k (.int .i64 5)], none⟩,
          ⟨(some 2), .mv, [.t 29], none⟩] [2])
        .ret)))
def s_AreConstraints.F : Cfg := ⟨fun _ => 0, fun r => match r with | 0 => [0] | 1 => [0, 3] | 2 => [0, 3, 7] | 3 => [0, 3] | 4 => [0, 3, 26] | 5 => [2] | 6 => [2] | 1000004 => [0, 0, 0, 0, 0, 0, 0, 0, 0, 0, 0, 0, 0, 0, 0, 0, 0] | _ => []⟩
def s_AreConstraints.X (c_s_ConstraintNames c_s_l3Has c_s_l1In : Nat) : FX := ⟨30, [.tmp 2], s_AreConstraints.F, s_AreConstraints.x c_s_ConstraintNames c_s_l3Has c_s_l1In⟩

theorem s_AreConstraints.ok {P : Program} {k c_s_ConstraintNames c_s_l3Has c_s_l1In : Nat} (hk : Has P k (s_AreConstraints.X c_s_ConstraintNames c_s_l3Has c_s_l1In)) (h1 : C_has P c_s_l3Has) (h2 : C_ConstraintNames P c_s_ConstraintNames) (h3 : C_within P c_s_l1In) : C_AreConstraints P k := by
  intro l hl n H
  refine S.ofX hk rfl fun hB fn hr => ?_
  unfold s_AreConstraints.x
  repeat' (first
    | ((with_reducible refine S.go ?_); first | refine S.seq ?_ | refine S.skip ?_ | refine S.block ?_ | refine S.inBlock ?_ | refine S.exit rfl ?_ | refine S.regN ?_ | refine S.reg ?_ | refine S.drw hk.mo (by kernel_rfl) ?_ | (refine S.cond rfl (fun hc => ?_) (fun hc => ?_) <;> try simp only [HC] at hc) | refine S.retH hr rfl ?_ | refine S.finH hr rfl ?_ | (refine S.retK hr ?_; refine TR ?_) | fail)
    | ((first | with_reducible refine Ns.go ?_ | with_reducible refine XOs.go ?_ | with_reducible refine XDs.go ?_ | with_reducible refine OK.go ?_); (first | refine TT ?_ | (apply Ns.sc ⟨rfl, rfl⟩ rfl; intro hg) | (refine OK.tr ?_; refine TT ?_)); (try simp only [HC] at hg))
    | with_reducible exact rfl | exact ⟨rfl, rfl, rfl⟩
    | ((with_reducible refine Gd.go ?_); refine Gd.on (fun hg => ?_) (fun hg => ?_) <;> refine TG ?_ <;> (try simp only [HC] at hg))
    | ((with_reducible refine Fin.go ?_); first | (refine Fin.p ?_; first | exact FT | (try refine TT ?_; try simp only [LF])) | refine Fin.a0 ?_ | refine Fin.a ?_ | refine Fin.ni ?_ | refine Fin.v ?_ ?_ | refine Fin.r ?_ ?_ | exact Fin.th | (refine Fin.t ?_; try simp only [AV.sl.injEq]))
    | (refine And.go ?_; refine AndI ?_)
    | fail)
  refine S.loop (σ := Nat) (fun i => i ≤ l.length ∧ ∀ j, j < i → conAt l j = true) (fun i => [(0, .sl (strs l)), (3, .int .i64 (i : Int))]) (fun _ => n) (fun _ => H) (fun i => l.length - i) 0 rfl ⟨by omega, fun j hj => by omega⟩ (Nat.le_refl _) (List.Sublist.refl _) ?_
  intro i hi ih
  obtain ⟨hi1, hi2⟩ := hi
  repeat' (first
    | ((with_reducible refine S.go ?_); first | refine S.seq ?_ | refine S.skip ?_ | refine S.block ?_ | refine S.inBlock ?_ | refine S.exit rfl ?_ | refine S.regN ?_ | refine S.reg ?_ | refine S.drw hk.mo (by kernel_rfl) ?_ | (refine S.cond rfl (fun hc => ?_) (fun hc => ?_) <;> try simp only [HC] at hc) | refine S.retH hr rfl ?_ | refine S.finH hr rfl ?_ | (refine S.retK hr ?_; refine TR ?_) | fail)
    | ((first | with_reducible refine Ns.go ?_ | with_reducible refine XOs.go ?_ | with_reducible refine XDs.go ?_ | with_reducible refine OK.go ?_); (first | refine TT ?_ | (apply Ns.sc ⟨rfl, rfl⟩ rfl; intro hg) | (refine OK.tr ?_; refine TT ?_)); (try simp only [HC] at hg))
    | with_reducible exact rfl | exact ⟨rfl, rfl, rfl⟩
    | ((with_reducible refine RunsT.go ?_); first | refine RunsF.apf (h2) rfl ?_ | refine RunsF.apf (h1 _ _ (by first | exact hl | decide | (simp only [List.length_take]; omega))) rfl ?_ | refine RunsF.apf (h3 _ _ _) rfl ?_ | fail)
    | ((with_reducible refine RunsD.go ?_); first | refine RunsF.apd (h2) rfl ?_ | refine RunsF.apd (h1 _ _ (by first | exact hl | decide | (simp only [List.length_take]; omega))) rfl ?_ | refine RunsF.apd (h3 _ _ _) rfl ?_ | fail)
    | (refine S.again (ih (i + 1) ?_ ?_) rfl (Nat.le_refl _) (List.Sublist.refl _))
    | ((with_reducible refine Gd.go ?_); refine Gd.on (fun hg => ?_) (fun hg => ?_) <;> refine TG ?_ <;> (try simp only [HC] at hg))
    | ((with_reducible refine Fin.go ?_); first | (refine Fin.p ?_; first | exact FT | (try refine TT ?_; try simp only [LF])) | refine Fin.a0 ?_ | refine Fin.a ?_ | refine Fin.ni ?_ | refine Fin.v ?_ ?_ | refine Fin.r ?_ ?_ | exact Fin.th | (refine Fin.t ?_; try simp only [AV.sl.injEq]))
    | (refine And.go ?_; refine AndI ?_)
    | fail)
  all_goals first | (have he : i = l.length := (by omega); subst he) | skip
  all_goals (try clear ih)
  all_goals first | omega | (exact (con_no (i := i) (by omega) (by simp only [conAt]; first | (rcases hc with h | h <;> rw [h] <;> simp) | (rw [hc]; simp) | simp_all)).symm) | (rw [con_yes hi2]; rw [Bool.eq_iff_iff]; simp; done) | (rw [con_yes hi2]; rw [Bool.eq_iff_iff]; simp; omega) | grind [conAt]
/-- impl.AreConstraints -/
def i_AreConstraints.x (c_i_ConstraintNames c_slices_Contains_string_string c_i_within : Nat) : XCode :=
  (.seq
    (.reg [⟨(some 2), .mv, [.k (.bool false)], none⟩] [0])
    (.seq
      (.seq
        (.reg [⟨(some 5), .mv, [.t 0], none⟩,
          ⟨(some 6), .lenL, [.t 5], none⟩,
          ⟨(some 7), .mv, [.k (.int .i64 0)], none⟩] [0, 5, 6, 7])
        (.block 0
          (.loop
            (.seq
              (.reg [⟨(some 8), (.bin .lss), [.t 7, .t 6], none⟩] [0, 5, 6, 7, 8])
              (.seq
                (.cond (.t 8)
                  .skip
                  (.exit 0))
                (.seq
                  (.block 1
                    (.seq
                      (.reg [⟨(some 9), .mv, [.t 7], none⟩,
                        ⟨(some 10), (.idxA 1), [.t 5, .t 7], none⟩,
                        ⟨(some 11), (.ld none), [.t 10], none⟩,
                        ⟨(some 3), .mv, [.t 9], none⟩,
                        ⟨(some 4), .mv, [.t 11], none⟩] [0, 3, 4, 5, 6, 7])
                      (.seq
                        (.reg (flatNs none (nl [.op (some 12) .call [.k (.fn c_i_ConstraintNames [])], .op (some 13) .mv [.t 4], .op (some 14) .call [.k (.fn c_slices_Contains_string_string []), .t 12, .t 13], .op (some 15) (.un .not) [.t 14], .op (some 16) .mv [.t 15], .sc 16 false (nl [.op (some 17) .mv [.t 0], .op (some 18) .mv [.t 3], .op (some 19) (.slL 1 false true) [.t 17, .t 18], .op (some 20) .mv [.t 4], .op (some 21) .call [.k (.fn c_slices_Contains_string_string []), .t 19, .t 20]]) (.t 21) (some 22)])) [0, 5, 6, 7, 22])
                        (.cond (.t 22)
                          (.seq
                            (.reg [⟨(some 2), .mv, [.k (.bool false)], none⟩] [2])
                            .ret)
                          .skip))))
                  (.reg [⟨(some 23), (.bin .add), [.t 7, .k (.int .i64 1)], none⟩,
                    ⟨(some 7), .mv, [.t 23], none⟩] [0, 5, 6, 7])))))))
      (.seq
        (.reg [⟨(some 24), .mv, [.t 0], none⟩,
          ⟨(some 25), .lenL, [.t 24], none⟩,
          ⟨(some 26), .call, [.k (.fn c_i_within []), .t 25, .k (.int .i64 1), .k (.int .i64 5)], none⟩,
          ⟨(some 2), .mv, [.t 26], none⟩] [2])
        .ret)))
def i_AreConstraints.F : Cfg := ⟨fun _ => 0, fun r => match r with | 0 => [0] | 1 => [0, 5, 6, 7] | 2 => [0, 5, 6, 7, 8] | 3 => [0, 3, 4, 5, 6, 7] | 4 => [0, 5, 6, 7, 22] | 5 => [2] | 6 => [0, 5, 6, 7] | 7 => [2] | _ => []⟩
def i_AreConstraints.X (c_i_ConstraintNames c_slices_Contains_string_string c_i_within : Nat) : FX := ⟨27, [.tmp 2], i_AreConstraints.F, i_AreConstraints.x c_i_ConstraintNames c_slices_Contains_string_string c_i_within⟩

theorem i_AreConstraints.ok {P : Program} {k c_i_ConstraintNames c_slices_Contains_string_string c_i_within : Nat} (hk : Has P k (i_AreConstraints.X c_i_ConstraintNames c_slices_Contains_string_string c_i_within)) (h1 : C_has P c_slices_Contains_string_string) (h2 : C_ConstraintNames P c_i_ConstraintNames) (h3 : C_within P c_i_within) : C_AreConstraints P k := by
  intro l hl n H
  refine S.ofX hk rfl fun hB fn hr => ?_
  unfold i_AreConstraints.x
  repeat' (first
    | ((with_reducible refine S.go ?_); first | refine S.seq ?_ | refine S.skip ?_ | refine S.block ?_ | refine S.inBlock ?_ | refine S.exit rfl ?_ | refine S.regN ?_ | refine S.reg ?_ | refine S.drw hk.mo (by kernel_rfl) ?_ | (refine S.cond rfl (fun hc => ?_) (fun hc => ?_) <;> try simp only [HC] at hc) | refine S.retH hr rfl ?_ | refine S.finH hr rfl ?_ | (refine S.retK hr ?_; refine TR ?_) | fail)
    | ((first | with_reducible refine Ns.go ?_ | with_reducible refine XOs.go ?_ | with_reducible refine XDs.go ?_ | with_reducible refine OK.go ?_); (first | refine TT ?_ | (apply Ns.sc ⟨rfl, rfl⟩ rfl; intro hg) | (refine OK.tr ?_; refine TT ?_)); (try simp only [HC] at hg))
    | with_reducible exact rfl | exact ⟨rfl, rfl, rfl⟩
    | ((with_reducible refine Gd.go ?_); refine Gd.on (fun hg => ?_) (fun hg => ?_) <;> refine TG ?_ <;> (try simp only [HC] at hg))
    | ((with_reducible refine Fin.go ?_); first | (refine Fin.p ?_; first | exact FT | (try refine TT ?_; try simp only [LF])) | refine Fin.a0 ?_ | refine Fin.a ?_ | refine Fin.ni ?_ | refine Fin.v ?_ ?_ | refine Fin.r ?_ ?_ | exact Fin.th | (refine Fin.t ?_; try simp only [AV.sl.injEq]))
    | (refine And.go ?_; refine AndI ?_)
    | fail)
  refine S.loop (σ := Nat) (fun i => i ≤ l.length ∧ ∀ j, j < i → conAt l j = true) (fun i => [(0, .sl (strs l)), (5, .sl (strs l)), (6, .int .i64 (l.length : Int)), (7, .int .i64 (i : Int))]) (fun _ => n) (fun _ => H) (fun i => l.length - i) 0 rfl ⟨by omega, fun j hj => by omega⟩ (Nat.le_refl _) (List.Sublist.refl _) ?_
  intro i hi ih
  obtain ⟨hi1, hi2⟩ := hi
  repeat' (first
    | ((with_reducible refine S.go ?_); first | refine S.seq ?_ | refine S.skip ?_ | refine S.block ?_ | refine S.inBlock ?_ | refine S.exit rfl ?_ | refine S.regN ?_ | refine S.reg ?_ | refine S.drw hk.mo (by kernel_rfl) ?_ | (refine S.cond rfl (fun hc => ?_) (fun hc => ?_) <;> try simp only [HC] at hc) | refine S.retH hr rfl ?_ | refine S.finH hr rfl ?_ | (refine S.retK hr ?_; refine TR ?_) | fail)
    | ((first | with_reducible refine Ns.go ?_ | with_reducible refine XOs.go ?_ | with_reducible refine XDs.go ?_ | with_reducible refine OK.go ?_); (first | refine TT ?_ | (apply Ns.sc ⟨rfl, rfl⟩ rfl; intro hg) | (refine OK.tr ?_; refine TT ?_)); (try simp only [HC] at hg))
    | with_reducible exact rfl | exact ⟨rfl, rfl, rfl⟩
    | ((with_reducible refine RunsT.go ?_); first | refine RunsF.apf (h2) rfl ?_ | refine RunsF.apf (h1 _ _ (by first | exact hl | decide | (simp only [List.length_take]; omega))) rfl ?_ | refine RunsF.apf (h3 _ _ _) rfl ?_ | fail)
    | ((with_reducible refine RunsD.go ?_); first | refine RunsF.apd (h2) rfl ?_ | refine RunsF.apd (h1 _ _ (by first | exact hl | decide | (simp only [List.length_take]; omega))) rfl ?_ | refine RunsF.apd (h3 _ _ _) rfl ?_ | fail)
    | (refine S.again (ih (i + 1) ?_ ?_) rfl (Nat.le_refl _) (List.Sublist.refl _))
    | ((with_reducible refine Gd.go ?_); refine Gd.on (fun hg => ?_) (fun hg => ?_) <;> refine TG ?_ <;> (try simp only [HC] at hg))
    | ((with_reducible refine Fin.go ?_); first | (refine Fin.p ?_; first | exact FT | (try refine TT ?_; try simp only [LF])) | refine Fin.a0 ?_ | refine Fin.a ?_ | refine Fin.ni ?_ | refine Fin.v ?_ ?_ | refine Fin.r ?_ ?_ | exact Fin.th | (refine Fin.t ?_; try simp only [AV.sl.injEq]))
    | (refine And.go ?_; refine AndI ?_)
    | fail)
  all_goals first | (have he : i = l.length := (by omega); subst he) | skip
  all_goals (try clear ih)
  all_goals first | omega | (exact (con_no (i := i) (by omega) (by simp only [conAt]; first | (rcases hc with h | h <;> rw [h] <;> simp) | (rw [hc]; simp) | simp_all)).symm) | (rw [con_yes hi2]; rw [Bool.eq_iff_iff]; simp; done) | (rw [con_yes hi2]; rw [Bool.eq_iff_iff]; simp; omega) | grind [conAt]

def contig : List UInt8 := [99, 111, 110, 116, 105, 103]
def areLoc (l : List (List UInt8)) : Bool := areCons l && !l.contains contig
def C_AreLocal (P : Program) (k : Nat) : Prop := ∀ (l : List (List UInt8)), l.length ≤ 4294967296 → RunsF P k [.sl (strs l)] (.bool (areLoc l))

/-- What is left of a size. -/
def szGo : List (List UInt8) → Int → Int
  | [], a => a
  | s :: l, a => if a - s.length < 0 then -1 else szGo l (a - s.length)
def szStr (l : List (List UInt8)) (a : Int) : Int := if a - l.length < 0 then -1 else szGo l (a - l.length)
theorem szGo_le : ∀ {l : List (List UInt8)} {a : Int}, 0 ≤ szGo l a → ∀ s ∈ l, (s.length : Int) ≤ a
  | [], a, h, s, hs => by cases hs
  | x :: l, a, h, s, hs => by
    unfold szGo at h
    split at h
    · omega
    · rw [List.mem_cons] at hs
      rcases hs with rfl | hs
      · omega
      · have := szGo_le h s hs; omega
theorem szStr_le {l : List (List UInt8)} {a : Int} (h : 0 ≤ szStr l a) : (l.length : Int) ≤ a ∧ ∀ s ∈ l, (s.length : Int) ≤ a := by
  unfold szStr at h
  split at h
  · omega
  · exact ⟨by omega, fun s hs => by have := szGo_le h s hs; omega⟩
def Big (l : List (List UInt8)) : Prop := l.length ≤ 9223372036854775807 ∧ ∀ i, i < l.length → (l.getD i default).length ≤ 9223372036854775807
def C_szStringS (P : Program) (k : Nat) : Prop := ∀ (l : List (List UInt8)) (a : Int), Big l → -1 ≤ a → a ≤ 1048576 → RunsF P k [.sl (strs l), .int .i64 a] (.int .i64 (szStr l a))

def C_toStringS (P : Program) (k : Nat) : Prop := ∀ (l : List (List UInt8)), l.length ≤ 4294967296 → RunsF P k [.sl (strs l)] (.sl (strs l))

def C_eqStringS (P : Program) (k : Nat) : Prop := ∀ (l m : List (List UInt8)), l.length ≤ 4294967296 → m.length ≤ 4294967296 → RunsF P k [.sl (strs l), .sl (strs m)] (.bool (l == m))
theorem neq_at {l m : List (List UInt8)} {i : Nat} (h : ¬ l.getD i default = m.getD i default) : (l == m) = false := by
  rw [beq_eq_false_iff_ne]; rintro rfl; exact h rfl
theorem eq_all {l m : List (List UInt8)} (h : l.length = m.length) (ha : ∀ j, j < l.length → l.getD j default = m.getD j default) : (l == m) = true := by
  rw [beq_iff_eq]
  apply List.ext_getElem h
  intro i h1 h2
  have := ha i h1
  simpa [List.getD_eq_getElem?_getD, h1, h2] using this

def C_lawAreLocal (P : Program) (k : Nat) : Prop := ∀ (l : List (List UInt8)), Big l → RunsF P k [.sl (strs l)] (.bool true)
end Go.Lib03
