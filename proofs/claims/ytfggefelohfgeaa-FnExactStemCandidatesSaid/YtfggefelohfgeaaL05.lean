/- The law of StemCandidates. Over any program. -/
import Derived.Test.YtfggefelohfgeaaL04
namespace Go.Lib05
open Go.Ab Go.Lib01 Go.Lib02 Go.Lib03 Go.Lib04
set_option linter.unusedVariables false
set_option linter.unusedSimpArgs false
set_option maxRecDepth 2000

def addO (l : List (List UInt8)) (s : List UInt8) : List (List UInt8) := if l.contains s then l else l ++ [s]
def C_addOnce (P : Program) (k : Nat) : Prop := ∀ (l : List (List UInt8)) (s : List UInt8) (id n : Nat) (H : Heap), l.length < 4294967296 → hget H id = some (.tok 1 l.length) →
  Runs P k [.acc id 1 (strs l), .str s] n H (fun v n' H' => v = .acc id 1 (strs (addO l s)) ∧ n' = n ∧ H' = hset H id (.tok 1 (addO l s).length))
/-- impl.addOnce -/
def i_addOnce.x (c_slices_Contains_string_string : Nat) : XCode :=
  (.seq
    (.reg [⟨(some 4), .mv, [.k (.nilsl)], none⟩] [0, 1])
    (.seq
      (.seq
        (.reg [⟨(some 5), .mv, [.t 0], none⟩,
          ⟨(some 6), .mv, [.t 1], none⟩,
          ⟨(some 7), .call, [.k (.fn c_slices_Contains_string_string []), .t 5, .t 6], none⟩] [0, 1, 7])
        (.cond (.t 7)
          (.seq
            (.reg [⟨(some 8), .mv, [.t 0], none⟩,
              ⟨(some 4), .mv, [.t 8], none⟩] [4])
            .ret)
          .skip))
      (.seq
        (.reg [⟨(some 9), .mv, [.t 0], none⟩,
          ⟨(some 10), .mv, [.t 1], none⟩,
          ⟨(some 11), (.bsl 0 1), [.t 10], none⟩,
          ⟨(some 12), (.app 1 16), [.t 9, .t 11], none⟩,
          ⟨(some 4), .mv, [.t 12], none⟩] [4])
        .ret)))
def i_addOnce.F : Cfg := ⟨fun _ => 0, fun r => match r with | 0 => [0, 1] | 1 => [0, 1, 7] | 2 => [4] | 3 => [4] | _ => []⟩
def i_addOnce.X (c_slices_Contains_string_string : Nat) : FX := ⟨13, [.tmp 4], i_addOnce.F, i_addOnce.x c_slices_Contains_string_string⟩

theorem i_addOnce.ok {P : Program} {k c_slices_Contains_string_string : Nat} (hk : Has P k (i_addOnce.X c_slices_Contains_string_string)) (h1 : C_has P c_slices_Contains_string_string) : C_addOnce P k := by
  intro l s id n H hl hm
  refine S.ofX hk rfl fun hB fn hr => ?_
  unfold i_addOnce.x
  repeat' (first
    | refine S.seq ?_
    | refine S.skip ?_
    | refine S.block ?_
    | refine S.inBlock ?_
    | refine S.exit rfl ?_
    | (refine S.reg ?_; simp (disch := first | omega | decide) only [AB, AL, AE, ↓reduceIte, Nat.reduceEqDiff, Nat.reduceBEq, Nat.reduceAdd, reduceCtorEq, wrap_i64, wrap_u8, if_ne, Int.toNat_natCast, toNat_subl, toNat_addl, u8_eq, u8_lit, UInt8.reduceOfNat])
    | (refine S.drw hk.mo (by kernel_rfl) ?_; simp (disch := first | omega | decide) only [AB, AL, AE, ↓reduceIte, Nat.reduceEqDiff, Nat.reduceBEq, Nat.reduceAdd, reduceCtorEq, wrap_i64, wrap_u8, if_ne, Int.toNat_natCast, toNat_subl, toNat_addl, u8_eq, u8_lit, UInt8.reduceOfNat])
    | (rw [hm]; simp (disch := first | omega | decide) only [AB, AL, AE, ↓reduceIte, Nat.reduceEqDiff, Nat.reduceBEq, Nat.reduceAdd, reduceCtorEq, wrap_i64, wrap_u8, if_ne, Int.toNat_natCast, toNat_subl, toNat_addl, u8_eq, u8_lit, UInt8.reduceOfNat])
    | (refine RunsF.apf (h1 _ _ (by omega)) rfl ?_; try simp (disch := first | omega | decide) only [AB, AL, AE, ↓reduceIte, Nat.reduceEqDiff, Nat.reduceBEq, Nat.reduceAdd, reduceCtorEq, wrap_i64, wrap_u8, if_ne, Int.toNat_natCast, toNat_subl, toNat_addl, u8_eq, u8_lit, UInt8.reduceOfNat])
    | (refine RunsF.apd (h1 _ _ (by omega)) rfl ?_; try simp (disch := first | omega | decide) only [AB, AL, AE, ↓reduceIte, Nat.reduceEqDiff, Nat.reduceBEq, Nat.reduceAdd, reduceCtorEq, wrap_i64, wrap_u8, if_ne, Int.toNat_natCast, toNat_subl, toNat_addl, u8_eq, u8_lit, UInt8.reduceOfNat])
    | (refine S.cond rfl (fun hc => ?_) (fun hc => ?_) <;> try simp only [decide_eq_true_eq, decide_eq_false_iff_not, Bool.not_eq_true', Bool.not_eq_false', beq_iff_eq, bne_iff_ne, beq_eq_false_iff_ne, bne_eq_false_iff_eq, ne_eq, Decidable.not_not, Int.not_lt, Int.not_le, Bool.and_eq_true, Bool.or_eq_true, Bool.and_eq_false_iff, Bool.or_eq_false_iff, Bool.not_true, Bool.not_false] at hc)
    | (refine Gd.on (fun hg => ?_) (fun hg => ?_) <;> simp only [hg, AB, AL, AE, ↓reduceIte, Nat.reduceEqDiff, Nat.reduceBEq, Nat.reduceAdd, reduceCtorEq] <;> (try simp only [decide_eq_true_eq, decide_eq_false_iff_not, Bool.not_eq_true', Bool.not_eq_false', beq_iff_eq, bne_iff_ne, beq_eq_false_iff_ne, bne_eq_false_iff_eq, ne_eq, Decidable.not_not, Int.not_lt, Int.not_le, Bool.and_eq_true, Bool.or_eq_true, Bool.and_eq_false_iff, Bool.or_eq_false_iff, Bool.not_true, Bool.not_false] at hg) <;> try simp (disch := first | omega | decide) only [AB, AL, AE, ↓reduceIte, Nat.reduceEqDiff, Nat.reduceBEq, Nat.reduceAdd, reduceCtorEq, wrap_i64, wrap_u8, if_ne, Int.toNat_natCast, toNat_subl, toNat_addl, u8_eq, u8_lit, UInt8.reduceOfNat])
    | refine S.retH hr rfl ?_
    | refine S.finH hr rfl ?_
    | (refine S.retK hr ?_; simp (disch := first | omega | decide) only [retK_nil, retK_tmp, retK_cell, retC_ptr, retC_fptr, AB, AL, AE, ↓reduceIte, Nat.reduceEqDiff, Nat.reduceBEq, Nat.reduceAdd, reduceCtorEq, if_ne])
    | (refine Fin.pure hB (by first | exact List.Sublist.refl _ | (repeat first | exact List.Sublist.refl _ | apply List.Sublist.cons)) rfl ?_; try simp (disch := first | omega | decide) only [AB, AL, AE, ↓reduceIte, Nat.reduceEqDiff, Nat.reduceBEq, Nat.reduceAdd, reduceCtorEq, wrap_i64, wrap_u8, if_ne, Int.toNat_natCast, toNat_subl, toNat_addl, u8_eq, u8_lit, UInt8.reduceOfNat]; try simp only [AV.bool.injEq, AV.int.injEq, AV.str.injEq, AV.sl.injEq, AV.tup.injEq, List.cons.injEq, and_true, true_and])
    | (with_reducible refine And.intro ?_ ?_; focus (first | omega | (simp only [List.length_cons, List.length_nil]; omega) | (simp [rowsOk]; done)); try simp (disch := first | omega | decide) only [AB, AL, AE, ↓reduceIte, Nat.reduceEqDiff, Nat.reduceBEq, Nat.reduceAdd, reduceCtorEq, wrap_i64, wrap_u8, if_ne, Int.toNat_natCast, toNat_subl, toNat_addl, u8_eq, u8_lit, UInt8.reduceOfNat]))
  · refine Fin.same ⟨by rw [addO, if_pos ‹_›]; rfl, rfl, ?_⟩
    rw [addO, if_pos ‹_›, hset_self hm]
  · refine Fin.same ⟨by rw [addO, if_neg (by simp_all)]; rfl, rfl, ?_⟩
    rw [addO, if_neg (by simp_all)]
    simp

theorem para_len {a b : List UInt8} (h : isPara a b = true) : 1 ≤ b.length ∧ b.length ≤ 4 ∧ a.length ≤ 3 := by
  simp only [isPara, Bool.and_eq_true, decide_eq_true_eq] at h
  omega
def stems (a b : List UInt8) : List (List UInt8) := if isPara a b then addO [a] (b.take (b.length - 1)) else []
theorem stems_len (a b : List UInt8) : (stems a b).length ≤ 2 := by
  unfold stems addO
  split
  · split <;> simp
  · simp
def C_StemCandidates (P : Program) (k : Nat) : Prop := ∀ a b : List UInt8, a.length ≤ 4294967296 → b.length ≤ 4294967296 → RunsF P k [.agg [.str a, .str b]] (.sl (strs (stems a b)))
/-- spec.StemCandidates -/
def s_StemCandidates.x (c_s_IsParadigm : Nat) : XCode :=
  (.seq
    (.reg [⟨(some 1), .boxF, [.t 0], none⟩,
      ⟨(some 2), .mv, [.k (.nilsl)], none⟩] [1])
    (.seq
      (.seq
        (.reg [⟨(some 4), (.ld (some 2)), [.t 1], none⟩,
          ⟨(some 5), .call, [.k (.fn c_s_IsParadigm []), .t 4], none⟩,
          ⟨(some 6), (.un .not), [.t 5], none⟩] [1, 6])
        (.cond (.t 6)
          (.seq
            (.reg [⟨(some 7), (.bsl 1 1), [], none⟩,
              ⟨(some 2), .mv, [.t 7], none⟩] [2])
            .ret)
          .skip))
      (.seq
        (.reg [⟨(some 8), (.fldA 1), [.t 1], none⟩,
          ⟨(some 9), (.ld none), [.t 8], none⟩,
          ⟨(some 10), (.fldA 1), [.t 1], none⟩,
          ⟨(some 11), (.ld none), [.t 10], none⟩,
          ⟨(some 12), .lenS, [.t 11], none⟩,
          ⟨(some 13), (.bin .sub), [.t 12, .k (.int .i64 1)], none⟩,
          ⟨(some 14), (.slS false true), [.t 9, .t 13], none⟩,
          ⟨(some 3), .mv, [.t 14], none⟩] [1, 3])
        (.seq
          (.seq
            (.reg [⟨(some 15), .mv, [.t 3], none⟩,
              ⟨(some 16), (.fldA 0), [.t 1], none⟩,
              ⟨(some 17), (.ld none), [.t 16], none⟩,
              ⟨(some 18), (.bin .eql), [.t 15, .t 17], none⟩] [1, 3, 18])
            (.cond (.t 18)
              (.seq
                (.reg [⟨(some 19), .mv, [.t 3], none⟩,
                  ⟨(some 20), (.bsl 1 1), [.t 19], none⟩,
                  ⟨(some 2), .mv, [.t 20], none⟩] [2])
                .ret)
              .skip))
          (.seq
            (.reg [⟨(some 21), (.fldA 0), [.t 1], none⟩,
              ⟨(some 22), (.ld none), [.t 21], none⟩,
              ⟨(some 23), .mv, [.t 3], none⟩,
              ⟨(some 24), (.bsl 1 1), [.t 22, .t 23], none⟩,
              ⟨(some 2), .mv, [.t 24], none⟩] [2])
            .ret)))))
def s_StemCandidates.F : Cfg := ⟨fun d => if d = 7 then 1 else if d = 20 then 1 else if d = 24 then 1 else 0, fun r => match r with | 0 => [1] | 1 => [1, 6] | 2 => [2] | 3 => [1, 3] | 4 => [1, 3, 18] | 5 => [2] | 6 => [2] | _ => []⟩
def s_StemCandidates.X (c_s_IsParadigm : Nat) : FX := ⟨25, [.tmp 2], s_StemCandidates.F, s_StemCandidates.x c_s_IsParadigm⟩

theorem s_StemCandidates.ok {P : Program} {k c_s_IsParadigm : Nat} (hk : Has P k (s_StemCandidates.X c_s_IsParadigm)) (h1 : C_IsParadigm P c_s_IsParadigm) : C_StemCandidates P k := by
  intro a b ha hb n H
  refine S.ofX hk rfl fun hB fn hr => ?_
  unfold s_StemCandidates.x
  repeat' (first
    | refine S.seq ?_
    | refine S.skip ?_
    | refine S.block ?_
    | refine S.inBlock ?_
    | refine S.exit rfl ?_
    | (refine S.reg ?_; simp (disch := first | omega | decide) only [AB, AL, AE, ↓reduceIte, Nat.reduceEqDiff, Nat.reduceBEq, Nat.reduceAdd, reduceCtorEq, wrap_i64, wrap_u8, if_ne, Int.toNat_natCast, toNat_subl, toNat_addl, u8_eq, u8_lit, UInt8.reduceOfNat])
    | (refine S.drw hk.mo (by kernel_rfl) ?_; simp (disch := first | omega | decide) only [AB, AL, AE, ↓reduceIte, Nat.reduceEqDiff, Nat.reduceBEq, Nat.reduceAdd, reduceCtorEq, wrap_i64, wrap_u8, if_ne, Int.toNat_natCast, toNat_subl, toNat_addl, u8_eq, u8_lit, UInt8.reduceOfNat])
    | (with_reducible refine And.intro (by have := para_len ‹isPara a b = true›; omega) ?_; try simp (disch := first | omega | decide) only [AB, AL, AE, ↓reduceIte, Nat.reduceEqDiff, Nat.reduceBEq, Nat.reduceAdd, reduceCtorEq, wrap_i64, wrap_u8, if_ne, Int.toNat_natCast, toNat_subl, toNat_addl, u8_eq, u8_lit, UInt8.reduceOfNat])
    | (refine RunsF.apf (h1 _ _ (by omega) (by omega)) rfl ?_; try simp (disch := first | omega | decide) only [AB, AL, AE, ↓reduceIte, Nat.reduceEqDiff, Nat.reduceBEq, Nat.reduceAdd, reduceCtorEq, wrap_i64, wrap_u8, if_ne, Int.toNat_natCast, toNat_subl, toNat_addl, u8_eq, u8_lit, UInt8.reduceOfNat])
    | (refine RunsF.apd (h1 _ _ (by omega) (by omega)) rfl ?_; try simp (disch := first | omega | decide) only [AB, AL, AE, ↓reduceIte, Nat.reduceEqDiff, Nat.reduceBEq, Nat.reduceAdd, reduceCtorEq, wrap_i64, wrap_u8, if_ne, Int.toNat_natCast, toNat_subl, toNat_addl, u8_eq, u8_lit, UInt8.reduceOfNat])
    | (refine S.cond rfl (fun hc => ?_) (fun hc => ?_) <;> try simp only [decide_eq_true_eq, decide_eq_false_iff_not, Bool.not_eq_true', Bool.not_eq_false', beq_iff_eq, bne_iff_ne, beq_eq_false_iff_ne, bne_eq_false_iff_eq, ne_eq, Decidable.not_not, Int.not_lt, Int.not_le, Bool.and_eq_true, Bool.or_eq_true, Bool.and_eq_false_iff, Bool.or_eq_false_iff, Bool.not_true, Bool.not_false] at hc)
    | (refine Gd.on (fun hg => ?_) (fun hg => ?_) <;> simp only [hg, AB, AL, AE, ↓reduceIte, Nat.reduceEqDiff, Nat.reduceBEq, Nat.reduceAdd, reduceCtorEq] <;> (try simp only [decide_eq_true_eq, decide_eq_false_iff_not, Bool.not_eq_true', Bool.not_eq_false', beq_iff_eq, bne_iff_ne, beq_eq_false_iff_ne, bne_eq_false_iff_eq, ne_eq, Decidable.not_not, Int.not_lt, Int.not_le, Bool.and_eq_true, Bool.or_eq_true, Bool.and_eq_false_iff, Bool.or_eq_false_iff, Bool.not_true, Bool.not_false] at hg) <;> try simp (disch := first | omega | decide) only [AB, AL, AE, ↓reduceIte, Nat.reduceEqDiff, Nat.reduceBEq, Nat.reduceAdd, reduceCtorEq, wrap_i64, wrap_u8, if_ne, Int.toNat_natCast, toNat_subl, toNat_addl, u8_eq, u8_lit, UInt8.reduceOfNat])
    | refine S.retH hr rfl ?_
    | refine S.finH hr rfl ?_
    | (refine S.retK hr ?_; simp (disch := first | omega | decide) only [retK_nil, retK_tmp, retK_cell, retC_ptr, retC_fptr, AB, AL, AE, ↓reduceIte, Nat.reduceEqDiff, Nat.reduceBEq, Nat.reduceAdd, reduceCtorEq, if_ne])
    | (refine Fin.pure hB (by first | exact List.Sublist.refl _ | (repeat first | exact List.Sublist.refl _ | apply List.Sublist.cons)) rfl ?_; try simp (disch := first | omega | decide) only [AB, AL, AE, ↓reduceIte, Nat.reduceEqDiff, Nat.reduceBEq, Nat.reduceAdd, reduceCtorEq, wrap_i64, wrap_u8, if_ne, Int.toNat_natCast, toNat_subl, toNat_addl, u8_eq, u8_lit, UInt8.reduceOfNat]; try simp only [AV.bool.injEq, AV.int.injEq, AV.str.injEq, AV.sl.injEq, AV.tup.injEq, List.cons.injEq, and_true, true_and])
    | (with_reducible refine And.intro ?_ ?_; focus (first | omega | (simp only [List.length_cons, List.length_nil]; omega) | (simp [rowsOk]; done)); try simp (disch := first | omega | decide) only [AB, AL, AE, ↓reduceIte, Nat.reduceEqDiff, Nat.reduceBEq, Nat.reduceAdd, reduceCtorEq, wrap_i64, wrap_u8, if_ne, Int.toNat_natCast, toNat_subl, toNat_addl, u8_eq, u8_lit, UInt8.reduceOfNat]))
  all_goals (try clear hr hk hB)
  all_goals first | (rw [stems, if_neg (by simp_all)]; rfl) | (rw [stems, if_pos ‹_›, addO]; simp_all [strs]; done) | skip
  all_goals trace_state

def C_iStem (P : Program) (k : Nat) : Prop := ∀ a b : List UInt8, a.length ≤ 4294967296 → b.length ≤ 4294967296 → RunsA P k [.agg [.str a, .str b]] 1 (strs (stems a b))
/-- impl.StemCandidates -/
def i_StemCandidates.x (c_i_IsParadigm c_i_addOnce : Nat) : XCode :=
  (.seq
    (.reg [⟨(some 1), .boxF, [.t 0], none⟩,
      ⟨(some 2), .mv, [.k (.nilsl)], none⟩] [1])
    (.seq
      (.seq
        (.reg [⟨(some 3), (.ld (some 2)), [.t 1], none⟩,
          ⟨(some 4), .call, [.k (.fn c_i_IsParadigm []), .t 3], none⟩,
          ⟨(some 5), (.un .not), [.t 4], none⟩] [1, 5])
        (.cond (.t 5)
          (.seq
            (.reg [⟨(some 2), .mv, [.k (.nilsl)], none⟩] [2])
            .ret)
          .skip))
      (.seq
        (.drw [(⟨(some 6), (.fldA 0), [.t 1], none⟩, []),
          (⟨(some 7), (.ld none), [.t 6], none⟩, [0]),
          (⟨(some 8), (.bsl 1 1), [.t 7], none⟩, [1]),
          (⟨(some 9), (.fldA 1), [.t 1], none⟩, []),
          (⟨(some 10), (.ld none), [.t 9], none⟩, [3]),
          (⟨(some 11), (.fldA 1), [.t 1], none⟩, []),
          (⟨(some 12), (.ld none), [.t 11], none⟩, [5]),
          (⟨(some 13), .lenS, [.t 12], none⟩, [6]),
          (⟨(some 14), (.bin .sub), [.t 13, .k (.int .i64 1)], none⟩, [7]),
          (⟨(some 15), (.slS false true), [.t 10, .t 14], none⟩, [4, 8]),
          (⟨(some 16), .call, [.k (.fn c_i_addOnce []), .t 8, .t 15], none⟩, [2, 9]),
          (⟨(some 2), .mv, [.t 16], none⟩, [10, 10, 0, 1, 2, 3, 4, 5, 6, 7, 8, 9, 10])] [2] [0, 0, 2, 0, 0, 0, 0, 0, 0, 0, 2, 0])
        .ret)))
def i_StemCandidates.F : Cfg := ⟨fun d => if d = 8 then 1 else 0, fun r => match r with | 0 => [1] | 1 => [1, 5] | 2 => [2] | 3 => [2] | 1000003 => [0, 0, 2, 0, 0, 0, 0, 0, 0, 0, 2, 0] | _ => []⟩
def i_StemCandidates.X (c_i_IsParadigm c_i_addOnce : Nat) : FX := ⟨17, [.tmp 2], i_StemCandidates.F, i_StemCandidates.x c_i_IsParadigm c_i_addOnce⟩

theorem i_StemCandidates.ok {P : Program} {k c_i_IsParadigm c_i_addOnce : Nat} (hk : Has P k (i_StemCandidates.X c_i_IsParadigm c_i_addOnce)) (h1 : C_IsParadigm P c_i_IsParadigm) (h2 : C_addOnce P c_i_addOnce) : C_iStem P k := by
  intro a b ha hb n H
  refine S.ofX hk rfl fun hB fn hr => ?_
  unfold i_StemCandidates.x
  repeat' (first
    | refine S.seq ?_
    | refine S.skip ?_
    | refine S.block ?_
    | refine S.inBlock ?_
    | refine S.exit rfl ?_
    | (refine S.reg ?_; simp (disch := first | omega | decide) only [AB, AL, AE, ↓reduceIte, Nat.reduceEqDiff, Nat.reduceBEq, Nat.reduceAdd, reduceCtorEq, wrap_i64, wrap_u8, if_ne, Int.toNat_natCast, toNat_subl, toNat_addl, u8_eq, u8_lit, UInt8.reduceOfNat])
    | (refine S.drw hk.mo (by kernel_rfl) ?_; simp (disch := first | omega | decide) only [AB, AL, AE, ↓reduceIte, Nat.reduceEqDiff, Nat.reduceBEq, Nat.reduceAdd, reduceCtorEq, wrap_i64, wrap_u8, if_ne, Int.toNat_natCast, toNat_subl, toNat_addl, u8_eq, u8_lit, UInt8.reduceOfNat])
    | (with_reducible refine And.intro (by have := para_len ‹isPara a b = true›; omega) ?_; try simp (disch := first | omega | decide) only [AB, AL, AE, ↓reduceIte, Nat.reduceEqDiff, Nat.reduceBEq, Nat.reduceAdd, reduceCtorEq, wrap_i64, wrap_u8, if_ne, Int.toNat_natCast, toNat_subl, toNat_addl, u8_eq, u8_lit, UInt8.reduceOfNat])
    | (refine Runs.apd (h2 [a] _ n _ _ (by simp) (by simp [hget])) ?_; simp (disch := first | omega | decide) only [AB, AL, AE, ↓reduceIte, Nat.reduceEqDiff, Nat.reduceBEq, Nat.reduceAdd, reduceCtorEq, wrap_i64, wrap_u8, if_ne, Int.toNat_natCast, toNat_subl, toNat_addl, u8_eq, u8_lit, UInt8.reduceOfNat])
    | (refine RunsF.apf (h1 _ _ (by omega) (by omega)) rfl ?_; try simp (disch := first | omega | decide) only [AB, AL, AE, ↓reduceIte, Nat.reduceEqDiff, Nat.reduceBEq, Nat.reduceAdd, reduceCtorEq, wrap_i64, wrap_u8, if_ne, Int.toNat_natCast, toNat_subl, toNat_addl, u8_eq, u8_lit, UInt8.reduceOfNat])
    | (refine RunsF.apd (h1 _ _ (by omega) (by omega)) rfl ?_; try simp (disch := first | omega | decide) only [AB, AL, AE, ↓reduceIte, Nat.reduceEqDiff, Nat.reduceBEq, Nat.reduceAdd, reduceCtorEq, wrap_i64, wrap_u8, if_ne, Int.toNat_natCast, toNat_subl, toNat_addl, u8_eq, u8_lit, UInt8.reduceOfNat])
    | (refine S.cond rfl (fun hc => ?_) (fun hc => ?_) <;> try simp only [decide_eq_true_eq, decide_eq_false_iff_not, Bool.not_eq_true', Bool.not_eq_false', beq_iff_eq, bne_iff_ne, beq_eq_false_iff_ne, bne_eq_false_iff_eq, ne_eq, Decidable.not_not, Int.not_lt, Int.not_le, Bool.and_eq_true, Bool.or_eq_true, Bool.and_eq_false_iff, Bool.or_eq_false_iff, Bool.not_true, Bool.not_false] at hc)
    | (refine Gd.on (fun hg => ?_) (fun hg => ?_) <;> simp only [hg, AB, AL, AE, ↓reduceIte, Nat.reduceEqDiff, Nat.reduceBEq, Nat.reduceAdd, reduceCtorEq] <;> (try simp only [decide_eq_true_eq, decide_eq_false_iff_not, Bool.not_eq_true', Bool.not_eq_false', beq_iff_eq, bne_iff_ne, beq_eq_false_iff_ne, bne_eq_false_iff_eq, ne_eq, Decidable.not_not, Int.not_lt, Int.not_le, Bool.and_eq_true, Bool.or_eq_true, Bool.and_eq_false_iff, Bool.or_eq_false_iff, Bool.not_true, Bool.not_false] at hg) <;> try simp (disch := first | omega | decide) only [AB, AL, AE, ↓reduceIte, Nat.reduceEqDiff, Nat.reduceBEq, Nat.reduceAdd, reduceCtorEq, wrap_i64, wrap_u8, if_ne, Int.toNat_natCast, toNat_subl, toNat_addl, u8_eq, u8_lit, UInt8.reduceOfNat])
    | refine S.retH hr rfl ?_
    | refine S.finH hr rfl ?_
    | (refine S.retK hr ?_; simp (disch := first | omega | decide) only [retK_nil, retK_tmp, retK_cell, retC_ptr, retC_fptr, AB, AL, AE, ↓reduceIte, Nat.reduceEqDiff, Nat.reduceBEq, Nat.reduceAdd, reduceCtorEq, if_ne])
    | (refine Fin.pure hB (by first | exact List.Sublist.refl _ | (repeat first | exact List.Sublist.refl _ | apply List.Sublist.cons)) rfl ?_; try simp (disch := first | omega | decide) only [AB, AL, AE, ↓reduceIte, Nat.reduceEqDiff, Nat.reduceBEq, Nat.reduceAdd, reduceCtorEq, wrap_i64, wrap_u8, if_ne, Int.toNat_natCast, toNat_subl, toNat_addl, u8_eq, u8_lit, UInt8.reduceOfNat]; try simp only [AV.bool.injEq, AV.int.injEq, AV.str.injEq, AV.sl.injEq, AV.tup.injEq, List.cons.injEq, and_true, true_and])
    | (with_reducible refine And.intro ?_ ?_; focus (first | omega | (simp only [List.length_cons, List.length_nil]; omega) | (simp [rowsOk]; done)); try simp (disch := first | omega | decide) only [AB, AL, AE, ↓reduceIte, Nat.reduceEqDiff, Nat.reduceBEq, Nat.reduceAdd, reduceCtorEq, wrap_i64, wrap_u8, if_ne, Int.toNat_natCast, toNat_subl, toNat_addl, u8_eq, u8_lit, UInt8.reduceOfNat]))
  · refine Fin.fz (Fin.same (Or.inr ⟨by rw [stems, if_neg (by simp_all)]; rfl, rfl, rfl, rfl⟩))
  · refine Fin.acc (by rw [strs_len]; exact List.mem_cons_self ..) (Nat.le_refl _) (H0 := H) (id := n) (s := 1) (rows := strs (addO [a] (b.take (b.length - 1)))) hB (List.sublist_cons_self _ _) ?_
    show (_ ∧ _ ∧ _) ∨ _
    left
    rw [stems, if_pos ‹_›]
    exact ⟨rfl, rfl, rfl⟩
theorem iStem_f {P : Program} {k : Nat} (h : C_iStem P k) : C_StemCandidates P k := fun a b ha hb => (h a b ha hb).f

/-- laws.FnExactStemCandidates -/
def w_FnExactStemCandidates.x (c_w_szParadigm c_w_toParadigm c_s_StemCandidates c_i_StemCandidates c_w_eqStringS c_w_markStringS c_w_heldStringS : Nat) : XCode :=
  (.seq
    (.reg [⟨(some 1), .boxF, [.t 0], none⟩,
      ⟨(some 2), .mv, [.k (.bool false)], none⟩] [1])
    (.seq
      (.reg [⟨(some 3), .mv, [.k (.int .i64 1048576)], none⟩] [1, 3])
      (.seq
        (.reg [⟨(some 9), (.ld (some 2)), [.t 1], none⟩,
          ⟨(some 10), .mv, [.t 3], none⟩,
          ⟨(some 11), .call, [.k (.fn c_w_szParadigm []), .t 9, .t 10], none⟩,
          ⟨(some 3), .mv, [.t 11], none⟩] [1, 3])
        (.seq
          (.seq
            (.reg [⟨(some 12), .mv, [.t 3], none⟩,
              ⟨(some 13), (.bin .lss), [.t 12, .k (.int .i64 0)], none⟩] [1, 13])
            (.cond (.t 13)
              (.seq
                (.reg [⟨(some 2), .mv, [.k (.bool true)], none⟩] [2])
                .ret)
              .skip))
          (.seq
            (.reg [⟨(some 14), (.ld (some 2)), [.t 1], none⟩,
              ⟨(some 15), .call, [.k (.fn c_w_toParadigm []), .t 14], none⟩,
              ⟨(some 16), .call, [.k (.fn c_s_StemCandidates []), .t 15], none⟩,
              ⟨(some 4), .mv, [.t 16], none⟩] [1, 4])
            (.seq
              (.reg [⟨(some 17), (.ld (some 2)), [.t 1], none⟩,
                ⟨(some 18), .call, [.k (.fn c_w_toParadigm []), .t 17], none⟩,
                ⟨(some 19), .call, [.k (.fn c_i_StemCandidates []), .t 18], none⟩,
                ⟨(some 5), .mv, [.t 19], none⟩] [1, 4, 5])
              (.seq
                (.seq
                  (.reg [⟨(some 20), .mv, [.t 5], none⟩,
                    ⟨(some 21), .mv, [.t 4], none⟩,
                    ⟨(some 22), .call, [.k (.fn c_w_eqStringS []), .t 20, .t 21], none⟩,
                    ⟨(some 23), (.un .not), [.t 22], none⟩] [1, 4, 5, 23])
                  (.cond (.t 23)
                    (.seq
                      (.reg [⟨(some 2), .mv, [.k (.bool false)], none⟩] [2])
                      .ret)
                    .skip))
                (.seq
                  (.reg [⟨(some 6), .mv, [.k (.int .i64 1)], none⟩] [1, 4, 5, 6])
                  (.seq
                    (.reg [⟨(some 24), .mv, [.t 5], none⟩,
                      ⟨(some 25), .mv, [.t 6], none⟩,
                      ⟨(some 26), .call, [.k (.fn c_w_markStringS []), .t 24, .t 25], none⟩,
                      ⟨(some 6), .mv, [.t 26], none⟩] [1, 4, 5, 6])
                    (.seq
                      (.reg [⟨(some 7), .mv, [.k (.int .i64 1)], none⟩] [1, 4, 5, 6, 7])
                      (.seq
                        (.reg [⟨(some 27), .mv, [.t 5], none⟩,
                          ⟨(some 28), .mv, [.t 7], none⟩,
                          ⟨(some 29), .call, [.k (.fn c_w_heldStringS []), .t 27, .t 28], none⟩,
                          ⟨(some 7), .mv, [.t 29], none⟩] [1, 4, 5, 6, 7])
                        (.seq
                          (.seq
                            (.reg [⟨(some 30), .mv, [.t 7], none⟩,
                              ⟨(some 31), (.bin .lss), [.t 30, .k (.int .i64 0)], none⟩] [1, 4, 5, 6, 7, 31])
                            (.cond (.t 31)
                              (.seq
                                (.reg [⟨(some 2), .mv, [.k (.bool false)], none⟩] [2])
                                .ret)
                              .skip))
                          (.seq
                            (.seq
                              (.reg [⟨(some 32), .mv, [.t 7], none⟩,
                                ⟨(some 33), .mv, [.t 6], none⟩,
                                ⟨(some 34), (.bin .neq), [.t 32, .t 33], none⟩] [1, 4, 5, 6, 34])
                              (.cond (.t 34)
                                (.seq
                                  (.reg [⟨(some 2), .mv, [.k (.bool false)], none⟩] [2])
                                  .ret)
                                .skip))
                            (.seq
                              (.reg [⟨(some 35), (.ld (some 2)), [.t 1], none⟩,
                                ⟨(some 36), .call, [.k (.fn c_w_toParadigm []), .t 35], none⟩,
                                ⟨(some 37), .call, [.k (.fn c_i_StemCandidates []), .t 36], none⟩,
                                ⟨(some 8), .mv, [.t 37], none⟩] [4, 5, 6, 8])
                              (.seq
                                (.seq
                                  (.reg [⟨(some 38), .mv, [.t 8], none⟩,
                                    ⟨(some 39), .mv, [.t 4], none⟩,
                                    ⟨(some 40), .call, [.k (.fn c_w_eqStringS []), .t 38, .t 39], none⟩,
                                    ⟨(some 41), (.un .not), [.t 40], none⟩] [5, 6, 41])
                                  (.cond (.t 41)
                                    (.seq
                                      (.reg [⟨(some 2), .mv, [.k (.bool false)], none⟩] [2])
                                      .ret)
                                    .skip))
                                (.seq
                                  (.reg [⟨(some 7), .mv, [.k (.int .i64 1)], none⟩] [5, 6, 7])
                                  (.seq
                                    (.reg [⟨(some 42), .mv, [.t 5], none⟩,
                                      ⟨(some 43), .mv, [.t 7], none⟩,
                                      ⟨(some 44), .call, [.k (.fn c_w_heldStringS []), .t 42, .t 43], none⟩,
                                      ⟨(some 7), .mv, [.t 44], none⟩] [6, 7])
                                    (.seq
                                      (.seq
                                        (.reg [⟨(some 45), .mv, [.t 7], none⟩,
                                          ⟨(some 46), (.bin .lss), [.t 45, .k (.int .i64 0)], none⟩] [6, 7, 46])
                                        (.cond (.t 46)
                                          (.seq
                                            (.reg [⟨(some 2), .mv, [.k (.bool false)], none⟩] [2])
                                            .ret)
                                          .skip))
                                      (.seq
                                        (.seq
                                          (.reg [⟨(some 47), .mv, [.t 7], none⟩,
                                            ⟨(some 48), .mv, [.t 6], none⟩,
                                            ⟨(some 49), (.bin .neq), [.t 47, .t 48], none⟩] [49])
                                          (.cond (.t 49)
                                            (.seq
                                              (.reg [⟨(some 2), .mv, [.k (.bool false)], none⟩] [2])
                                              .ret)
                                            .skip))
                                        (.seq
                                          (.reg [⟨(some 2), .mv, [.k (.bool true)], none⟩] [2])
                                          .ret))))))))))))))))))))
def w_FnExactStemCandidates.F : Cfg := ⟨fun _ => 0, fun r => match r with | 0 => [1] | 1 => [1, 3] | 2 => [1, 3] | 3 => [1, 13] | 4 => [2] | 5 => [1, 4] | 6 => [1, 4, 5] | 7 => [1, 4, 5, 23] | 8 => [2] | 9 => [1, 4, 5, 6] | 10 => [1, 4, 5, 6] | 11 => [1, 4, 5, 6, 7] | 12 => [1, 4, 5, 6, 7] | 13 => [1, 4, 5, 6, 7, 31] | 14 => [2] | 15 => [1, 4, 5, 6, 34] | 16 => [2] | 17 => [4, 5, 6, 8] | 18 => [5, 6, 41] | 19 => [2] | 20 => [5, 6, 7] | 21 => [6, 7] | 22 => [6, 7, 46] | 23 => [2] | 24 => [49] | 25 => [2] | 26 => [2] | _ => []⟩
def w_FnExactStemCandidates.X (c_w_szParadigm c_w_toParadigm c_s_StemCandidates c_i_StemCandidates c_w_eqStringS c_w_markStringS c_w_heldStringS : Nat) : FX := ⟨50, [.tmp 2], w_FnExactStemCandidates.F, w_FnExactStemCandidates.x c_w_szParadigm c_w_toParadigm c_s_StemCandidates c_i_StemCandidates c_w_eqStringS c_w_markStringS c_w_heldStringS⟩

set_option maxHeartbeats 2000000 in
theorem w_FnExactStemCandidates.ok {P : Program} {k c_w_szParadigm c_w_toParadigm c_s_StemCandidates c_i_StemCandidates c_w_eqStringS c_w_markStringS c_w_heldStringS : Nat} (hk : Has P k (w_FnExactStemCandidates.X c_w_szParadigm c_w_toParadigm c_s_StemCandidates c_i_StemCandidates c_w_eqStringS c_w_markStringS c_w_heldStringS)) (h1 : C_szParadigm P c_w_szParadigm) (h2 : C_toParadigm P c_w_toParadigm) (h3 : C_StemCandidates P c_s_StemCandidates) (h4 : C_iStem P c_i_StemCandidates) (h5 : C_eqStringS P c_w_eqStringS) (h6 : C_markStringS P c_w_markStringS) (h7 : C_heldStringS P c_w_heldStringS) (h8 : C_markStringS0 P c_w_markStringS) : C_lawPara P k := by
  intro a b ha hb n H
  have hsl := stems_len a b
  refine S.ofX hk rfl fun hB fn hr => ?_
  unfold w_FnExactStemCandidates.x
  repeat' (first
    | refine S.seq ?_
    | refine S.skip ?_
    | refine S.block ?_
    | refine S.inBlock ?_
    | refine S.exit rfl ?_
    | (refine S.reg ?_; simp (disch := first | omega | decide) only [AB, AL, AE, ↓reduceIte, Nat.reduceEqDiff, Nat.reduceBEq, Nat.reduceAdd, reduceCtorEq, wrap_i64, wrap_u8, if_ne, Int.toNat_natCast, toNat_subl, toNat_addl, u8_eq, u8_lit, UInt8.reduceOfNat])
    | (refine S.drw hk.mo (by kernel_rfl) ?_; simp (disch := first | omega | decide) only [AB, AL, AE, ↓reduceIte, Nat.reduceEqDiff, Nat.reduceBEq, Nat.reduceAdd, reduceCtorEq, wrap_i64, wrap_u8, if_ne, Int.toNat_natCast, toNat_subl, toNat_addl, u8_eq, u8_lit, UInt8.reduceOfNat])
    | (refine RunsF.apf (h1 _ _ _ ha hb (by omega) (by omega)) rfl ?_; try simp (disch := first | omega | decide) only [AB, AL, AE, ↓reduceIte, Nat.reduceEqDiff, Nat.reduceBEq, Nat.reduceAdd, reduceCtorEq, wrap_i64, wrap_u8, if_ne, Int.toNat_natCast, toNat_subl, toNat_addl, u8_eq, u8_lit, UInt8.reduceOfNat])
    | (refine RunsF.apd (h1 _ _ _ ha hb (by omega) (by omega)) rfl ?_; try simp (disch := first | omega | decide) only [AB, AL, AE, ↓reduceIte, Nat.reduceEqDiff, Nat.reduceBEq, Nat.reduceAdd, reduceCtorEq, wrap_i64, wrap_u8, if_ne, Int.toNat_natCast, toNat_subl, toNat_addl, u8_eq, u8_lit, UInt8.reduceOfNat])
    | (refine RunsF.apf (h2 _ _) rfl ?_; try simp (disch := first | omega | decide) only [AB, AL, AE, ↓reduceIte, Nat.reduceEqDiff, Nat.reduceBEq, Nat.reduceAdd, reduceCtorEq, wrap_i64, wrap_u8, if_ne, Int.toNat_natCast, toNat_subl, toNat_addl, u8_eq, u8_lit, UInt8.reduceOfNat])
    | (refine RunsF.apd (h2 _ _) rfl ?_; try simp (disch := first | omega | decide) only [AB, AL, AE, ↓reduceIte, Nat.reduceEqDiff, Nat.reduceBEq, Nat.reduceAdd, reduceCtorEq, wrap_i64, wrap_u8, if_ne, Int.toNat_natCast, toNat_subl, toNat_addl, u8_eq, u8_lit, UInt8.reduceOfNat])
    | (refine RunsF.apf (h3 _ _ (by have := szTwo_le ‹0 ≤ szTwo a b 1048576›; omega) (by have := szTwo_le ‹0 ≤ szTwo a b 1048576›; omega)) rfl ?_; try simp (disch := first | omega | decide) only [AB, AL, AE, ↓reduceIte, Nat.reduceEqDiff, Nat.reduceBEq, Nat.reduceAdd, reduceCtorEq, wrap_i64, wrap_u8, if_ne, Int.toNat_natCast, toNat_subl, toNat_addl, u8_eq, u8_lit, UInt8.reduceOfNat])
    | (refine RunsF.apd (h3 _ _ (by have := szTwo_le ‹0 ≤ szTwo a b 1048576›; omega) (by have := szTwo_le ‹0 ≤ szTwo a b 1048576›; omega)) rfl ?_; try simp (disch := first | omega | decide) only [AB, AL, AE, ↓reduceIte, Nat.reduceEqDiff, Nat.reduceBEq, Nat.reduceAdd, reduceCtorEq, wrap_i64, wrap_u8, if_ne, Int.toNat_natCast, toNat_subl, toNat_addl, u8_eq, u8_lit, UInt8.reduceOfNat])
    | (refine S.cond rfl (fun hc => ?_) (fun hc => ?_) <;> try simp only [decide_eq_true_eq, decide_eq_false_iff_not, Bool.not_eq_true', Bool.not_eq_false', beq_iff_eq, bne_iff_ne, beq_eq_false_iff_ne, bne_eq_false_iff_eq, ne_eq, Decidable.not_not, Int.not_lt, Int.not_le, Bool.and_eq_true, Bool.or_eq_true, Bool.and_eq_false_iff, Bool.or_eq_false_iff, Bool.not_true, Bool.not_false] at hc)
    | (refine Gd.on (fun hg => ?_) (fun hg => ?_) <;> simp only [hg, AB, AL, AE, ↓reduceIte, Nat.reduceEqDiff, Nat.reduceBEq, Nat.reduceAdd, reduceCtorEq] <;> (try simp only [decide_eq_true_eq, decide_eq_false_iff_not, Bool.not_eq_true', Bool.not_eq_false', beq_iff_eq, bne_iff_ne, beq_eq_false_iff_ne, bne_eq_false_iff_eq, ne_eq, Decidable.not_not, Int.not_lt, Int.not_le, Bool.and_eq_true, Bool.or_eq_true, Bool.and_eq_false_iff, Bool.or_eq_false_iff, Bool.not_true, Bool.not_false] at hg) <;> try simp (disch := first | omega | decide) only [AB, AL, AE, ↓reduceIte, Nat.reduceEqDiff, Nat.reduceBEq, Nat.reduceAdd, reduceCtorEq, wrap_i64, wrap_u8, if_ne, Int.toNat_natCast, toNat_subl, toNat_addl, u8_eq, u8_lit, UInt8.reduceOfNat])
    | refine S.retH hr rfl ?_
    | refine S.finH hr rfl ?_
    | (refine S.retK hr ?_; simp (disch := first | omega | decide) only [retK_nil, retK_tmp, retK_cell, retC_ptr, retC_fptr, AB, AL, AE, ↓reduceIte, Nat.reduceEqDiff, Nat.reduceBEq, Nat.reduceAdd, reduceCtorEq, if_ne])
    | (refine Fin.pure hB (by first | exact List.Sublist.refl _ | (repeat first | exact List.Sublist.refl _ | apply List.Sublist.cons)) rfl ?_; try simp (disch := first | omega | decide) only [AB, AL, AE, ↓reduceIte, Nat.reduceEqDiff, Nat.reduceBEq, Nat.reduceAdd, reduceCtorEq, wrap_i64, wrap_u8, if_ne, Int.toNat_natCast, toNat_subl, toNat_addl, u8_eq, u8_lit, UInt8.reduceOfNat]; try simp only [AV.bool.injEq, AV.int.injEq, AV.str.injEq, AV.sl.injEq, AV.tup.injEq, List.cons.injEq, and_true, true_and])
    | (with_reducible refine And.intro ?_ ?_; focus (first | omega | (simp only [List.length_cons, List.length_nil]; omega) | (simp [rowsOk]; done)); try simp (disch := first | omega | decide) only [AB, AL, AE, ↓reduceIte, Nat.reduceEqDiff, Nat.reduceBEq, Nat.reduceAdd, reduceCtorEq, wrap_i64, wrap_u8, if_ne, Int.toNat_natCast, toNat_subl, toNat_addl, u8_eq, u8_lit, UInt8.reduceOfNat]))
  refine RunsA.own (h4 a b (by have := szTwo_le ‹0 ≤ szTwo a b 1048576›; omega) (by have := szTwo_le ‹0 ≤ szTwo a b 1048576›; omega)) (strs_simple _) (.cons (.same _) .nil) rfl ?_ (fun hnil => ?_)
  · skip
    simp (disch := first | omega | decide) only [AB, AL, AE, ↓reduceIte, Nat.reduceEqDiff, Nat.reduceBEq, Nat.reduceAdd, reduceCtorEq, wrap_i64, wrap_u8, if_ne, Int.toNat_natCast, toNat_subl, toNat_addl, u8_eq, u8_lit, UInt8.reduceOfNat]
    repeat' (first
      | refine S.seq ?_
      | refine S.skip ?_
      | refine S.block ?_
      | refine S.inBlock ?_
      | refine S.exit rfl ?_
      | (refine S.reg ?_; simp (disch := first | omega | decide) only [AB, AL, AE, ↓reduceIte, Nat.reduceEqDiff, Nat.reduceBEq, Nat.reduceAdd, reduceCtorEq, wrap_i64, wrap_u8, if_ne, Int.toNat_natCast, toNat_subl, toNat_addl, u8_eq, u8_lit, UInt8.reduceOfNat])
      | (refine S.drw hk.mo (by kernel_rfl) ?_; simp (disch := first | omega | decide) only [AB, AL, AE, ↓reduceIte, Nat.reduceEqDiff, Nat.reduceBEq, Nat.reduceAdd, reduceCtorEq, wrap_i64, wrap_u8, if_ne, Int.toNat_natCast, toNat_subl, toNat_addl, u8_eq, u8_lit, UInt8.reduceOfNat])
      | (refine RunsF.bor (h5 (stems a b) (stems a b) (by omega) (by omega)) rfl (.cons (Bor.strs rfl (by simp [hget])) (.cons (.same _) .nil)) ?_; try simp (disch := first | omega | decide) only [AB, AL, AE, ↓reduceIte, Nat.reduceEqDiff, Nat.reduceBEq, Nat.reduceAdd, reduceCtorEq, wrap_i64, wrap_u8, if_ne, Int.toNat_natCast, toNat_subl, toNat_addl, u8_eq, u8_lit, UInt8.reduceOfNat])
      | (refine Runs.det (h6 1 _ _ _ n _ (by omega) (by omega) (by simp [hget]) (strs_flen _)) ?_; try simp (disch := first | omega | decide) only [AB, AL, AE, ↓reduceIte, Nat.reduceEqDiff, Nat.reduceBEq, Nat.reduceAdd, reduceCtorEq, wrap_i64, wrap_u8, if_ne, Int.toNat_natCast, toNat_subl, toNat_addl, u8_eq, u8_lit, UInt8.reduceOfNat])
      | (refine RunsF.bor (h7 1 (stems a b).length (by omega) (by omega)) rfl (.cons (Bor.strs (marks_len _ _) (by simp [hget])) (.cons (.same _) .nil)) ?_; try simp (disch := first | omega | decide) only [AB, AL, AE, ↓reduceIte, Nat.reduceEqDiff, Nat.reduceBEq, Nat.reduceAdd, reduceCtorEq, wrap_i64, wrap_u8, if_ne, Int.toNat_natCast, toNat_subl, toNat_addl, u8_eq, u8_lit, UInt8.reduceOfNat])
      | (refine RunsF.apf (h2 _ _) rfl ?_; try simp (disch := first | omega | decide) only [AB, AL, AE, ↓reduceIte, Nat.reduceEqDiff, Nat.reduceBEq, Nat.reduceAdd, reduceCtorEq, wrap_i64, wrap_u8, if_ne, Int.toNat_natCast, toNat_subl, toNat_addl, u8_eq, u8_lit, UInt8.reduceOfNat])
      | (refine RunsF.apd (h2 _ _) rfl ?_; try simp (disch := first | omega | decide) only [AB, AL, AE, ↓reduceIte, Nat.reduceEqDiff, Nat.reduceBEq, Nat.reduceAdd, reduceCtorEq, wrap_i64, wrap_u8, if_ne, Int.toNat_natCast, toNat_subl, toNat_addl, u8_eq, u8_lit, UInt8.reduceOfNat])
      | (refine RunsF.apf (iStem_f h4 _ _ (by have := szTwo_le ‹0 ≤ szTwo a b 1048576›; omega) (by have := szTwo_le ‹0 ≤ szTwo a b 1048576›; omega)) rfl ?_; try simp (disch := first | omega | decide) only [AB, AL, AE, ↓reduceIte, Nat.reduceEqDiff, Nat.reduceBEq, Nat.reduceAdd, reduceCtorEq, wrap_i64, wrap_u8, if_ne, Int.toNat_natCast, toNat_subl, toNat_addl, u8_eq, u8_lit, UInt8.reduceOfNat])
      | (refine RunsF.apd (iStem_f h4 _ _ (by have := szTwo_le ‹0 ≤ szTwo a b 1048576›; omega) (by have := szTwo_le ‹0 ≤ szTwo a b 1048576›; omega)) rfl ?_; try simp (disch := first | omega | decide) only [AB, AL, AE, ↓reduceIte, Nat.reduceEqDiff, Nat.reduceBEq, Nat.reduceAdd, reduceCtorEq, wrap_i64, wrap_u8, if_ne, Int.toNat_natCast, toNat_subl, toNat_addl, u8_eq, u8_lit, UInt8.reduceOfNat])
      | (refine RunsF.apf (h5 _ _ (by omega) (by omega)) rfl ?_; try simp (disch := first | omega | decide) only [AB, AL, AE, ↓reduceIte, Nat.reduceEqDiff, Nat.reduceBEq, Nat.reduceAdd, reduceCtorEq, wrap_i64, wrap_u8, if_ne, Int.toNat_natCast, toNat_subl, toNat_addl, u8_eq, u8_lit, UInt8.reduceOfNat])
      | (refine RunsF.apd (h5 _ _ (by omega) (by omega)) rfl ?_; try simp (disch := first | omega | decide) only [AB, AL, AE, ↓reduceIte, Nat.reduceEqDiff, Nat.reduceBEq, Nat.reduceAdd, reduceCtorEq, wrap_i64, wrap_u8, if_ne, Int.toNat_natCast, toNat_subl, toNat_addl, u8_eq, u8_lit, UInt8.reduceOfNat])
      | (refine S.cond rfl (fun hc => ?_) (fun hc => ?_) <;> try simp only [decide_eq_true_eq, decide_eq_false_iff_not, Bool.not_eq_true', Bool.not_eq_false', beq_iff_eq, bne_iff_ne, beq_eq_false_iff_ne, bne_eq_false_iff_eq, ne_eq, Decidable.not_not, Int.not_lt, Int.not_le, Bool.and_eq_true, Bool.or_eq_true, Bool.and_eq_false_iff, Bool.or_eq_false_iff, Bool.not_true, Bool.not_false] at hc)
      | (refine Gd.on (fun hg => ?_) (fun hg => ?_) <;> simp only [hg, AB, AL, AE, ↓reduceIte, Nat.reduceEqDiff, Nat.reduceBEq, Nat.reduceAdd, reduceCtorEq] <;> (try simp only [decide_eq_true_eq, decide_eq_false_iff_not, Bool.not_eq_true', Bool.not_eq_false', beq_iff_eq, bne_iff_ne, beq_eq_false_iff_ne, bne_eq_false_iff_eq, ne_eq, Decidable.not_not, Int.not_lt, Int.not_le, Bool.and_eq_true, Bool.or_eq_true, Bool.and_eq_false_iff, Bool.or_eq_false_iff, Bool.not_true, Bool.not_false] at hg) <;> try simp (disch := first | omega | decide) only [AB, AL, AE, ↓reduceIte, Nat.reduceEqDiff, Nat.reduceBEq, Nat.reduceAdd, reduceCtorEq, wrap_i64, wrap_u8, if_ne, Int.toNat_natCast, toNat_subl, toNat_addl, u8_eq, u8_lit, UInt8.reduceOfNat])
      | refine S.retH hr rfl ?_
      | refine S.finH hr rfl ?_
      | (refine S.retK hr ?_; simp (disch := first | omega | decide) only [retK_nil, retK_tmp, retK_cell, retC_ptr, retC_fptr, AB, AL, AE, ↓reduceIte, Nat.reduceEqDiff, Nat.reduceBEq, Nat.reduceAdd, reduceCtorEq, if_ne])
      | (refine Fin.pure hB (by first | exact List.Sublist.refl _ | (repeat first | exact List.Sublist.refl _ | apply List.Sublist.cons)) rfl ?_; try simp (disch := first | omega | decide) only [AB, AL, AE, ↓reduceIte, Nat.reduceEqDiff, Nat.reduceBEq, Nat.reduceAdd, reduceCtorEq, wrap_i64, wrap_u8, if_ne, Int.toNat_natCast, toNat_subl, toNat_addl, u8_eq, u8_lit, UInt8.reduceOfNat]; try simp only [AV.bool.injEq, AV.int.injEq, AV.str.injEq, AV.sl.injEq, AV.tup.injEq, List.cons.injEq, and_true, true_and])
      | (with_reducible refine And.intro ?_ ?_; focus (first | omega | (simp only [List.length_cons, List.length_nil]; omega) | (simp [rowsOk]; done)); try simp (disch := first | omega | decide) only [AB, AL, AE, ↓reduceIte, Nat.reduceEqDiff, Nat.reduceBEq, Nat.reduceAdd, reduceCtorEq, wrap_i64, wrap_u8, if_ne, Int.toNat_natCast, toNat_subl, toNat_addl, u8_eq, u8_lit, UInt8.reduceOfNat]))
    all_goals (try clear hr hk)
    all_goals (try clear ih); (try clear ih2); (try clear hr hk hB); (try dsimp only)
    all_goals first | rfl | omega | (simp_all; done) | (simp_all; omega) | (rw [Bool.eq_iff_iff]; simp_all; done) | (rw [Bool.eq_iff_iff]; simp_all; omega) | grind | (rw [Bool.eq_iff_iff]; grind)
  · skip
    have hst : stems a b = [] := by
      have := congrArg List.length hnil
      rw [strs_len] at this
      exact List.eq_nil_of_length_eq_zero this
    rw [hst]
    simp (disch := first | omega | decide) only [AB, AL, AE, ↓reduceIte, Nat.reduceEqDiff, Nat.reduceBEq, Nat.reduceAdd, reduceCtorEq, wrap_i64, wrap_u8, if_ne, Int.toNat_natCast, toNat_subl, toNat_addl, u8_eq, u8_lit, UInt8.reduceOfNat]
    repeat' (first
      | refine S.seq ?_
      | refine S.skip ?_
      | refine S.block ?_
      | refine S.inBlock ?_
      | refine S.exit rfl ?_
      | (refine S.reg ?_; simp (disch := first | omega | decide) only [AB, AL, AE, ↓reduceIte, Nat.reduceEqDiff, Nat.reduceBEq, Nat.reduceAdd, reduceCtorEq, wrap_i64, wrap_u8, if_ne, Int.toNat_natCast, toNat_subl, toNat_addl, u8_eq, u8_lit, UInt8.reduceOfNat])
      | (refine S.drw hk.mo (by kernel_rfl) ?_; simp (disch := first | omega | decide) only [AB, AL, AE, ↓reduceIte, Nat.reduceEqDiff, Nat.reduceBEq, Nat.reduceAdd, reduceCtorEq, wrap_i64, wrap_u8, if_ne, Int.toNat_natCast, toNat_subl, toNat_addl, u8_eq, u8_lit, UInt8.reduceOfNat])
      | (refine RunsF.apf (h2 _ _) rfl ?_; try simp (disch := first | omega | decide) only [AB, AL, AE, ↓reduceIte, Nat.reduceEqDiff, Nat.reduceBEq, Nat.reduceAdd, reduceCtorEq, wrap_i64, wrap_u8, if_ne, Int.toNat_natCast, toNat_subl, toNat_addl, u8_eq, u8_lit, UInt8.reduceOfNat])
      | (refine RunsF.apd (h2 _ _) rfl ?_; try simp (disch := first | omega | decide) only [AB, AL, AE, ↓reduceIte, Nat.reduceEqDiff, Nat.reduceBEq, Nat.reduceAdd, reduceCtorEq, wrap_i64, wrap_u8, if_ne, Int.toNat_natCast, toNat_subl, toNat_addl, u8_eq, u8_lit, UInt8.reduceOfNat])
      | (refine RunsF.apf (iStem_f h4 _ _ (by have := szTwo_le ‹0 ≤ szTwo a b 1048576›; omega) (by have := szTwo_le ‹0 ≤ szTwo a b 1048576›; omega)) rfl ?_; try simp (disch := first | omega | decide) only [AB, AL, AE, ↓reduceIte, Nat.reduceEqDiff, Nat.reduceBEq, Nat.reduceAdd, reduceCtorEq, wrap_i64, wrap_u8, if_ne, Int.toNat_natCast, toNat_subl, toNat_addl, u8_eq, u8_lit, UInt8.reduceOfNat])
      | (refine RunsF.apd (iStem_f h4 _ _ (by have := szTwo_le ‹0 ≤ szTwo a b 1048576›; omega) (by have := szTwo_le ‹0 ≤ szTwo a b 1048576›; omega)) rfl ?_; try simp (disch := first | omega | decide) only [AB, AL, AE, ↓reduceIte, Nat.reduceEqDiff, Nat.reduceBEq, Nat.reduceAdd, reduceCtorEq, wrap_i64, wrap_u8, if_ne, Int.toNat_natCast, toNat_subl, toNat_addl, u8_eq, u8_lit, UInt8.reduceOfNat])
      | (refine RunsF.apf (h5 [] [] (by decide) (by decide)) rfl ?_; try simp (disch := first | omega | decide) only [AB, AL, AE, ↓reduceIte, Nat.reduceEqDiff, Nat.reduceBEq, Nat.reduceAdd, reduceCtorEq, wrap_i64, wrap_u8, if_ne, Int.toNat_natCast, toNat_subl, toNat_addl, u8_eq, u8_lit, UInt8.reduceOfNat])
      | (refine RunsF.apd (h5 [] [] (by decide) (by decide)) rfl ?_; try simp (disch := first | omega | decide) only [AB, AL, AE, ↓reduceIte, Nat.reduceEqDiff, Nat.reduceBEq, Nat.reduceAdd, reduceCtorEq, wrap_i64, wrap_u8, if_ne, Int.toNat_natCast, toNat_subl, toNat_addl, u8_eq, u8_lit, UInt8.reduceOfNat])
      | (refine RunsF.apf (h8 _) rfl ?_; try simp (disch := first | omega | decide) only [AB, AL, AE, ↓reduceIte, Nat.reduceEqDiff, Nat.reduceBEq, Nat.reduceAdd, reduceCtorEq, wrap_i64, wrap_u8, if_ne, Int.toNat_natCast, toNat_subl, toNat_addl, u8_eq, u8_lit, UInt8.reduceOfNat])
      | (refine RunsF.apd (h8 _) rfl ?_; try simp (disch := first | omega | decide) only [AB, AL, AE, ↓reduceIte, Nat.reduceEqDiff, Nat.reduceBEq, Nat.reduceAdd, reduceCtorEq, wrap_i64, wrap_u8, if_ne, Int.toNat_natCast, toNat_subl, toNat_addl, u8_eq, u8_lit, UInt8.reduceOfNat])
      | (refine RunsF.apf (h7 1 0 (by omega) (by omega)) rfl ?_; try simp (disch := first | omega | decide) only [AB, AL, AE, ↓reduceIte, Nat.reduceEqDiff, Nat.reduceBEq, Nat.reduceAdd, reduceCtorEq, wrap_i64, wrap_u8, if_ne, Int.toNat_natCast, toNat_subl, toNat_addl, u8_eq, u8_lit, UInt8.reduceOfNat])
      | (refine RunsF.apd (h7 1 0 (by omega) (by omega)) rfl ?_; try simp (disch := first | omega | decide) only [AB, AL, AE, ↓reduceIte, Nat.reduceEqDiff, Nat.reduceBEq, Nat.reduceAdd, reduceCtorEq, wrap_i64, wrap_u8, if_ne, Int.toNat_natCast, toNat_subl, toNat_addl, u8_eq, u8_lit, UInt8.reduceOfNat])
      | (refine RunsF.apf (h5 _ [] (by omega) (by decide)) rfl ?_; try simp (disch := first | omega | decide) only [AB, AL, AE, ↓reduceIte, Nat.reduceEqDiff, Nat.reduceBEq, Nat.reduceAdd, reduceCtorEq, wrap_i64, wrap_u8, if_ne, Int.toNat_natCast, toNat_subl, toNat_addl, u8_eq, u8_lit, UInt8.reduceOfNat])
      | (refine RunsF.apd (h5 _ [] (by omega) (by decide)) rfl ?_; try simp (disch := first | omega | decide) only [AB, AL, AE, ↓reduceIte, Nat.reduceEqDiff, Nat.reduceBEq, Nat.reduceAdd, reduceCtorEq, wrap_i64, wrap_u8, if_ne, Int.toNat_natCast, toNat_subl, toNat_addl, u8_eq, u8_lit, UInt8.reduceOfNat])
      | (refine S.cond rfl (fun hc => ?_) (fun hc => ?_) <;> try simp only [decide_eq_true_eq, decide_eq_false_iff_not, Bool.not_eq_true', Bool.not_eq_false', beq_iff_eq, bne_iff_ne, beq_eq_false_iff_ne, bne_eq_false_iff_eq, ne_eq, Decidable.not_not, Int.not_lt, Int.not_le, Bool.and_eq_true, Bool.or_eq_true, Bool.and_eq_false_iff, Bool.or_eq_false_iff, Bool.not_true, Bool.not_false] at hc)
      | (refine Gd.on (fun hg => ?_) (fun hg => ?_) <;> simp only [hg, AB, AL, AE, ↓reduceIte, Nat.reduceEqDiff, Nat.reduceBEq, Nat.reduceAdd, reduceCtorEq] <;> (try simp only [decide_eq_true_eq, decide_eq_false_iff_not, Bool.not_eq_true', Bool.not_eq_false', beq_iff_eq, bne_iff_ne, beq_eq_false_iff_ne, bne_eq_false_iff_eq, ne_eq, Decidable.not_not, Int.not_lt, Int.not_le, Bool.and_eq_true, Bool.or_eq_true, Bool.and_eq_false_iff, Bool.or_eq_false_iff, Bool.not_true, Bool.not_false] at hg) <;> try simp (disch := first | omega | decide) only [AB, AL, AE, ↓reduceIte, Nat.reduceEqDiff, Nat.reduceBEq, Nat.reduceAdd, reduceCtorEq, wrap_i64, wrap_u8, if_ne, Int.toNat_natCast, toNat_subl, toNat_addl, u8_eq, u8_lit, UInt8.reduceOfNat])
      | refine S.retH hr rfl ?_
      | refine S.finH hr rfl ?_
      | (refine S.retK hr ?_; simp (disch := first | omega | decide) only [retK_nil, retK_tmp, retK_cell, retC_ptr, retC_fptr, AB, AL, AE, ↓reduceIte, Nat.reduceEqDiff, Nat.reduceBEq, Nat.reduceAdd, reduceCtorEq, if_ne])
      | (refine Fin.pure hB (by first | exact List.Sublist.refl _ | (repeat first | exact List.Sublist.refl _ | apply List.Sublist.cons)) rfl ?_; try simp (disch := first | omega | decide) only [AB, AL, AE, ↓reduceIte, Nat.reduceEqDiff, Nat.reduceBEq, Nat.reduceAdd, reduceCtorEq, wrap_i64, wrap_u8, if_ne, Int.toNat_natCast, toNat_subl, toNat_addl, u8_eq, u8_lit, UInt8.reduceOfNat]; try simp only [AV.bool.injEq, AV.int.injEq, AV.str.injEq, AV.sl.injEq, AV.tup.injEq, List.cons.injEq, and_true, true_and])
      | (with_reducible refine And.intro ?_ ?_; focus (first | omega | (simp only [List.length_cons, List.length_nil]; omega) | (simp [rowsOk]; done)); try simp (disch := first | omega | decide) only [AB, AL, AE, ↓reduceIte, Nat.reduceEqDiff, Nat.reduceBEq, Nat.reduceAdd, reduceCtorEq, wrap_i64, wrap_u8, if_ne, Int.toNat_natCast, toNat_subl, toNat_addl, u8_eq, u8_lit, UInt8.reduceOfNat]))
    all_goals (try clear hr hk)
    all_goals (try clear ih); (try clear ih2); (try clear hr hk hB); (try dsimp only)
    all_goals first | rfl | omega | (simp_all; done) | (simp_all; omega) | (rw [Bool.eq_iff_iff]; simp_all; done) | (rw [Bool.eq_iff_iff]; simp_all; omega) | grind | (rw [Bool.eq_iff_iff]; grind)
end Go.Lib05
