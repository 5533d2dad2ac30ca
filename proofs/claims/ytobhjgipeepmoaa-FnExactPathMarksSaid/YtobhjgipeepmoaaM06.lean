/- Sums of marks, marks of paths. Over any program. -/
import Derived.Test.YtobhjgipeepmoaaM04
namespace Go.M06
open Go.Ab Go.Lib01 Go.Lib02 Go.Lib03 Go.Lib04 Go.M01 Go.M02 Go.M03 Go.M04
set_option linter.unusedVariables false
set_option linter.unusedSimpArgs false
set_option maxRecDepth 2000

def C_cloneI (P : Program) (k : Nat) : Prop := ∀ l : List Int, l ≠ [] → l.length ≤ 4294967296 → RunsO P k [.sl (enc l)] (.sl (enc l))
/-- slices.Clone[[]int,int] -/
def slices_Clone_int_int.x : XCode :=
  (.seq
    (.reg [⟨(some 2), .mv, [.k (.nilsl)], none⟩] [0])
    (.seq
      (.seq
        (.reg [⟨(some 3), .mv, [.t 0], none⟩,
          ⟨(some 4), .eqNil, [.t 3, .k (.nilsl)], none⟩] [0, 4])
        (.cond (.t 4)
          (.seq
            (.reg [⟨(some 2), .mv, [.k (.nilsl)], none⟩] [2])
            .ret)
          .skip))
      (.seq
        (.reg [⟨(some 5), (.bsl 1 1), [], none⟩,
          ⟨(some 6), .mv, [.t 0], none⟩,
          ⟨(some 7), (.app 1 8), [.t 5, .t 6], none⟩,
          ⟨(some 2), .mv, [.t 7], none⟩] [2])
        .ret)))
def slices_Clone_int_int.F : Cfg := ⟨fun d => if d = 5 then 1 else 0, fun r => match r with | 0 => [0] | 1 => [0, 4] | 2 => [2] | 3 => [2] | _ => []⟩
def slices_Clone_int_int.X : FX := ⟨8, [.tmp 2], slices_Clone_int_int.F, slices_Clone_int_int.x⟩

theorem slices_Clone_int_int.ok {P : Program} {k : Nat} (hk : Has P k (slices_Clone_int_int.X)) : C_cloneI P k := by
  intro l hne hl n H
  obtain ⟨x, xs, rfl⟩ := List.exists_cons_of_ne_nil hne
  refine S.ofX hk rfl fun hB fn hr => ?_
  unfold slices_Clone_int_int.x
  repeat' (first
    | ((with_reducible refine S.go ?_); first | refine S.seq ?_ | refine S.skip ?_ | refine S.block ?_ | refine S.inBlock ?_ | refine S.exit rfl ?_ | refine S.regN ?_ | refine S.reg ?_ | refine S.drw hk.mo (by kernel_rfl) ?_ | (refine S.cond rfl (fun hc => ?_) (fun hc => ?_) <;> try simp only [HC] at hc) | refine S.retH hr rfl ?_ | refine S.finH hr rfl ?_ | (refine S.retK hr ?_; refine TR ?_) | fail)
    | ((first | with_reducible refine Ns.go ?_ | with_reducible refine XOs.go ?_ | with_reducible refine XDs.go ?_ | with_reducible refine OK.go ?_); (first | refine TT ?_ | (apply Ns.sc ⟨rfl, rfl⟩ rfl; intro hg) | (refine OK.tr ?_; refine TT ?_)); (try simp only [HC] at hg))
    | with_reducible exact rfl | exact ⟨rfl, rfl, rfl⟩
    | ((with_reducible refine Gd.go ?_); refine Gd.on (fun hg => ?_) (fun hg => ?_) <;> refine TG ?_ <;> (try simp only [HC] at hg))
    | ((with_reducible refine Fin.go ?_); first | (refine Fin.p ?_; first | exact FT | (try refine TT ?_; try simp only [LF])) | refine Fin.a0 ?_ | refine Fin.a ?_ | refine Fin.ni ?_ | refine Fin.v ?_ ?_ | refine Fin.r ?_ ?_ | exact Fin.th | (refine Fin.t ?_; try simp only [AV.sl.injEq]))
    | (refine And.go ?_; refine AndI ?_)
    | fail)
  refine ⟨?_, fun h => absurd h (by simp [enc])⟩
  repeat' (first
    | ((with_reducible refine S.go ?_); first | refine S.seq ?_ | refine S.skip ?_ | refine S.block ?_ | refine S.inBlock ?_ | refine S.exit rfl ?_ | refine S.regN ?_ | refine S.reg ?_ | refine S.drw hk.mo (by kernel_rfl) ?_ | (refine S.cond rfl (fun hc => ?_) (fun hc => ?_) <;> try simp only [HC] at hc) | refine S.retH hr rfl ?_ | refine S.finH hr rfl ?_ | (refine S.retK hr ?_; refine TR ?_) | fail)
    | ((first | with_reducible refine Ns.go ?_ | with_reducible refine XOs.go ?_ | with_reducible refine XDs.go ?_ | with_reducible refine OK.go ?_); (first | refine TT ?_ | (apply Ns.sc ⟨rfl, rfl⟩ rfl; intro hg) | (refine OK.tr ?_; refine TT ?_)); (try simp only [HC] at hg))
    | with_reducible exact rfl | exact ⟨rfl, rfl, rfl⟩
    | ((with_reducible refine Gd.go ?_); refine Gd.on (fun hg => ?_) (fun hg => ?_) <;> refine TG ?_ <;> (try simp only [HC] at hg))
    | ((with_reducible refine Fin.go ?_); first | (refine Fin.p ?_; first | exact FT | (try refine TT ?_; try simp only [LF])) | refine Fin.a0 ?_ | refine Fin.a ?_ | refine Fin.ni ?_ | refine Fin.v ?_ ?_ | refine Fin.r ?_ ?_ | exact Fin.th | (refine Fin.t ?_; try simp only [AV.sl.injEq]))
    | (refine And.go ?_; refine AndI ?_)
    | fail)
  all_goals (exfalso; exact Bool.noConfusion hc)

def addM (a b : List Int) : List Int := List.zipWith (· + ·) a b
theorem addM_len {a b : List Int} (h : a.length = b.length) : (addM a b).length = a.length := by simp [addM, h]
theorem addM_at {a b : List Int} {i : Nat} (h : a.length = b.length) (hi : i < a.length) : (addM a b).getD i default = a.getD i default + b.getD i default := by
  have hb : i < b.length := h ▸ hi
  simp [addM, List.getD_eq_getElem?_getD, List.getElem?_zipWith, hi, hb]
def Bnd (B : Int) (l : List Int) : Prop := ∀ x ∈ l, 0 ≤ x ∧ x ≤ B
theorem Bnd.at {B : Int} {l : List Int} (h : Bnd B l) {i : Nat} (hi : i < l.length) : 0 ≤ l.getD i default ∧ l.getD i default ≤ B := h _ (getD_mem hi)
theorem take_succ' {l : List Int} {i : Nat} (hi : i < l.length) : l.take (i + 1) = l.take i ++ [l.getD i default] := take_succ _ _ hi
theorem getD_set {l : List Int} {i j : Nat} {x : Int} (hi : i < l.length) : (l.set i x).getD j default = if i = j then x else l.getD j default := by
  simp only [List.getD_eq_getElem?_getD, List.getElem?_set, hi, if_true]
  split <;> rfl
theorem of_getD {l m : List Int} (h : l.length = m.length) (ha : ∀ j, j < l.length → l.getD j default = m.getD j default) : l = m := by
  have := eqg h ha
  simpa using this
def C_addM (P : Program) (k : Nat) : Prop := ∀ a b : List Int, a ≠ [] → a.length = b.length → a.length ≤ 4294967296 → Bnd 4294967296 a → Bnd 4294967296 b → RunsO P k [.sl (enc a), .sl (enc b)] (.sl (enc (addM a b)))
/-- spec.l31Add -/
def s_l31Add.x : XCode :=
  (.seq
    (.reg [⟨(some 4), .mv, [.k (.nilsl)], none⟩] [0, 1])
    (.seq
      (.reg [⟨(some 7), (.bsl 1 1), [], none⟩,
        ⟨(some 5), .mv, [.t 7], none⟩] [0, 1, 5])
      (.seq
        (.seq
          (.reg [⟨(some 6), .mv, [.k (.int .i64 0)], none⟩] [0, 1, 5, 6])
          (.block 0
            (.loop
              (.seq
                (.seq
                  (.reg [⟨(some 8), .mv, [.t 6], none⟩,
                    ⟨(some 9), .mv, [.t 0], none⟩,
                    ⟨(some 10), .lenL, [.t 9], none⟩,
                    ⟨(some 11), (.bin .lss), [.t 8, .t 10], none⟩] [0, 1, 5, 6, 11])
                  (.cond (.t 11)
                    .skip
                    (.exit 0)))
                (.seq
                  (.block 1
                    (.drw [(⟨(some 14), .mv, [.t 5], none⟩, []),
                      (⟨(some 15), .mv, [.t 0], none⟩, []),
                      (⟨(some 16), .mv, [.t 6], none⟩, []),
                      (⟨(some 17), (.idxA 1), [.t 15, .t 16], none⟩, [1, 2]),
                      (⟨(some 18), (.ld none), [.t 17], none⟩, [3]),
                      (⟨(some 19), .mv, [.t 1], none⟩, []),
                      (⟨(some 20), .mv, [.t 6], none⟩, []),
                      (⟨(some 21), (.idxA 1), [.t 19, .t 20], none⟩, [5, 6]),
                      (⟨(some 22), (.ld none), [.t 21], none⟩, [7]),
                      (⟨(some 23), (.bin .add), [.t 18, .t 22], none⟩, [4, 8]),
                      (⟨(some 24), (.bsl 0 1), [.t 23], none⟩, [9]),
                      (⟨(some 25), (.app 1 8), [.t 14, .t 24], none⟩, [0, 10]),
                      (⟨(some 5), .mv, [.t 25], none⟩, [11, 11, 0, 1, 2, 3, 4, 5, 6, 7, 8, 9, 10, 11])] [0, 1, 5, 6] [0, 0, 0, 0, 0, 0, 0, 0, 0, 0, 0, 2, 0]))
                  (.reg [⟨(some 12), .mv, [.t 6], none⟩,
                    ⟨(some 13), (.bin .add), [.t 12, .k (.int .i64 1)], none⟩,
                    ⟨(some 6), .mv, [.t 13], none⟩] [0, 1, 5, 6]))))))
        (.seq
          (.reg [⟨(some 26), .mv, [.t 5], none⟩,
            ⟨(some 4), .mv, [.t 26], none⟩] [4])
          .ret))))
def s_l31Add.F : Cfg := ⟨fun d => if d = 7 then 1 else 0, fun r => match r with | 0 => [0, 1] | 1 => [0, 1, 5] | 2 => [0, 1, 5, 6] | 3 => [0, 1, 5, 6, 11] | 4 => [0, 1, 5, 6] | 5 => [0, 1, 5, 6] | 6 => [4] | 1000005 => [0, 0, 0, 0, 0, 0, 0, 0, 0, 0, 0, 2, 0] | _ => []⟩
def s_l31Add.X : FX := ⟨27, [.tmp 4], s_l31Add.F, s_l31Add.x⟩

theorem s_l31Add.ok {P : Program} {k : Nat} (hk : Has P k (s_l31Add.X)) : C_addM P k := by
  intro a b hne hab hl ha hb n H
  refine S.ofX hk rfl fun hB fn hr => ?_
  unfold s_l31Add.x
  repeat' (first
    | ((with_reducible refine S.go ?_); first | refine S.seq ?_ | refine S.skip ?_ | refine S.block ?_ | refine S.inBlock ?_ | refine S.exit rfl ?_ | refine S.regN ?_ | refine S.reg ?_ | refine S.drw hk.mo (by kernel_rfl) ?_ | (refine S.cond rfl (fun hc => ?_) (fun hc => ?_) <;> try simp only [HC] at hc) | refine S.retH hr rfl ?_ | refine S.finH hr rfl ?_ | (refine S.retK hr ?_; refine TR ?_) | fail)
    | ((first | with_reducible refine Ns.go ?_ | with_reducible refine XOs.go ?_ | with_reducible refine XDs.go ?_ | with_reducible refine OK.go ?_); (first | refine TT ?_ | (apply Ns.sc ⟨rfl, rfl⟩ rfl; intro hg) | (refine OK.tr ?_; refine TT ?_)); (try simp only [HC] at hg))
    | with_reducible exact rfl | exact ⟨rfl, rfl, rfl⟩
    | ((with_reducible refine Gd.go ?_); refine Gd.on (fun hg => ?_) (fun hg => ?_) <;> refine TG ?_ <;> (try simp only [HC] at hg))
    | ((with_reducible refine Fin.go ?_); first | (refine Fin.p ?_; first | exact FT | (try refine TT ?_; try simp only [LF])) | refine Fin.a0 ?_ | refine Fin.a ?_ | refine Fin.ni ?_ | refine Fin.v ?_ ?_ | refine Fin.r ?_ ?_ | exact Fin.th | (refine Fin.t ?_; try simp only [AV.sl.injEq]))
    | (refine And.go ?_; refine AndI ?_)
    | fail)
  refine S.loopV (σ := Nat × (List Int)) [0, 1, 5, 6] (fun s => [(5, .acc n 1 (enc s.2)), (6, .int .i64 (s.1 : Int))]) (fun s => s.1 ≤ a.length ∧ s.2 = (addM a b).take s.1 ∧ s.2.length = s.1) (fun s => n + 1) (fun s => (n, .tok 1 s.2.length) :: H) (fun s => a.length - s.1) (0, []) (⟨by omega, ?_, ?_⟩) ?_
  · first | rfl | omega | (simp; done) | (simp; omega) | skip
  · first | rfl | omega | (simp; done) | (simp; omega) | skip
  rintro ⟨i, out⟩ ⟨hi1, hi2, hi3⟩ ih
  try dsimp only at hi1 hi2 hi3
  have hai : i < a.length → _ := fun h => ha.at h
  have hbi : i < b.length → _ := fun h => hb.at h
  repeat' (first
    | ((with_reducible refine S.go ?_); first | refine S.seq ?_ | refine S.skip ?_ | refine S.block ?_ | refine S.inBlock ?_ | refine S.exit rfl ?_ | refine S.regN ?_ | refine S.reg ?_ | refine S.drw hk.mo (by kernel_rfl) ?_ | refine S.ag (ih ((i + 1, _)) ?_ ?_) | (refine S.cond rfl (fun hc => ?_) (fun hc => ?_) <;> try simp only [HC] at hc) | refine S.retH hr rfl ?_ | refine S.finH hr rfl ?_ | (refine S.retK hr ?_; refine TR ?_) | fail)
    | ((first | with_reducible refine Ns.go ?_ | with_reducible refine XOs.go ?_ | with_reducible refine XDs.go ?_ | with_reducible refine OK.go ?_); (first | refine TT ?_ | (apply Ns.sc ⟨rfl, rfl⟩ rfl; intro hg) | (refine OK.tr ?_; refine TT ?_)); (try simp only [HC] at hg))
    | with_reducible exact rfl | exact ⟨rfl, rfl, rfl⟩
    | ((with_reducible refine Gd.go ?_); refine Gd.on (fun hg => ?_) (fun hg => ?_) <;> refine TG ?_ <;> (try simp only [HC] at hg))
    | ((with_reducible refine Fin.go ?_); first | (refine Fin.p ?_; first | exact FT | (try refine TT ?_; try simp only [LF])) | refine Fin.a0 ?_ | refine Fin.a ?_ | refine Fin.ni ?_ | refine Fin.v ?_ ?_ | refine Fin.r ?_ ?_ | exact Fin.th | (refine Fin.t ?_; try simp only [AV.sl.injEq]))
    | (refine And.go ?_; refine AndI ?_)
    | fail)
  all_goals (try clear ih)
  all_goals (try dsimp only)
  all_goals (repeat' apply And.intro)
  all_goals first | omega | (simp only [ZL]; omega) | skip
  all_goals (try clear hr hk hB)
  all_goals first | (rw [take_succ' (by rw [addM_len hab]; omega), addM_at hab (by omega), ← hi2]) | (rw [hi2, List.take_of_length_le (by rw [addM_len hab]; omega)])
/-- impl.addMarks -/
def i_addMarks.x (c_slices_Clone_int_int : Nat) : XCode :=
  (.seq
    (.reg [⟨(some 4), .mv, [.k (.nilsl)], none⟩] [0, 1])
    (.seq
      (.reg [⟨(some 7), .mv, [.t 0], none⟩,
        ⟨(some 8), .call, [.k (.fn c_slices_Clone_int_int []), .t 7], none⟩,
        ⟨(some 5), .mv, [.t 8], none⟩] [1, 5])
      (.seq
        (.seq
          (.reg [⟨(some 9), .mv, [.t 5], none⟩,
            ⟨(some 10), .lenL, [.t 9], none⟩,
            ⟨(some 11), .mv, [.k (.int .i64 0)], none⟩] [1, 5, 10, 11])
          (.block 0
            (.loop
              (.seq
                (.reg [⟨(some 12), (.bin .lss), [.t 11, .t 10], none⟩] [1, 5, 10, 11, 12])
                (.seq
                  (.cond (.t 12)
                    .skip
                    (.exit 0))
                  (.seq
                    (.block 1
                      (.seq
                        (.reg [⟨(some 13), .mv, [.t 11], none⟩,
                          ⟨(some 6), .mv, [.t 13], none⟩] [1, 5, 6, 10, 11])
                        (.drw [(⟨(some 14), .mv, [.t 5], none⟩, []),
                          (⟨(some 15), .mv, [.t 6], none⟩, []),
                          (⟨(some 16), (.idxA 1), [.t 14, .t 15], none⟩, [0, 1]),
                          (⟨(some 17), (.ld none), [.t 16], none⟩, [2]),
                          (⟨(some 18), .mv, [.t 1], none⟩, []),
                          (⟨(some 19), .mv, [.t 6], none⟩, []),
                          (⟨(some 20), (.idxA 1), [.t 18, .t 19], none⟩, [4, 5]),
                          (⟨(some 21), (.ld none), [.t 20], none⟩, [6]),
                          (⟨(some 22), (.bin .add), [.t 17, .t 21], none⟩, [3, 7]),
                          (⟨(some 23), (.idxA 1), [.t 14, .t 15], none⟩, [0, 1, 0, 1, 2, 3, 4, 5, 6, 7, 8]),
                          (⟨none, (.st none), [.t 23, .t 22], none⟩, [9, 8, 0, 1, 2, 3, 4, 5, 6, 7, 8])] [1, 5, 10, 11] [0, 0, 0, 1, 0, 0, 0, 0, 0, 0, 2])))
                    (.reg [⟨(some 24), (.bin .add), [.t 11, .k (.int .i64 1)], none⟩,
                      ⟨(some 11), .mv, [.t 24], none⟩] [1, 5, 10, 11])))))))
        (.seq
          (.reg [⟨(some 25), .mv, [.t 5], none⟩,
            ⟨(some 4), .mv, [.t 25], none⟩] [4])
          .ret))))
def i_addMarks.F : Cfg := ⟨fun _ => 0, fun r => match r with | 0 => [0, 1] | 1 => [1, 5] | 2 => [1, 5, 10, 11] | 3 => [1, 5, 10, 11, 12] | 4 => [1, 5, 6, 10, 11] | 5 => [1, 5, 10, 11] | 6 => [1, 5, 10, 11] | 7 => [4] | 1000005 => [0, 0, 0, 1, 0, 0, 0, 0, 0, 0, 2] | _ => []⟩
def i_addMarks.X (c_slices_Clone_int_int : Nat) : FX := ⟨26, [.tmp 4], i_addMarks.F, i_addMarks.x c_slices_Clone_int_int⟩

theorem i_addMarks.ok {P : Program} {k c_slices_Clone_int_int : Nat} (hk : Has P k (i_addMarks.X c_slices_Clone_int_int)) (h1 : C_cloneI P c_slices_Clone_int_int) : C_addM P k := by
  intro a b hne hab hl ha hb n H
  refine S.ofX hk rfl fun hB fn hr => ?_
  unfold i_addMarks.x
  repeat' (first
    | ((with_reducible refine S.go ?_); first | refine S.seq ?_ | refine S.skip ?_ | refine S.block ?_ | refine S.inBlock ?_ | refine S.exit rfl ?_ | refine S.regN ?_ | refine S.reg ?_ | refine S.drw hk.mo (by kernel_rfl) ?_ | (refine S.cond rfl (fun hc => ?_) (fun hc => ?_) <;> try simp only [HC] at hc) | refine S.retH hr rfl ?_ | refine S.finH hr rfl ?_ | (refine S.retK hr ?_; refine TR ?_) | fail)
    | ((first | with_reducible refine Ns.go ?_ | with_reducible refine XOs.go ?_ | with_reducible refine XDs.go ?_ | with_reducible refine OK.go ?_); (first | refine TT ?_ | (apply Ns.sc ⟨rfl, rfl⟩ rfl; intro hg) | (refine OK.tr ?_; refine TT ?_)); (try simp only [HC] at hg))
    | with_reducible exact rfl | exact ⟨rfl, rfl, rfl⟩
    | (refine RunsO.flatD 1 rfl (h1 a hne hl) (fun _ => rfl) hne (.cons (.same _) .nil) rfl (fun id n' hid hid2 => ?_); try refine TT ?_)
    | ((with_reducible refine Gd.go ?_); refine Gd.on (fun hg => ?_) (fun hg => ?_) <;> refine TG ?_ <;> (try simp only [HC] at hg))
    | ((with_reducible refine Fin.go ?_); first | (refine Fin.p ?_; first | exact FT | (try refine TT ?_; try simp only [LF])) | refine Fin.a0 ?_ | refine Fin.a ?_ | refine Fin.ni ?_ | refine Fin.v ?_ ?_ | refine Fin.r ?_ ?_ | exact Fin.th | (refine Fin.t ?_; try simp only [AV.sl.injEq]))
    | (refine And.go ?_; refine AndI ?_)
    | fail)
  refine S.loopV (σ := Nat × (List Int)) [1, 5, 10, 11] (fun s => [(11, .int .i64 (s.1 : Int))]) (fun s => s.1 ≤ a.length ∧ s.2.length = a.length ∧ (∀ j, j < s.1 → s.2.getD j default = (addM a b).getD j default) ∧ (∀ j, s.1 ≤ j → s.2.getD j default = a.getD j default)) (fun s => n') (fun s => (id, .own (enc s.2).flatten) :: H) (fun s => a.length - s.1) (0, a) (⟨by omega, ?_, ?_, ?_⟩) ?_
  · first | rfl | omega | (simp; done) | (simp; omega) | skip
  · first | rfl | omega | (simp; done) | (simp; omega) | skip
  · first | rfl | omega | (simp; done) | (simp; omega) | skip
  rintro ⟨i, out⟩ ⟨hi1, hi2, hi3, hi4⟩ ih
  try dsimp only at hi1 hi2 hi3 hi4
  have hai : i < a.length → _ := fun h => ha.at h
  have hbi : i < b.length → _ := fun h => hb.at h
  have hoi := hi4 i (Nat.le_refl _)
  have hoj : i < a.length → 0 ≤ out.getD i default ∧ out.getD i default ≤ 4294967296 := by rw [hoi]; exact hai
  repeat' (first
    | ((with_reducible refine S.go ?_); first | refine S.seq ?_ | refine S.skip ?_ | refine S.block ?_ | refine S.inBlock ?_ | refine S.exit rfl ?_ | refine S.regN ?_ | refine S.reg ?_ | refine S.drw hk.mo (by kernel_rfl) ?_ | refine S.ag (ih ((i + 1, _)) ?_ ?_) | (refine S.cond rfl (fun hc => ?_) (fun hc => ?_) <;> try simp only [HC] at hc) | refine S.retH hr rfl ?_ | refine S.finH hr rfl ?_ | (refine S.retK hr ?_; refine TR ?_) | fail)
    | ((first | with_reducible refine Ns.go ?_ | with_reducible refine XOs.go ?_ | with_reducible refine XDs.go ?_ | with_reducible refine OK.go ?_); (first | refine TT ?_ | (apply Ns.sc ⟨rfl, rfl⟩ rfl; intro hg) | (refine OK.tr ?_; refine TT ?_)); (try simp only [HC] at hg))
    | with_reducible exact rfl | exact ⟨rfl, rfl, rfl⟩
    | ((with_reducible refine Gd.go ?_); refine Gd.on (fun hg => ?_) (fun hg => ?_) <;> refine TG ?_ <;> (try simp only [HC] at hg))
    | ((with_reducible refine Fin.go ?_); first | (refine Fin.p ?_; first | exact FT | (try refine TT ?_; try simp only [LF])) | refine Fin.a0 ?_ | refine Fin.a ?_ | refine Fin.ni ?_ | refine Fin.v ?_ ?_ | refine Fin.r ?_ ?_ | exact Fin.th | (refine Fin.t ?_; try simp only [AV.sl.injEq]))
    | (refine And.go ?_; refine AndI ?_)
    | fail)
  all_goals (try clear ih)
  all_goals (try dsimp only)
  all_goals (repeat' apply And.intro)
  all_goals first | omega | (simp only [ZL]; omega) | skip
  all_goals (try clear hr hk hB)
  all_goals first | (rw [List.length_set]; exact hi2) | (intro j hj; rw [getD_set (by omega)]; split; (rename_i e; subst e; rw [hoi, addM_at hab (by omega)]); (exact hi3 j (by omega))) | (intro j hj; rw [getD_set (by omega)]; split; (exfalso; omega); (exact hi4 j (by omega))) | (exact of_getD (by rw [addM_len hab]; exact hi2) (fun j hj => hi3 j (by omega)))

/-! ### Paths -/
def pgo (names : List (List UInt8)) : List Link → List Int → UInt8 → List Int × UInt8
  | [], o, last => (o, last)
  | x :: xs, o, last => pgo names xs (addM o (stepM names last x)) (if x.2 = 0 then last else x.2)
theorem pgo_snoc (names : List (List UInt8)) (x : Link) : ∀ (c : List Link) (o : List Int) (last : UInt8), pgo names (c ++ [x]) o last = (addM (pgo names c o last).1 (stepM names (pgo names c o last).2 x), if x.2 = 0 then (pgo names c o last).2 else x.2)
  | [], o, last => rfl
  | y :: c, o, last => pgo_snoc names x c _ _
def zerosI (n : Nat) : List Int := List.replicate n 0
def pathM (names : List (List UInt8)) (c : List Link) : List Int := if areLoc names && isCand c then addM (pgo names c (zerosI names.length) 0).1 (endM names (pgo names c (zerosI names.length) 0).2) else []
theorem b01_bnd (b : Bool) : 0 ≤ b01 b ∧ b01 b ≤ 1 := by cases b <;> decide
theorem marksB_bnd (h : List UInt8 → Bool) (names : List (List UInt8)) : Bnd 1 (marksB h names) := fun x hx => by
  obtain ⟨nm, _, rfl⟩ := List.mem_map.mp hx
  exact b01_bnd _
theorem stepM_bnd (names : List (List UInt8)) (last : UInt8) (x : Link) : Bnd 1 (stepM names last x) := by
  unfold stepM; split
  · exact marksB_bnd _ _
  · intro x hx; cases hx
theorem endM_bnd (names : List (List UInt8)) (last : UInt8) : Bnd 1 (endM names last) := by
  unfold endM; split
  · exact marksB_bnd _ _
  · intro x hx; cases hx
theorem Bnd.le {B C : Int} {l : List Int} (h : Bnd B l) (hBC : B ≤ C) : Bnd C l := fun x hx => ⟨(h x hx).1, by have := (h x hx).2; omega⟩
theorem addM_bnd {B C : Int} {a b : List Int} (ha : Bnd B a) (hb : Bnd C b) : Bnd (B + C) (addM a b) := fun x hx => by
  obtain ⟨i, hi, rfl⟩ := List.getElem_of_mem hx
  simp only [addM, List.length_zipWith] at hi
  simp only [addM, List.getElem_zipWith]
  have h1 := ha _ (List.getElem_mem (show i < a.length by omega))
  have h2 := hb _ (List.getElem_mem (show i < b.length by omega))
  omega
theorem zeros_bnd (n : Nat) : Bnd 0 (zerosI n) := fun x hx => by rw [List.eq_of_mem_replicate hx]; omega
theorem stepM_full {names : List (List UInt8)} {last : UInt8} {x : Link} (h1 : areLoc names = true) (h2 : isLnk x = true) (h3 : isLastB last = true) : (stepM names last x).length = names.length := by
  unfold stepM; rw [h1, h2, h3]; exact marksB_len _ _
theorem endM_full {names : List (List UInt8)} {last : UInt8} (h1 : areLoc names = true) (h3 : isLastB last = true) : (endM names last).length = names.length := by
  unfold endM; rw [h1, h3]; exact marksB_len _ _
/-- What holds along a path. -/
theorem pgo_keep {names : List (List UInt8)} (h1 : areLoc names = true) : ∀ (c : List Link) (o : List Int) (last : UInt8) (B : Int), c.all isLnk = true → o.length = names.length → Bnd B o → isLastB last = true →
    (pgo names c o last).1.length = names.length ∧ Bnd (B + c.length) (pgo names c o last).1 ∧ isLastB (pgo names c o last).2 = true
  | [], o, last, B, _, a1, a2, a3 => ⟨a1, a2.le (by simp), a3⟩
  | x :: c, o, last, B, h, a1, a2, a3 => by
    rw [List.all_cons, Bool.and_eq_true] at h
    obtain ⟨e1, e2, e3⟩ := pgo_keep h1 c (addM o (stepM names last x)) (if x.2 = 0 then last else x.2) (B + 1) h.2 (by rw [addM_len (by rw [stepM_full h1 h.1 a3, a1])]; exact a1) (addM_bnd a2 (stepM_bnd names last x)) (by
      split
      · exact a3
      · exact lnk_out h.1)
    exact ⟨e1, e2.le (by rw [List.length_cons]; omega), e3⟩
theorem pgo_inv {names : List (List UInt8)} (h1 : areLoc names = true) (c : List Link) (h : c.all isLnk = true) : (pgo names c (zerosI names.length) 0).1.length = names.length ∧ Bnd c.length (pgo names c (zerosI names.length) 0).1 ∧ isLastB (pgo names c (zerosI names.length) 0).2 = true := by
  obtain ⟨a1, a2, a3⟩ := pgo_keep h1 c (zerosI names.length) 0 0 h (by simp [zerosI]) (zeros_bnd _) rfl
  exact ⟨a1, a2.le (by omega), a3⟩
theorem loc_ne {names : List (List UInt8)} (h : areLoc names = true) : names ≠ [] := by
  rintro rfl; revert h; decide
theorem all_take {α : Type} {l : List α} {p : α → Bool} (h : l.all p = true) (i : Nat) : (l.take i).all p = true := by
  rw [List.all_eq_true] at h ⊢
  exact fun x hx => h x (List.mem_of_mem_take hx)
theorem all_at {α : Type} [Inhabited α] {l : List α} {p : α → Bool} (h : l.all p = true) {i : Nat} (hi : i < l.length) : p (l.getD i default) = true := by
  rw [List.all_eq_true] at h
  exact h _ (getD_mem hi)
def C_PathMarks (P : Program) (k : Nat) : Prop := ∀ (names : List (List UInt8)) (c : List Link), names.length ≤ 4294967295 → c.length ≤ 4294967295 → RunsO P k [.sl (enc names), .agg [.sl (enc c)]] (.sl (enc (pathM names c)))
/-- spec.PathMarks -/
def s_PathMarks.x (c_s_AreLocal c_s_IsCandidate c_s_StepMarks c_s_l31Add c_s_EndMarks : Nat) : XCode :=
  (.seq
    (.reg [⟨(some 3), .boxF, [.t 1], none⟩,
      ⟨(some 4), .mv, [.k (.nilsl)], none⟩] [0, 3])
    (.seq
      (.seq
        (.reg (flatNs none (nl [.op (some 8) .mv [.t 0], .op (some 9) .call [.k (.fn c_s_AreLocal []), .t 8], .op (some 10) (.un .not) [.t 9], .op (some 11) .mv [.t 10], .sc 11 false (nl [.op (some 12) (.ld (some 1)) [.t 3], .op (some 13) .call [.k (.fn c_s_IsCandidate []), .t 12], .op (some 14) (.un .not) [.t 13]]) (.t 14) (some 15)])) [0, 3, 15])
        (.cond (.t 15)
          (.seq
            (.reg [⟨(some 16), (.bsl 1 1), [], none⟩,
              ⟨(some 4), .mv, [.t 16], none⟩] [4])
            .ret)
          .skip))
      (.seq
        (.reg [⟨(some 17), .mv, [.t 0], none⟩,
          ⟨(some 18), .lenL, [.t 17], none⟩,
          ⟨(some 19), (.mks 0 1 8 [.int .i64 0]), [.t 18, .t 18], none⟩,
          ⟨(some 5), .mv, [.t 19], none⟩] [0, 3, 5])
        (.seq
          (.reg [⟨(some 6), .mv, [.k (.int .u8 0)], none⟩] [0, 3, 5, 6])
          (.seq
            (.seq
              (.reg [⟨(some 7), .mv, [.k (.int .i64 0)], none⟩] [0, 3, 5, 6, 7])
              (.block 0
                (.loop
                  (.seq
                    (.seq
                      (.reg [⟨(some 20), .mv, [.t 7], none⟩,
                        ⟨(some 21), (.fldA 0), [.t 3], none⟩,
                        ⟨(some 22), (.ld none), [.t 21], none⟩,
                        ⟨(some 23), .lenL, [.t 22], none⟩,
                        ⟨(some 24), (.bin .lss), [.t 20, .t 23], none⟩] [0, 3, 5, 6, 7, 24])
                      (.cond (.t 24)
                        .skip
                        (.exit 0)))
                    (.seq
                      (.block 1
                        (.seq
                          (.reg [⟨(some 27), .mv, [.t 5], none⟩,
                            ⟨(some 28), .mv, [.t 0], none⟩,
                            ⟨(some 29), .mv, [.t 6], none⟩,
                            ⟨(some 30), (.fldA 0), [.t 3], none⟩,
                            ⟨(some 31), (.ld none), [.t 30], none⟩,
                            ⟨(some 32), .mv, [.t 7], none⟩,
                            ⟨(some 33), (.idxA 2), [.t 31, .t 32], none⟩,
                            ⟨(some 34), (.ld (some 2)), [.t 33], none⟩,
                            ⟨(some 35), .call, [.k (.fn c_s_StepMarks []), .t 28, .t 29, .t 34], none⟩,
                            ⟨(some 36), .call, [.k (.fn c_s_l31Add []), .t 27, .t 35], none⟩,
                            ⟨(some 5), .mv, [.t 36], none⟩] [0, 3, 5, 6, 7])
                          (.seq
                            (.reg [⟨(some 37), (.fldA 0), [.t 3], none⟩,
                              ⟨(some 38), (.ld none), [.t 37], none⟩,
                              ⟨(some 39), .mv, [.t 7], none⟩,
                              ⟨(some 40), (.idxA 2), [.t 38, .t 39], none⟩,
                              ⟨(some 41), (.fldA 1), [.t 40], none⟩,
                              ⟨(some 42), (.ld none), [.t 41], none⟩,
                              ⟨(some 43), (.bin .neq), [.t 42, .k (.int .u8 0)], none⟩] [0, 3, 5, 6, 7, 43])
                            (.cond (.t 43)
                              (.reg [⟨(some 44), (.fldA 0), [.t 3], none⟩,
                                ⟨(some 45), (.ld none), [.t 44], none⟩,
                                ⟨(some 46), .mv, [.t 7], none⟩,
                                ⟨(some 47), (.idxA 2), [.t 45, .t 46], none⟩,
                                ⟨(some 48), (.fldA 1), [.t 47], none⟩,
                                ⟨(some 49), (.ld none), [.t 48], none⟩,
                                ⟨(some 6), .mv, [.t 49], none⟩] [0, 3, 5, 6, 7])
                              .skip))))
                      (.reg [⟨(some 25), .mv, [.t 7], none⟩,
                        ⟨(some 26), (.bin .add), [.t 25, .k (.int .i64 1)], none⟩,
                        ⟨(some 7), .mv, [.t 26], none⟩] [0, 3, 5, 6, 7]))))))
            (.seq
              (.reg [⟨(some 50), .mv, [.t 5], none⟩,
                ⟨(some 51), .mv, [.t 0], none⟩,
                ⟨(some 52), .mv, [.t 6], none⟩,
                ⟨(some 53), .call, [.k (.fn c_s_EndMarks []), .t 51, .t 52], none⟩,
                ⟨(some 54), .call, [.k (.fn c_s_l31Add []), .t 50, .t 53], none⟩,
                ⟨(some 4), .mv, [.t 54], none⟩] [4])
              .ret))))))
def s_PathMarks.F : Cfg := ⟨fun d => if d = 16 then 1 else 0, fun r => match r with | 0 => [0, 3] | 1 => [0, 3, 15] | 2 => [4] | 3 => [0, 3, 5] | 4 => [0, 3, 5, 6] | 5 => [0, 3, 5, 6, 7] | 6 => [0, 3, 5, 6, 7, 24] | 7 => [0, 3, 5, 6, 7] | 8 => [0, 3, 5, 6, 7] | 9 => [0, 3, 5, 6, 7, 43] | 10 => [0, 3, 5, 6, 7] | 11 => [4] | _ => []⟩
def s_PathMarks.X (c_s_AreLocal c_s_IsCandidate c_s_StepMarks c_s_l31Add c_s_EndMarks : Nat) : FX := ⟨55, [.tmp 4], s_PathMarks.F, s_PathMarks.x c_s_AreLocal c_s_IsCandidate c_s_StepMarks c_s_l31Add c_s_EndMarks⟩

set_option maxHeartbeats 2000000 in
theorem s_PathMarks.ok {P : Program} {k c_s_AreLocal c_s_IsCandidate c_s_StepMarks c_s_l31Add c_s_EndMarks : Nat} (hk : Has P k (s_PathMarks.X c_s_AreLocal c_s_IsCandidate c_s_StepMarks c_s_l31Add c_s_EndMarks)) (h1 : C_AreLocal P c_s_AreLocal) (h2 : C_IsCandidate P c_s_IsCandidate) (h3 : C_StepMarks P c_s_StepMarks) (h4 : C_EndMarks P c_s_EndMarks) (h5 : C_addM P c_s_l31Add) : C_PathMarks P k := by
  intro names c hl hc n H
  have k1 := h1 names (by omega)
  have k2 := h2 c hc
  refine S.ofX hk rfl fun hB fn hr => ?_
  unfold s_PathMarks.x
  repeat' (first
    | ((with_reducible refine S.go ?_); first | refine S.seq ?_ | refine S.skip ?_ | refine S.block ?_ | refine S.inBlock ?_ | refine S.exit rfl ?_ | refine S.regN ?_ | refine S.reg ?_ | refine S.drw hk.mo (by kernel_rfl) ?_ | (refine S.cond rfl (fun hc => ?_) (fun hc => ?_) <;> try simp only [HC] at hc) | refine S.retH hr rfl ?_ | refine S.finH hr rfl ?_ | (refine S.retK hr ?_; refine TR ?_) | fail)
    | ((first | with_reducible refine Ns.go ?_ | with_reducible refine XOs.go ?_ | with_reducible refine XDs.go ?_ | with_reducible refine OK.go ?_); (first | refine TT ?_ | (apply Ns.sc ⟨rfl, rfl⟩ rfl; intro hg) | (refine OK.tr ?_; refine TT ?_)); (try simp only [HC] at hg))
    | with_reducible exact rfl | exact ⟨rfl, rfl, rfl⟩
    | ((with_reducible refine RunsT.go ?_); first | refine RunsF.apf (k1) rfl ?_ | refine RunsF.apf (k2) rfl ?_ | fail)
    | ((with_reducible refine RunsD.go ?_); first | refine RunsF.apd (k1) rfl ?_ | refine RunsF.apd (k2) rfl ?_ | fail)
    | ((with_reducible refine Gd.go ?_); refine Gd.on (fun hg => ?_) (fun hg => ?_) <;> refine TG ?_ <;> (try simp only [HC] at hg))
    | ((with_reducible refine Fin.go ?_); first | (refine Fin.p ?_; first | exact FT | (try refine TT ?_; try simp only [LF])) | refine Fin.a0 ?_ | refine Fin.a ?_ | refine Fin.ni ?_ | refine Fin.v ?_ ?_ | refine Fin.r ?_ ?_ | exact Fin.th | (refine Fin.t ?_; try simp only [AV.sl.injEq]))
    | (refine And.go ?_; refine AndI ?_)
    | fail)
  · rw [pathM, if_neg (by rcases hc with h | h <;> simp [h])]
  obtain ⟨g1, g2⟩ := hc
  have g3 : c.all isLnk = true := by simp only [isCand, Bool.and_eq_true] at g2; exact g2.1
  have g4 : c.length ≤ 16 := by simp only [isCand, Bool.and_eq_true, decide_eq_true_eq] at g2; exact g2.2.1
  have g5 : 0 < names.length := List.length_pos_iff.mpr (loc_ne g1)
  refine S.loopV (σ := Nat × (List Int) × UInt8) [0, 3, 5, 6, 7] (fun s => [(5, .sl (enc s.2.1)), (6, .int .u8 (s.2.2.toNat : Int)), (7, .int .i64 (s.1 : Int))]) (fun s => s.1 ≤ c.length ∧ pgo names (c.take s.1) (zerosI names.length) 0 = (s.2.1, s.2.2)) (fun s => n) (fun s => H) (fun s => c.length - s.1) (0, (List.replicate names.length 0), 0) (⟨by omega, ?_⟩) ?_
  · first | rfl | omega | (simp; done) | (simp; omega) | skip
  rintro ⟨i, o, last⟩ ⟨hi1, hi2⟩ ih
  try dsimp only at hi1 hi2
  have hq := pgo_inv g1 (c.take i) (all_take g3 i)
  rw [hi2] at hq
  obtain ⟨q1, q2, q3⟩ := hq
  dsimp only at q1 q2 q3
  have q0 : o ≠ [] := by rintro rfl; simp at q1; omega
  have q4 : Bnd 4294967296 o := q2.le (by rw [List.length_take]; omega)
  have q5 : i < c.length → (stepM names last (c.getD i default)).length = names.length := fun h => stepM_full g1 (all_at g3 h) q3
  repeat' (first
    | ((with_reducible refine S.go ?_); first | refine S.seq ?_ | refine S.skip ?_ | refine S.block ?_ | refine S.inBlock ?_ | refine S.exit rfl ?_ | refine S.regN ?_ | refine S.reg ?_ | refine S.drw hk.mo (by kernel_rfl) ?_ | refine S.ag (ih ((i + 1, _, _)) ?_ ?_) | (refine S.cond rfl (fun hc => ?_) (fun hc => ?_) <;> try simp only [HC] at hc) | refine S.retH hr rfl ?_ | refine S.finH hr rfl ?_ | (refine S.retK hr ?_; refine TR ?_) | fail)
    | ((first | with_reducible refine Ns.go ?_ | with_reducible refine XOs.go ?_ | with_reducible refine XDs.go ?_ | with_reducible refine OK.go ?_); (first | refine TT ?_ | (apply Ns.sc ⟨rfl, rfl⟩ rfl; intro hg) | (refine OK.tr ?_; refine TT ?_)); (try simp only [HC] at hg))
    | with_reducible exact rfl | exact ⟨rfl, rfl, rfl⟩
    | ((with_reducible refine RunsT.go ?_); first | refine RunsF.apf ((h3 names _ _ hl).f) rfl ?_ | refine RunsF.apf ((h5 o (stepM names last (c.getD i default)) q0 (by rw [q5 (by omega)]; exact q1) (by omega) q4 ((stepM_bnd _ _ _).le (by omega))).f) rfl ?_ | refine RunsF.apf ((h4 names last hl).f) rfl ?_ | fail)
    | ((with_reducible refine RunsD.go ?_); first | refine RunsF.apd ((h3 names _ _ hl).f) rfl ?_ | refine RunsF.apd ((h5 o (stepM names last (c.getD i default)) q0 (by rw [q5 (by omega)]; exact q1) (by omega) q4 ((stepM_bnd _ _ _).le (by omega))).f) rfl ?_ | refine RunsF.apd ((h4 names last hl).f) rfl ?_ | fail)
    | (refine RunsO.apT (h5 o (endM names last) q0 (by rw [endM_full g1 q3]; exact q1) (by omega) q4 ((endM_bnd _ _).le (by omega))) rfl ?_; intro v n' N ht hN; try refine TT ?_)
    | ((with_reducible refine Gd.go ?_); refine Gd.on (fun hg => ?_) (fun hg => ?_) <;> refine TG ?_ <;> (try simp only [HC] at hg))
    | ((with_reducible refine Fin.go ?_); first | (refine Fin.p ?_; first | exact FT | (try refine TT ?_; try simp only [LF])) | refine Fin.a0 ?_ | refine Fin.a ?_ | refine Fin.ni ?_ | refine Fin.v ?_ ?_ | refine Fin.r ?_ ?_ | exact Fin.th | (refine Fin.t ?_; try simp only [AV.sl.injEq]))
    | (refine And.go ?_; refine AndI ?_)
    | fail)
  all_goals (try clear ih)
  all_goals (try dsimp only)
  all_goals (repeat' apply And.intro)
  all_goals first | omega | (simp only [ZL]; omega) | skip
  all_goals (try clear hr hk hB)
  all_goals first | (rw [take_succ _ _ (by omega), pgo_snoc, hi2]; dsimp only; (first | rw [if_neg hc] | rw [if_pos hc]) <;> rfl) | (rw [List.take_of_length_le (by omega)] at hi2; rw [pathM, if_pos (by rw [g1, g2]; rfl), hi2])
/-- impl.PathMarks -/
def i_PathMarks.x (c_i_AreLocal c_i_IsCandidate c_i_StepMarks c_i_addMarks c_i_EndMarks : Nat) : XCode :=
  (.seq
    (.reg [⟨(some 3), .boxF, [.t 1], none⟩,
      ⟨(some 4), .mv, [.k (.nilsl)], none⟩] [0, 3])
    (.seq
      (.seq
        (.reg (flatNs none (nl [.op (some 9) .mv [.t 0], .op (some 10) .call [.k (.fn c_i_AreLocal []), .t 9], .op (some 11) (.un .not) [.t 10], .op (some 12) .mv [.t 11], .sc 12 false (nl [.op (some 13) (.ld (some 1)) [.t 3], .op (some 14) .call [.k (.fn c_i_IsCandidate []), .t 13], .op (some 15) (.un .not) [.t 14]]) (.t 15) (some 16)])) [0, 3, 16])
        (.cond (.t 16)
          (.seq
            (.reg [⟨(some 4), .mv, [.k (.nilsl)], none⟩] [4])
            .ret)
          .skip))
      (.seq
        (.reg [⟨(some 17), .mv, [.t 0], none⟩,
          ⟨(some 18), .lenL, [.t 17], none⟩,
          ⟨(some 19), (.mks 0 1 8 [.int .i64 0]), [.t 18, .t 18], none⟩,
          ⟨(some 5), .mv, [.t 19], none⟩,
          ⟨(some 6), .mv, [.k (.int .u8 0)], none⟩] [0, 3, 5, 6])
        (.seq
          (.seq
            (.reg [⟨(some 20), (.fldA 0), [.t 3], none⟩,
              ⟨(some 21), (.ld none), [.t 20], none⟩,
              ⟨(some 22), .lenL, [.t 21], none⟩,
              ⟨(some 23), .mv, [.k (.int .i64 0)], none⟩] [0, 5, 6, 21, 22, 23])
            (.block 0
              (.loop
                (.seq
                  (.reg [⟨(some 24), (.bin .lss), [.t 23, .t 22], none⟩] [0, 5, 6, 21, 22, 23, 24])
                  (.seq
                    (.cond (.t 24)
                      .skip
                      (.exit 0))
                    (.seq
                      (.block 1
                        (.seq
                          (.reg [⟨(some 25), (.idxA 2), [.t 21, .t 23], none⟩,
                            ⟨(some 26), (.ld (some 2)), [.t 25], none⟩,
                            ⟨(some 8), (.alloc [.int .u8 0, .int .u8 0]), [], none⟩,
                            ⟨none, (.st (some 2)), [.t 8, .t 26], none⟩] [0, 5, 6, 8, 21, 22, 23])
                          (.seq
                            (.reg [⟨(some 27), .mv, [.t 5], none⟩,
                              ⟨(some 28), .mv, [.t 0], none⟩,
                              ⟨(some 29), .mv, [.t 6], none⟩,
                              ⟨(some 30), (.ld (some 2)), [.t 8], none⟩,
                              ⟨(some 31), .call, [.k (.fn c_i_StepMarks []), .t 28, .t 29, .t 30], none⟩,
                              ⟨(some 32), .call, [.k (.fn c_i_addMarks []), .t 27, .t 31], none⟩,
                              ⟨(some 5), .mv, [.t 32], none⟩] [0, 5, 6, 8, 21, 22, 23])
                            (.seq
                              (.reg [⟨(some 33), (.fldA 1), [.t 8], none⟩,
                                ⟨(some 34), (.ld none), [.t 33], none⟩,
                                ⟨(some 35), (.bin .neq), [.t 34, .k (.int .u8 0)], none⟩] [0, 5, 6, 8, 21, 22, 23, 35])
                              (.cond (.t 35)
                                (.reg [⟨(some 36), (.fldA 1), [.t 8], none⟩,
                                  ⟨(some 37), (.ld none), [.t 36], none⟩,
                                  ⟨(some 6), .mv, [.t 37], none⟩] [0, 5, 6, 21, 22, 23])
                                .skip)))))
                      (.reg [⟨(some 38), (.bin .add), [.t 23, .k (.int .i64 1)], none⟩,
                        ⟨(some 23), .mv, [.t 38], none⟩] [0, 5, 6, 21, 22, 23])))))))
          (.seq
            (.reg [⟨(some 39), .mv, [.t 5], none⟩,
              ⟨(some 40), .mv, [.t 0], none⟩,
              ⟨(some 41), .mv, [.t 6], none⟩,
              ⟨(some 42), .call, [.k (.fn c_i_EndMarks []), .t 40, .t 41], none⟩,
              ⟨(some 43), .call, [.k (.fn c_i_addMarks []), .t 39, .t 42], none⟩,
              ⟨(some 4), .mv, [.t 43], none⟩] [4])
            .ret)))))
def i_PathMarks.F : Cfg := ⟨fun _ => 0, fun r => match r with | 0 => [0, 3] | 1 => [0, 3, 16] | 2 => [4] | 3 => [0, 3, 5, 6] | 4 => [0, 5, 6, 21, 22, 23] | 5 => [0, 5, 6, 21, 22, 23, 24] | 6 => [0, 5, 6, 8, 21, 22, 23] | 7 => [0, 5, 6, 8, 21, 22, 23] | 8 => [0, 5, 6, 8, 21, 22, 23, 35] | 9 => [0, 5, 6, 21, 22, 23] | 10 => [0, 5, 6, 21, 22, 23] | 11 => [4] | _ => []⟩
def i_PathMarks.X (c_i_AreLocal c_i_IsCandidate c_i_StepMarks c_i_addMarks c_i_EndMarks : Nat) : FX := ⟨44, [.tmp 4], i_PathMarks.F, i_PathMarks.x c_i_AreLocal c_i_IsCandidate c_i_StepMarks c_i_addMarks c_i_EndMarks⟩

set_option maxHeartbeats 2000000 in
theorem i_PathMarks.ok {P : Program} {k c_i_AreLocal c_i_IsCandidate c_i_StepMarks c_i_addMarks c_i_EndMarks : Nat} (hk : Has P k (i_PathMarks.X c_i_AreLocal c_i_IsCandidate c_i_StepMarks c_i_addMarks c_i_EndMarks)) (h1 : C_AreLocal P c_i_AreLocal) (h2 : C_IsCandidate P c_i_IsCandidate) (h3 : C_StepMarks P c_i_StepMarks) (h4 : C_EndMarks P c_i_EndMarks) (h5 : C_addM P c_i_addMarks) : C_PathMarks P k := by
  intro names c hl hc n H
  have k1 := h1 names (by omega)
  have k2 := h2 c hc
  refine S.ofX hk rfl fun hB fn hr => ?_
  unfold i_PathMarks.x
  repeat' (first
    | ((with_reducible refine S.go ?_); first | refine S.seq ?_ | refine S.skip ?_ | refine S.block ?_ | refine S.inBlock ?_ | refine S.exit rfl ?_ | refine S.regN ?_ | refine S.reg ?_ | refine S.drw hk.mo (by kernel_rfl) ?_ | (refine S.cond rfl (fun hc => ?_) (fun hc => ?_) <;> try simp only [HC] at hc) | refine S.retH hr rfl ?_ | refine S.finH hr rfl ?_ | (refine S.retK hr ?_; refine TR ?_) | fail)
    | ((first | with_reducible refine Ns.go ?_ | with_reducible refine XOs.go ?_ | with_reducible refine XDs.go ?_ | with_reducible refine OK.go ?_); (first | refine TT ?_ | (apply Ns.sc ⟨rfl, rfl⟩ rfl; intro hg) | (refine OK.tr ?_; refine TT ?_)); (try simp only [HC] at hg))
    | with_reducible exact rfl | exact ⟨rfl, rfl, rfl⟩
    | ((with_reducible refine RunsT.go ?_); first | refine RunsF.apf (k1) rfl ?_ | refine RunsF.apf (k2) rfl ?_ | fail)
    | ((with_reducible refine RunsD.go ?_); first | refine RunsF.apd (k1) rfl ?_ | refine RunsF.apd (k2) rfl ?_ | fail)
    | ((with_reducible refine Gd.go ?_); refine Gd.on (fun hg => ?_) (fun hg => ?_) <;> refine TG ?_ <;> (try simp only [HC] at hg))
    | ((with_reducible refine Fin.go ?_); first | (refine Fin.p ?_; first | exact FT | (try refine TT ?_; try simp only [LF])) | refine Fin.a0 ?_ | refine Fin.a ?_ | refine Fin.ni ?_ | refine Fin.v ?_ ?_ | refine Fin.r ?_ ?_ | exact Fin.th | (refine Fin.t ?_; try simp only [AV.sl.injEq]))
    | (refine And.go ?_; refine AndI ?_)
    | fail)
  · rw [pathM, if_neg (by rcases hc with h | h <;> simp [h])]
  obtain ⟨g1, g2⟩ := hc
  have g3 : c.all isLnk = true := by simp only [isCand, Bool.and_eq_true] at g2; exact g2.1
  have g4 : c.length ≤ 16 := by simp only [isCand, Bool.and_eq_true, decide_eq_true_eq] at g2; exact g2.2.1
  have g5 : 0 < names.length := List.length_pos_iff.mpr (loc_ne g1)
  refine S.loopV (σ := Nat × (List Int) × UInt8) [0, 5, 6, 21, 22, 23] (fun s => [(5, .sl (enc s.2.1)), (6, .int .u8 (s.2.2.toNat : Int)), (23, .int .i64 (s.1 : Int))]) (fun s => s.1 ≤ c.length ∧ pgo names (c.take s.1) (zerosI names.length) 0 = (s.2.1, s.2.2)) (fun s => n + s.1) (fun s => H) (fun s => c.length - s.1) (0, (List.replicate names.length 0), 0) (⟨by omega, ?_⟩) ?_
  · first | rfl | omega | (simp; done) | (simp; omega) | skip
  rintro ⟨i, o, last⟩ ⟨hi1, hi2⟩ ih
  try dsimp only at hi1 hi2
  have hq := pgo_inv g1 (c.take i) (all_take g3 i)
  rw [hi2] at hq
  obtain ⟨q1, q2, q3⟩ := hq
  dsimp only at q1 q2 q3
  have q0 : o ≠ [] := by rintro rfl; simp at q1; omega
  have q4 : Bnd 4294967296 o := q2.le (by rw [List.length_take]; omega)
  have q5 : i < c.length → (stepM names last (c.getD i default)).length = names.length := fun h => stepM_full g1 (all_at g3 h) q3
  repeat' (first
    | ((with_reducible refine S.go ?_); first | refine S.seq ?_ | refine S.skip ?_ | refine S.block ?_ | refine S.inBlock ?_ | refine S.exit rfl ?_ | refine S.regN ?_ | refine S.reg ?_ | refine S.drw hk.mo (by kernel_rfl) ?_ | refine S.ag (ih ((i + 1, _, _)) ?_ ?_) | (refine S.cond rfl (fun hc => ?_) (fun hc => ?_) <;> try simp only [HC] at hc) | refine S.retH hr rfl ?_ | refine S.finH hr rfl ?_ | (refine S.retK hr ?_; refine TR ?_) | fail)
    | ((first | with_reducible refine Ns.go ?_ | with_reducible refine XOs.go ?_ | with_reducible refine XDs.go ?_ | with_reducible refine OK.go ?_); (first | refine TT ?_ | (apply Ns.sc ⟨rfl, rfl⟩ rfl; intro hg) | (refine OK.tr ?_; refine TT ?_)); (try simp only [HC] at hg))
    | with_reducible exact rfl | exact ⟨rfl, rfl, rfl⟩
    | ((with_reducible refine RunsT.go ?_); first | refine RunsF.apf ((h3 names _ _ hl).f) rfl ?_ | refine RunsF.apf ((h5 o (stepM names last (c.getD i default)) q0 (by rw [q5 (by omega)]; exact q1) (by omega) q4 ((stepM_bnd _ _ _).le (by omega))).f) rfl ?_ | refine RunsF.apf ((h4 names last hl).f) rfl ?_ | fail)
    | ((with_reducible refine RunsD.go ?_); first | refine RunsF.apd ((h3 names _ _ hl).f) rfl ?_ | refine RunsF.apd ((h5 o (stepM names last (c.getD i default)) q0 (by rw [q5 (by omega)]; exact q1) (by omega) q4 ((stepM_bnd _ _ _).le (by omega))).f) rfl ?_ | refine RunsF.apd ((h4 names last hl).f) rfl ?_ | fail)
    | (refine RunsO.apT (h5 o (endM names last) q0 (by rw [endM_full g1 q3]; exact q1) (by omega) q4 ((endM_bnd _ _).le (by omega))) rfl ?_; intro v n3 N ht hN; try refine TT ?_)
    | ((with_reducible refine Gd.go ?_); refine Gd.on (fun hg => ?_) (fun hg => ?_) <;> refine TG ?_ <;> (try simp only [HC] at hg))
    | ((with_reducible refine Fin.go ?_); first | (refine Fin.p ?_; first | exact FT | (try refine TT ?_; try simp only [LF])) | refine Fin.a0 ?_ | refine Fin.a ?_ | refine Fin.ni ?_ | refine Fin.v ?_ ?_ | refine Fin.r ?_ ?_ | exact Fin.th | (refine Fin.t ?_; try simp only [AV.sl.injEq]))
    | (refine And.go ?_; refine AndI ?_)
    | fail)
  all_goals (try clear ih)
  all_goals (try dsimp only)
  all_goals (repeat' apply And.intro)
  all_goals first | omega | (simp only [ZL]; omega) | skip
  all_goals (try clear hr hk hB)
  all_goals first | (rw [take_succ _ _ (by omega), pgo_snoc, hi2]; dsimp only; (first | rw [if_neg hc] | rw [if_pos hc]) <;> rfl) | (rw [List.take_of_length_le (by omega)] at hi2; rw [pathM, if_pos (by rw [g1, g2]; rfl), hi2])
end Go.M06
