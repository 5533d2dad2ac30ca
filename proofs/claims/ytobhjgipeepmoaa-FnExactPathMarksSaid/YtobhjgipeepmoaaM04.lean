/- Data as trees: strings, numbers, links, candidates; the laws of the marks. Over any program. -/
import Derived.Test.YtobhjgipeepmoaaM03
import Derived.Test.YtobhjgipeepmoaaL04
import Derived.Test.YtobhjgipeepmoaaAbTac
namespace Go.M04
open Go.Ab Go.Lib01 Go.Lib02 Go.Lib03 Go.Lib04 Go.M01 Go.M02 Go.M03
set_option linter.unusedVariables false
set_option linter.unusedSimpArgs false
set_option maxRecDepth 2000

theorem set_next {α : Type} [Inhabited α] {out l : List α} {i : Nat} (h : out.take i = l.take i) (hi : i < out.length ∧ i < l.length) : (out.set i (l.getD i default)).take (i + 1) = l.take (i + 1) := by
  rw [take_succ l i hi.2, ← h, take_succ _ i (by rw [List.length_set]; exact hi.1), List.take_set_of_le (Nat.le_refl _)]
  congr 2
  rw [List.getD_eq_getElem?_getD, List.getElem?_set_self hi.1]; rfl
theorem set_nextx {α : Type} [Inhabited α] {out l : List α} {i : Nat} {x : α} (h : out.take i = l.take i) (hi : i < out.length ∧ i < l.length) (hx : x = l.getD i default) : (out.set i x).take (i + 1) = l.take (i + 1) := by
  rw [hx]; exact set_next h hi
theorem take_all {α : Type} {out m : List α} {i : Nat} (h : out.take i = m.take i) (h1 : out.length ≤ i) (h2 : m.length ≤ i) : out = m := by
  rwa [List.take_of_length_le h1, List.take_of_length_le h2] at h
def O_strs (P : Program) (k : Nat) : Prop := ∀ (l : List (List UInt8)), l.length ≤ 4294967296 → RunsO P k [.sl (enc l)] (.sl (enc l))
theorem w_toStringS.okO {P : Program} {k : Nat} (hk : Has P k (w_toStringS.X)) : O_strs P k := by
  intro l hl n H
  refine S.ofX hk rfl fun hB fn hr => ?_
  unfold w_toStringS.x
  repeat' (first
    | ((with_reducible refine S.go ?_); first | refine S.seq ?_ | refine S.skip ?_ | refine S.block ?_ | refine S.inBlock ?_ | refine S.exit rfl ?_ | refine S.regN ?_ | refine S.reg ?_ | refine S.drw hk.mo (by kernel_rfl) ?_ | (refine S.cond rfl (fun hc => ?_) (fun hc => ?_) <;> try simp only [HC] at hc) | refine S.retH hr rfl ?_ | refine S.finH hr rfl ?_ | (refine S.retK hr ?_; refine TR ?_) | fail)
    | ((first | with_reducible refine Ns.go ?_ | with_reducible refine XOs.go ?_ | with_reducible refine XDs.go ?_ | with_reducible refine OK.go ?_); (first | refine TT ?_ | (apply Ns.sc ⟨rfl, rfl⟩ rfl; intro hg) | (refine OK.tr ?_; refine TT ?_)); (try simp only [HC] at hg))
    | with_reducible exact rfl | exact ⟨rfl, rfl, rfl⟩
    | ((with_reducible refine Gd.go ?_); refine Gd.on (fun hg => ?_) (fun hg => ?_) <;> refine TG ?_ <;> (try simp only [HC] at hg))
    | ((with_reducible refine Fin.go ?_); first | (refine Fin.p ?_; first | exact FT | (try refine TT ?_; try simp only [LF])) | refine Fin.a0 ?_ | refine Fin.a ?_ | refine Fin.ni ?_ | refine Fin.v ?_ ?_ | refine Fin.r ?_ ?_ | exact Fin.th | (refine Fin.t ?_; try simp only [AV.sl.injEq]))
    | (refine And.go ?_; refine AndI ?_)
    | fail)
  refine S.loopV (σ := Nat × (List (List UInt8))) [0, 3, 4] (fun s => [(3, .ref n 1 0 l.length), (4, .int .i64 (s.1 : Int))]) (fun s => s.1 ≤ l.length ∧ s.2.length = l.length ∧ s.2.take s.1 = l.take s.1) (fun s => n + 1) (fun s => (n, .own (enc s.2).flatten) :: H) (fun s => l.length - s.1) (0, (List.replicate l.length [])) (⟨by omega, ?_, ?_⟩) ?_
  · first | rfl | omega | (simp; done) | (simp; omega) | skip
  · first | rfl | omega | (simp; done) | (simp; omega) | skip
  rintro ⟨i, out⟩ ⟨hi1, hi2, hi3⟩ ih
  try dsimp only at hi1 hi2 hi3
  repeat' (first
    | ((with_reducible refine S.go ?_); first | refine S.seq ?_ | refine S.skip ?_ | refine S.block ?_ | refine S.inBlock ?_ | refine S.exit rfl ?_ | refine S.regN ?_ | refine S.reg ?_ | refine S.drw hk.mo (by kernel_rfl) ?_ | refine S.ag (ih ((i + 1, _)) ?_ ?_) | (refine S.cond rfl (fun hc => ?_) (fun hc => ?_) <;> try simp only [HC] at hc) | refine S.retH hr rfl ?_ | refine S.finH hr rfl ?_ | (refine S.retK hr ?_; refine TR ?_) | fail)
    | ((first | with_reducible refine Ns.go ?_ | with_reducible refine XOs.go ?_ | with_reducible refine XDs.go ?_ | with_reducible refine OK.go ?_); (first | refine TT ?_ | (apply Ns.sc ⟨rfl, rfl⟩ rfl; intro hg) | (refine OK.tr ?_; refine TT ?_)); (try simp only [HC] at hg))
    | with_reducible exact rfl | exact ⟨rfl, rfl, rfl⟩
    | ((with_reducible refine Gd.go ?_); refine Gd.on (fun hg => ?_) (fun hg => ?_) <;> refine TG ?_ <;> (try simp only [HC] at hg))
    | ((with_reducible refine Fin.go ?_); first | (refine Fin.p ?_; first | exact FT | (try refine TT ?_; try simp only [LF])) | refine Fin.a0 ?_ | refine Fin.a ?_ | refine Fin.ni ?_ | refine Fin.v ?_ ?_ | refine Fin.r ?_ ?_ | exact Fin.th | (refine Fin.t ?_; try simp only [AV.sl.injEq]))
    | (refine And.go ?_; refine AndI ?_)
    | fail)
  all_goals (try clear ih)
  all_goals (try dsimp only)
  all_goals (repeat' apply And.intro)
  all_goals first | omega | (simp only [ZL]; omega) | skip
  all_goals (try clear hr hk hB)
  all_goals first | (rw [List.length_set]; exact hi2) | (exact set_next hi3 (by omega)) | (rw [← List.take_of_length_le (l := out) (i := i) (by omega), hi3, List.take_of_length_le (by omega)]) | skip

/-! ### Numbers -/
def C_eqInts (P : Program) (k : Nat) : Prop := ∀ (l m : List Int), l.length ≤ 4294967296 → m.length ≤ 4294967296 → RunsF P k [.sl (enc l), .sl (enc m)] (.bool (l == m))
theorem neqg {α : Type} [BEq α] [LawfulBEq α] [Inhabited α] {l m : List α} {i : Nat} (h : ¬ l.getD i default = m.getD i default) : (l == m) = false := by
  rw [beq_eq_false_iff_ne]; rintro rfl; exact h rfl
theorem eqg {α : Type} [BEq α] [LawfulBEq α] [Inhabited α] {l m : List α} (h : l.length = m.length) (ha : ∀ j, j < l.length → l.getD j default = m.getD j default) : (l == m) = true := by
  rw [beq_iff_eq]
  apply List.ext_getElem h
  intro i h1 h2
  have := ha i h1
  simpa [List.getD_eq_getElem?_getD, h1, h2] using this
theorem neql {α : Type} [BEq α] [LawfulBEq α] {l m : List α} (h : ¬ l.length = m.length) : (l == m) = false := by
  rw [beq_eq_false_iff_ne]; rintro rfl; exact h rfl
/-- laws.eqIntS -/
def w_eqIntS.x : XCode :=
  (.seq
    (.reg [⟨(some 4), .mv, [.k (.bool false)], none⟩] [0, 1])
    (.seq
      (.seq
        (.reg [⟨(some 6), .mv, [.t 0], none⟩,
          ⟨(some 7), .lenL, [.t 6], none⟩,
          ⟨(some 8), .mv, [.t 1], none⟩,
          ⟨(some 9), .lenL, [.t 8], none⟩,
          ⟨(some 10), (.bin .neq), [.t 7, .t 9], none⟩] [0, 1, 10])
        (.cond (.t 10)
          (.seq
            (.reg [⟨(some 4), .mv, [.k (.bool false)], none⟩] [4])
            .ret)
          .skip))
      (.seq
        (.seq
          (.reg [⟨(some 5), .mv, [.k (.int .i64 0)], none⟩] [0, 1, 5])
          (.block 0
            (.loop
              (.seq
                (.seq
                  (.reg [⟨(some 11), .mv, [.t 5], none⟩,
                    ⟨(some 12), .mv, [.t 0], none⟩,
                    ⟨(some 13), .lenL, [.t 12], none⟩,
                    ⟨(some 14), (.bin .lss), [.t 11, .t 13], none⟩] [0, 1, 5, 14])
                  (.cond (.t 14)
                    .skip
                    (.exit 0)))
                (.seq
                  (.block 1
                    (.seq
                      (.drw [(⟨(some 17), .mv, [.t 0], none⟩, []),
                        (⟨(some 18), .mv, [.t 5], none⟩, []),
                        (⟨(some 19), (.idxA 1), [.t 17, .t 18], none⟩, [0, 1]),
                        (⟨(some 20), (.ld none), [.t 19], none⟩, [2]),
                        (⟨(some 21), .mv, [.t 1], none⟩, []),
                        (⟨(some 22), .mv, [.t 5], none⟩, []),
                        (⟨(some 23), (.idxA 1), [.t 21, .t 22], none⟩, [4, 5]),
                        (⟨(some 24), (.ld none), [.t 23], none⟩, [6]),
                        (⟨(some 25), (.bin .neq), [.t 20, .t 24], none⟩, [3, 7])] [0, 1, 5, 25] [0, 0, 0, 0, 0, 0, 0, 0, 0])
                      (.cond (.t 25)
                        (.seq
                          (.reg [⟨(some 4), .mv, [.k (.bool false)], none⟩] [4])
                          .ret)
                        .skip)))
                  (.reg [⟨(some 15), .mv, [.t 5], none⟩,
                    ⟨(some 16), (.bin .add), [.t 15, .k (.int .i64 1)], none⟩,
                    ⟨(some 5), .mv, [.t 16], none⟩] [0, 1, 5]))))))
        (.seq
          (.reg [⟨(some 4), .mv, [.k (.bool true)], none⟩] [4])
          .ret))))
def w_eqIntS.F : Cfg := ⟨fun _ => 0, fun r => match r with | 0 => [0, 1] | 1 => [0, 1, 10] | 2 => [4] | 3 => [0, 1, 5] | 4 => [0, 1, 5, 14] | 5 => [0, 1, 5] | 6 => [0, 1, 5, 25] | 7 => [4] | 8 => [4] | 1000006 => [0, 0, 0, 0, 0, 0, 0, 0, 0] | _ => []⟩
def w_eqIntS.X : FX := ⟨26, [.tmp 4], w_eqIntS.F, w_eqIntS.x⟩

theorem w_eqIntS.ok {P : Program} {k : Nat} (hk : Has P k (w_eqIntS.X)) : C_eqInts P k := by
  intro l m hl hm n H
  refine S.ofX hk rfl fun hB fn hr => ?_
  unfold w_eqIntS.x
  repeat' (first
    | ((with_reducible refine S.go ?_); first | refine S.seq ?_ | refine S.skip ?_ | refine S.block ?_ | refine S.inBlock ?_ | refine S.exit rfl ?_ | refine S.regN ?_ | refine S.reg ?_ | refine S.drw hk.mo (by kernel_rfl) ?_ | (refine S.cond rfl (fun hc => ?_) (fun hc => ?_) <;> try simp only [HC] at hc) | refine S.retH hr rfl ?_ | refine S.finH hr rfl ?_ | (refine S.retK hr ?_; refine TR ?_) | fail)
    | ((first | with_reducible refine Ns.go ?_ | with_reducible refine XOs.go ?_ | with_reducible refine XDs.go ?_ | with_reducible refine OK.go ?_); (first | refine TT ?_ | (apply Ns.sc ⟨rfl, rfl⟩ rfl; intro hg) | (refine OK.tr ?_; refine TT ?_)); (try simp only [HC] at hg))
    | with_reducible exact rfl | exact ⟨rfl, rfl, rfl⟩
    | ((with_reducible refine Gd.go ?_); refine Gd.on (fun hg => ?_) (fun hg => ?_) <;> refine TG ?_ <;> (try simp only [HC] at hg))
    | ((with_reducible refine Fin.go ?_); first | (refine Fin.p ?_; first | exact FT | (try refine TT ?_; try simp only [LF])) | refine Fin.a0 ?_ | refine Fin.a ?_ | refine Fin.ni ?_ | refine Fin.v ?_ ?_ | refine Fin.r ?_ ?_ | exact Fin.th | (refine Fin.t ?_; try simp only [AV.sl.injEq]))
    | (refine And.go ?_; refine AndI ?_)
    | fail)
  · exact (neql (by omega)).symm
  refine S.loopV (σ := Nat) [0, 1, 5] (fun s => [(5, .int .i64 (s : Int))]) (fun s => s ≤ l.length ∧ ∀ j, j < s → l.getD j default = m.getD j default) (fun s => n) (fun s => H) (fun s => l.length - s) (0) (⟨by omega, ?_⟩) ?_
  · first | rfl | omega | (simp; done) | (simp; omega) | skip
  rintro i ⟨hi1, hi2⟩ ih
  try dsimp only at hi1 hi2
  repeat' (first
    | ((with_reducible refine S.go ?_); first | refine S.seq ?_ | refine S.skip ?_ | refine S.block ?_ | refine S.inBlock ?_ | refine S.exit rfl ?_ | refine S.regN ?_ | refine S.reg ?_ | refine S.drw hk.mo (by kernel_rfl) ?_ | refine S.ag (ih (i + 1) ?_ ?_) | (refine S.cond rfl (fun hc => ?_) (fun hc => ?_) <;> try simp only [HC] at hc) | refine S.retH hr rfl ?_ | refine S.finH hr rfl ?_ | (refine S.retK hr ?_; refine TR ?_) | fail)
    | ((first | with_reducible refine Ns.go ?_ | with_reducible refine XOs.go ?_ | with_reducible refine XDs.go ?_ | with_reducible refine OK.go ?_); (first | refine TT ?_ | (apply Ns.sc ⟨rfl, rfl⟩ rfl; intro hg) | (refine OK.tr ?_; refine TT ?_)); (try simp only [HC] at hg))
    | with_reducible exact rfl | exact ⟨rfl, rfl, rfl⟩
    | ((with_reducible refine Gd.go ?_); refine Gd.on (fun hg => ?_) (fun hg => ?_) <;> refine TG ?_ <;> (try simp only [HC] at hg))
    | ((with_reducible refine Fin.go ?_); first | (refine Fin.p ?_; first | exact FT | (try refine TT ?_; try simp only [LF])) | refine Fin.a0 ?_ | refine Fin.a ?_ | refine Fin.ni ?_ | refine Fin.v ?_ ?_ | refine Fin.r ?_ ?_ | exact Fin.th | (refine Fin.t ?_; try simp only [AV.sl.injEq]))
    | (refine And.go ?_; refine AndI ?_)
    | fail)
  all_goals (try clear ih)
  all_goals (try dsimp only)
  all_goals (repeat' apply And.intro)
  all_goals first | omega | (simp only [ZL]; omega) | skip
  all_goals (try clear hr hk hB)
  all_goals first | (exact (neqg hc).symm) | (exact (eqg (by omega) (fun j hj => hi2 j (by omega))).symm) | (intro j hj; by_cases hji : j = i; (subst hji; exact hc); (exact hi2 j (by omega)))
def marksI (k : Int) (len : Nat) : List Int := (List.range len).map fun (j : Nat) => k + (j : Int)
theorem marksI_len (k : Int) (len : Nat) : (marksI k len).length = len := by simp [marksI]
theorem marksI_at (k : Int) (len i : Nat) (h : i < len) : (marksI k len).getD i default = k + i := by simp [marksI, List.getD_eq_getElem?_getD, h]
def C_markI (P : Program) (f : Nat) : Prop := ∀ (l : List Int), l.length ≤ 4294967296 → MarkT P f (.sl (enc l)) (fun k => .sl (enc (marksI k l.length))) l.length
def C_markI1 (P : Program) (f : Nat) : Prop := ∀ (l : List Int), l.length ≤ 4294967296 → ∀ (k : Int) (n : Nat) (H : Heap) (id : Nat), 0 ≤ k → k ≤ 4294967296 → hget H id = some (.own (enc l).flatten) →
  Runs P f [.ref id 1 0 l.length, .int .i64 k] n H fun r n' H' => r = .int .i64 (k + l.length) ∧ n' = n ∧ H' = hset H id (.own (enc (marksI k l.length)).flatten)
/-- laws.markIntS -/
def w_markIntS.x : XCode :=
  (.seq
    (.reg [⟨(some 4), .mv, [.k (.int .i64 0)], none⟩] [0, 1])
    (.seq
      (.seq
        (.reg [⟨(some 5), .mv, [.k (.int .i64 0)], none⟩] [0, 1, 5])
        (.block 0
          (.loop
            (.seq
              (.seq
                (.reg [⟨(some 6), .mv, [.t 5], none⟩,
                  ⟨(some 7), .mv, [.t 0], none⟩,
                  ⟨(some 8), .lenL, [.t 7], none⟩,
                  ⟨(some 9), (.bin .lss), [.t 6, .t 8], none⟩] [0, 1, 5, 9])
                (.cond (.t 9)
                  .skip
                  (.exit 0)))
              (.seq
                (.block 1
                  (.seq
                    (.reg [⟨(some 12), .mv, [.t 0], none⟩,
                      ⟨(some 13), .mv, [.t 5], none⟩,
                      ⟨(some 14), .mv, [.t 1], none⟩,
                      ⟨(some 15), (.idxA 1), [.t 12, .t 13], none⟩,
                      ⟨none, (.st none), [.t 15, .t 14], none⟩] [0, 1, 5])
                    (.reg [⟨(some 16), .mv, [.t 1], none⟩,
                      ⟨(some 17), (.bin .add), [.t 16, .k (.int .i64 1)], none⟩,
                      ⟨(some 1), .mv, [.t 17], none⟩] [0, 1, 5])))
                (.reg [⟨(some 10), .mv, [.t 5], none⟩,
                  ⟨(some 11), (.bin .add), [.t 10, .k (.int .i64 1)], none⟩,
                  ⟨(some 5), .mv, [.t 11], none⟩] [0, 1, 5]))))))
      (.seq
        (.reg [⟨(some 18), .mv, [.t 1], none⟩,
          ⟨(some 4), .mv, [.t 18], none⟩] [4])
        .ret)))
def w_markIntS.F : Cfg := ⟨fun _ => 0, fun r => match r with | 0 => [0, 1] | 1 => [0, 1, 5] | 2 => [0, 1, 5, 9] | 3 => [0, 1, 5] | 4 => [0, 1, 5] | 5 => [0, 1, 5] | 6 => [4] | _ => []⟩
def w_markIntS.X : FX := ⟨19, [.tmp 4], w_markIntS.F, w_markIntS.x⟩

theorem w_markIntS.ok1 {P : Program} {k : Nat} (hk : Has P k (w_markIntS.X)) : C_markI1 P k := by
  intro l hl k0 n H id hk0 hk1 hm
  have hgs := hget_hset hm
  refine S.ofX hk rfl fun hB fn hr => ?_
  unfold w_markIntS.x
  repeat' (first
    | ((with_reducible refine S.go ?_); first | refine S.seq ?_ | refine S.skip ?_ | refine S.block ?_ | refine S.inBlock ?_ | refine S.exit rfl ?_ | refine S.regN ?_ | refine S.reg ?_ | refine S.drw hk.mo (by kernel_rfl) ?_ | (refine S.cond rfl (fun hc => ?_) (fun hc => ?_) <;> try simp only [HC] at hc) | refine S.retH hr rfl ?_ | refine S.finH hr rfl ?_ | (refine S.retK hr ?_; refine TR ?_) | fail)
    | ((first | with_reducible refine Ns.go ?_ | with_reducible refine XOs.go ?_ | with_reducible refine XDs.go ?_ | with_reducible refine OK.go ?_); (first | refine TT ?_ | (apply Ns.sc ⟨rfl, rfl⟩ rfl; intro hg) | (refine OK.tr ?_; refine TT ?_)); (try simp only [HC] at hg))
    | with_reducible exact rfl | exact ⟨rfl, rfl, rfl⟩
    | ((with_reducible refine Gd.go ?_); refine Gd.on (fun hg => ?_) (fun hg => ?_) <;> refine TG ?_ <;> (try simp only [HC] at hg))
    | ((with_reducible refine Fin.go ?_); first | (refine Fin.p ?_; first | exact FT | (try refine TT ?_; try simp only [LF])) | refine Fin.a0 ?_ | refine Fin.a ?_ | refine Fin.ni ?_ | refine Fin.v ?_ ?_ | refine Fin.r ?_ ?_ | exact Fin.th | (refine Fin.t ?_; try simp only [AV.sl.injEq]))
    | (refine And.go ?_; refine AndI ?_)
    | fail)
  refine S.loopV (σ := Nat × (List Int)) [0, 1, 5] (fun s => [(1, .int .i64 (k0 + (s.1 : Int))), (5, .int .i64 (s.1 : Int))]) (fun s => s.1 ≤ l.length ∧ s.2.length = l.length ∧ s.2.take s.1 = (marksI k0 l.length).take s.1) (fun s => n) (fun s => hset H id (.own (enc s.2).flatten)) (fun s => l.length - s.1) (0, l) (⟨by omega, ?_, ?_⟩) ?_
  · first | rfl | omega | (simp; done) | (simp; omega) | skip
  · first | rfl | omega | (simp; done) | (simp; omega) | skip
  rintro ⟨i, out⟩ ⟨hi1, hi2, hi3⟩ ih
  try dsimp only at hi1 hi2 hi3
  repeat' (first
    | ((with_reducible refine S.go ?_); first | refine S.seq ?_ | refine S.skip ?_ | refine S.block ?_ | refine S.inBlock ?_ | refine S.exit rfl ?_ | refine S.regN ?_ | refine S.reg ?_ | refine S.drw hk.mo (by kernel_rfl) ?_ | refine S.ag (ih ((i + 1, _)) ?_ ?_) | (refine S.cond rfl (fun hc => ?_) (fun hc => ?_) <;> try simp only [HC] at hc) | refine S.retH hr rfl ?_ | refine S.finH hr rfl ?_ | (refine S.retK hr ?_; refine TR ?_) | fail)
    | ((first | with_reducible refine Ns.go ?_ | with_reducible refine XOs.go ?_ | with_reducible refine XDs.go ?_ | with_reducible refine OK.go ?_); (first | refine TT ?_ | (apply Ns.sc ⟨rfl, rfl⟩ rfl; intro hg) | (refine OK.tr ?_; refine TT ?_)); (try simp only [HC] at hg))
    | with_reducible exact rfl | exact ⟨rfl, rfl, rfl⟩
    | (rw [hgs]; refine TT ?_; try rw [hset_hset])
    | ((with_reducible refine Gd.go ?_); refine Gd.on (fun hg => ?_) (fun hg => ?_) <;> refine TG ?_ <;> (try simp only [HC] at hg))
    | ((with_reducible refine Fin.go ?_); first | (refine Fin.p ?_; first | exact FT | (try refine TT ?_; try simp only [LF])) | refine Fin.a0 ?_ | refine Fin.a ?_ | refine Fin.ni ?_ | refine Fin.v ?_ ?_ | refine Fin.r ?_ ?_ | exact Fin.th | (refine Fin.t ?_; try simp only [AV.sl.injEq]))
    | (refine And.go ?_; refine AndI ?_)
    | fail)
  all_goals (try clear ih)
  all_goals (try dsimp only)
  all_goals (repeat' apply And.intro)
  all_goals first | omega | (simp only [ZL]; omega) | skip
  all_goals (try clear hr hk hB)
  all_goals first | (rw [List.length_set]; exact hi2) | (refine set_nextx hi3 ⟨by omega, by rw [marksI_len]; omega⟩ ?_; rw [marksI_at _ _ _ (by omega)]) | skip
  all_goals (refine Fin.same ⟨?_, rfl, ?_⟩)
  · exact congrArg (AV.int IntKind.i64) (by omega)
  · rw [take_all hi3 (by omega) (by rw [marksI_len]; omega)]
def C_m0 (P : Program) (f : Nat) : Prop := ∀ k : Int, 0 ≤ k → k ≤ 4294967296 → RunsF P f [.sl [], .int .i64 k] (.int .i64 k)
theorem w_markIntS.ok0 {P : Program} {k : Nat} (hk : Has P k (w_markIntS.X)) : C_m0 P k := by
  intro k0 hk0 hk1 n H
  refine S.ofX hk rfl fun hB fn hr => ?_
  unfold w_markIntS.x
  repeat' (first
    | ((with_reducible refine S.go ?_); first | refine S.seq ?_ | refine S.skip ?_ | refine S.block ?_ | refine S.inBlock ?_ | refine S.exit rfl ?_ | refine S.regN ?_ | refine S.reg ?_ | refine S.drw hk.mo (by kernel_rfl) ?_ | (refine S.cond rfl (fun hc => ?_) (fun hc => ?_) <;> try simp only [HC] at hc) | refine S.retH hr rfl ?_ | refine S.finH hr rfl ?_ | (refine S.retK hr ?_; refine TR ?_) | fail)
    | ((first | with_reducible refine Ns.go ?_ | with_reducible refine XOs.go ?_ | with_reducible refine XDs.go ?_ | with_reducible refine OK.go ?_); (first | refine TT ?_ | (apply Ns.sc ⟨rfl, rfl⟩ rfl; intro hg) | (refine OK.tr ?_; refine TT ?_)); (try simp only [HC] at hg))
    | with_reducible exact rfl | exact ⟨rfl, rfl, rfl⟩
    | ((with_reducible refine Gd.go ?_); refine Gd.on (fun hg => ?_) (fun hg => ?_) <;> refine TG ?_ <;> (try simp only [HC] at hg))
    | ((with_reducible refine Fin.go ?_); first | (refine Fin.p ?_; first | exact FT | (try refine TT ?_; try simp only [LF])) | refine Fin.a0 ?_ | refine Fin.a ?_ | refine Fin.ni ?_ | refine Fin.v ?_ ?_ | refine Fin.r ?_ ?_ | exact Fin.th | (refine Fin.t ?_; try simp only [AV.sl.injEq]))
    | (refine And.go ?_; refine AndI ?_)
    | fail)
  refine S.loopV (σ := Nat) [0, 1, 5] (fun s => [(5, .int .i64 (s : Int))]) (fun s => s ≤ 0) (fun s => n) (fun s => H) (fun s => 0 - s) (0) (by omega) ?_
  rintro i hi1 ih
  try dsimp only at hi1
  repeat' (first
    | ((with_reducible refine S.go ?_); first | refine S.seq ?_ | refine S.skip ?_ | refine S.block ?_ | refine S.inBlock ?_ | refine S.exit rfl ?_ | refine S.regN ?_ | refine S.reg ?_ | refine S.drw hk.mo (by kernel_rfl) ?_ | refine S.ag (ih (i + 1) ?_ ?_) | (refine S.cond rfl (fun hc => ?_) (fun hc => ?_) <;> try simp only [HC] at hc) | refine S.retH hr rfl ?_ | refine S.finH hr rfl ?_ | (refine S.retK hr ?_; refine TR ?_) | fail)
    | ((first | with_reducible refine Ns.go ?_ | with_reducible refine XOs.go ?_ | with_reducible refine XDs.go ?_ | with_reducible refine OK.go ?_); (first | refine TT ?_ | (apply Ns.sc ⟨rfl, rfl⟩ rfl; intro hg) | (refine OK.tr ?_; refine TT ?_)); (try simp only [HC] at hg))
    | with_reducible exact rfl | exact ⟨rfl, rfl, rfl⟩
    | ((with_reducible refine Gd.go ?_); refine Gd.on (fun hg => ?_) (fun hg => ?_) <;> refine TG ?_ <;> (try simp only [HC] at hg))
    | ((with_reducible refine Fin.go ?_); first | (refine Fin.p ?_; first | exact FT | (try refine TT ?_; try simp only [LF])) | refine Fin.a0 ?_ | refine Fin.a ?_ | refine Fin.ni ?_ | refine Fin.v ?_ ?_ | refine Fin.r ?_ ?_ | exact Fin.th | (refine Fin.t ?_; try simp only [AV.sl.injEq]))
    | (refine And.go ?_; refine AndI ?_)
    | fail)
  all_goals (try clear ih)
  all_goals (try dsimp only)
  all_goals (repeat' apply And.intro)
  all_goals first | omega | (simp only [ZL]; omega) | skip
  all_goals first | rfl | (exfalso; revert hc; simp; done) | (exfalso; revert hc; simp; omega)
theorem w_markIntS.ok {P : Program} {k : Nat} (hk : Has P k (w_markIntS.X)) (h1 : C_markI1 P k) (h0 : C_m0 P k) : C_markI P k := by
  exact fun l hl => MarkT.flat (fun _ => rfl) rfl (fun _ => marksI_len _ _) (h1 l hl) (fun hl k hk0 hk1 => by subst hl; simpa using h0 k hk0 hk1)
def C_heldI (P : Program) (f : Nat) : Prop := ∀ (k : Int) (len : Nat), len ≤ 4294967296 → 0 ≤ k → k ≤ 4294967296 → RunsF P f [.sl (enc (marksI k len)), .int .i64 k] (.int .i64 (k + len))
/-- laws.heldIntS -/
def w_heldIntS.x : XCode :=
  (.seq
    (.reg [⟨(some 4), .mv, [.k (.int .i64 0)], none⟩] [0, 1])
    (.seq
      (.seq
        (.reg [⟨(some 5), .mv, [.k (.int .i64 0)], none⟩] [0, 1, 5])
        (.block 0
          (.loop
            (.seq
              (.seq
                (.reg [⟨(some 6), .mv, [.t 5], none⟩,
                  ⟨(some 7), .mv, [.t 0], none⟩,
                  ⟨(some 8), .lenL, [.t 7], none⟩,
                  ⟨(some 9), (.bin .lss), [.t 6, .t 8], none⟩] [0, 1, 5, 9])
                (.cond (.t 9)
                  .skip
                  (.exit 0)))
              (.seq
                (.block 1
                  (.seq
                    (.seq
                      (.reg [⟨(some 12), .mv, [.t 0], none⟩,
                        ⟨(some 13), .mv, [.t 5], none⟩,
                        ⟨(some 14), (.idxA 1), [.t 12, .t 13], none⟩,
                        ⟨(some 15), (.ld none), [.t 14], none⟩,
                        ⟨(some 16), .mv, [.t 1], none⟩,
                        ⟨(some 17), (.bin .neq), [.t 15, .t 16], none⟩] [0, 1, 5, 17])
                      (.cond (.t 17)
                        (.seq
                          (.reg [⟨(some 4), .mv, [.k (.int .i64 (-1))], none⟩] [4])
                          .ret)
                        .skip))
                    (.reg [⟨(some 18), .mv, [.t 1], none⟩,
                      ⟨(some 19), (.bin .add), [.t 18, .k (.int .i64 1)], none⟩,
                      ⟨(some 1), .mv, [.t 19], none⟩] [0, 1, 5])))
                (.reg [⟨(some 10), .mv, [.t 5], none⟩,
                  ⟨(some 11), (.bin .add), [.t 10, .k (.int .i64 1)], none⟩,
                  ⟨(some 5), .mv, [.t 11], none⟩] [0, 1, 5]))))))
      (.seq
        (.reg [⟨(some 20), .mv, [.t 1], none⟩,
          ⟨(some 4), .mv, [.t 20], none⟩] [4])
        .ret)))
def w_heldIntS.F : Cfg := ⟨fun _ => 0, fun r => match r with | 0 => [0, 1] | 1 => [0, 1, 5] | 2 => [0, 1, 5, 9] | 3 => [0, 1, 5] | 4 => [0, 1, 5, 17] | 5 => [4] | 6 => [0, 1, 5] | 7 => [4] | _ => []⟩
def w_heldIntS.X : FX := ⟨21, [.tmp 4], w_heldIntS.F, w_heldIntS.x⟩

theorem w_heldIntS.ok {P : Program} {k : Nat} (hk : Has P k (w_heldIntS.X)) : C_heldI P k := by
  intro k0 len hl hk0 hk1 n H
  have hml := marksI_len k0 len
  refine S.ofX hk rfl fun hB fn hr => ?_
  unfold w_heldIntS.x
  repeat' (first
    | ((with_reducible refine S.go ?_); first | refine S.seq ?_ | refine S.skip ?_ | refine S.block ?_ | refine S.inBlock ?_ | refine S.exit rfl ?_ | refine S.regN ?_ | refine S.reg ?_ | refine S.drw hk.mo (by kernel_rfl) ?_ | (refine S.cond rfl (fun hc => ?_) (fun hc => ?_) <;> try simp only [HC] at hc) | refine S.retH hr rfl ?_ | refine S.finH hr rfl ?_ | (refine S.retK hr ?_; refine TR ?_) | fail)
    | ((first | with_reducible refine Ns.go ?_ | with_reducible refine XOs.go ?_ | with_reducible refine XDs.go ?_ | with_reducible refine OK.go ?_); (first | refine TT ?_ | (apply Ns.sc ⟨rfl, rfl⟩ rfl; intro hg) | (refine OK.tr ?_; refine TT ?_)); (try simp only [HC] at hg))
    | with_reducible exact rfl | exact ⟨rfl, rfl, rfl⟩
    | ((with_reducible refine Gd.go ?_); refine Gd.on (fun hg => ?_) (fun hg => ?_) <;> refine TG ?_ <;> (try simp only [HC] at hg))
    | ((with_reducible refine Fin.go ?_); first | (refine Fin.p ?_; first | exact FT | (try refine TT ?_; try simp only [LF])) | refine Fin.a0 ?_ | refine Fin.a ?_ | refine Fin.ni ?_ | refine Fin.v ?_ ?_ | refine Fin.r ?_ ?_ | exact Fin.th | (refine Fin.t ?_; try simp only [AV.sl.injEq]))
    | (refine And.go ?_; refine AndI ?_)
    | fail)
  refine S.loopV (σ := Nat) [0, 1, 5] (fun s => [(1, .int .i64 (k0 + (s : Int))), (5, .int .i64 (s : Int))]) (fun s => s ≤ len) (fun s => n) (fun s => H) (fun s => len - s) (0) (by omega) ?_
  rintro i hi1 ih
  try dsimp only at hi1
  repeat' (first
    | ((with_reducible refine S.go ?_); first | refine S.seq ?_ | refine S.skip ?_ | refine S.block ?_ | refine S.inBlock ?_ | refine S.exit rfl ?_ | refine S.regN ?_ | refine S.reg ?_ | refine S.drw hk.mo (by kernel_rfl) ?_ | refine S.ag (ih (i + 1) ?_ ?_) | (refine S.cond rfl (fun hc => ?_) (fun hc => ?_) <;> try simp only [HC] at hc) | refine S.retH hr rfl ?_ | refine S.finH hr rfl ?_ | (refine S.retK hr ?_; refine TR ?_) | fail)
    | ((first | with_reducible refine Ns.go ?_ | with_reducible refine XOs.go ?_ | with_reducible refine XDs.go ?_ | with_reducible refine OK.go ?_); (first | refine TT ?_ | (apply Ns.sc ⟨rfl, rfl⟩ rfl; intro hg) | (refine OK.tr ?_; refine TT ?_)); (try simp only [HC] at hg))
    | with_reducible exact rfl | exact ⟨rfl, rfl, rfl⟩
    | ((with_reducible refine Gd.go ?_); refine Gd.on (fun hg => ?_) (fun hg => ?_) <;> refine TG ?_ <;> (try simp only [HC] at hg))
    | ((with_reducible refine Fin.go ?_); first | (refine Fin.p ?_; first | exact FT | (try refine TT ?_; try simp only [LF])) | refine Fin.a0 ?_ | refine Fin.a ?_ | refine Fin.ni ?_ | refine Fin.v ?_ ?_ | refine Fin.r ?_ ?_ | exact Fin.th | (refine Fin.t ?_; try simp only [AV.sl.injEq]))
    | (refine And.go ?_; refine AndI ?_)
    | fail)
  all_goals (try clear ih)
  all_goals (try dsimp only)
  all_goals (repeat' apply And.intro)
  all_goals first | omega | (simp only [ZL]; omega) | skip
  all_goals (try clear hr hk hB)
  all_goals first | (exfalso; rw [marksI_at _ _ _ (by omega)] at hc; exact hc rfl) | omega | (congr 1; omega) | skip

/-! ### Strings -/
def C_markS (P : Program) (f : Nat) : Prop := ∀ (l : List (List UInt8)), l.length ≤ 4294967296 → MarkT P f (.sl (enc l)) (fun k => .sl (enc (marks k.toNat l.length))) l.length
theorem w_markStringS.okT {P : Program} {k c_w_markText : Nat} (hk : Has P k (w_markStringS.X c_w_markText)) (h1 : C_markStringS P k) (h0 : C_markStringS0 P k) : C_markS P k := by
  refine fun l hl => MarkT.flat (fun _ => rfl) rfl (fun _ => marks_len _ _) (fun k n H id hk0 hk1 hm => ?_) (fun hl k hk0 hk1 => by subst hl; rw [List.length_nil, show k + ((0 : Nat) : Int) = k by omega]; exact h0 k)
  obtain ⟨j, rfl⟩ := Int.eq_ofNat_of_zero_le hk0
  refine Runs.mono (h1 j l.length n H id _ hl (by omega) hm (encS_flen l)) ?_
  rintro v n' H' ⟨rfl, rfl, rfl⟩
  exact ⟨rfl, rfl, rfl⟩
def C_heldS (P : Program) (f : Nat) : Prop := ∀ (k : Int) (len : Nat), len ≤ 4294967296 → 0 ≤ k → k ≤ 4294967296 → RunsF P f [.sl (enc (marks k.toNat len)), .int .i64 k] (.int .i64 (k + len))

def C_linkV (P : Program) (k : Nat) : Prop := ∀ x : Link, RunsF P k [.agg (Dat.row x)] (.agg (Dat.row x))
/-- laws.toLink -/
def w_toLink.x : XCode :=
  (.seq
    (.reg [⟨(some 1), .boxF, [.t 0], none⟩,
      ⟨(some 2), (.alloc [.int .u8 0, .int .u8 0]), [], none⟩] [1, 2])
    (.seq
      (.reg [⟨(some 3), (.alloc [.int .u8 0, .int .u8 0]), [], none⟩] [1, 2, 3])
      (.seq
        (.reg [⟨(some 4), (.fldA 0), [.t 1], none⟩,
          ⟨(some 5), (.ld none), [.t 4], none⟩,
          ⟨(some 6), (.fldA 0), [.t 3], none⟩,
          ⟨none, (.st none), [.t 6, .t 5], none⟩] [1, 2, 3])
        (.seq
          (.reg [⟨(some 7), (.fldA 1), [.t 1], none⟩,
            ⟨(some 8), (.ld none), [.t 7], none⟩,
            ⟨(some 9), (.fldA 1), [.t 3], none⟩,
            ⟨none, (.st none), [.t 9, .t 8], none⟩] [2, 3])
          (.seq
            (.reg [⟨(some 10), (.ld (some 2)), [.t 3], none⟩,
              ⟨none, (.st (some 2)), [.t 2, .t 10], none⟩] [2])
            .ret)))))
def w_toLink.F : Cfg := ⟨fun _ => 0, fun r => match r with | 0 => [1, 2] | 1 => [1, 2, 3] | 2 => [1, 2, 3] | 3 => [2, 3] | 4 => [2] | _ => []⟩
def w_toLink.X : FX := ⟨11, [.cell 2 (some 2)], w_toLink.F, w_toLink.x⟩

theorem w_toLink.ok {P : Program} {k : Nat} (hk : Has P k (w_toLink.X)) : C_linkV P k := by
  intro x n H
  refine S.ofX hk rfl fun hB fn hr => ?_
  unfold w_toLink.x
  repeat' (first
    | ((with_reducible refine S.go ?_); first | refine S.seq ?_ | refine S.skip ?_ | refine S.block ?_ | refine S.inBlock ?_ | refine S.exit rfl ?_ | refine S.regN ?_ | refine S.reg ?_ | refine S.drw hk.mo (by kernel_rfl) ?_ | (refine S.cond rfl (fun hc => ?_) (fun hc => ?_) <;> try simp only [HC] at hc) | refine S.retH hr rfl ?_ | refine S.finH hr rfl ?_ | (refine S.retK hr ?_; refine TR ?_) | fail)
    | ((first | with_reducible refine Ns.go ?_ | with_reducible refine XOs.go ?_ | with_reducible refine XDs.go ?_ | with_reducible refine OK.go ?_); (first | refine TT ?_ | (apply Ns.sc ⟨rfl, rfl⟩ rfl; intro hg) | (refine OK.tr ?_; refine TT ?_)); (try simp only [HC] at hg))
    | with_reducible exact rfl | exact ⟨rfl, rfl, rfl⟩
    | ((with_reducible refine Gd.go ?_); refine Gd.on (fun hg => ?_) (fun hg => ?_) <;> refine TG ?_ <;> (try simp only [HC] at hg))
    | ((with_reducible refine Fin.go ?_); first | (refine Fin.p ?_; first | exact FT | (try refine TT ?_; try simp only [LF])) | refine Fin.a0 ?_ | refine Fin.a ?_ | refine Fin.ni ?_ | refine Fin.v ?_ ?_ | refine Fin.r ?_ ?_ | exact Fin.th | (refine Fin.t ?_; try simp only [AV.sl.injEq]))
    | (refine And.go ?_; refine AndI ?_)
    | fail)

theorem endM_len (names : List (List UInt8)) (last : UInt8) : (endM names last).length ≤ names.length := by
  unfold endM; split
  · rw [marksB_len]; exact Nat.le_refl _
  · exact Nat.zero_le _
theorem stepM_len (names : List (List UInt8)) (last : UInt8) (x : Link) : (stepM names last x).length ≤ names.length := by
  unfold stepM; split
  · rw [marksB_len]; exact Nat.le_refl _
  · exact Nat.zero_le _
end Go.M04
