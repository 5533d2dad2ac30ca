/- Rankings and levels as text. Over any program. -/
import Derived.Test.YtobhjgipeepmoaaAbJoin
import Derived.Test.YtobhjgipeepmoaaN02
namespace Go.N03
open Go.Ab Siz Go.Lib01 Go.Lib03 Go.D01 Go.N02
set_option linter.unusedVariables false
set_option linter.unusedSimpArgs false
set_option maxRecDepth 2000

/-- The names in the order of a ranking. -/
def rnkNames (c : List (List UInt8)) (r : List Int) : List (List UInt8) := r.map fun i => c.getD i.toNat default
def fmtRnk (c : List (List UInt8)) (r : List Int) : List UInt8 := if isGram c r then Lib.join (rnkNames c r) [62] else []
theorem gram_in {c : List (List UInt8)} {r : List Int} (h : isGram c r = true) : r.length = c.length ∧ c.length ≤ 5 ∧ ∀ i, i < r.length → 0 ≤ r.getD i default ∧ r.getD i default < c.length := by
  simp only [isGram, isRnk, Bool.and_eq_true, decide_eq_true_eq] at h
  obtain ⟨-, h1, h2, h3⟩ := h
  refine ⟨by omega, by omega, fun i hi => ?_⟩
  have := (rnk_iff r c.length).mp h1
  have := this.1 _ (List.getElem_mem hi)
  rwa [← getD_at hi] at this
theorem join_snoc (l : List (List UInt8)) (x sep : List UInt8) : Lib.join (l ++ [x]) sep = if l = [] then x else Lib.join l sep ++ sep ++ x := by
  cases l with
  | nil => simp [Lib.join_one]
  | cons a l => simp [Lib.join_cons, Lib.joinTail]
theorem join_len {l : List (List UInt8)} {sep : List UInt8} {b : Nat} (h : ∀ s ∈ l, s.length ≤ b) : (Lib.join l sep).length ≤ l.length * (b + sep.length) := by
  cases l with
  | nil => simp [Lib.join_nil]
  | cons a l =>
    rw [Lib.join_cons, List.length_append]
    have h1 := h a (List.mem_cons_self ..)
    have h2 : (Lib.joinTail sep l).length ≤ l.length * (b + sep.length) := by
      have h' : ∀ s ∈ l, s.length ≤ b := fun s hs => h s (List.mem_cons_of_mem _ hs)
      clear h h1
      induction l with
      | nil => simp [Lib.joinTail]
      | cons x l ih =>
        have e : Lib.joinTail sep (x :: l) = sep ++ x ++ Lib.joinTail sep l := by simp [Lib.joinTail]
        rw [e, List.length_append, List.length_append, List.length_cons, Nat.succ_mul]
        have := h' x (List.mem_cons_self ..)
        have := ih fun s hs => h' s (List.mem_cons_of_mem _ hs)
        omega
    rw [List.length_cons, Nat.succ_mul]
    omega
theorem rnkN_len (c : List (List UInt8)) (r : List Int) : (rnkNames c r).length = r.length := by simp [rnkNames]
theorem rnkN_next {c : List (List UInt8)} {r : List Int} {i : Nat} (h : i < r.length) : rnkNames c (r.take (i + 1)) = rnkNames c (r.take i) ++ [c.getD (r.getD i default).toNat default] := by
  rw [take_succ _ _ h]; simp [rnkNames]
theorem rnkN_b {c : List (List UInt8)} {r : List Int} {b : Nat} (h : ∀ s ∈ c, s.length ≤ b) : ∀ s ∈ rnkNames c r, s.length ≤ b := by
  intro s hs
  obtain ⟨i, -, rfl⟩ := List.mem_map.mp hs
  by_cases hi : i.toNat < c.length
  · rw [getD_at hi]; exact h _ (List.getElem_mem hi)
  · rw [List.getD_eq_getElem?_getD, List.getElem?_eq_none (by omega)]; exact Nat.zero_le _
def C_fmtRnk (P : Program) (k : Nat) : Prop := ∀ (c : List (List UInt8)) (r : List Int), c.length ≤ 4294967295 → r.length ≤ 4294967295 → (∀ s ∈ c, s.length ≤ 4294967295) → RunsF P k [.sl (enc c), .sl (enc r)] (.str (fmtRnk c r))
/-- impl.FormatRanking -/
def i_FormatRanking.x (c_i_AreConstraints c_i_IsRanking c_strings_Join : Nat) : XCode :=
  (.seq
    (.reg [⟨(some 4), .mv, [.k (.str [])], none⟩] [0, 1])
    (.seq
      (.seq
        (.reg (flatNs none (nl [.op (some 8) .mv [.t 0], .op (some 9) .call [.k (.fn c_i_AreConstraints []), .t 8], .op (some 10) (.un .not) [.t 9], .op (some 11) .mv [.t 10], .sc 11 false (nl [.op (some 12) .mv [.t 1], .op (some 13) .mv [.t 0], .op (some 14) .lenL [.t 13], .op (some 15) .call [.k (.fn c_i_IsRanking []), .t 12, .t 14], .op (some 16) (.un .not) [.t 15]]) (.t 16) (some 17)])) [0, 1, 17])
        (.cond (.t 17)
          (.seq
            (.reg [⟨(some 4), .mv, [.k (.str [])], none⟩] [4])
            .ret)
          .skip))
      (.seq
        (.reg [⟨(some 18), (.bsl 1 1), [], none⟩,
          ⟨(some 5), .mv, [.t 18], none⟩] [0, 1, 5])
        (.seq
          (.seq
            (.reg [⟨(some 19), .mv, [.t 1], none⟩,
              ⟨(some 20), .lenL, [.t 19], none⟩,
              ⟨(some 21), .mv, [.k (.int .i64 0)], none⟩] [0, 5, 19, 20, 21])
            (.block 0
              (.loop
                (.seq
                  (.reg [⟨(some 22), (.bin .lss), [.t 21, .t 20], none⟩] [0, 5, 19, 20, 21, 22])
                  (.seq
                    (.cond (.t 22)
                      .skip
                      (.exit 0))
                    (.seq
                      (.block 1
                        (.seq
                          (.reg [⟨(some 23), (.idxA 1), [.t 19, .t 21], none⟩,
                            ⟨(some 24), (.ld none), [.t 23], none⟩,
                            ⟨(some 7), .mv, [.t 24], none⟩] [0, 5, 7, 19, 20, 21])
                          (.reg [⟨(some 25), .mv, [.t 5], none⟩,
                            ⟨(some 26), .mv, [.t 0], none⟩,
                            ⟨(some 27), .mv, [.t 7], none⟩,
                            ⟨(some 28), (.idxA 1), [.t 26, .t 27], none⟩,
                            ⟨(some 29), (.ld none), [.t 28], none⟩,
                            ⟨(some 30), (.bsl 0 1), [.t 29], none⟩,
                            ⟨(some 31), (.app 1 16), [.t 25, .t 30], none⟩,
                            ⟨(some 5), .mv, [.t 31], none⟩] [0, 5, 19, 20, 21])))
                      (.reg [⟨(some 32), (.bin .add), [.t 21, .k (.int .i64 1)], none⟩,
                        ⟨(some 21), .mv, [.t 32], none⟩] [0, 5, 19, 20, 21])))))))
          (.seq
            (.reg [⟨(some 33), .mv, [.t 5], none⟩,
              ⟨(some 34), .call, [.k (.fn c_strings_Join []), .t 33, .k (.str [62])], none⟩,
              ⟨(some 4), .mv, [.t 34], none⟩] [4])
            .ret)))))
def i_FormatRanking.F : Cfg := ⟨fun d => if d = 5 then 1 else if d = 18 then 1 else 0, fun r => match r with | 0 => [0, 1] | 1 => [0, 1, 17] | 2 => [4] | 3 => [0, 1, 5] | 4 => [0, 5, 19, 20, 21] | 5 => [0, 5, 19, 20, 21, 22] | 6 => [0, 5, 7, 19, 20, 21] | 7 => [0, 5, 19, 20, 21] | 8 => [0, 5, 19, 20, 21] | 9 => [4] | _ => []⟩
def i_FormatRanking.X (c_i_AreConstraints c_i_IsRanking c_strings_Join : Nat) : FX := ⟨35, [.tmp 4], i_FormatRanking.F, i_FormatRanking.x c_i_AreConstraints c_i_IsRanking c_strings_Join⟩

theorem i_FormatRanking.ok {P : Program} {k c_i_AreConstraints c_i_IsRanking c_strings_Join : Nat} (hk : Has P k (i_FormatRanking.X c_i_AreConstraints c_i_IsRanking c_strings_Join)) (h1 : C_AreConstraints P c_i_AreConstraints) (h2 : C_IsRanking P c_i_IsRanking) (h3 : C_joinB P c_strings_Join) : C_fmtRnk P k := by
  intro c r hc1 hr1 hc2 n H
  have k3 := join_runs h3
  refine S.ofX hk rfl fun hB fn hr => ?_
  unfold i_FormatRanking.x
  repeat' (first
    | ((with_reducible refine S.go ?_); first | refine S.seq ?_ | refine S.skip ?_ | refine S.block ?_ | refine S.inBlock ?_ | refine S.exit rfl ?_ | refine S.regN ?_ | refine S.reg ?_ | refine S.drw hk.mo (by kernel_rfl) ?_ | (refine S.cond rfl (fun hc => ?_) (fun hc => ?_) <;> try simp only [HC] at hc) | refine S.retH hr rfl ?_ | refine S.finH hr rfl ?_ | (refine S.retK hr ?_; refine TRdt ?_) | fail)
    | ((first | with_reducible refine Ns.go ?_ | with_reducible refine XOs.go ?_ | with_reducible refine XDs.go ?_ | with_reducible refine OK.go ?_); (first | refine TTdt ?_ | (apply Ns.sc ⟨rfl, rfl⟩ rfl; intro hg) | (refine OK.tr ?_; refine TTdt ?_)); (try simp only [HC] at hg))
    | with_reducible exact rfl | exact ⟨rfl, rfl, rfl⟩
    | ((with_reducible refine RunsT.go ?_); first | refine RunsF.apf (h1 _ (by omega)) rfl ?_ | refine RunsF.apf (h2 _ _ hr1) rfl ?_ | fail)
    | ((with_reducible refine RunsD.go ?_); first | refine RunsF.apd (h1 _ (by omega)) rfl ?_ | refine RunsF.apd (h2 _ _ hr1) rfl ?_ | fail)
    | ((with_reducible refine Gd.go ?_); refine Gd.on (fun hg => ?_) (fun hg => ?_) <;> refine TGdt ?_ <;> (try simp only [HC] at hg))
    | ((with_reducible refine Fin.go ?_); first | (refine Fin.p ?_; first | exact FT | (try refine TTdt ?_; try simp only [LF])) | refine Fin.a0 ?_ | refine Fin.a ?_ | refine Fin.ni ?_ | refine Fin.v ?_ ?_ | refine Fin.r ?_ ?_ | exact Fin.th | (refine Fin.t ?_; try simp only [AV.sl.injEq]))
    | (refine And.go ?_; refine AndI ?_)
    | fail)
  · rw [fmtRnk, if_neg (by simp only [isGram]; grind)]
  have hg : isGram c r = true := by simp only [isGram, hc]; rfl
  obtain ⟨g1, g2, g3⟩ := gram_in hg
  refine S.loopV (σ := Nat × (List (List UInt8))) [0, 5, 19, 20, 21] (fun s => [(5, .acc n 1 (enc s.2)), (21, .int .i64 (s.1 : Int))]) (fun s => s.1 ≤ r.length ∧ s.2 = rnkNames c (r.take s.1) ∧ s.2.length = s.1) (fun s => n + 1) (fun s => (n, .tok 1 s.2.length) :: H) (fun s => r.length - s.1) (0, []) (⟨by omega, ?_, ?_⟩) ?_
  · first | rfl | omega | (simp; done) | (simp; omega) | skip
  · first | rfl | omega | (simp; done) | (simp; omega) | skip
  rintro ⟨i, out⟩ ⟨hi1, hi2, hi3⟩ ih
  try dsimp only at hi1 hi2 hi3
  have jl := join_len (sep := [62]) (rnkN_b (r := r.take i) hc2)
  rw [rnkN_len, List.length_take, ← hi2] at jl
  simp only [List.length_cons, List.length_nil] at jl
  have hq : r.length ≤ i ∨ (0 ≤ r.getD i default ∧ r.getD i default < c.length) := by
    by_cases h : i < r.length
    · exact .inr (g3 i h)
    · exact .inl (by omega)
  repeat' (first
    | ((with_reducible refine S.go ?_); first | refine S.seq ?_ | refine S.skip ?_ | refine S.block ?_ | refine S.inBlock ?_ | refine S.exit rfl ?_ | refine S.regN ?_ | refine S.reg ?_ | refine S.drw hk.mo (by kernel_rfl) ?_ | refine S.ag (ih ((i + 1, _)) ?_ ?_) | (refine S.cond rfl (fun hc => ?_) (fun hc => ?_) <;> try simp only [HC] at hc) | refine S.retH hr rfl ?_ | refine S.finH hr rfl ?_ | (refine S.retK hr ?_; refine TRdt ?_) | fail)
    | ((first | with_reducible refine Ns.go ?_ | with_reducible refine XOs.go ?_ | with_reducible refine XDs.go ?_ | with_reducible refine OK.go ?_); (first | refine TTdt ?_ | (apply Ns.sc ⟨rfl, rfl⟩ rfl; intro hg) | (refine OK.tr ?_; refine TTdt ?_)); (try simp only [HC] at hg))
    | with_reducible exact rfl | exact ⟨rfl, rfl, rfl⟩
    | ((with_reducible refine RunsT.go ?_); first | refine RunsF.apf (k3 out [62] (by omega) (by omega)) rfl ?_ | fail)
    | ((with_reducible refine RunsD.go ?_); first | refine RunsF.apd (k3 out [62] (by omega) (by omega)) rfl ?_ | fail)
    | ((with_reducible refine Gd.go ?_); refine Gd.on (fun hg => ?_) (fun hg => ?_) <;> refine TGdt ?_ <;> (try simp only [HC] at hg))
    | ((with_reducible refine Fin.go ?_); first | (refine Fin.p ?_; first | exact FT | (try refine TTdt ?_; try simp only [LF])) | refine Fin.a0 ?_ | refine Fin.a ?_ | refine Fin.ni ?_ | refine Fin.v ?_ ?_ | refine Fin.r ?_ ?_ | exact Fin.th | (refine Fin.t ?_; try simp only [AV.sl.injEq]))
    | (refine And.go ?_; refine AndI ?_)
    | fail)
  all_goals (try clear ih)
  all_goals (try dsimp only)
  all_goals (repeat' apply And.intro)
  all_goals first | omega | (simp only [ZL]; omega) | skip
  all_goals (try clear hr hk hB)
  all_goals first | (rw [rnkN_next (by omega), hi2]) | (rw [hi2, List.take_of_length_le (by omega), fmtRnk, if_pos hg])
theorem join_step {l : List (List UInt8)} {x sep : List UInt8} {i : Nat} (hl : l.length = i) : Lib.join (l ++ [x]) sep = if i = 0 then x else Lib.join l sep ++ sep ++ x := by
  rw [join_snoc]
  by_cases h : i = 0
  · rw [if_pos h, if_pos (List.eq_nil_of_length_eq_zero (hl.trans h))]
  · rw [if_neg h, if_neg (by rintro rfl; exact h hl.symm)]
/-- spec.FormatRanking -/
def s_FormatRanking.x (c_s_AreConstraints c_s_IsRanking : Nat) : XCode :=
  (.seq
    (.reg [⟨(some 4), .mv, [.k (.str [])], none⟩] [0, 1])
    (.seq
      (.seq
        (.reg (flatNs none (nl [.op (some 7) .mv [.t 0], .op (some 8) .call [.k (.fn c_s_AreConstraints []), .t 7], .op (some 9) (.un .not) [.t 8], .op (some 10) .mv [.t 9], .sc 10 false (nl [.op (some 11) .mv [.t 1], .op (some 12) .mv [.t 0], .op (some 13) .lenL [.t 12], .op (some 14) .call [.k (.fn c_s_IsRanking []), .t 11, .t 13], .op (some 15) (.un .not) [.t 14]]) (.t 15) (some 16)])) [0, 1, 16])
        (.cond (.t 16)
          (.seq
            (.reg [⟨(some 4), .mv, [.k (.str [])], none⟩] [4])
            .ret)
          .skip))
      (.seq
        (.reg [⟨(some 5), .mv, [.k (.str [])], none⟩] [0, 1, 5])
        (.seq
          (.seq
            (.reg [⟨(some 6), .mv, [.k (.int .i64 0)], none⟩] [0, 1, 5, 6])
            (.block 0
              (.loop
                (.seq
                  (.seq
                    (.reg [⟨(some 17), .mv, [.t 6], none⟩,
                      ⟨(some 18), .mv, [.t 1], none⟩,
                      ⟨(some 19), .lenL, [.t 18], none⟩,
                      ⟨(some 20), (.bin .lss), [.t 17, .t 19], none⟩] [0, 1, 5, 6, 20])
                    (.cond (.t 20)
                      .skip
                      (.exit 0)))
                  (.seq
                    (.block 1
                      (.seq
                        (.seq
                          (.reg [⟨(some 23), .mv, [.t 6], none⟩,
                            ⟨(some 24), (.bin .gtr), [.t 23, .k (.int .i64 0)], none⟩] [0, 1, 5, 6, 24])
                          (.cond (.t 24)
                            (.reg [⟨(some 25), .mv, [.t 5], none⟩,
                              ⟨(some 26), (.bin .add), [.t 25, .k (.str [62])], none⟩,
                              ⟨(some 5), .mv, [.t 26], none⟩] [0, 1, 5, 6])
                            .skip))
                        (.reg [⟨(some 27), .mv, [.t 5], none⟩,
                          ⟨(some 28), .mv, [.t 0], none⟩,
                          ⟨(some 29), .mv, [.t 1], none⟩,
                          ⟨(some 30), .mv, [.t 6], none⟩,
                          ⟨(some 31), (.idxA 1), [.t 29, .t 30], none⟩,
                          ⟨(some 32), (.ld none), [.t 31], none⟩,
                          ⟨(some 33), (.idxA 1), [.t 28, .t 32], none⟩,
                          ⟨(some 34), (.ld none), [.t 33], none⟩,
                          ⟨(some 35), (.bin .add), [.t 27, .t 34], none⟩,
                          ⟨(some 5), .mv, [.t 35], none⟩] [0, 1, 5, 6])))
                    (.reg [⟨(some 21), .mv, [.t 6], none⟩,
                      ⟨(some 22), (.bin .add), [.t 21, .k (.int .i64 1)], none⟩,
                      ⟨(some 6), .mv, [.t 22], none⟩] [0, 1, 5, 6]))))))
          (.seq
            (.reg [⟨(some 36), .mv, [.t 5], none⟩,
              ⟨(some 4), .mv, [.t 36], none⟩] [4])
            .ret)))))
def s_FormatRanking.F : Cfg := ⟨fun _ => 0, fun r => match r with | 0 => [0, 1] | 1 => [0, 1, 16] | 2 => [4] | 3 => [0, 1, 5] | 4 => [0, 1, 5, 6] | 5 => [0, 1, 5, 6, 20] | 6 => [0, 1, 5, 6] | 7 => [0, 1, 5, 6, 24] | 8 => [0, 1, 5, 6] | 9 => [0, 1, 5, 6] | 10 => [4] | _ => []⟩
def s_FormatRanking.X (c_s_AreConstraints c_s_IsRanking : Nat) : FX := ⟨37, [.tmp 4], s_FormatRanking.F, s_FormatRanking.x c_s_AreConstraints c_s_IsRanking⟩

theorem s_FormatRanking.ok {P : Program} {k c_s_AreConstraints c_s_IsRanking : Nat} (hk : Has P k (s_FormatRanking.X c_s_AreConstraints c_s_IsRanking)) (h1 : C_AreConstraints P c_s_AreConstraints) (h2 : C_IsRanking P c_s_IsRanking) : C_fmtRnk P k := by
  intro c r hc1 hr1 hc2 n H
  refine S.ofX hk rfl fun hB fn hr => ?_
  unfold s_FormatRanking.x
  repeat' (first
    | ((with_reducible refine S.go ?_); first | refine S.seq ?_ | refine S.skip ?_ | refine S.block ?_ | refine S.inBlock ?_ | refine S.exit rfl ?_ | refine S.regN ?_ | refine S.reg ?_ | refine S.drw hk.mo (by kernel_rfl) ?_ | (refine S.cond rfl (fun hc => ?_) (fun hc => ?_) <;> try simp only [HC] at hc) | refine S.retH hr rfl ?_ | refine S.finH hr rfl ?_ | (refine S.retK hr ?_; refine TRdt ?_) | fail)
    | ((first | with_reducible refine Ns.go ?_ | with_reducible refine XOs.go ?_ | with_reducible refine XDs.go ?_ | with_reducible refine OK.go ?_); (first | refine TTdt ?_ | (apply Ns.sc ⟨rfl, rfl⟩ rfl; intro hg) | (refine OK.tr ?_; refine TTdt ?_)); (try simp only [HC] at hg))
    | with_reducible exact rfl | exact ⟨rfl, rfl, rfl⟩
    | ((with_reducible refine RunsT.go ?_); first | refine RunsF.apf (h1 _ (by omega)) rfl ?_ | refine RunsF.apf (h2 _ _ hr1) rfl ?_ | fail)
    | ((with_reducible refine RunsD.go ?_); first | refine RunsF.apd (h1 _ (by omega)) rfl ?_ | refine RunsF.apd (h2 _ _ hr1) rfl ?_ | fail)
    | ((with_reducible refine Gd.go ?_); refine Gd.on (fun hg => ?_) (fun hg => ?_) <;> refine TGdt ?_ <;> (try simp only [HC] at hg))
    | ((with_reducible refine Fin.go ?_); first | (refine Fin.p ?_; first | exact FT | (try refine TTdt ?_; try simp only [LF])) | refine Fin.a0 ?_ | refine Fin.a ?_ | refine Fin.ni ?_ | refine Fin.v ?_ ?_ | refine Fin.r ?_ ?_ | exact Fin.th | (refine Fin.t ?_; try simp only [AV.sl.injEq]))
    | (refine And.go ?_; refine AndI ?_)
    | fail)
  · rw [fmtRnk, if_neg (by simp only [isGram]; grind)]
  have hg : isGram c r = true := by simp only [isGram, hc]; rfl
  obtain ⟨g1, g2, g3⟩ := gram_in hg
  refine S.loopV (σ := Nat × (List UInt8)) [0, 1, 5, 6] (fun s => [(5, .str s.2), (6, .int .i64 (s.1 : Int))]) (fun s => s.1 ≤ r.length ∧ s.2 = Lib.join (rnkNames c (r.take s.1)) [62]) (fun s => n) (fun s => H) (fun s => r.length - s.1) (0, []) (⟨by omega, ?_⟩) ?_
  · first | rfl | omega | (simp; done) | (simp; omega) | skip
  rintro ⟨i, out⟩ ⟨hi1, hi2⟩ ih
  try dsimp only at hi1 hi2
  have jl := join_len (sep := [62]) (rnkN_b (r := r.take i) hc2)
  rw [rnkN_len, List.length_take, ← hi2] at jl
  simp only [List.length_cons, List.length_nil] at jl
  have hq : r.length ≤ i ∨ (0 ≤ r.getD i default ∧ r.getD i default < c.length ∧ (c.getD (r.getD i default).toNat default).length ≤ 4294967295) := by
    by_cases h : i < r.length
    · obtain ⟨q1, q2⟩ := g3 i h
      refine .inr ⟨q1, q2, ?_⟩
      rw [getD_at (by omega)]; exact hc2 _ (List.getElem_mem _)
    · exact .inl (by omega)
  repeat' (first
    | ((with_reducible refine S.go ?_); first | refine S.seq ?_ | refine S.skip ?_ | refine S.block ?_ | refine S.inBlock ?_ | refine S.exit rfl ?_ | refine S.regN ?_ | refine S.reg ?_ | refine S.drw hk.mo (by kernel_rfl) ?_ | refine S.ag (ih ((i + 1, _)) ?_ ?_) | (refine S.cond rfl (fun hc => ?_) (fun hc => ?_) <;> try simp only [HC] at hc) | refine S.retH hr rfl ?_ | refine S.finH hr rfl ?_ | (refine S.retK hr ?_; refine TRdt ?_) | fail)
    | ((first | with_reducible refine Ns.go ?_ | with_reducible refine XOs.go ?_ | with_reducible refine XDs.go ?_ | with_reducible refine OK.go ?_); (first | refine TTdt ?_ | (apply Ns.sc ⟨rfl, rfl⟩ rfl; intro hg) | (refine OK.tr ?_; refine TTdt ?_)); (try simp only [HC] at hg))
    | with_reducible exact rfl | exact ⟨rfl, rfl, rfl⟩
    | ((with_reducible refine Gd.go ?_); refine Gd.on (fun hg => ?_) (fun hg => ?_) <;> refine TGdt ?_ <;> (try simp only [HC] at hg))
    | ((with_reducible refine Fin.go ?_); first | (refine Fin.p ?_; first | exact FT | (try refine TTdt ?_; try simp only [LF])) | refine Fin.a0 ?_ | refine Fin.a ?_ | refine Fin.ni ?_ | refine Fin.v ?_ ?_ | refine Fin.r ?_ ?_ | exact Fin.th | (refine Fin.t ?_; try simp only [AV.sl.injEq]))
    | (refine And.go ?_; refine AndI ?_)
    | fail)
  all_goals (try clear ih)
  all_goals (try dsimp only)
  all_goals (repeat' apply And.intro)
  all_goals first | omega | (simp only [ZL]; omega) | skip
  all_goals (try clear hr hk hB)
  all_goals first | (rw [rnkN_next (by omega), join_step (i := i) (by rw [rnkN_len, List.length_take]; omega), ← hi2]; first | rw [if_neg (by omega)] | (rw [if_pos (by omega)]; have e0 : i = 0 := (by omega); subst e0; rw [hi2]; rfl)) | (rw [hi2, List.take_of_length_le (by omega), fmtRnk, if_pos hg])
def nNone : List UInt8 := [110, 111, 110, 101]
def orN (l : List (List UInt8)) (m : Int) : List UInt8 := if Lib.join l [32] ≠ [] ∧ (l.length : Int) ≤ m then Lib.join l [32] else nNone
def C_orNone (P : Program) (k : Nat) : Prop := ∀ (l : List (List UInt8)) (m : Int), l.length ≤ 4294967296 → (Lib.join l [32]).length ≤ 140737488355328 → RunsF P k [.sl (enc l), .int .i64 m] (.str (orN l m))
/-- impl.orNone -/
def i_orNone.x (c_strings_Join : Nat) : XCode :=
  (.seq
    (.reg [⟨(some 4), .mv, [.k (.str [])], none⟩] [0, 1])
    (.seq
      (.seq
        (.reg [⟨(some 6), .mv, [.t 0], none⟩,
          ⟨(some 7), .call, [.k (.fn c_strings_Join []), .t 6, .k (.str [32])], none⟩,
          ⟨(some 5), .mv, [.t 7], none⟩] [0, 1, 5])
        (.seq
          (.reg (flatNs none (nl [.op (some 8) .mv [.t 5], .op (some 9) (.bin .neq) [.t 8, .k (.str [])], .op (some 10) .mv [.t 9], .sc 10 true (nl [.op (some 11) .mv [.t 0], .op (some 12) .lenL [.t 11], .op (some 13) .mv [.t 1], .op (some 14) (.bin .leq) [.t 12, .t 13]]) (.t 14) (some 15)])) [5, 15])
          (.cond (.t 15)
            (.seq
              (.reg [⟨(some 16), .mv, [.t 5], none⟩,
                ⟨(some 4), .mv, [.t 16], none⟩] [4])
              .ret)
            .skip)))
      (.seq
        (.reg [⟨(some 4), .mv, [.k (.str [110, 111, 110, 101])], none⟩] [4])
        .ret)))
def i_orNone.F : Cfg := ⟨fun _ => 0, fun r => match r with | 0 => [0, 1] | 1 => [0, 1, 5] | 2 => [5, 15] | 3 => [4] | 4 => [4] | _ => []⟩
def i_orNone.X (c_strings_Join : Nat) : FX := ⟨17, [.tmp 4], i_orNone.F, i_orNone.x c_strings_Join⟩

theorem i_orNone.ok {P : Program} {k c_strings_Join : Nat} (hk : Has P k (i_orNone.X c_strings_Join)) (h3 : C_joinB P c_strings_Join) : C_orNone P k := by
  intro l m hl hj n H
  have k3 := join_runs h3 l [32] hl hj
  refine S.ofX hk rfl fun hB fn hr => ?_
  unfold i_orNone.x
  repeat' (first
    | ((with_reducible refine S.go ?_); first | refine S.seq ?_ | refine S.skip ?_ | refine S.block ?_ | refine S.inBlock ?_ | refine S.exit rfl ?_ | refine S.regN ?_ | refine S.reg ?_ | refine S.drw hk.mo (by kernel_rfl) ?_ | (refine S.cond rfl (fun hc => ?_) (fun hc => ?_) <;> try simp only [HC] at hc) | refine S.retH hr rfl ?_ | refine S.finH hr rfl ?_ | (refine S.retK hr ?_; refine TRdt ?_) | fail)
    | ((first | with_reducible refine Ns.go ?_ | with_reducible refine XOs.go ?_ | with_reducible refine XDs.go ?_ | with_reducible refine OK.go ?_); (first | refine TTdt ?_ | (apply Ns.sc ⟨rfl, rfl⟩ rfl; intro hg) | (refine OK.tr ?_; refine TTdt ?_)); (try simp only [HC] at hg))
    | with_reducible exact rfl | exact ⟨rfl, rfl, rfl⟩
    | ((with_reducible refine RunsT.go ?_); first | refine RunsF.apf (k3) rfl ?_ | fail)
    | ((with_reducible refine RunsD.go ?_); first | refine RunsF.apd (k3) rfl ?_ | fail)
    | ((with_reducible refine Gd.go ?_); refine Gd.on (fun hg => ?_) (fun hg => ?_) <;> refine TGdt ?_ <;> (try simp only [HC] at hg))
    | ((with_reducible refine Fin.go ?_); first | (refine Fin.p ?_; first | exact FT | (try refine TTdt ?_; try simp only [LF])) | refine Fin.a0 ?_ | refine Fin.a ?_ | refine Fin.ni ?_ | refine Fin.v ?_ ?_ | refine Fin.r ?_ ?_ | exact Fin.th | (refine Fin.t ?_; try simp only [AV.sl.injEq]))
    | (refine And.go ?_; refine AndI ?_)
    | fail)
  all_goals (try clear hr hk hB)
  all_goals (rw [orN]; first | rw [if_pos (by simpa using hc)] | (rw [if_neg (by simp at hc ⊢; grind)]; rfl))
def fmtLvls (l : List Lvl) : List UInt8 := orN (l.map fun x => fmtRnk x.1 x.2) 3
def C_fmtLvls (P : Program) (k : Nat) : Prop := ∀ l : List Lvl, ok 1048576 l → RunsF P k [.sl (enc l)] (.str (fmtLvls l))
theorem fmt_len {c : List (List UInt8)} {r : List Int} {b : Nat} (h : ∀ s ∈ c, s.length ≤ b) : (fmtRnk c r).length ≤ 5 * (b + 1) := by
  unfold fmtRnk
  by_cases hg : isGram c r = true
  · rw [if_pos hg]
    obtain ⟨g1, g2, g3⟩ := gram_in hg
    have := join_len (sep := [62]) (rnkN_b (r := r) h)
    rw [rnkN_len] at this
    have h2 : r.length * (b + [(62 : UInt8)].length) ≤ 5 * (b + 1) := Nat.mul_le_mul (by omega) (by simp)
    omega
  · rw [if_neg hg]; exact Nat.zero_le _
abbrev fl (l : List Lvl) : List (List UInt8) := l.map fun x => fmtRnk x.1 x.2
theorem fl_b {l : List Lvl} (h : ok 1048576 l) (i : Nat) : ∀ s ∈ fl (l.take i), s.length ≤ 5242885 := by
  intro s hs
  obtain ⟨x, hx, rfl⟩ := List.mem_map.mp hs
  have := (h.2 x (List.mem_of_mem_take hx)).1.2
  exact fmt_len this
theorem fl_j {l : List Lvl} (h : ok 1048576 l) (i : Nat) : (Lib.join (fl (l.take i)) [32]).length ≤ 5497570852864 := by
  have h1 := join_len (sep := [32]) (fl_b h i)
  have h2 : (fl (l.take i)).length * (5242885 + [(32 : UInt8)].length) ≤ 1048576 * 5242886 := Nat.mul_le_mul (by have := h.1; simp only [List.length_map, List.length_take]; omega) (by simp)
  omega
theorem fl_next {l : List Lvl} {i : Nat} (h : i < l.length) : fl (l.take (i + 1)) = fl (l.take i) ++ [fmtRnk (l.getD i default).1 (l.getD i default).2] := by
  rw [take_succ _ _ h]; simp
/-- impl.FormatLevels -/
def i_FormatLevels.x (c_i_FormatRanking c_i_orNone : Nat) : XCode :=
  (.seq
    (.reg [⟨(some 2), .mv, [.k (.str [])], none⟩] [0])
    (.seq
      (.reg [⟨(some 6), (.bsl 1 1), [], none⟩,
        ⟨(some 3), .mv, [.t 6], none⟩] [0, 3])
      (.seq
        (.seq
          (.reg [⟨(some 7), .mv, [.t 0], none⟩,
            ⟨(some 8), .lenL, [.t 7], none⟩,
            ⟨(some 9), .mv, [.k (.int .i64 0)], none⟩] [3, 7, 8, 9])
          (.block 0
            (.loop
              (.seq
                (.reg [⟨(some 10), (.bin .lss), [.t 9, .t 8], none⟩] [3, 7, 8, 9, 10])
                (.seq
                  (.cond (.t 10)
                    .skip
                    (.exit 0))
                  (.seq
                    (.block 1
                      (.seq
                        (.reg [⟨(some 11), (.idxA 2), [.t 7, .t 9], none⟩,
                          ⟨(some 12), (.ld (some 2)), [.t 11], none⟩,
                          ⟨(some 5), (.alloc [.nilsl, .nilsl]), [], none⟩,
                          ⟨none, (.st (some 2)), [.t 5, .t 12], none⟩] [3, 5, 7, 8, 9])
                        (.reg [⟨(some 13), .mv, [.t 3], none⟩,
                          ⟨(some 14), (.fldA 0), [.t 5], none⟩,
                          ⟨(some 15), (.ld none), [.t 14], none⟩,
                          ⟨(some 16), (.fldA 1), [.t 5], none⟩,
                          ⟨(some 17), (.ld none), [.t 16], none⟩,
                          ⟨(some 18), .call, [.k (.fn c_i_FormatRanking []), .t 15, .t 17], none⟩,
                          ⟨(some 19), (.bsl 0 1), [.t 18], none⟩,
                          ⟨(some 20), (.app 1 16), [.t 13, .t 19], none⟩,
                          ⟨(some 3), .mv, [.t 20], none⟩] [3, 7, 8, 9])))
                    (.reg [⟨(some 21), (.bin .add), [.t 9, .k (.int .i64 1)], none⟩,
                      ⟨(some 9), .mv, [.t 21], none⟩] [3, 7, 8, 9])))))))
        (.seq
          (.reg [⟨(some 22), .mv, [.t 3], none⟩,
            ⟨(some 23), .call, [.k (.fn c_i_orNone []), .t 22, .k (.int .i64 3)], none⟩,
            ⟨(some 2), .mv, [.t 23], none⟩] [2])
          .ret))))
def i_FormatLevels.F : Cfg := ⟨fun d => if d = 3 then 1 else if d = 6 then 1 else 0, fun r => match r with | 0 => [0] | 1 => [0, 3] | 2 => [3, 7, 8, 9] | 3 => [3, 7, 8, 9, 10] | 4 => [3, 5, 7, 8, 9] | 5 => [3, 7, 8, 9] | 6 => [3, 7, 8, 9] | 7 => [2] | _ => []⟩
def i_FormatLevels.X (c_i_FormatRanking c_i_orNone : Nat) : FX := ⟨24, [.tmp 2], i_FormatLevels.F, i_FormatLevels.x c_i_FormatRanking c_i_orNone⟩

theorem i_FormatLevels.ok {P : Program} {k c_i_FormatRanking c_i_orNone : Nat} (hk : Has P k (i_FormatLevels.X c_i_FormatRanking c_i_orNone)) (h1 : C_fmtRnk P c_i_FormatRanking) (h2 : C_orNone P c_i_orNone) : C_fmtLvls P k := by
  intro l hl n H
  have hl1 : l.length ≤ 1048576 := hl.1
  have hx : ∀ i, i < l.length → (l.getD i default).1.length ≤ 1048576 ∧ (l.getD i default).2.length ≤ 1048576 ∧ ∀ s ∈ (l.getD i default).1, s.length ≤ 4294967295 := fun i hi => by
    obtain ⟨⟨q1, q2⟩, q3, -⟩ := ok_at hl.2 hi
    exact ⟨q1, q3, fun s hs => by have : s.length ≤ 1048576 := q2 s hs; omega⟩
  refine S.ofX hk rfl fun hB fn hr => ?_
  unfold i_FormatLevels.x
  repeat' (first
    | ((with_reducible refine S.go ?_); first | refine S.seq ?_ | refine S.skip ?_ | refine S.block ?_ | refine S.inBlock ?_ | refine S.exit rfl ?_ | refine S.regN ?_ | refine S.reg ?_ | refine S.drw hk.mo (by kernel_rfl) ?_ | (refine S.cond rfl (fun hc => ?_) (fun hc => ?_) <;> try simp only [HC] at hc) | refine S.retH hr rfl ?_ | refine S.finH hr rfl ?_ | (refine S.retK hr ?_; refine TRdt ?_) | fail)
    | ((first | with_reducible refine Ns.go ?_ | with_reducible refine XOs.go ?_ | with_reducible refine XDs.go ?_ | with_reducible refine OK.go ?_); (first | refine TTdt ?_ | (apply Ns.sc ⟨rfl, rfl⟩ rfl; intro hg) | (refine OK.tr ?_; refine TTdt ?_)); (try simp only [HC] at hg))
    | with_reducible exact rfl | exact ⟨rfl, rfl, rfl⟩
    | ((with_reducible refine Gd.go ?_); refine Gd.on (fun hg => ?_) (fun hg => ?_) <;> refine TGdt ?_ <;> (try simp only [HC] at hg))
    | ((with_reducible refine Fin.go ?_); first | (refine Fin.p ?_; first | exact FT | (try refine TTdt ?_; try simp only [LF])) | refine Fin.a0 ?_ | refine Fin.a ?_ | refine Fin.ni ?_ | refine Fin.v ?_ ?_ | refine Fin.r ?_ ?_ | exact Fin.th | (refine Fin.t ?_; try simp only [AV.sl.injEq]))
    | (refine And.go ?_; refine AndI ?_)
    | fail)
  refine S.loopV (σ := Nat × (List (List UInt8))) [3, 7, 8, 9] (fun s => [(3, .acc n 1 (enc s.2)), (9, .int .i64 (s.1 : Int))]) (fun s => s.1 ≤ l.length ∧ s.2 = fl (l.take s.1) ∧ s.2.length = s.1) (fun s => n + 1 + s.1) (fun s => (n, .tok 1 s.2.length) :: H) (fun s => l.length - s.1) (0, []) (⟨by omega, ?_, ?_⟩) ?_
  · first | rfl | omega | (simp; done) | (simp; omega) | skip
  · first | rfl | omega | (simp; done) | (simp; omega) | skip
  rintro ⟨i, out⟩ ⟨hi1, hi2, hi3⟩ ih
  try dsimp only at hi1 hi2 hi3
  have hj := fl_j hl i
  rw [← hi2] at hj
  repeat' (first
    | ((with_reducible refine S.go ?_); first | refine S.seq ?_ | refine S.skip ?_ | refine S.block ?_ | refine S.inBlock ?_ | refine S.exit rfl ?_ | refine S.regN ?_ | refine S.reg ?_ | refine S.drw hk.mo (by kernel_rfl) ?_ | refine S.ag (ih ((i + 1, _)) ?_ ?_) | (refine S.cond rfl (fun hc => ?_) (fun hc => ?_) <;> try simp only [HC] at hc) | refine S.retH hr rfl ?_ | refine S.finH hr rfl ?_ | (refine S.retK hr ?_; refine TRdt ?_) | fail)
    | ((first | with_reducible refine Ns.go ?_ | with_reducible refine XOs.go ?_ | with_reducible refine XDs.go ?_ | with_reducible refine OK.go ?_); (first | refine TTdt ?_ | (apply Ns.sc ⟨rfl, rfl⟩ rfl; intro hg) | (refine OK.tr ?_; refine TTdt ?_)); (try simp only [HC] at hg))
    | with_reducible exact rfl | exact ⟨rfl, rfl, rfl⟩
    | ((with_reducible refine RunsT.go ?_); first | refine RunsF.apf (h1 _ _ (by have := hx i (by omega); omega) (by have := hx i (by omega); omega) (hx i (by omega)).2.2) rfl ?_ | refine RunsF.apf (h2 out 3 (by omega) (by omega)) rfl ?_ | fail)
    | ((with_reducible refine RunsD.go ?_); first | refine RunsF.apd (h1 _ _ (by have := hx i (by omega); omega) (by have := hx i (by omega); omega) (hx i (by omega)).2.2) rfl ?_ | refine RunsF.apd (h2 out 3 (by omega) (by omega)) rfl ?_ | fail)
    | ((with_reducible refine Gd.go ?_); refine Gd.on (fun hg => ?_) (fun hg => ?_) <;> refine TGdt ?_ <;> (try simp only [HC] at hg))
    | ((with_reducible refine Fin.go ?_); first | (refine Fin.p ?_; first | exact FT | (try refine TTdt ?_; try simp only [LF])) | refine Fin.a0 ?_ | refine Fin.a ?_ | refine Fin.ni ?_ | refine Fin.v ?_ ?_ | refine Fin.r ?_ ?_ | exact Fin.th | (refine Fin.t ?_; try simp only [AV.sl.injEq]))
    | (refine And.go ?_; refine AndI ?_)
    | fail)
  all_goals (try clear ih)
  all_goals (try dsimp only)
  all_goals (repeat' apply And.intro)
  all_goals first | omega | (simp only [ZL]; omega) | skip
  all_goals (try clear hr hk hB)
  all_goals first | (rw [fl_next (by omega), hi2]) | (rw [fmtLvls, hi2, List.take_of_length_le (by omega)])
/-- spec.FormatLevels -/
def s_FormatLevels.x (c_s_FormatRanking : Nat) : XCode :=
  (.seq
    (.reg [⟨(some 2), .mv, [.k (.str [])], none⟩] [0])
    (.seq
      (.reg [⟨(some 3), .mv, [.k (.str [])], none⟩] [0, 3])
      (.seq
        (.seq
          (.reg [⟨(some 4), .mv, [.k (.int .i64 0)], none⟩] [0, 3, 4])
          (.block 0
            (.loop
              (.seq
                (.seq
                  (.reg (flatNs none (nl [.op (some 5) .mv [.t 4], .op (some 6) .mv [.t 0], .op (some 7) .lenL [.t 6], .op (some 8) (.bin .lss) [.t 5, .t 7], .op (some 9) .mv [.t 8], .sc 9 true (nl [.op (some 10) .mv [.t 0], .op (some 11) .lenL [.t 10], .op (some 12) (.bin .leq) [.t 11, .k (.int .i64 3)]]) (.t 12) (some 13)])) [0, 3, 4, 13])
                  (.cond (.t 13)
                    .skip
                    (.exit 0)))
                (.seq
                  (.block 1
                    (.seq
                      (.seq
                        (.reg [⟨(some 16), .mv, [.t 4], none⟩,
                          ⟨(some 17), (.bin .gtr), [.t 16, .k (.int .i64 0)], none⟩] [0, 3, 4, 17])
                        (.cond (.t 17)
                          (.reg [⟨(some 18), .mv, [.t 3], none⟩,
                            ⟨(some 19), (.bin .add), [.t 18, .k (.str [32])], none⟩,
                            ⟨(some 3), .mv, [.t 19], none⟩] [0, 3, 4])
                          .skip))
                      (.drw [(⟨(some 20), .mv, [.t 3], none⟩, []),
                        (⟨(some 21), .mv, [.t 0], none⟩, []),
                        (⟨(some 22), .mv, [.t 4], none⟩, []),
                        (⟨(some 23), (.idxA 2), [.t 21, .t 22], none⟩, [1, 2]),
                        (⟨(some 24), (.fldA 0), [.t 23], none⟩, [3]),
                        (⟨(some 25), (.ld none), [.t 24], none⟩, [4]),
                        (⟨(some 26), .mv, [.t 0], none⟩, []),
                        (⟨(some 27), .mv, [.t 4], none⟩, []),
                        (⟨(some 28), (.idxA 2), [.t 26, .t 27], none⟩, [6, 7]),
                        (⟨(some 29), (.fldA 1), [.t 28], none⟩, [8]),
                        (⟨(some 30), (.ld none), [.t 29], none⟩, [9]),
                        (⟨(some 31), .call, [.k (.fn c_s_FormatRanking []), .t 25, .t 30], none⟩, [5, 10]),
                        (⟨(some 32), (.bin .add), [.t 20, .t 31], none⟩, [0, 11]),
                        (⟨(some 3), .mv, [.t 32], none⟩, [12, 11, 0, 1, 2, 3, 4, 5, 6, 7, 8, 9, 10, 11, 12])] [0, 3, 4] [0, 0, 0, 0, 0, 0, 0, 0, 0, 0, 0, 0, 0, 0])))
                  (.reg [⟨(some 14), .mv, [.t 4], none⟩,
                    ⟨(some 15), (.bin .add), [.t 14, .k (.int .i64 1)], none⟩,
                    ⟨(some 4), .mv, [.t 15], none⟩] [0, 3, 4]))))))
        (.seq
          (.seq
            (.reg [⟨(some 33), .mv, [.t 3], none⟩,
              ⟨(some 34), (.bin .eql), [.t 33, .k (.str [])], none⟩] [3, 34])
            (.cond (.t 34)
              (.seq
                (.reg [⟨(some 2), .mv, [.k (.str [110, 111, 110, 101])], none⟩] [2])
                .ret)
              .skip))
          (.seq
            (.reg [⟨(some 35), .mv, [.t 3], none⟩,
              ⟨(some 2), .mv, [.t 35], none⟩] [2])
            .ret)))))
def s_FormatLevels.F : Cfg := ⟨fun _ => 0, fun r => match r with | 0 => [0] | 1 => [0, 3] | 2 => [0, 3, 4] | 3 => [0, 3, 4, 13] | 4 => [0, 3, 4] | 5 => [0, 3, 4, 17] | 6 => [0, 3, 4] | 7 => [0, 3, 4] | 8 => [3, 34] | 9 => [2] | 10 => [2] | 1000007 => [0, 0, 0, 0, 0, 0, 0, 0, 0, 0, 0, 0, 0, 0] | _ => []⟩
def s_FormatLevels.X (c_s_FormatRanking : Nat) : FX := ⟨36, [.tmp 2], s_FormatLevels.F, s_FormatLevels.x c_s_FormatRanking⟩

theorem s_FormatLevels.ok {P : Program} {k c_s_FormatRanking : Nat} (hk : Has P k (s_FormatLevels.X c_s_FormatRanking)) (h1 : C_fmtRnk P c_s_FormatRanking) : C_fmtLvls P k := by
  intro l hl n H
  have hl1 : l.length ≤ 1048576 := hl.1
  have hx : ∀ i, i < l.length → (l.getD i default).1.length ≤ 1048576 ∧ (l.getD i default).2.length ≤ 1048576 ∧ ∀ s ∈ (l.getD i default).1, s.length ≤ 4294967295 := fun i hi => by
    obtain ⟨⟨q1, q2⟩, q3, -⟩ := ok_at hl.2 hi
    exact ⟨q1, q3, fun s hs => by have : s.length ≤ 1048576 := q2 s hs; omega⟩
  refine S.ofX hk rfl fun hB fn hr => ?_
  unfold s_FormatLevels.x
  repeat' (first
    | ((with_reducible refine S.go ?_); first | refine S.seq ?_ | refine S.skip ?_ | refine S.block ?_ | refine S.inBlock ?_ | refine S.exit rfl ?_ | refine S.regN ?_ | refine S.reg ?_ | refine S.drw hk.mo (by kernel_rfl) ?_ | (refine S.cond rfl (fun hc => ?_) (fun hc => ?_) <;> try simp only [HC] at hc) | refine S.retH hr rfl ?_ | refine S.finH hr rfl ?_ | (refine S.retK hr ?_; refine TRdt ?_) | fail)
    | ((first | with_reducible refine Ns.go ?_ | with_reducible refine XOs.go ?_ | with_reducible refine XDs.go ?_ | with_reducible refine OK.go ?_); (first | refine TTdt ?_ | (apply Ns.sc ⟨rfl, rfl⟩ rfl; intro hg) | (refine OK.tr ?_; refine TTdt ?_)); (try simp only [HC] at hg))
    | with_reducible exact rfl | exact ⟨rfl, rfl, rfl⟩
    | ((with_reducible refine Gd.go ?_); refine Gd.on (fun hg => ?_) (fun hg => ?_) <;> refine TGdt ?_ <;> (try simp only [HC] at hg))
    | ((with_reducible refine Fin.go ?_); first | (refine Fin.p ?_; first | exact FT | (try refine TTdt ?_; try simp only [LF])) | refine Fin.a0 ?_ | refine Fin.a ?_ | refine Fin.ni ?_ | refine Fin.v ?_ ?_ | refine Fin.r ?_ ?_ | exact Fin.th | (refine Fin.t ?_; try simp only [AV.sl.injEq]))
    | (refine And.go ?_; refine AndI ?_)
    | fail)
  refine S.loopV (σ := Nat × (List UInt8)) [0, 3, 4] (fun s => [(3, .str s.2), (4, .int .i64 (s.1 : Int))]) (fun s => s.1 ≤ l.length ∧ s.2 = Lib.join (fl (l.take s.1)) [32] ∧ (0 < s.1 → l.length ≤ 3)) (fun s => n) (fun s => H) (fun s => l.length - s.1) (0, []) (⟨by omega, ?_, ?_⟩) ?_
  · first | rfl | omega | (simp; done) | (simp; omega) | skip
  · first | rfl | omega | (simp; done) | (simp; omega) | skip
  rintro ⟨i, out⟩ ⟨hi1, hi2, hi3⟩ ih
  try dsimp only at hi1 hi2 hi3
  have hj := fl_j hl i
  rw [← hi2] at hj
  have hq : l.length ≤ i ∨ (fmtRnk (l.getD i default).1 (l.getD i default).2).length ≤ 21474836480 := by
    by_cases h : i < l.length
    · exact .inr (fmt_len (hx i h).2.2)
    · exact .inl (by omega)
  repeat' (first
    | ((with_reducible refine S.go ?_); first | refine S.seq ?_ | refine S.skip ?_ | refine S.block ?_ | refine S.inBlock ?_ | refine S.exit rfl ?_ | refine S.regN ?_ | refine S.reg ?_ | refine S.drw hk.mo (by kernel_rfl) ?_ | refine S.ag (ih ((i + 1, _)) ?_ ?_) | (refine S.cond rfl (fun hc => ?_) (fun hc => ?_) <;> try simp only [HC] at hc) | refine S.retH hr rfl ?_ | refine S.finH hr rfl ?_ | (refine S.retK hr ?_; refine TRdt ?_) | fail)
    | ((first | with_reducible refine Ns.go ?_ | with_reducible refine XOs.go ?_ | with_reducible refine XDs.go ?_ | with_reducible refine OK.go ?_); (first | refine TTdt ?_ | (apply Ns.sc ⟨rfl, rfl⟩ rfl; intro hg) | (refine OK.tr ?_; refine TTdt ?_)); (try simp only [HC] at hg))
    | with_reducible exact rfl | exact ⟨rfl, rfl, rfl⟩
    | ((with_reducible refine RunsT.go ?_); first | refine RunsF.apf (h1 _ _ (by have := hx i (by omega); omega) (by have := hx i (by omega); omega) (hx i (by omega)).2.2) rfl ?_ | fail)
    | ((with_reducible refine RunsD.go ?_); first | refine RunsF.apd (h1 _ _ (by have := hx i (by omega); omega) (by have := hx i (by omega); omega) (hx i (by omega)).2.2) rfl ?_ | fail)
    | ((with_reducible refine Gd.go ?_); refine Gd.on (fun hg => ?_) (fun hg => ?_) <;> refine TGdt ?_ <;> (try simp only [HC] at hg))
    | ((with_reducible refine Fin.go ?_); first | (refine Fin.p ?_; first | exact FT | (try refine TTdt ?_; try simp only [LF])) | refine Fin.a0 ?_ | refine Fin.a ?_ | refine Fin.ni ?_ | refine Fin.v ?_ ?_ | refine Fin.r ?_ ?_ | exact Fin.th | (refine Fin.t ?_; try simp only [AV.sl.injEq]))
    | (refine And.go ?_; refine AndI ?_)
    | fail)
  all_goals (try clear ih)
  all_goals (try dsimp only)
  all_goals (repeat' apply And.intro)
  all_goals first | omega | (simp only [ZL]; omega) | skip
  all_goals (try clear hr hk hB)
  all_goals first | omega | (rw [fl_next (by omega), join_step (i := i) (by simp; omega), ← hi2]; first | rw [if_neg (by omega)] | (rw [if_pos (by omega)]; have e0 : i = 0 := (by omega); subst e0; rw [hi2]; rfl)) | skip
  · rw [fmtLvls, orN, if_neg]; rfl
    rintro ⟨h1, h2⟩
    rw [List.length_map] at h2
    have h3 : l.length ≤ i := by omega
    rw [List.take_of_length_le h3] at hi2
    exact h1 (hi2.symm.trans hc)
  · have hne : out ≠ [] := hc
    have h3 : l.length ≤ i := by
      rcases Nat.eq_zero_or_pos i with h | h
      · subst h; exact absurd hi2 hne
      · have := hi3 h; omega
    rw [List.take_of_length_le h3] at hi2
    have h4 : 0 < i := by
      rcases Nat.eq_zero_or_pos i with h | h
      · subst h
        have : l = [] := List.eq_nil_of_length_eq_zero (by omega)
        subst this; exact absurd hi2 hne
      · exact h
    have := hi3 h4
    rw [fmtLvls, orN, if_pos ⟨by rw [← hi2]; exact hne, by rw [List.length_map]; omega⟩, hi2]
def C_lawS (α : Type) [Dat α] [Siz (List α)] (P : Program) (k : Nat) : Prop := ∀ (l : List α), ok mxi l → RunsF P k [.sl (enc l)] (.bool true)
/-- laws.FnExactFormatLevels -/
def w_FnExactFormatLevels.x (c_w_szLevelS c_w_toLevelS c_s_FormatLevels c_i_FormatLevels c_w_eqLevelS : Nat) : XCode :=
  (.seq
    (.reg [⟨(some 2), .mv, [.k (.bool false)], none⟩] [0])
    (.seq
      (.reg [⟨(some 3), .mv, [.k (.int .i64 1048576)], none⟩] [0, 3])
      (.seq
        (.reg [⟨(some 7), .mv, [.t 0], none⟩,
          ⟨(some 8), .mv, [.t 3], none⟩,
          ⟨(some 9), .call, [.k (.fn c_w_szLevelS []), .t 7, .t 8], none⟩,
          ⟨(some 3), .mv, [.t 9], none⟩] [0, 3])
        (.seq
          (.seq
            (.reg [⟨(some 10), .mv, [.t 3], none⟩,
              ⟨(some 11), (.bin .lss), [.t 10, .k (.int .i64 0)], none⟩] [0, 11])
            (.cond (.t 11)
              (.seq
                (.reg [⟨(some 2), .mv, [.k (.bool true)], none⟩] [2])
                .ret)
              .skip))
          (.seq
            (.reg [⟨(some 12), .mv, [.t 0], none⟩,
              ⟨(some 13), .call, [.k (.fn c_w_toLevelS []), .t 12], none⟩,
              ⟨(some 14), .call, [.k (.fn c_s_FormatLevels []), .t 13], none⟩,
              ⟨(some 4), .mv, [.t 14], none⟩] [0, 4])
            (.seq
              (.reg [⟨(some 15), .mv, [.t 0], none⟩,
                ⟨(some 16), .call, [.k (.fn c_w_toLevelS []), .t 15], none⟩,
                ⟨(some 5), .mv, [.t 16], none⟩] [0, 4, 5])
              (.seq
                (.reg [⟨(some 17), .mv, [.t 5], none⟩,
                  ⟨(some 18), .call, [.k (.fn c_i_FormatLevels []), .t 17], none⟩,
                  ⟨(some 6), .mv, [.t 18], none⟩] [0, 4, 5, 6])
                (.seq
                  (.seq
                    (.reg [⟨(some 19), .mv, [.t 6], none⟩,
                      ⟨(some 20), .mv, [.t 4], none⟩,
                      ⟨(some 21), (.bin .neq), [.t 19, .t 20], none⟩] [0, 5, 21])
                    (.cond (.t 21)
                      (.seq
                        (.reg [⟨(some 2), .mv, [.k (.bool false)], none⟩] [2])
                        .ret)
                      .skip))
                  (.seq
                    (.seq
                      (.reg [⟨(some 22), .mv, [.t 5], none⟩,
                        ⟨(some 23), .mv, [.t 0], none⟩,
                        ⟨(some 24), .call, [.k (.fn c_w_toLevelS []), .t 23], none⟩,
                        ⟨(some 25), .call, [.k (.fn c_w_eqLevelS []), .t 22, .t 24], none⟩,
                        ⟨(some 26), (.un .not), [.t 25], none⟩] [26])
                      (.cond (.t 26)
                        (.seq
                          (.reg [⟨(some 2), .mv, [.k (.bool false)], none⟩] [2])
                          .ret)
                        .skip))
                    (.seq
                      (.reg [⟨(some 2), .mv, [.k (.bool true)], none⟩] [2])
                      .ret))))))))))
def w_FnExactFormatLevels.F : Cfg := ⟨fun _ => 0, fun r => match r with | 0 => [0] | 1 => [0, 3] | 2 => [0, 3] | 3 => [0, 11] | 4 => [2] | 5 => [0, 4] | 6 => [0, 4, 5] | 7 => [0, 4, 5, 6] | 8 => [0, 5, 21] | 9 => [2] | 10 => [26] | 11 => [2] | 12 => [2] | _ => []⟩
def w_FnExactFormatLevels.X (c_w_szLevelS c_w_toLevelS c_s_FormatLevels c_i_FormatLevels c_w_eqLevelS : Nat) : FX := ⟨27, [.tmp 2], w_FnExactFormatLevels.F, w_FnExactFormatLevels.x c_w_szLevelS c_w_toLevelS c_s_FormatLevels c_i_FormatLevels c_w_eqLevelS⟩

theorem w_FnExactFormatLevels.ok {P : Program} {k c_w_szLevelS c_w_toLevelS c_s_FormatLevels c_i_FormatLevels c_w_eqLevelS : Nat} (hk : Has P k (w_FnExactFormatLevels.X c_w_szLevelS c_w_toLevelS c_s_FormatLevels c_i_FormatLevels c_w_eqLevelS)) (h1 : C_szS Lvl P c_w_szLevelS) (h2 : C_toS Lvl P c_w_toLevelS) (h3 : C_fmtLvls P c_s_FormatLevels) (h4 : C_fmtLvls P c_i_FormatLevels) (h5 : C_eqS Lvl P c_w_eqLevelS) : C_lawS Lvl P k := by
  intro x hx n H
  have k1 := h1 x 1048576 hx (by omega) (by omega)
  have o0 := fun h => okk _ x 1048576 hx h (by omega)
  have o1 := fun h => mono _ mxs x (by unfold mxs; omega) (o0 h)
  refine S.ofX hk rfl fun hB fn hr => ?_
  unfold w_FnExactFormatLevels.x
  repeat' (first
    | ((with_reducible refine S.go ?_); first | refine S.seq ?_ | refine S.skip ?_ | refine S.block ?_ | refine S.inBlock ?_ | refine S.exit rfl ?_ | refine S.regN ?_ | refine S.reg ?_ | refine S.drw hk.mo (by kernel_rfl) ?_ | (refine S.cond rfl (fun hc => ?_) (fun hc => ?_) <;> try simp only [HC] at hc) | refine S.retH hr rfl ?_ | refine S.finH hr rfl ?_ | (refine S.retK hr ?_; refine TRdt ?_) | fail)
    | ((first | with_reducible refine Ns.go ?_ | with_reducible refine XOs.go ?_ | with_reducible refine XDs.go ?_ | with_reducible refine OK.go ?_); (first | refine TTdt ?_ | (apply Ns.sc ⟨rfl, rfl⟩ rfl; intro hg) | (refine OK.tr ?_; refine TTdt ?_)); (try simp only [HC] at hg))
    | with_reducible exact rfl | exact ⟨rfl, rfl, rfl⟩
    | ((with_reducible refine RunsT.go ?_); first | refine RunsF.apf (k1) rfl ?_ | refine RunsF.apf (h2 _ (o1 (by omega))) rfl ?_ | refine RunsF.apf (h3 _ (o0 (by omega))) rfl ?_ | refine RunsF.apf (h4 _ (o0 (by omega))) rfl ?_ | refine RunsF.apf (h5 _ _ (o1 (by omega)) (o1 (by omega))) rfl ?_ | fail)
    | ((with_reducible refine RunsD.go ?_); first | refine RunsF.apd (k1) rfl ?_ | refine RunsF.apd (h2 _ (o1 (by omega))) rfl ?_ | refine RunsF.apd (h3 _ (o0 (by omega))) rfl ?_ | refine RunsF.apd (h4 _ (o0 (by omega))) rfl ?_ | refine RunsF.apd (h5 _ _ (o1 (by omega)) (o1 (by omega))) rfl ?_ | fail)
    | ((with_reducible refine Gd.go ?_); refine Gd.on (fun hg => ?_) (fun hg => ?_) <;> refine TGdt ?_ <;> (try simp only [HC] at hg))
    | ((with_reducible refine Fin.go ?_); first | (refine Fin.p ?_; first | exact FT | (try refine TTdt ?_; try simp only [LF])) | refine Fin.a0 ?_ | refine Fin.a ?_ | refine Fin.ni ?_ | refine Fin.v ?_ ?_ | refine Fin.r ?_ ?_ | exact Fin.th | (refine Fin.t ?_; try simp only [AV.sl.injEq]))
    | (refine And.go ?_; refine AndI ?_)
    | fail)
  all_goals exact absurd trivial hc
end Go.N03
