/- Candidates; marks of steps, of ends, of paths. Over any program. -/
import Derived.Test.YtobhjgipeepmoaaM01
namespace Go.M02
open Go.Ab Go.Lib01 Go.Lib03 Go.M01
set_option linter.unusedVariables false
set_option linter.unusedSimpArgs false
set_option maxRecDepth 2000

abbrev Link := UInt8 × UInt8
theorem all_no {α : Type} [Inhabited α] {l : List α} {p : α → Bool} {i : Nat} (h : i < l.length) (hp : p (l.getD i default) = false) : l.all p = false := by
  rw [List.all_eq_false]
  refine ⟨l[i], List.getElem_mem h, ?_⟩
  rw [List.getD_eq_getElem?_getD, List.getElem?_eq_getElem h] at hp
  simpa using hp
theorem all_step {α : Type} [Inhabited α] {l : List α} {p : α → Bool} {i : Nat} (h : i < l.length) (hp : p (l.getD i default) = true) (ha : (l.take i).all p = true) : (l.take (i + 1)).all p = true := by
  rw [take_succ _ _ h, List.all_append, ha, List.all_cons, hp]; rfl

def nz (l : List UInt8) : List UInt8 := l.filter (· != 0)
def insS (c : List Link) : List UInt8 := nz (c.map (·.1))
def outS (c : List Link) : List UInt8 := nz (c.map (·.2))
def isCand (c : List Link) : Bool := c.all isLnk && (decide (c.length ≤ 16) && (isForm (insS c) && isForm (outS c)))
theorem nz_len (l : List UInt8) : (nz l).length ≤ l.length := List.length_filter_le _ _
theorem ins_len (c : List Link) : (insS c).length ≤ c.length := by unfold insS; exact Nat.le_trans (nz_len _) (by simp)
theorem outs_len (c : List Link) : (outS c).length ≤ c.length := by unfold outS; exact Nat.le_trans (nz_len _) (by simp)

theorem nz_snoc (l : List UInt8) (b : UInt8) : nz (l ++ [b]) = if b = 0 then nz l else nz l ++ [b] := by
  by_cases h : b = 0 <;> simp [nz, h]
theorem nzm {c : List Link} {f : Link → UInt8} {i : Nat} (h : i < c.length) : nz ((c.take (i + 1)).map f) = if f (c.getD i default) = 0 then nz ((c.take i).map f) else nz ((c.take i).map f) ++ [f (c.getD i default)] := by
  rw [take_succ _ _ h, List.map_append, List.map_cons, List.map_nil, nz_snoc]
def Cs (f : List Link → List UInt8) (P : Program) (k : Nat) : Prop := ∀ c : List Link, c.length ≤ 4294967295 → RunsF P k [.agg [.sl (enc c)]] (.str (f c))
/-- spec.l6In -/
def s_l6In.x : XCode :=
  (.seq
    (.reg [⟨(some 1), .boxF, [.t 0], none⟩,
      ⟨(some 2), .mv, [.k (.str [])], none⟩] [1])
    (.seq
      (.reg [⟨(some 5), (.bsl 1 1), [], none⟩,
        ⟨(some 3), .mv, [.t 5], none⟩] [1, 3])
      (.seq
        (.seq
          (.reg [⟨(some 4), .mv, [.k (.int .i64 0)], none⟩] [1, 3, 4])
          (.block 0
            (.loop
              (.seq
                (.seq
                  (.reg [⟨(some 6), .mv, [.t 4], none⟩,
                    ⟨(some 7), (.fldA 0), [.t 1], none⟩,
                    ⟨(some 8), (.ld none), [.t 7], none⟩,
                    ⟨(some 9), .lenL, [.t 8], none⟩,
                    ⟨(some 10), (.bin .lss), [.t 6, .t 9], none⟩] [1, 3, 4, 10])
                  (.cond (.t 10)
                    .skip
                    (.exit 0)))
                (.seq
                  (.block 1
                    (.seq
                      (.reg [⟨(some 13), (.fldA 0), [.t 1], none⟩,
                        ⟨(some 14), (.ld none), [.t 13], none⟩,
                        ⟨(some 15), .mv, [.t 4], none⟩,
                        ⟨(some 16), (.idxA 2), [.t 14, .t 15], none⟩,
                        ⟨(some 17), (.fldA 0), [.t 16], none⟩,
                        ⟨(some 18), (.ld none), [.t 17], none⟩,
                        ⟨(some 19), (.bin .neq), [.t 18, .k (.int .u8 0)], none⟩] [1, 3, 4, 19])
                      (.cond (.t 19)
                        (.reg [⟨(some 20), .mv, [.t 3], none⟩,
                          ⟨(some 21), (.fldA 0), [.t 1], none⟩,
                          ⟨(some 22), (.ld none), [.t 21], none⟩,
                          ⟨(some 23), .mv, [.t 4], none⟩,
                          ⟨(some 24), (.idxA 2), [.t 22, .t 23], none⟩,
                          ⟨(some 25), (.fldA 0), [.t 24], none⟩,
                          ⟨(some 26), (.ld none), [.t 25], none⟩,
                          ⟨(some 27), (.bsl 0 1), [.t 26], none⟩,
                          ⟨(some 28), (.app 1 1), [.t 20, .t 27], none⟩,
                          ⟨(some 3), .mv, [.t 28], none⟩] [1, 3, 4])
                        .skip)))
                  (.reg [⟨(some 11), .mv, [.t 4], none⟩,
                    ⟨(some 12), (.bin .add), [.t 11, .k (.int .i64 1)], none⟩,
                    ⟨(some 4), .mv, [.t 12], none⟩] [1, 3, 4]))))))
        (.seq
          (.reg [⟨(some 29), .mv, [.t 3], none⟩,
            ⟨(some 30), .cvBS, [.t 29], none⟩,
            ⟨(some 2), .mv, [.t 30], none⟩] [2])
          .ret))))
def s_l6In.F : Cfg := ⟨fun d => if d = 5 then 1 else 0, fun r => match r with | 0 => [1] | 1 => [1, 3] | 2 => [1, 3, 4] | 3 => [1, 3, 4, 10] | 4 => [1, 3, 4] | 5 => [1, 3, 4, 19] | 6 => [1, 3, 4] | 7 => [2] | _ => []⟩
def s_l6In.X : FX := ⟨31, [.tmp 2], s_l6In.F, s_l6In.x⟩

theorem s_l6In.ok {P : Program} {k : Nat} (hk : Has P k (s_l6In.X)) : Cs insS P k := by
  intro c hl n H
  refine S.ofX hk rfl fun hB fn hr => ?_
  unfold s_l6In.x
  repeat' (first
    | ((with_reducible refine S.go ?_); first | refine S.seq ?_ | refine S.skip ?_ | refine S.block ?_ | refine S.inBlock ?_ | refine S.exit rfl ?_ | refine S.regN ?_ | refine S.reg ?_ | refine S.drw hk.mo (by kernel_rfl) ?_ | (refine S.cond rfl (fun hc => ?_) (fun hc => ?_) <;> try simp only [HC] at hc) | refine S.retH hr rfl ?_ | refine S.finH hr rfl ?_ | (refine S.retK hr ?_; refine TR ?_) | fail)
    | ((first | with_reducible refine Ns.go ?_ | with_reducible refine XOs.go ?_ | with_reducible refine XDs.go ?_ | with_reducible refine OK.go ?_); (first | refine TT ?_ | (apply Ns.sc ⟨rfl, rfl⟩ rfl; intro hg) | (refine OK.tr ?_; refine TT ?_)); (try simp only [HC] at hg))
    | with_reducible exact rfl | exact ⟨rfl, rfl, rfl⟩
    | ((with_reducible refine Gd.go ?_); refine Gd.on (fun hg => ?_) (fun hg => ?_) <;> refine TG ?_ <;> (try simp only [HC] at hg))
    | ((with_reducible refine Fin.go ?_); first | (refine Fin.p ?_; first | exact FT | (try refine TT ?_; try simp only [LF])) | refine Fin.a0 ?_ | refine Fin.a ?_ | refine Fin.ni ?_ | refine Fin.v ?_ ?_ | refine Fin.r ?_ ?_ | exact Fin.th | (refine Fin.t ?_; try simp only [AV.sl.injEq]))
    | (refine And.go ?_; refine AndI ?_)
    | fail)
  refine S.loopV (σ := Nat × (List UInt8)) [1, 3, 4] (fun s => [(3, .acc n 1 (bts s.2)), (4, .int .i64 (s.1 : Int))]) (fun s => s.1 ≤ c.length ∧ s.2 = nz ((c.take s.1).map (·.1)) ∧ s.2.length ≤ s.1) (fun s => n + 1) (fun s => (n, .tok 1 s.2.length) :: H) (fun s => c.length - s.1) (0, []) (⟨by omega, ?_, ?_⟩) ?_
  · first | rfl | omega | (simp; done) | (simp; omega) | skip
  · first | rfl | omega | (simp; done) | (simp; omega) | skip
  rintro ⟨i, out⟩ ⟨hi1, hi2, hi3⟩ ih
  try dsimp only at hi1 hi2 hi3
  repeat' (first
    | ((with_reducible refine S.go ?_); first | refine S.seq ?_ | refine S.skip ?_ | refine S.block ?_ | refine S.inBlock ?_ | refine S.exit rfl ?_ | refine S.regN ?_ | refine S.reg ?_ | refine S.drw hk.mo (by kernel_rfl) ?_ | refine S.ag (ih ((i + 1, _)) ?_ ?_) | (refine S.cond rfl (fun hc => ?_) (fun hc => ?_) <;> try simp only [HC] at hc) | refine S.retH hr rfl ?_ | refine S.finH hr rfl ?_ | (refine S.retK hr ?_; refine TR ?_) | fail)
    | ((first | with_reducible refine Ns.go ?_ | with_reducible refine XOs.go ?_ | with_reducible refine XDs.go ?_ | with_reducible refine OK.go ?_); (first | refine TT ?_ | (apply Ns.sc ⟨rfl, rfl⟩ rfl; intro hg) | (refine OK.tr ?_; refine TT ?_)); (try simp only [HC] at hg))
    | with_reducible exact rfl | exact ⟨rfl, rfl, rfl⟩
    | ((with_reducible refine Gd.go ?_); refine Gd.on (fun hg => ?_) (fun hg => ?_) <;> refine TG ?_ <;> (try simp only [HC] at hg))
    | ((with_reducible refine Fin.go ?_); first | (refine Fin.p ?_; first | exact FT | (try refine TT ?_; try simp only [LF])) | refine Fin.a0 ?_ | refine Fin.a ?_ | refine Fin.ni ?_ | refine Fin.v ?_ ?_ | refine Fin.r ?_ ?_ | exact Fin.th | (refine Fin.t ?_; try simp only [AV.sl.injEq]))
    | (refine And.go ?_; refine AndI ?_)
    | fail)
  all_goals (try clear ih)
  all_goals (try dsimp only)
  all_goals (repeat' apply And.intro)
  all_goals first | omega | (simp only [ZL]; omega) | skip
  all_goals first | (rw [nzm (by omega), ← hi2]; clear hi2; simp_all; done) | (rw [hi2, List.take_of_length_le (by omega)]; rfl)
/-- spec.l6Out -/
def s_l6Out.x : XCode :=
  (.seq
    (.reg [⟨(some 1), .boxF, [.t 0], none⟩,
      ⟨(some 2), .mv, [.k (.str [])], none⟩] [1])
    (.seq
      (.reg [⟨(some 5), (.bsl 1 1), [], none⟩,
        ⟨(some 3), .mv, [.t 5], none⟩] [1, 3])
      (.seq
        (.seq
          (.reg [⟨(some 4), .mv, [.k (.int .i64 0)], none⟩] [1, 3, 4])
          (.block 0
            (.loop
              (.seq
                (.seq
                  (.reg [⟨(some 6), .mv, [.t 4], none⟩,
                    ⟨(some 7), (.fldA 0), [.t 1], none⟩,
                    ⟨(some 8), (.ld none), [.t 7], none⟩,
                    ⟨(some 9), .lenL, [.t 8], none⟩,
                    ⟨(some 10), (.bin .lss), [.t 6, .t 9], none⟩] [1, 3, 4, 10])
                  (.cond (.t 10)
                    .skip
                    (.exit 0)))
                (.seq
                  (.block 1
                    (.seq
                      (.reg [⟨(some 13), (.fldA 0), [.t 1], none⟩,
                        ⟨(some 14), (.ld none), [.t 13], none⟩,
                        ⟨(some 15), .mv, [.t 4], none⟩,
                        ⟨(some 16), (.idxA 2), [.t 14, .t 15], none⟩,
                        ⟨(some 17), (.fldA 1), [.t 16], none⟩,
                        ⟨(some 18), (.ld none), [.t 17], none⟩,
                        ⟨(some 19), (.bin .neq), [.t 18, .k (.int .u8 0)], none⟩] [1, 3, 4, 19])
                      (.cond (.t 19)
                        (.reg [⟨(some 20), .mv, [.t 3], none⟩,
                          ⟨(some 21), (.fldA 0), [.t 1], none⟩,
                          ⟨(some 22), (.ld none), [.t 21], none⟩,
                          ⟨(some 23), .mv, [.t 4], none⟩,
                          ⟨(some 24), (.idxA 2), [.t 22, .t 23], none⟩,
                          ⟨(some 25), (.fldA 1), [.t 24], none⟩,
                          ⟨(some 26), (.ld none), [.t 25], none⟩,
                          ⟨(some 27), (.bsl 0 1), [.t 26], none⟩,
                          ⟨(some 28), (.app 1 1), [.t 20, .t 27], none⟩,
                          ⟨(some 3), .mv, [.t 28], none⟩] [1, 3, 4])
                        .skip)))
                  (.reg [⟨(some 11), .mv, [.t 4], none⟩,
                    ⟨(some 12), (.bin .add), [.t 11, .k (.int .i64 1)], none⟩,
                    ⟨(some 4), .mv, [.t 12], none⟩] [1, 3, 4]))))))
        (.seq
          (.reg [⟨(some 29), .mv, [.t 3], none⟩,
            ⟨(some 30), .cvBS, [.t 29], none⟩,
            ⟨(some 2), .mv, [.t 30], none⟩] [2])
          .ret))))
def s_l6Out.F : Cfg := ⟨fun d => if d = 5 then 1 else 0, fun r => match r with | 0 => [1] | 1 => [1, 3] | 2 => [1, 3, 4] | 3 => [1, 3, 4, 10] | 4 => [1, 3, 4] | 5 => [1, 3, 4, 19] | 6 => [1, 3, 4] | 7 => [2] | _ => []⟩
def s_l6Out.X : FX := ⟨31, [.tmp 2], s_l6Out.F, s_l6Out.x⟩

theorem s_l6Out.ok {P : Program} {k : Nat} (hk : Has P k (s_l6Out.X)) : Cs outS P k := by
  intro c hl n H
  refine S.ofX hk rfl fun hB fn hr => ?_
  unfold s_l6Out.x
  repeat' (first
    | ((with_reducible refine S.go ?_); first | refine S.seq ?_ | refine S.skip ?_ | refine S.block ?_ | refine S.inBlock ?_ | refine S.exit rfl ?_ | refine S.regN ?_ | refine S.reg ?_ | refine S.drw hk.mo (by kernel_rfl) ?_ | (refine S.cond rfl (fun hc => ?_) (fun hc => ?_) <;> try simp only [HC] at hc) | refine S.retH hr rfl ?_ | refine S.finH hr rfl ?_ | (refine S.retK hr ?_; refine TR ?_) | fail)
    | ((first | with_reducible refine Ns.go ?_ | with_reducible refine XOs.go ?_ | with_reducible refine XDs.go ?_ | with_reducible refine OK.go ?_); (first | refine TT ?_ | (apply Ns.sc ⟨rfl, rfl⟩ rfl; intro hg) | (refine OK.tr ?_; refine TT ?_)); (try simp only [HC] at hg))
    | with_reducible exact rfl | exact ⟨rfl, rfl, rfl⟩
    | ((with_reducible refine Gd.go ?_); refine Gd.on (fun hg => ?_) (fun hg => ?_) <;> refine TG ?_ <;> (try simp only [HC] at hg))
    | ((with_reducible refine Fin.go ?_); first | (refine Fin.p ?_; first | exact FT | (try refine TT ?_; try simp only [LF])) | refine Fin.a0 ?_ | refine Fin.a ?_ | refine Fin.ni ?_ | refine Fin.v ?_ ?_ | refine Fin.r ?_ ?_ | exact Fin.th | (refine Fin.t ?_; try simp only [AV.sl.injEq]))
    | (refine And.go ?_; refine AndI ?_)
    | fail)
  refine S.loopV (σ := Nat × (List UInt8)) [1, 3, 4] (fun s => [(3, .acc n 1 (bts s.2)), (4, .int .i64 (s.1 : Int))]) (fun s => s.1 ≤ c.length ∧ s.2 = nz ((c.take s.1).map (·.2)) ∧ s.2.length ≤ s.1) (fun s => n + 1) (fun s => (n, .tok 1 s.2.length) :: H) (fun s => c.length - s.1) (0, []) (⟨by omega, ?_, ?_⟩) ?_
  · first | rfl | omega | (simp; done) | (simp; omega) | skip
  · first | rfl | omega | (simp; done) | (simp; omega) | skip
  rintro ⟨i, out⟩ ⟨hi1, hi2, hi3⟩ ih
  try dsimp only at hi1 hi2 hi3
  repeat' (first
    | ((with_reducible refine S.go ?_); first | refine S.seq ?_ | refine S.skip ?_ | refine S.block ?_ | refine S.inBlock ?_ | refine S.exit rfl ?_ | refine S.regN ?_ | refine S.reg ?_ | refine S.drw hk.mo (by kernel_rfl) ?_ | refine S.ag (ih ((i + 1, _)) ?_ ?_) | (refine S.cond rfl (fun hc => ?_) (fun hc => ?_) <;> try simp only [HC] at hc) | refine S.retH hr rfl ?_ | refine S.finH hr rfl ?_ | (refine S.retK hr ?_; refine TR ?_) | fail)
    | ((first | with_reducible refine Ns.go ?_ | with_reducible refine XOs.go ?_ | with_reducible refine XDs.go ?_ | with_reducible refine OK.go ?_); (first | refine TT ?_ | (apply Ns.sc ⟨rfl, rfl⟩ rfl; intro hg) | (refine OK.tr ?_; refine TT ?_)); (try simp only [HC] at hg))
    | with_reducible exact rfl | exact ⟨rfl, rfl, rfl⟩
    | ((with_reducible refine Gd.go ?_); refine Gd.on (fun hg => ?_) (fun hg => ?_) <;> refine TG ?_ <;> (try simp only [HC] at hg))
    | ((with_reducible refine Fin.go ?_); first | (refine Fin.p ?_; first | exact FT | (try refine TT ?_; try simp only [LF])) | refine Fin.a0 ?_ | refine Fin.a ?_ | refine Fin.ni ?_ | refine Fin.v ?_ ?_ | refine Fin.r ?_ ?_ | exact Fin.th | (refine Fin.t ?_; try simp only [AV.sl.injEq]))
    | (refine And.go ?_; refine AndI ?_)
    | fail)
  all_goals (try clear ih)
  all_goals (try dsimp only)
  all_goals (repeat' apply And.intro)
  all_goals first | omega | (simp only [ZL]; omega) | skip
  all_goals first | (rw [nzm (by omega), ← hi2]; clear hi2; simp_all; done) | (rw [hi2, List.take_of_length_le (by omega)]; rfl)
def sideS (b : Bool) (c : List Link) : List UInt8 := nz (c.map fun x => if b then x.2 else x.1)
theorem side_f (c : List Link) : sideS false c = insS c := rfl
theorem side_t (c : List Link) : sideS true c = outS c := rfl
def C_sounds (P : Program) (k : Nat) : Prop := ∀ (c : List Link) (b : Bool), c.length ≤ 4294967295 → RunsF P k [.agg [.sl (enc c)], .bool b] (.str (sideS b c))
/-- impl.sounds -/
def i_sounds.x : XCode :=
  (.seq
    (.reg [⟨(some 2), .boxF, [.t 0], none⟩,
      ⟨(some 4), .mv, [.k (.str [])], none⟩] [1, 2])
    (.seq
      (.reg [⟨(some 9), (.bsl 1 1), [], none⟩,
        ⟨(some 5), .mv, [.t 9], none⟩] [1, 2, 5])
      (.seq
        (.seq
          (.reg [⟨(some 10), (.fldA 0), [.t 2], none⟩,
            ⟨(some 11), (.ld none), [.t 10], none⟩,
            ⟨(some 12), .lenL, [.t 11], none⟩,
            ⟨(some 13), .mv, [.k (.int .i64 0)], none⟩] [1, 5, 11, 12, 13])
          (.block 0
            (.loop
              (.seq
                (.reg [⟨(some 14), (.bin .lss), [.t 13, .t 12], none⟩] [1, 5, 11, 12, 13, 14])
                (.seq
                  (.cond (.t 14)
                    .skip
                    (.exit 0))
                  (.seq
                    (.block 1
                      (.seq
                        (.reg [⟨(some 15), (.idxA 2), [.t 11, .t 13], none⟩,
                          ⟨(some 16), (.ld (some 2)), [.t 15], none⟩,
                          ⟨(some 7), (.alloc [.int .u8 0, .int .u8 0]), [], none⟩,
                          ⟨none, (.st (some 2)), [.t 7, .t 16], none⟩] [1, 5, 7, 11, 12, 13])
                        (.seq
                          (.reg [⟨(some 17), (.fldA 0), [.t 7], none⟩,
                            ⟨(some 18), (.ld none), [.t 17], none⟩,
                            ⟨(some 8), .mv, [.t 18], none⟩] [1, 5, 7, 8, 11, 12, 13])
                          (.seq
                            (.seq
                              (.reg [⟨(some 19), .mv, [.t 1], none⟩] [1, 5, 7, 8, 11, 12, 13, 19])
                              (.cond (.t 19)
                                (.reg [⟨(some 20), (.fldA 1), [.t 7], none⟩,
                                  ⟨(some 21), (.ld none), [.t 20], none⟩,
                                  ⟨(some 8), .mv, [.t 21], none⟩] [1, 5, 8, 11, 12, 13])
                                .skip))
                            (.seq
                              (.reg [⟨(some 22), .mv, [.t 8], none⟩,
                                ⟨(some 23), (.bin .neq), [.t 22, .k (.int .u8 0)], none⟩] [1, 5, 8, 11, 12, 13, 23])
                              (.cond (.t 23)
                                (.reg [⟨(some 24), .mv, [.t 5], none⟩,
                                  ⟨(some 25), .mv, [.t 8], none⟩,
                                  ⟨(some 26), (.bsl 0 1), [.t 25], none⟩,
                                  ⟨(some 27), (.app 1 1), [.t 24, .t 26], none⟩,
                                  ⟨(some 5), .mv, [.t 27], none⟩] [1, 5, 11, 12, 13])
                                .skip))))))
                    (.reg [⟨(some 28), (.bin .add), [.t 13, .k (.int .i64 1)], none⟩,
                      ⟨(some 13), .mv, [.t 28], none⟩] [1, 5, 11, 12, 13])))))))
        (.seq
          (.reg [⟨(some 29), .mv, [.t 5], none⟩,
            ⟨(some 30), .cvBS, [.t 29], none⟩,
            ⟨(some 4), .mv, [.t 30], none⟩] [4])
          .ret))))
def i_sounds.F : Cfg := ⟨fun d => if d = 9 then 1 else 0, fun r => match r with | 0 => [1, 2] | 1 => [1, 2, 5] | 2 => [1, 5, 11, 12, 13] | 3 => [1, 5, 11, 12, 13, 14] | 4 => [1, 5, 7, 11, 12, 13] | 5 => [1, 5, 7, 8, 11, 12, 13] | 6 => [1, 5, 7, 8, 11, 12, 13, 19] | 7 => [1, 5, 8, 11, 12, 13] | 8 => [1, 5, 8, 11, 12, 13, 23] | 9 => [1, 5, 11, 12, 13] | 10 => [1, 5, 11, 12, 13] | 11 => [4] | _ => []⟩
def i_sounds.X : FX := ⟨31, [.tmp 4], i_sounds.F, i_sounds.x⟩

theorem i_sounds.ok {P : Program} {k : Nat} (hk : Has P k (i_sounds.X)) : C_sounds P k := by
  intro c b hl n H
  refine S.ofX hk rfl fun hB fn hr => ?_
  unfold i_sounds.x
  repeat' (first
    | ((with_reducible refine S.go ?_); first | refine S.seq ?_ | refine S.skip ?_ | refine S.block ?_ | refine S.inBlock ?_ | refine S.exit rfl ?_ | refine S.regN ?_ | refine S.reg ?_ | refine S.drw hk.mo (by kernel_rfl) ?_ | (refine S.cond rfl (fun hc => ?_) (fun hc => ?_) <;> try simp only [HC] at hc) | refine S.retH hr rfl ?_ | refine S.finH hr rfl ?_ | (refine S.retK hr ?_; refine TR ?_) | fail)
    | ((first | with_reducible refine Ns.go ?_ | with_reducible refine XOs.go ?_ | with_reducible refine XDs.go ?_ | with_reducible refine OK.go ?_); (first | refine TT ?_ | (apply Ns.sc ⟨rfl, rfl⟩ rfl; intro hg) | (refine OK.tr ?_; refine TT ?_)); (try simp only [HC] at hg))
    | with_reducible exact rfl | exact ⟨rfl, rfl, rfl⟩
    | ((with_reducible refine Gd.go ?_); refine Gd.on (fun hg => ?_) (fun hg => ?_) <;> refine TG ?_ <;> (try simp only [HC] at hg))
    | ((with_reducible refine Fin.go ?_); first | (refine Fin.p ?_; first | exact FT | (try refine TT ?_; try simp only [LF])) | refine Fin.a0 ?_ | refine Fin.a ?_ | refine Fin.ni ?_ | refine Fin.v ?_ ?_ | refine Fin.r ?_ ?_ | exact Fin.th | (refine Fin.t ?_; try simp only [AV.sl.injEq]))
    | (refine And.go ?_; refine AndI ?_)
    | fail)
  refine S.loopV (σ := Nat × (List UInt8)) [1, 5, 11, 12, 13] (fun s => [(5, .acc n 1 (bts s.2)), (13, .int .i64 (s.1 : Int))]) (fun s => s.1 ≤ c.length ∧ s.2 = nz ((c.take s.1).map fun x => if b then x.2 else x.1) ∧ s.2.length ≤ s.1) (fun s => n + 1 + s.1) (fun s => (n, .tok 1 s.2.length) :: H) (fun s => c.length - s.1) (0, []) (⟨by omega, ?_, ?_⟩) ?_
  · first | rfl | omega | (simp; done) | (simp; omega) | skip
  · first | rfl | omega | (simp; done) | (simp; omega) | skip
  rintro ⟨i, out⟩ ⟨hi1, hi2, hi3⟩ ih
  try dsimp only at hi1 hi2 hi3
  repeat' (first
    | ((with_reducible refine S.go ?_); first | refine S.seq ?_ | refine S.skip ?_ | refine S.block ?_ | refine S.inBlock ?_ | refine S.exit rfl ?_ | refine S.regN ?_ | refine S.reg ?_ | refine S.drw hk.mo (by kernel_rfl) ?_ | refine S.ag (ih ((i + 1, _)) ?_ ?_) | (refine S.cond rfl (fun hc => ?_) (fun hc => ?_) <;> try simp only [HC] at hc) | refine S.retH hr rfl ?_ | refine S.finH hr rfl ?_ | (refine S.retK hr ?_; refine TR ?_) | fail)
    | ((first | with_reducible refine Ns.go ?_ | with_reducible refine XOs.go ?_ | with_reducible refine XDs.go ?_ | with_reducible refine OK.go ?_); (first | refine TT ?_ | (apply Ns.sc ⟨rfl, rfl⟩ rfl; intro hg) | (refine OK.tr ?_; refine TT ?_)); (try simp only [HC] at hg))
    | with_reducible exact rfl | exact ⟨rfl, rfl, rfl⟩
    | ((with_reducible refine Gd.go ?_); refine Gd.on (fun hg => ?_) (fun hg => ?_) <;> refine TG ?_ <;> (try simp only [HC] at hg))
    | ((with_reducible refine Fin.go ?_); first | (refine Fin.p ?_; first | exact FT | (try refine TT ?_; try simp only [LF])) | refine Fin.a0 ?_ | refine Fin.a ?_ | refine Fin.ni ?_ | refine Fin.v ?_ ?_ | refine Fin.r ?_ ?_ | exact Fin.th | (refine Fin.t ?_; try simp only [AV.sl.injEq]))
    | (refine And.go ?_; refine AndI ?_)
    | fail)
  all_goals (try clear ih)
  all_goals (try dsimp only)
  all_goals (repeat' apply And.intro)
  all_goals first | omega | (simp only [ZL]; omega) | skip
  all_goals first | (rw [nzm (by omega), ← hi2]; clear hi2; simp_all; done) | (rw [hi2, List.take_of_length_le (by omega)]; rfl)

theorem obs_snd {c : UInt8} (h : isObs c = true) : isSnd c = true := by
  simp only [isObs, Bool.or_eq_true, beq_iff_eq] at h
  obtain ((rfl | rfl) | rfl) | rfl := h <;> rfl
theorem swap_snd {c : UInt8} (h : isObs c = true) : isSnd (swapV c) = true := by
  simp only [isObs, Bool.or_eq_true, beq_iff_eq] at h
  obtain ((rfl | rfl) | rfl) | rfl := h <;> rfl
theorem snd0 : isSnd 0 = false := rfl
theorem cand_no {c : List Link} {i : Nat} (h : i < c.length) (hc : isLnk (c.getD i default) = false) : isCand c = false := by
  unfold isCand; rw [all_no h hc]; rfl
theorem cand_yes {c : List Link} {i : Nat} (h : c.length ≤ i) (ha : (c.take i).all isLnk = true) : isCand c = (decide (c.length ≤ 16) && (isForm (insS c) && isForm (outS c))) := by
  rw [List.take_of_length_le h] at ha
  unfold isCand; rw [ha]; rfl
theorem lnk_form (x : Link) : isLnk x = (!((x.1 != 0 && !isSnd x.1) || (x.2 != 0 && !isSnd x.2) || (x.1 == 0 && x.2 == 0)) && !(x.1 != 0 && (x.2 != 0 && (x.1 != x.2 && !(isObs x.1 && swapV x.1 == x.2))))) := by
  have h1 := @obs_snd x.1
  have h2 := @swap_snd x.1
  have h3 := snd0
  rw [Bool.eq_iff_iff]
  simp only [isLnk]
  split <;> simp only [Bool.and_eq_true, Bool.or_eq_true, Bool.not_eq_true', Bool.and_eq_false_iff, Bool.or_eq_false_iff, beq_iff_eq, bne_iff_ne, beq_eq_false_iff_ne, bne_eq_false_iff_eq, Bool.not_eq_false'] <;> grind
def C_IsCandidate (P : Program) (k : Nat) : Prop := ∀ c : List Link, c.length ≤ 4294967295 → RunsF P k [.agg [.sl (enc c)]] (.bool (isCand c))
/-- impl.IsCandidate -/
def i_IsCandidate.x (c_i_isLink c_i_sounds c_i_IsForm : Nat) : XCode :=
  (.seq
    (.reg [⟨(some 1), .boxF, [.t 0], none⟩,
      ⟨(some 2), .mv, [.k (.bool false)], none⟩] [1])
    (.seq
      (.seq
        (.reg [⟨(some 5), (.fldA 0), [.t 1], none⟩,
          ⟨(some 6), (.ld none), [.t 5], none⟩,
          ⟨(some 7), .lenL, [.t 6], none⟩,
          ⟨(some 8), .mv, [.k (.int .i64 0)], none⟩] [1, 6, 7, 8])
        (.block 0
          (.loop
            (.seq
              (.reg [⟨(some 9), (.bin .lss), [.t 8, .t 7], none⟩] [1, 6, 7, 8, 9])
              (.seq
                (.cond (.t 9)
                  .skip
                  (.exit 0))
                (.seq
                  (.block 1
                    (.seq
                      (.reg [⟨(some 10), (.idxA 2), [.t 6, .t 8], none⟩,
                        ⟨(some 11), (.ld (some 2)), [.t 10], none⟩,
                        ⟨(some 4), (.alloc [.int .u8 0, .int .u8 0]), [], none⟩,
                        ⟨none, (.st (some 2)), [.t 4, .t 11], none⟩] [1, 4, 6, 7, 8])
                      (.seq
                        (.reg [⟨(some 12), (.ld (some 2)), [.t 4], none⟩,
                          ⟨(some 13), .call, [.k (.fn c_i_isLink []), .t 12], none⟩,
                          ⟨(some 14), (.un .not), [.t 13], none⟩] [1, 6, 7, 8, 14])
                        (.cond (.t 14)
                          (.seq
                            (.reg [⟨(some 2), .mv, [.k (.bool false)], none⟩] [2])
                            .ret)
                          .skip))))
                  (.reg [⟨(some 15), (.bin .add), [.t 8, .k (.int .i64 1)], none⟩,
                    ⟨(some 8), .mv, [.t 15], none⟩] [1, 6, 7, 8])))))))
      (.seq
        (.reg (flatNs none (nl [.op (some 16) (.fldA 0) [.t 1], .op (some 17) (.ld none) [.t 16], .op (some 18) .lenL [.t 17], .op (some 19) (.bin .leq) [.t 18, .k (.int .i64 16)], .op (some 20) .mv [.t 19], .sc 20 true (nl [.op (some 21) (.ld (some 1)) [.t 1], .op (some 22) .call [.k (.fn c_i_sounds []), .t 21, .k (.bool false)], .op (some 23) .call [.k (.fn c_i_IsForm []), .t 22]]) (.t 23) (some 24), .op (some 25) .mv [.t 24], .sc 25 true (nl [.op (some 26) (.ld (some 1)) [.t 1], .op (some 27) .call [.k (.fn c_i_sounds []), .t 26, .k (.bool true)], .op (some 28) .call [.k (.fn c_i_IsForm []), .t 27]]) (.t 28) (some 29), .op (some 2) .mv [.t 29]])) [2])
        .ret)))
def i_IsCandidate.F : Cfg := ⟨fun _ => 0, fun r => match r with | 0 => [1] | 1 => [1, 6, 7, 8] | 2 => [1, 6, 7, 8, 9] | 3 => [1, 4, 6, 7, 8] | 4 => [1, 6, 7, 8, 14] | 5 => [2] | 6 => [1, 6, 7, 8] | 7 => [2] | _ => []⟩
def i_IsCandidate.X (c_i_isLink c_i_sounds c_i_IsForm : Nat) : FX := ⟨30, [.tmp 2], i_IsCandidate.F, i_IsCandidate.x c_i_isLink c_i_sounds c_i_IsForm⟩

theorem i_IsCandidate.ok {P : Program} {k c_i_isLink c_i_sounds c_i_IsForm : Nat} (hk : Has P k (i_IsCandidate.X c_i_isLink c_i_sounds c_i_IsForm)) (h1 : C_isLink P c_i_isLink) (h2 : C_sounds P c_i_sounds) (h3 : C_IsForm P c_i_IsForm) : C_IsCandidate P k := by
  intro c hl n H
  have hin := ins_len c
  have hout := outs_len c
  refine S.ofX hk rfl fun hB fn hr => ?_
  unfold i_IsCandidate.x
  repeat' (first
    | ((with_reducible refine S.go ?_); first | refine S.seq ?_ | refine S.skip ?_ | refine S.block ?_ | refine S.inBlock ?_ | refine S.exit rfl ?_ | refine S.regN ?_ | refine S.reg ?_ | refine S.drw hk.mo (by kernel_rfl) ?_ | (refine S.cond rfl (fun hc => ?_) (fun hc => ?_) <;> try simp only [HC] at hc) | refine S.retH hr rfl ?_ | refine S.finH hr rfl ?_ | (refine S.retK hr ?_; refine TR ?_) | fail)
    | ((first | with_reducible refine Ns.go ?_ | with_reducible refine XOs.go ?_ | with_reducible refine XDs.go ?_ | with_reducible refine OK.go ?_); (first | refine TT ?_ | (apply Ns.sc ⟨rfl, rfl⟩ rfl; intro hg) | (refine OK.tr ?_; refine TT ?_)); (try simp only [HC] at hg))
    | with_reducible exact rfl | exact ⟨rfl, rfl, rfl⟩
    | ((with_reducible refine Gd.go ?_); refine Gd.on (fun hg => ?_) (fun hg => ?_) <;> refine TG ?_ <;> (try simp only [HC] at hg))
    | ((with_reducible refine Fin.go ?_); first | (refine Fin.p ?_; first | exact FT | (try refine TT ?_; try simp only [LF])) | refine Fin.a0 ?_ | refine Fin.a ?_ | refine Fin.ni ?_ | refine Fin.v ?_ ?_ | refine Fin.r ?_ ?_ | exact Fin.th | (refine Fin.t ?_; try simp only [AV.sl.injEq]))
    | (refine And.go ?_; refine AndI ?_)
    | fail)
  refine S.loopV (σ := Nat) [1, 6, 7, 8] (fun s => [(8, .int .i64 (s : Int))]) (fun s => s ≤ c.length ∧ (c.take s).all isLnk = true) (fun s => n + s) (fun s => H) (fun s => c.length - s) (0) (⟨by omega, ?_⟩) ?_
  · first | rfl | omega | (simp; done) | (simp; omega) | skip
  rintro i ⟨hi1, hi2⟩ ih
  try dsimp only at hi1 hi2
  repeat' (first
    | ((with_reducible refine S.go ?_); first | refine S.seq ?_ | refine S.skip ?_ | refine S.block ?_ | refine S.inBlock ?_ | refine S.exit rfl ?_ | refine S.regN ?_ | refine S.reg ?_ | refine S.drw hk.mo (by kernel_rfl) ?_ | refine S.ag (ih (i + 1) ?_ ?_) | (refine S.cond rfl (fun hc => ?_) (fun hc => ?_) <;> try simp only [HC] at hc) | refine S.retH hr rfl ?_ | refine S.finH hr rfl ?_ | (refine S.retK hr ?_; refine TR ?_) | fail)
    | ((first | with_reducible refine Ns.go ?_ | with_reducible refine XOs.go ?_ | with_reducible refine XDs.go ?_ | with_reducible refine OK.go ?_); (first | refine TT ?_ | (apply Ns.sc ⟨rfl, rfl⟩ rfl; intro hg) | (refine OK.tr ?_; refine TT ?_)); (try simp only [HC] at hg))
    | with_reducible exact rfl | exact ⟨rfl, rfl, rfl⟩
    | ((with_reducible refine RunsT.go ?_); first | refine RunsF.apf (h1 _) rfl ?_ | refine RunsF.apf (h2 _ _ hl) rfl ?_ | refine RunsF.apf (h3 (sideS _ c) (by simp only [side_f, side_t]; omega)) rfl ?_ | fail)
    | ((with_reducible refine RunsD.go ?_); first | refine RunsF.apd (h1 _) rfl ?_ | refine RunsF.apd (h2 _ _ hl) rfl ?_ | refine RunsF.apd (h3 (sideS _ c) (by simp only [side_f, side_t]; omega)) rfl ?_ | fail)
    | ((with_reducible refine Gd.go ?_); refine Gd.on (fun hg => ?_) (fun hg => ?_) <;> refine TG ?_ <;> (try simp only [HC] at hg))
    | ((with_reducible refine Fin.go ?_); first | (refine Fin.p ?_; first | exact FT | (try refine TT ?_; try simp only [LF])) | refine Fin.a0 ?_ | refine Fin.a ?_ | refine Fin.ni ?_ | refine Fin.v ?_ ?_ | refine Fin.r ?_ ?_ | exact Fin.th | (refine Fin.t ?_; try simp only [AV.sl.injEq]))
    | (refine And.go ?_; refine AndI ?_)
    | fail)
  all_goals (try clear ih)
  all_goals (try dsimp only)
  all_goals (repeat' apply And.intro)
  all_goals first | omega | (simp only [ZL]; omega) | skip
  all_goals first | (exact (cand_no (i := i) (by omega) (by assumption)).symm) | (exact all_step (by omega) (by assumption) hi2) | skip
  all_goals (rw [cand_yes (by omega) hi2, ← side_f, ← side_t]; simp only [ZI])
/-- spec.IsCandidate -/
def s_IsCandidate.x (c_s_SwapVoice c_s_IsSound c_s_l6In c_s_IsForm c_s_l6Out : Nat) : XCode :=
  (.seq
    (.reg [⟨(some 1), .boxF, [.t 0], none⟩,
      ⟨(some 2), .mv, [.k (.bool false)], none⟩] [1])
    (.seq
      (.seq
        (.reg [⟨(some 3), .mv, [.k (.int .i64 0)], none⟩] [1, 3])
        (.block 0
          (.loop
            (.seq
              (.seq
                (.reg [⟨(some 7), .mv, [.t 3], none⟩,
                  ⟨(some 8), (.fldA 0), [.t 1], none⟩,
                  ⟨(some 9), (.ld none), [.t 8], none⟩,
                  ⟨(some 10), .lenL, [.t 9], none⟩,
                  ⟨(some 11), (.bin .lss), [.t 7, .t 10], none⟩] [1, 3, 11])
                (.cond (.t 11)
                  .skip
                  (.exit 0)))
              (.seq
                (.block 1
                  (.seq
                    (.reg [⟨(some 14), (.fldA 0), [.t 1], none⟩,
                      ⟨(some 15), (.ld none), [.t 14], none⟩,
                      ⟨(some 16), .mv, [.t 3], none⟩,
                      ⟨(some 17), (.idxA 2), [.t 15, .t 16], none⟩,
                      ⟨(some 18), (.ld (some 2)), [.t 17], none⟩,
                      ⟨(some 4), (.alloc [.int .u8 0, .int .u8 0]), [], none⟩,
                      ⟨none, (.st (some 2)), [.t 4, .t 18], none⟩] [1, 3, 4])
                    (.seq
                      (.reg [⟨(some 20), (.fldA 0), [.t 4], none⟩,
                        ⟨(some 21), (.ld none), [.t 20], none⟩,
                        ⟨(some 22), .call, [.k (.fn c_s_SwapVoice []), .t 21], none⟩,
                        ⟨(some 19), .mv, [.t 22], none⟩,
                        ⟨(some 23), (.ext 0), [.t 19], none⟩,
                        ⟨(some 24), (.ext 1), [.t 19], none⟩,
                        ⟨(some 5), .mv, [.t 23], none⟩,
                        ⟨(some 6), .mv, [.t 24], none⟩] [1, 3, 4, 5, 6])
                      (.seq
                        (.seq
                          (.reg (flatNs none (nl [.op (some 25) (.fldA 0) [.t 4], .op (some 26) (.ld none) [.t 25], .op (some 27) (.bin .neq) [.t 26, .k (.int .u8 0)], .op (some 28) .mv [.t 27], .sc 28 true (nl [.op (some 29) (.fldA 0) [.t 4], .op (some 30) (.ld none) [.t 29], .op (some 31) .call [.k (.fn c_s_IsSound []), .t 30], .op (some 32) (.un .not) [.t 31]]) (.t 32) (some 33), .op (some 34) .mv [.t 33], .sc 34 false (nl [.op (some 35) (.fldA 1) [.t 4], .op (some 36) (.ld none) [.t 35], .op (some 37) (.bin .neq) [.t 36, .k (.int .u8 0)], .op (some 38) .mv [.t 37], .sc 38 true (nl [.op (some 39) (.fldA 1) [.t 4], .op (some 40) (.ld none) [.t 39], .op (some 41) .call [.k (.fn c_s_IsSound []), .t 40], .op (some 42) (.un .not) [.t 41]]) (.t 42) (some 43)]) (.t 43) (some 44), .op (some 45) .mv [.t 44], .sc 45 false (nl [.op (some 46) (.fldA 0) [.t 4], .op (some 47) (.ld none) [.t 46], .op (some 48) (.bin .eql) [.t 47, .k (.int .u8 0)], .op (some 49) .mv [.t 48], .sc 49 true (nl [.op (some 50) (.fldA 1) [.t 4], .op (some 51) (.ld none) [.t 50], .op (some 52) (.bin .eql) [.t 51, .k (.int .u8 0)]]) (.t 52) (some 53)]) (.t 53) (some 54)])) [1, 3, 4, 5, 6, 54])
                          (.cond (.t 54)
                            (.seq
                              (.reg [⟨(some 2), .mv, [.k (.bool false)], none⟩] [2])
                              .ret)
                            .skip))
                        (.seq
                          (.reg (flatNs none (nl [.op (some 55) (.fldA 0) [.t 4], .op (some 56) (.ld none) [.t 55], .op (some 57) (.bin .neq) [.t 56, .k (.int .u8 0)], .op (some 58) .mv [.t 57], .sc 58 true (nl [.op (some 59) (.fldA 1) [.t 4], .op (some 60) (.ld none) [.t 59], .op (some 61) (.bin .neq) [.t 60, .k (.int .u8 0)]]) (.t 61) (some 62), .op (some 63) .mv [.t 62], .sc 63 true (nl [.op (some 64) (.fldA 0) [.t 4], .op (some 65) (.ld none) [.t 64], .op (some 66) (.fldA 1) [.t 4], .op (some 67) (.ld none) [.t 66], .op (some 68) (.bin .neq) [.t 65, .t 67]]) (.t 68) (some 69), .op (some 70) .mv [.t 69], .sc 70 true (nl [.op (some 71) .mv [.t 6], .op (some 72) .mv [.t 71], .sc 72 true (nl [.op (some 73) .mv [.t 5], .op (some 74) (.fldA 1) [.t 4], .op (some 75) (.ld none) [.t 74], .op (some 76) (.bin .eql) [.t 73, .t 75]]) (.t 76) (some 77), .op (some 78) (.un .not) [.t 77]]) (.t 78) (some 79)])) [1, 3, 79])
                          (.cond (.t 79)
                            (.seq
                              (.reg [⟨(some 2), .mv, [.k (.bool false)], none⟩] [2])
                              .ret)
                            .skip))))))
                (.reg [⟨(some 12), .mv, [.t 3], none⟩,
                  ⟨(some 13), (.bin .add), [.t 12, .k (.int .i64 1)], none⟩,
                  ⟨(some 3), .mv, [.t 13], none⟩] [1, 3]))))))
      (.seq
        (.reg (flatNs none (nl [.op (some 80) (.fldA 0) [.t 1], .op (some 81) (.ld none) [.t 80], .op (some 82) .lenL [.t 81], .op (some 83) (.bin .leq) [.t 82, .k (.int .i64 16)], .op (some 84) .mv [.t 83], .sc 84 true (nl [.op (some 85) (.ld (some 1)) [.t 1], .op (some 86) .call [.k (.fn c_s_l6In []), .t 85], .op (some 87) .call [.k (.fn c_s_IsForm []), .t 86]]) (.t 87) (some 88), .op (some 89) .mv [.t 88], .sc 89 true (nl [.op (some 90) (.ld (some 1)) [.t 1], .op (some 91) .call [.k (.fn c_s_l6Out []), .t 90], .op (some 92) .call [.k (.fn c_s_IsForm []), .t 91]]) (.t 92) (some 93), .op (some 2) .mv [.t 93]])) [2])
        .ret)))
def s_IsCandidate.F : Cfg := ⟨fun _ => 0, fun r => match r with | 0 => [1] | 1 => [1, 3] | 2 => [1, 3, 11] | 3 => [1, 3] | 4 => [1, 3, 4] | 5 => [1, 3, 4, 5, 6] | 6 => [1, 3, 4, 5, 6, 54] | 7 => [2] | 8 => [1, 3, 79] | 9 => [2] | 10 => [2] | _ => []⟩
def s_IsCandidate.X (c_s_SwapVoice c_s_IsSound c_s_l6In c_s_IsForm c_s_l6Out : Nat) : FX := ⟨94, [.tmp 2], s_IsCandidate.F, s_IsCandidate.x c_s_SwapVoice c_s_IsSound c_s_l6In c_s_IsForm c_s_l6Out⟩

set_option maxHeartbeats 2000000 in
theorem s_IsCandidate.ok {P : Program} {k c_s_SwapVoice c_s_IsSound c_s_l6In c_s_IsForm c_s_l6Out : Nat} (hk : Has P k (s_IsCandidate.X c_s_SwapVoice c_s_IsSound c_s_l6In c_s_IsForm c_s_l6Out)) (h0 : C_SwapVoice P c_s_SwapVoice) (h1 : C_IsSound P c_s_IsSound) (h2 : Cs insS P c_s_l6In) (h4 : Cs outS P c_s_l6Out) (h3 : C_IsForm P c_s_IsForm) : C_IsCandidate P k := by
  intro c hl n H
  have hin := ins_len c
  have hout := outs_len c
  refine S.ofX hk rfl fun hB fn hr => ?_
  unfold s_IsCandidate.x
  repeat' (first
    | ((with_reducible refine S.go ?_); first | refine S.seq ?_ | refine S.skip ?_ | refine S.block ?_ | refine S.inBlock ?_ | refine S.exit rfl ?_ | refine S.regN ?_ | refine S.reg ?_ | refine S.drw hk.mo (by kernel_rfl) ?_ | (refine S.cond rfl (fun hc => ?_) (fun hc => ?_) <;> try simp only [HC] at hc) | refine S.retH hr rfl ?_ | refine S.finH hr rfl ?_ | (refine S.retK hr ?_; refine TR ?_) | fail)
    | ((first | with_reducible refine Ns.go ?_ | with_reducible refine XOs.go ?_ | with_reducible refine XDs.go ?_ | with_reducible refine OK.go ?_); (first | refine TT ?_ | (apply Ns.sc ⟨rfl, rfl⟩ rfl; intro hg) | (refine OK.tr ?_; refine TT ?_)); (try simp only [HC] at hg))
    | with_reducible exact rfl | exact ⟨rfl, rfl, rfl⟩
    | ((with_reducible refine Gd.go ?_); refine Gd.on (fun hg => ?_) (fun hg => ?_) <;> refine TG ?_ <;> (try simp only [HC] at hg))
    | ((with_reducible refine Fin.go ?_); first | (refine Fin.p ?_; first | exact FT | (try refine TT ?_; try simp only [LF])) | refine Fin.a0 ?_ | refine Fin.a ?_ | refine Fin.ni ?_ | refine Fin.v ?_ ?_ | refine Fin.r ?_ ?_ | exact Fin.th | (refine Fin.t ?_; try simp only [AV.sl.injEq]))
    | (refine And.go ?_; refine AndI ?_)
    | fail)
  refine S.loopV (σ := Nat) [1, 3] (fun s => [(3, .int .i64 (s : Int))]) (fun s => s ≤ c.length ∧ (c.take s).all isLnk = true) (fun s => n + s) (fun s => H) (fun s => c.length - s) (0) (⟨by omega, ?_⟩) ?_
  · first | rfl | omega | (simp; done) | (simp; omega) | skip
  rintro i ⟨hi1, hi2⟩ ih
  try dsimp only at hi1 hi2
  repeat' (first
    | ((with_reducible refine S.go ?_); first | refine S.seq ?_ | refine S.skip ?_ | refine S.block ?_ | refine S.inBlock ?_ | refine S.exit rfl ?_ | refine S.regN ?_ | refine S.reg ?_ | refine S.drw hk.mo (by kernel_rfl) ?_ | refine S.ag (ih (i + 1) ?_ ?_) | (refine S.cond rfl (fun hc => ?_) (fun hc => ?_) <;> try simp only [HC] at hc) | refine S.retH hr rfl ?_ | refine S.finH hr rfl ?_ | (refine S.retK hr ?_; refine TR ?_) | fail)
    | ((first | with_reducible refine Ns.go ?_ | with_reducible refine XOs.go ?_ | with_reducible refine XDs.go ?_ | with_reducible refine OK.go ?_); (first | refine TT ?_ | (apply Ns.sc ⟨rfl, rfl⟩ rfl; intro hg) | (refine OK.tr ?_; refine TT ?_)); (try simp only [HC] at hg))
    | with_reducible exact rfl | exact ⟨rfl, rfl, rfl⟩
    | ((with_reducible refine RunsT.go ?_); first | refine RunsF.apf (h0 _) rfl ?_ | refine RunsF.apf (h1 _) rfl ?_ | refine RunsF.apf (h2 _ hl) rfl ?_ | refine RunsF.apf (h4 _ hl) rfl ?_ | refine RunsF.apf (h3 (insS c) (by omega)) rfl ?_ | refine RunsF.apf (h3 (outS c) (by omega)) rfl ?_ | fail)
    | ((with_reducible refine RunsD.go ?_); first | refine RunsF.apd (h0 _) rfl ?_ | refine RunsF.apd (h1 _) rfl ?_ | refine RunsF.apd (h2 _ hl) rfl ?_ | refine RunsF.apd (h4 _ hl) rfl ?_ | refine RunsF.apd (h3 (insS c) (by omega)) rfl ?_ | refine RunsF.apd (h3 (outS c) (by omega)) rfl ?_ | fail)
    | ((with_reducible refine Gd.go ?_); refine Gd.on (fun hg => ?_) (fun hg => ?_) <;> refine TG ?_ <;> (try simp only [HC] at hg))
    | ((with_reducible refine Fin.go ?_); first | (refine Fin.p ?_; first | exact FT | (try refine TT ?_; try simp only [LF])) | refine Fin.a0 ?_ | refine Fin.a ?_ | refine Fin.ni ?_ | refine Fin.v ?_ ?_ | refine Fin.r ?_ ?_ | exact Fin.th | (refine Fin.t ?_; try simp only [AV.sl.injEq]))
    | (refine And.go ?_; refine AndI ?_)
    | fail)
  all_goals (try clear ih)
  all_goals (try dsimp only)
  all_goals (repeat' apply And.intro)
  all_goals first | omega | (simp only [ZL]; omega) | skip
  all_goals first | (refine (cand_no (i := i) (by omega) ?_).symm; rw [lnk_form]; clear hi2 hin hout; grind) | (refine all_step (by omega) ?_ hi2; rw [lnk_form]; clear hi2 hin hout; grind) | (rw [cand_yes (by omega) hi2]; simp only [ZI])
end Go.M02
