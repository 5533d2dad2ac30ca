/- Equality of claims and what they hold, in the program and in the reference; its law. Over any program. -/
import Derived.Test.YtobhjgipeepmoaaD01
namespace Go.N01
open Go.Ab Siz Go.D01
set_option linter.unusedVariables false
set_option linter.unusedSimpArgs false
set_option maxRecDepth 2000
def C_eqfS (α : Type) [Dat α] [Siz (List α)] [Siz (List (List α))] [DecidableEq α] (P : Program) (k : Nat) : Prop := ∀ (l m : List (List α)) (f : FuncId), ok mxs l → ok mxs m → C_eqS α P f → RunsF P k [.sl (enc l), .sl (enc m), .fn f []] (.bool (decide (l = m)))
def C_eqfT (α : Type) [Dat α] [Siz α] [Siz (List α)] [DecidableEq α] (P : Program) (k : Nat) : Prop := ∀ (l m : List α) (f : FuncId), ok mxs l → ok mxs m → C_eqT α P f → RunsF P k [.sl (enc l), .sl (enc m), .fn f []] (.bool (decide (l = m)))
/-- spec.l5Same -/
def s_l5Same.x : XCode :=
  (.seq
    (.reg [⟨(some 4), .mv, [.k (.bool false)], none⟩] [0, 1])
    (.seq
      (.seq
        (.reg [⟨(some 6), .mv, [.t 0], none⟩,
          ⟨(some 7), .lenL, [.t 6], none⟩,
          ⟨(some 8), .mv, [.t 1], none⟩,
          ⟨(some 9), .lenL, [.t 8], none⟩,
          ⟨(some 10), (.bin .neq), [.t 7, .t 9], none⟩] [0, 1, 10])
        (.cond (.t 10)
          (.seq
            (.reg [⟨(some 4), .mv, [.k (.bool false)], none⟩] [4])
            .ret)
          .skip))
      (.seq
        (.seq
          (.reg [⟨(some 5), .mv, [.k (.int .i64 0)], none⟩] [0, 1, 5])
          (.block 0
            (.loop
              (.seq
                (.seq
                  (.reg [⟨(some 11), .mv, [.t 5], none⟩,
                    ⟨(some 12), .mv, [.t 0], none⟩,
                    ⟨(some 13), .lenL, [.t 12], none⟩,
                    ⟨(some 14), (.bin .lss), [.t 11, .t 13], none⟩] [0, 1, 5, 14])
                  (.cond (.t 14)
                    .skip
                    (.exit 0)))
                (.seq
                  (.block 1
                    (.seq
                      (.drw [(⟨(some 17), .mv, [.t 0], none⟩, []),
                        (⟨(some 18), .mv, [.t 5], none⟩, []),
                        (⟨(some 19), (.idxA 1), [.t 17, .t 18], none⟩, [0, 1]),
                        (⟨(some 20), (.ld none), [.t 19], none⟩, [2]),
                        (⟨(some 21), .mv, [.t 1], none⟩, []),
                        (⟨(some 22), .mv, [.t 5], none⟩, []),
                        (⟨(some 23), (.idxA 1), [.t 21, .t 22], none⟩, [4, 5]),
                        (⟨(some 24), (.ld none), [.t 23], none⟩, [6]),
                        (⟨(some 25), (.bin .neq), [.t 20, .t 24], none⟩, [3, 7])] [0, 1, 5, 25] [0, 0, 0, 0, 0, 0, 0, 0, 0])
                      (.cond (.t 25)
                        (.seq
                          (.reg [⟨(some 4), .mv, [.k (.bool false)], none⟩] [4])
                          .ret)
                        .skip)))
                  (.reg [⟨(some 15), .mv, [.t 5], none⟩,
                    ⟨(some 16), (.bin .add), [.t 15, .k (.int .i64 1)], none⟩,
                    ⟨(some 5), .mv, [.t 16], none⟩] [0, 1, 5]))))))
        (.seq
          (.reg [⟨(some 4), .mv, [.k (.bool true)], none⟩] [4])
          .ret))))
def s_l5Same.F : Cfg := ⟨fun _ => 0, fun r => match r with | 0 => [0, 1] | 1 => [0, 1, 10] | 2 => [4] | 3 => [0, 1, 5] | 4 => [0, 1, 5, 14] | 5 => [0, 1, 5] | 6 => [0, 1, 5, 25] | 7 => [4] | 8 => [4] | 1000006 => [0, 0, 0, 0, 0, 0, 0, 0, 0] | _ => []⟩
def s_l5Same.X : FX := ⟨26, [.tmp 4], s_l5Same.F, s_l5Same.x⟩

theorem s_l5Same.ok {P : Program} {k : Nat} (hk : Has P k (s_l5Same.X)) : C_eqS Int P k := by
  intro l m hl hm n H
  obtain ⟨hl1, hl2⟩ := hl
  obtain ⟨hm1, hm2⟩ := hm
  unfold mxs at hl1 hm1
  refine S.ofX hk rfl fun hB fn hr => ?_
  unfold s_l5Same.x
  repeat' (first
    | refine S.seq ?_ | refine S.skip ?_ | refine S.block ?_ | refine S.inBlock ?_ | refine S.exit rfl ?_ | refine S.regN ?_ | refine S.reg ?_ | refine S.drw hk.mo (by kernel_rfl) ?_
    | ((first | refine Ns.go ?_ | refine XOs.go ?_ | refine XDs.go ?_ | refine OK.go ?_); (first | refine TTdt ?_ | (apply Ns.sc ⟨rfl, rfl⟩ rfl; intro hg) | (refine OK.tr ?_; refine TTdt ?_)); (try simp only [HC] at hg))
    | with_reducible exact rfl | exact ⟨rfl, rfl, rfl⟩
    | (refine S.cond rfl (fun hc => ?_) (fun hc => ?_) <;> try simp only [HC] at hc)
    | (refine Gd.on (fun hg => ?_) (fun hg => ?_) <;> refine TGdt ?_ <;> (try simp only [HC] at hg))
    | refine S.retH hr rfl ?_ | refine S.finH hr rfl ?_ | (refine S.retK hr ?_; refine TRdt ?_)
    | (refine Fin.go ?_; first | (refine Fin.p ?_; first | exact FT | (try refine TTdt ?_; try simp only [LF])) | refine Fin.a0 ?_ | refine Fin.a ?_ | refine Fin.ni ?_ | refine Fin.v ?_ ?_ | refine Fin.r ?_ ?_ | exact Fin.th | (refine Fin.t ?_; try simp only [AV.sl.injEq]))
    | (refine And.go ?_; refine AndI ?_)
    | fail)
  · exact (decL (by omega)).symm
  refine S.loopV (σ := Nat) [0, 1, 5] (fun s => [(5, .int .i64 (s : Int))]) (fun s => s ≤ l.length ∧ ∀ j, j < s → l.getD j default = m.getD j default) (fun s => n) (fun s => H) (fun s => l.length - s) (0) (⟨by omega, ?_⟩) ?_
  · first | rfl | omega | (simp; done) | (simp; omega) | skip
  rintro i ⟨hi1, hi2⟩ ih
  try dsimp only at hi1 hi2
  repeat' (first
    | refine S.seq ?_ | refine S.skip ?_ | refine S.block ?_ | refine S.inBlock ?_ | refine S.exit rfl ?_ | refine S.regN ?_ | refine S.reg ?_ | refine S.drw hk.mo (by kernel_rfl) ?_
    | ((first | refine Ns.go ?_ | refine XOs.go ?_ | refine XDs.go ?_ | refine OK.go ?_); (first | refine TTdt ?_ | (apply Ns.sc ⟨rfl, rfl⟩ rfl; intro hg) | (refine OK.tr ?_; refine TTdt ?_)); (try simp only [HC] at hg))
    | with_reducible exact rfl | exact ⟨rfl, rfl, rfl⟩
    | refine S.ag (ih (i + 1) ?_ ?_)
    | (refine S.cond rfl (fun hc => ?_) (fun hc => ?_) <;> try simp only [HC] at hc)
    | (refine Gd.on (fun hg => ?_) (fun hg => ?_) <;> refine TGdt ?_ <;> (try simp only [HC] at hg))
    | refine S.retH hr rfl ?_ | refine S.finH hr rfl ?_ | (refine S.retK hr ?_; refine TRdt ?_)
    | (refine Fin.go ?_; first | (refine Fin.p ?_; first | exact FT | (try refine TTdt ?_; try simp only [LF])) | refine Fin.a0 ?_ | refine Fin.a ?_ | refine Fin.ni ?_ | refine Fin.v ?_ ?_ | refine Fin.r ?_ ?_ | exact Fin.th | (refine Fin.t ?_; try simp only [AV.sl.injEq]))
    | (refine And.go ?_; refine AndI ?_)
    | fail)
  all_goals (try clear ih)
  all_goals (try dsimp only)
  all_goals (repeat' apply And.intro)
  all_goals first | omega | (simp only [ZL]; omega) | skip
  all_goals (try clear hr hk hB)
  all_goals first | (exact (decG hc).symm) | (exact (decA (by omega) (fun j hj => hi2 j (by omega))).symm) | (exact decN hi2 hc)
/-- spec.l20Same -/
def s_l20Same.x : XCode :=
  (.seq
    (.reg [⟨(some 4), .mv, [.k (.bool false)], none⟩] [0, 1])
    (.seq
      (.seq
        (.reg [⟨(some 6), .mv, [.t 0], none⟩,
          ⟨(some 7), .lenL, [.t 6], none⟩,
          ⟨(some 8), .mv, [.t 1], none⟩,
          ⟨(some 9), .lenL, [.t 8], none⟩,
          ⟨(some 10), (.bin .neq), [.t 7, .t 9], none⟩] [0, 1, 10])
        (.cond (.t 10)
          (.seq
            (.reg [⟨(some 4), .mv, [.k (.bool false)], none⟩] [4])
            .ret)
          .skip))
      (.seq
        (.seq
          (.reg [⟨(some 5), .mv, [.k (.int .i64 0)], none⟩] [0, 1, 5])
          (.block 0
            (.loop
              (.seq
                (.seq
                  (.reg [⟨(some 11), .mv, [.t 5], none⟩,
                    ⟨(some 12), .mv, [.t 0], none⟩,
                    ⟨(some 13), .lenL, [.t 12], none⟩,
                    ⟨(some 14), (.bin .lss), [.t 11, .t 13], none⟩] [0, 1, 5, 14])
                  (.cond (.t 14)
                    .skip
                    (.exit 0)))
                (.seq
                  (.block 1
                    (.seq
                      (.drw [(⟨(some 17), .mv, [.t 0], none⟩, []),
                        (⟨(some 18), .mv, [.t 5], none⟩, []),
                        (⟨(some 19), (.idxA 1), [.t 17, .t 18], none⟩, [0, 1]),
                        (⟨(some 20), (.ld none), [.t 19], none⟩, [2]),
                        (⟨(some 21), .mv, [.t 1], none⟩, []),
                        (⟨(some 22), .mv, [.t 5], none⟩, []),
                        (⟨(some 23), (.idxA 1), [.t 21, .t 22], none⟩, [4, 5]),
                        (⟨(some 24), (.ld none), [.t 23], none⟩, [6]),
                        (⟨(some 25), (.bin .neq), [.t 20, .t 24], none⟩, [3, 7])] [0, 1, 5, 25] [0, 0, 0, 0, 0, 0, 0, 0, 0])
                      (.cond (.t 25)
                        (.seq
                          (.reg [⟨(some 4), .mv, [.k (.bool false)], none⟩] [4])
                          .ret)
                        .skip)))
                  (.reg [⟨(some 15), .mv, [.t 5], none⟩,
                    ⟨(some 16), (.bin .add), [.t 15, .k (.int .i64 1)], none⟩,
                    ⟨(some 5), .mv, [.t 16], none⟩] [0, 1, 5]))))))
        (.seq
          (.reg [⟨(some 4), .mv, [.k (.bool true)], none⟩] [4])
          .ret))))
def s_l20Same.F : Cfg := ⟨fun _ => 0, fun r => match r with | 0 => [0, 1] | 1 => [0, 1, 10] | 2 => [4] | 3 => [0, 1, 5] | 4 => [0, 1, 5, 14] | 5 => [0, 1, 5] | 6 => [0, 1, 5, 25] | 7 => [4] | 8 => [4] | 1000006 => [0, 0, 0, 0, 0, 0, 0, 0, 0] | _ => []⟩
def s_l20Same.X : FX := ⟨26, [.tmp 4], s_l20Same.F, s_l20Same.x⟩

theorem s_l20Same.ok {P : Program} {k : Nat} (hk : Has P k (s_l20Same.X)) : C_eqS (List UInt8) P k := by
  intro l m hl hm n H
  obtain ⟨hl1, hl2⟩ := hl
  obtain ⟨hm1, hm2⟩ := hm
  unfold mxs at hl1 hm1
  refine S.ofX hk rfl fun hB fn hr => ?_
  unfold s_l20Same.x
  repeat' (first
    | refine S.seq ?_ | refine S.skip ?_ | refine S.block ?_ | refine S.inBlock ?_ | refine S.exit rfl ?_ | refine S.regN ?_ | refine S.reg ?_ | refine S.drw hk.mo (by kernel_rfl) ?_
    | ((first | refine Ns.go ?_ | refine XOs.go ?_ | refine XDs.go ?_ | refine OK.go ?_); (first | refine TTdt ?_ | (apply Ns.sc ⟨rfl, rfl⟩ rfl; intro hg) | (refine OK.tr ?_; refine TTdt ?_)); (try simp only [HC] at hg))
    | with_reducible exact rfl | exact ⟨rfl, rfl, rfl⟩
    | (refine S.cond rfl (fun hc => ?_) (fun hc => ?_) <;> try simp only [HC] at hc)
    | (refine Gd.on (fun hg => ?_) (fun hg => ?_) <;> refine TGdt ?_ <;> (try simp only [HC] at hg))
    | refine S.retH hr rfl ?_ | refine S.finH hr rfl ?_ | (refine S.retK hr ?_; refine TRdt ?_)
    | (refine Fin.go ?_; first | (refine Fin.p ?_; first | exact FT | (try refine TTdt ?_; try simp only [LF])) | refine Fin.a0 ?_ | refine Fin.a ?_ | refine Fin.ni ?_ | refine Fin.v ?_ ?_ | refine Fin.r ?_ ?_ | exact Fin.th | (refine Fin.t ?_; try simp only [AV.sl.injEq]))
    | (refine And.go ?_; refine AndI ?_)
    | fail)
  · exact (decL (by omega)).symm
  refine S.loopV (σ := Nat) [0, 1, 5] (fun s => [(5, .int .i64 (s : Int))]) (fun s => s ≤ l.length ∧ ∀ j, j < s → l.getD j default = m.getD j default) (fun s => n) (fun s => H) (fun s => l.length - s) (0) (⟨by omega, ?_⟩) ?_
  · first | rfl | omega | (simp; done) | (simp; omega) | skip
  rintro i ⟨hi1, hi2⟩ ih
  try dsimp only at hi1 hi2
  repeat' (first
    | refine S.seq ?_ | refine S.skip ?_ | refine S.block ?_ | refine S.inBlock ?_ | refine S.exit rfl ?_ | refine S.regN ?_ | refine S.reg ?_ | refine S.drw hk.mo (by kernel_rfl) ?_
    | ((first | refine Ns.go ?_ | refine XOs.go ?_ | refine XDs.go ?_ | refine OK.go ?_); (first | refine TTdt ?_ | (apply Ns.sc ⟨rfl, rfl⟩ rfl; intro hg) | (refine OK.tr ?_; refine TTdt ?_)); (try simp only [HC] at hg))
    | with_reducible exact rfl | exact ⟨rfl, rfl, rfl⟩
    | refine S.ag (ih (i + 1) ?_ ?_)
    | (refine S.cond rfl (fun hc => ?_) (fun hc => ?_) <;> try simp only [HC] at hc)
    | (refine Gd.on (fun hg => ?_) (fun hg => ?_) <;> refine TGdt ?_ <;> (try simp only [HC] at hg))
    | refine S.retH hr rfl ?_ | refine S.finH hr rfl ?_ | (refine S.retK hr ?_; refine TRdt ?_)
    | (refine Fin.go ?_; first | (refine Fin.p ?_; first | exact FT | (try refine TTdt ?_; try simp only [LF])) | refine Fin.a0 ?_ | refine Fin.a ?_ | refine Fin.ni ?_ | refine Fin.v ?_ ?_ | refine Fin.r ?_ ?_ | exact Fin.th | (refine Fin.t ?_; try simp only [AV.sl.injEq]))
    | (refine And.go ?_; refine AndI ?_)
    | fail)
  all_goals (try clear ih)
  all_goals (try dsimp only)
  all_goals (repeat' apply And.intro)
  all_goals first | omega | (simp only [ZL]; omega) | skip
  all_goals (try clear hr hk hB)
  all_goals first | (exact (decG hc).symm) | (exact (decA (by omega) (fun j hj => hi2 j (by omega))).symm) | (exact decN hi2 hc)
/-- spec.l13Same -/
def s_l13Same.x (c_s_l5Same : Nat) : XCode :=
  (.seq
    (.reg [⟨(some 2), .boxF, [.t 0], none⟩,
      ⟨(some 3), .boxF, [.t 1], none⟩,
      ⟨(some 4), .mv, [.k (.bool false)], none⟩] [2, 3])
    (.seq
      (.reg [⟨(some 5), (.fldA 0), [.t 2], none⟩,
        ⟨(some 6), (.ld none), [.t 5], none⟩,
        ⟨(some 7), (.fldA 0), [.t 3], none⟩,
        ⟨(some 8), (.ld none), [.t 7], none⟩,
        ⟨(some 9), .call, [.k (.fn c_s_l5Same []), .t 6, .t 8], none⟩,
        ⟨(some 4), .mv, [.t 9], none⟩] [4])
      .ret))
def s_l13Same.F : Cfg := ⟨fun _ => 0, fun r => match r with | 0 => [2, 3] | 1 => [4] | _ => []⟩
def s_l13Same.X (c_s_l5Same : Nat) : FX := ⟨10, [.tmp 4], s_l13Same.F, s_l13Same.x c_s_l5Same⟩

theorem s_l13Same.ok {P : Program} {k c_s_l5Same : Nat} (hk : Has P k (s_l13Same.X c_s_l5Same)) (h1 : C_eqS Int P c_s_l5Same) : C_eqT (List Int) P k := by
  intro x y hl hm n H
  refine S.ofX hk rfl fun hB fn hr => ?_
  unfold s_l13Same.x
  repeat' (first
    | refine S.seq ?_ | refine S.skip ?_ | refine S.block ?_ | refine S.inBlock ?_ | refine S.exit rfl ?_ | refine S.regN ?_ | refine S.reg ?_ | refine S.drw hk.mo (by kernel_rfl) ?_
    | ((first | refine Ns.go ?_ | refine XOs.go ?_ | refine XDs.go ?_ | refine OK.go ?_); (first | refine TTdt ?_ | (apply Ns.sc ⟨rfl, rfl⟩ rfl; intro hg) | (refine OK.tr ?_; refine TTdt ?_)); (try simp only [HC] at hg))
    | with_reducible exact rfl | exact ⟨rfl, rfl, rfl⟩
    | refine RunsF.apf (h1 _ _ hl hm) rfl ?_ | refine RunsF.apd (h1 _ _ hl hm) rfl ?_
    | (refine S.cond rfl (fun hc => ?_) (fun hc => ?_) <;> try simp only [HC] at hc)
    | (refine Gd.on (fun hg => ?_) (fun hg => ?_) <;> refine TGdt ?_ <;> (try simp only [HC] at hg))
    | refine S.retH hr rfl ?_ | refine S.finH hr rfl ?_ | (refine S.retK hr ?_; refine TRdt ?_)
    | (refine Fin.go ?_; first | (refine Fin.p ?_; first | exact FT | (try refine TTdt ?_; try simp only [LF])) | refine Fin.a0 ?_ | refine Fin.a ?_ | refine Fin.ni ?_ | refine Fin.v ?_ ?_ | refine Fin.r ?_ ?_ | exact Fin.th | (refine Fin.t ?_; try simp only [AV.sl.injEq]))
    | (refine And.go ?_; refine AndI ?_)
    | fail)
/-- spec.EqualRows -/
def s_EqualRows.x (c_s_l13Same : Nat) : XCode :=
  (.seq
    (.reg [⟨(some 4), .mv, [.k (.bool false)], none⟩] [0, 1])
    (.seq
      (.seq
        (.reg [⟨(some 6), .mv, [.t 0], none⟩,
          ⟨(some 7), .lenL, [.t 6], none⟩,
          ⟨(some 8), .mv, [.t 1], none⟩,
          ⟨(some 9), .lenL, [.t 8], none⟩,
          ⟨(some 10), (.bin .neq), [.t 7, .t 9], none⟩] [0, 1, 10])
        (.cond (.t 10)
          (.seq
            (.reg [⟨(some 4), .mv, [.k (.bool false)], none⟩] [4])
            .ret)
          .skip))
      (.seq
        (.seq
          (.reg [⟨(some 5), .mv, [.k (.int .i64 0)], none⟩] [0, 1, 5])
          (.block 0
            (.loop
              (.seq
                (.seq
                  (.reg [⟨(some 11), .mv, [.t 5], none⟩,
                    ⟨(some 12), .mv, [.t 0], none⟩,
                    ⟨(some 13), .lenL, [.t 12], none⟩,
                    ⟨(some 14), (.bin .lss), [.t 11, .t 13], none⟩] [0, 1, 5, 14])
                  (.cond (.t 14)
                    .skip
                    (.exit 0)))
                (.seq
                  (.block 1
                    (.seq
                      (.drw [(⟨(some 17), .mv, [.t 0], none⟩, []),
                        (⟨(some 18), .mv, [.t 5], none⟩, []),
                        (⟨(some 19), (.idxA 1), [.t 17, .t 18], none⟩, [0, 1]),
                        (⟨(some 20), (.ld (some 1)), [.t 19], none⟩, [2]),
                        (⟨(some 21), .mv, [.t 1], none⟩, []),
                        (⟨(some 22), .mv, [.t 5], none⟩, []),
                        (⟨(some 23), (.idxA 1), [.t 21, .t 22], none⟩, [4, 5]),
                        (⟨(some 24), (.ld (some 1)), [.t 23], none⟩, [6]),
                        (⟨(some 25), .call, [.k (.fn c_s_l13Same []), .t 20, .t 24], none⟩, [3, 7]),
                        (⟨(some 26), (.un .not), [.t 25], none⟩, [8])] [0, 1, 5, 26] [0, 0, 0, 0, 0, 0, 0, 0, 0, 0])
                      (.cond (.t 26)
                        (.seq
                          (.reg [⟨(some 4), .mv, [.k (.bool false)], none⟩] [4])
                          .ret)
                        .skip)))
                  (.reg [⟨(some 15), .mv, [.t 5], none⟩,
                    ⟨(some 16), (.bin .add), [.t 15, .k (.int .i64 1)], none⟩,
                    ⟨(some 5), .mv, [.t 16], none⟩] [0, 1, 5]))))))
        (.seq
          (.reg [⟨(some 4), .mv, [.k (.bool true)], none⟩] [4])
          .ret))))
def s_EqualRows.F : Cfg := ⟨fun _ => 0, fun r => match r with | 0 => [0, 1] | 1 => [0, 1, 10] | 2 => [4] | 3 => [0, 1, 5] | 4 => [0, 1, 5, 14] | 5 => [0, 1, 5] | 6 => [0, 1, 5, 26] | 7 => [4] | 8 => [4] | 1000006 => [0, 0, 0, 0, 0, 0, 0, 0, 0, 0] | _ => []⟩
def s_EqualRows.X (c_s_l13Same : Nat) : FX := ⟨27, [.tmp 4], s_EqualRows.F, s_EqualRows.x c_s_l13Same⟩

theorem s_EqualRows.ok {P : Program} {k c_s_l13Same : Nat} (hk : Has P k (s_EqualRows.X c_s_l13Same)) (h1 : C_eqT (List Int) P c_s_l13Same) : C_eqS (List Int) P k := by
  intro l m hl hm n H
  obtain ⟨hl1, hl2⟩ := hl
  obtain ⟨hm1, hm2⟩ := hm
  unfold mxs at hl1 hm1
  refine S.ofX hk rfl fun hB fn hr => ?_
  unfold s_EqualRows.x
  repeat' (first
    | refine S.seq ?_ | refine S.skip ?_ | refine S.block ?_ | refine S.inBlock ?_ | refine S.exit rfl ?_ | refine S.regN ?_ | refine S.reg ?_ | refine S.drw hk.mo (by kernel_rfl) ?_
    | ((first | refine Ns.go ?_ | refine XOs.go ?_ | refine XDs.go ?_ | refine OK.go ?_); (first | refine TTdt ?_ | (apply Ns.sc ⟨rfl, rfl⟩ rfl; intro hg) | (refine OK.tr ?_; refine TTdt ?_)); (try simp only [HC] at hg))
    | with_reducible exact rfl | exact ⟨rfl, rfl, rfl⟩
    | (refine S.cond rfl (fun hc => ?_) (fun hc => ?_) <;> try simp only [HC] at hc)
    | (refine Gd.on (fun hg => ?_) (fun hg => ?_) <;> refine TGdt ?_ <;> (try simp only [HC] at hg))
    | refine S.retH hr rfl ?_ | refine S.finH hr rfl ?_ | (refine S.retK hr ?_; refine TRdt ?_)
    | (refine Fin.go ?_; first | (refine Fin.p ?_; first | exact FT | (try refine TTdt ?_; try simp only [LF])) | refine Fin.a0 ?_ | refine Fin.a ?_ | refine Fin.ni ?_ | refine Fin.v ?_ ?_ | refine Fin.r ?_ ?_ | exact Fin.th | (refine Fin.t ?_; try simp only [AV.sl.injEq]))
    | (refine And.go ?_; refine AndI ?_)
    | fail)
  · exact (decL (by omega)).symm
  refine S.loopV (σ := Nat) [0, 1, 5] (fun s => [(5, .int .i64 (s : Int))]) (fun s => s ≤ l.length ∧ ∀ j, j < s → l.getD j default = m.getD j default) (fun s => n) (fun s => H) (fun s => l.length - s) (0) (⟨by omega, ?_⟩) ?_
  · first | rfl | omega | (simp; done) | (simp; omega) | skip
  rintro i ⟨hi1, hi2⟩ ih
  try dsimp only at hi1 hi2
  repeat' (first
    | refine S.seq ?_ | refine S.skip ?_ | refine S.block ?_ | refine S.inBlock ?_ | refine S.exit rfl ?_ | refine S.regN ?_ | refine S.reg ?_ | refine S.drw hk.mo (by kernel_rfl) ?_
    | ((first | refine Ns.go ?_ | refine XOs.go ?_ | refine XDs.go ?_ | refine OK.go ?_); (first | refine TTdt ?_ | (apply Ns.sc ⟨rfl, rfl⟩ rfl; intro hg) | (refine OK.tr ?_; refine TTdt ?_)); (try simp only [HC] at hg))
    | with_reducible exact rfl | exact ⟨rfl, rfl, rfl⟩
    | refine S.ag (ih (i + 1) ?_ ?_)
    | refine RunsF.apf (h1 _ _ (ok_at hl2 (by omega)) (ok_at hm2 (by omega))) rfl ?_ | refine RunsF.apd (h1 _ _ (ok_at hl2 (by omega)) (ok_at hm2 (by omega))) rfl ?_
    | (refine S.cond rfl (fun hc => ?_) (fun hc => ?_) <;> try simp only [HC] at hc)
    | (refine Gd.on (fun hg => ?_) (fun hg => ?_) <;> refine TGdt ?_ <;> (try simp only [HC] at hg))
    | refine S.retH hr rfl ?_ | refine S.finH hr rfl ?_ | (refine S.retK hr ?_; refine TRdt ?_)
    | (refine Fin.go ?_; first | (refine Fin.p ?_; first | exact FT | (try refine TTdt ?_; try simp only [LF])) | refine Fin.a0 ?_ | refine Fin.a ?_ | refine Fin.ni ?_ | refine Fin.v ?_ ?_ | refine Fin.r ?_ ?_ | exact Fin.th | (refine Fin.t ?_; try simp only [AV.sl.injEq]))
    | (refine And.go ?_; refine AndI ?_)
    | fail)
  all_goals (try clear ih)
  all_goals (try dsimp only)
  all_goals (repeat' apply And.intro)
  all_goals first | omega | (simp only [ZL]; omega) | skip
  all_goals (try clear hr hk hB)
  all_goals first | (exact (decG hc).symm) | (exact (decA (by omega) (fun j hj => hi2 j (by omega))).symm) | (exact decN hi2 hc)
/-- spec.EqualCandidates -/
def s_EqualCandidates.x : XCode :=
  (.seq
    (.reg [⟨(some 2), .boxF, [.t 0], none⟩,
      ⟨(some 3), .boxF, [.t 1], none⟩,
      ⟨(some 4), .mv, [.k (.bool false)], none⟩] [2, 3])
    (.seq
      (.seq
        (.reg [⟨(some 6), (.fldA 0), [.t 2], none⟩,
          ⟨(some 7), (.ld none), [.t 6], none⟩,
          ⟨(some 8), .lenL, [.t 7], none⟩,
          ⟨(some 9), (.fldA 0), [.t 3], none⟩,
          ⟨(some 10), (.ld none), [.t 9], none⟩,
          ⟨(some 11), .lenL, [.t 10], none⟩,
          ⟨(some 12), (.bin .neq), [.t 8, .t 11], none⟩] [2, 3, 12])
        (.cond (.t 12)
          (.seq
            (.reg [⟨(some 4), .mv, [.k (.bool false)], none⟩] [4])
            .ret)
          .skip))
      (.seq
        (.seq
          (.reg [⟨(some 5), .mv, [.k (.int .i64 0)], none⟩] [2, 3, 5])
          (.block 0
            (.loop
              (.seq
                (.seq
                  (.reg [⟨(some 13), .mv, [.t 5], none⟩,
                    ⟨(some 14), (.fldA 0), [.t 2], none⟩,
                    ⟨(some 15), (.ld none), [.t 14], none⟩,
                    ⟨(some 16), .lenL, [.t 15], none⟩,
                    ⟨(some 17), (.bin .lss), [.t 13, .t 16], none⟩] [2, 3, 5, 17])
                  (.cond (.t 17)
                    .skip
                    (.exit 0)))
                (.seq
                  (.block 1
                    (.seq
                      (.drw [(⟨(some 20), (.fldA 0), [.t 2], none⟩, []),
                        (⟨(some 21), (.ld none), [.t 20], none⟩, [0]),
                        (⟨(some 22), .mv, [.t 5], none⟩, []),
                        (⟨(some 23), (.idxA 2), [.t 21, .t 22], none⟩, [1, 2]),
                        (⟨(some 24), (.ld (some 2)), [.t 23], none⟩, [3]),
                        (⟨(some 25), (.fldA 0), [.t 3], none⟩, []),
                        (⟨(some 26), (.ld none), [.t 25], none⟩, [5]),
                        (⟨(some 27), .mv, [.t 5], none⟩, []),
                        (⟨(some 28), (.idxA 2), [.t 26, .t 27], none⟩, [6, 7]),
                        (⟨(some 29), (.ld (some 2)), [.t 28], none⟩, [8]),
                        (⟨(some 30), (.eqS true 2), [.t 24, .t 29], none⟩, [4, 9])] [2, 3, 5, 30] [0, 0, 0, 0, 0, 0, 0, 0, 0, 0, 0])
                      (.cond (.t 30)
                        (.seq
                          (.reg [⟨(some 4), .mv, [.k (.bool false)], none⟩] [4])
                          .ret)
                        .skip)))
                  (.reg [⟨(some 18), .mv, [.t 5], none⟩,
                    ⟨(some 19), (.bin .add), [.t 18, .k (.int .i64 1)], none⟩,
                    ⟨(some 5), .mv, [.t 19], none⟩] [2, 3, 5]))))))
        (.seq
          (.reg [⟨(some 4), .mv, [.k (.bool true)], none⟩] [4])
          .ret))))
def s_EqualCandidates.F : Cfg := ⟨fun _ => 0, fun r => match r with | 0 => [2, 3] | 1 => [2, 3, 12] | 2 => [4] | 3 => [2, 3, 5] | 4 => [2, 3, 5, 17] | 5 => [2, 3, 5] | 6 => [2, 3, 5, 30] | 7 => [4] | 8 => [4] | 1000006 => [0, 0, 0, 0, 0, 0, 0, 0, 0, 0, 0] | _ => []⟩
def s_EqualCandidates.X : FX := ⟨31, [.tmp 4], s_EqualCandidates.F, s_EqualCandidates.x⟩

theorem s_EqualCandidates.ok {P : Program} {k : Nat} (hk : Has P k (s_EqualCandidates.X)) : C_eqT (List Lnk) P k := by
  intro l m hl hm n H
  obtain ⟨hl1, hl2⟩ := hl
  obtain ⟨hm1, hm2⟩ := hm
  unfold mxs at hl1 hm1
  refine S.ofX hk rfl fun hB fn hr => ?_
  unfold s_EqualCandidates.x
  repeat' (first
    | refine S.seq ?_ | refine S.skip ?_ | refine S.block ?_ | refine S.inBlock ?_ | refine S.exit rfl ?_ | refine S.regN ?_ | refine S.reg ?_ | refine S.drw hk.mo (by kernel_rfl) ?_
    | ((first | refine Ns.go ?_ | refine XOs.go ?_ | refine XDs.go ?_ | refine OK.go ?_); (first | refine TTdt ?_ | (apply Ns.sc ⟨rfl, rfl⟩ rfl; intro hg) | (refine OK.tr ?_; refine TTdt ?_)); (try simp only [HC] at hg))
    | with_reducible exact rfl | exact ⟨rfl, rfl, rfl⟩
    | (refine S.cond rfl (fun hc => ?_) (fun hc => ?_) <;> try simp only [HC] at hc)
    | (refine Gd.on (fun hg => ?_) (fun hg => ?_) <;> refine TGdt ?_ <;> (try simp only [HC] at hg))
    | refine S.retH hr rfl ?_ | refine S.finH hr rfl ?_ | (refine S.retK hr ?_; refine TRdt ?_)
    | (refine Fin.go ?_; first | (refine Fin.p ?_; first | exact FT | (try refine TTdt ?_; try simp only [LF])) | refine Fin.a0 ?_ | refine Fin.a ?_ | refine Fin.ni ?_ | refine Fin.v ?_ ?_ | refine Fin.r ?_ ?_ | exact Fin.th | (refine Fin.t ?_; try simp only [AV.sl.injEq]))
    | (refine And.go ?_; refine AndI ?_)
    | fail)
  · exact (decL (by omega)).symm
  refine S.loopV (σ := Nat) [2, 3, 5] (fun s => [(5, .int .i64 (s : Int))]) (fun s => s ≤ l.length ∧ ∀ j, j < s → l.getD j default = m.getD j default) (fun s => n) (fun s => H) (fun s => l.length - s) (0) (⟨by omega, ?_⟩) ?_
  · first | rfl | omega | (simp; done) | (simp; omega) | skip
  rintro i ⟨hi1, hi2⟩ ih
  try dsimp only at hi1 hi2
  repeat' (first
    | refine S.seq ?_ | refine S.skip ?_ | refine S.block ?_ | refine S.inBlock ?_ | refine S.exit rfl ?_ | refine S.regN ?_ | refine S.reg ?_ | refine S.drw hk.mo (by kernel_rfl) ?_
    | ((first | refine Ns.go ?_ | refine XOs.go ?_ | refine XDs.go ?_ | refine OK.go ?_); (first | refine TTdt ?_ | (apply Ns.sc ⟨rfl, rfl⟩ rfl; intro hg) | (refine OK.tr ?_; refine TTdt ?_)); (try simp only [HC] at hg))
    | with_reducible exact rfl | exact ⟨rfl, rfl, rfl⟩
    | refine S.ag (ih (i + 1) ?_ ?_)
    | (refine S.cond rfl (fun hc => ?_) (fun hc => ?_) <;> try simp only [HC] at hc)
    | (refine Gd.on (fun hg => ?_) (fun hg => ?_) <;> refine TGdt ?_ <;> (try simp only [HC] at hg))
    | refine S.retH hr rfl ?_ | refine S.finH hr rfl ?_ | (refine S.retK hr ?_; refine TRdt ?_)
    | (refine Fin.go ?_; first | (refine Fin.p ?_; first | exact FT | (try refine TTdt ?_; try simp only [LF])) | refine Fin.a0 ?_ | refine Fin.a ?_ | refine Fin.ni ?_ | refine Fin.v ?_ ?_ | refine Fin.r ?_ ?_ | exact Fin.th | (refine Fin.t ?_; try simp only [AV.sl.injEq]))
    | (refine And.go ?_; refine AndI ?_)
    | fail)
  all_goals (try clear ih)
  all_goals (try dsimp only)
  all_goals (repeat' apply And.intro)
  all_goals first | omega | (simp only [ZL]; omega) | skip
  all_goals (try clear hr hk hB)
  all_goals first | (exact (decG hc).symm) | (exact (decA (by omega) (fun j hj => hi2 j (by omega))).symm) | (exact decN hi2 hc) | trace_state
/-- slices.Equal[[]int,int] -/
def slices_Equal_int_int.x : XCode :=
  (.seq
    (.reg [⟨(some 4), .mv, [.k (.bool false)], none⟩] [0, 1])
    (.seq
      (.seq
        (.reg [⟨(some 6), .mv, [.t 0], none⟩,
          ⟨(some 7), .lenL, [.t 6], none⟩,
          ⟨(some 8), .mv, [.t 1], none⟩,
          ⟨(some 9), .lenL, [.t 8], none⟩,
          ⟨(some 10), (.bin .neq), [.t 7, .t 9], none⟩] [0, 1, 10])
        (.cond (.t 10)
          (.seq
            (.reg [⟨(some 4), .mv, [.k (.bool false)], none⟩] [4])
            .ret)
          .skip))
      (.seq
        (.seq
          (.reg [⟨(some 11), .mv, [.t 0], none⟩,
            ⟨(some 12), .lenL, [.t 11], none⟩,
            ⟨(some 13), .mv, [.k (.int .i64 0)], none⟩] [0, 1, 12, 13])
          (.block 0
            (.loop
              (.seq
                (.reg [⟨(some 14), (.bin .lss), [.t 13, .t 12], none⟩] [0, 1, 12, 13, 14])
                (.seq
                  (.cond (.t 14)
                    .skip
                    (.exit 0))
                  (.seq
                    (.block 1
                      (.seq
                        (.reg [⟨(some 15), .mv, [.t 13], none⟩,
                          ⟨(some 5), .mv, [.t 15], none⟩] [0, 1, 5, 12, 13])
                        (.seq
                          (.drw [(⟨(some 16), .mv, [.t 0], none⟩, []),
                            (⟨(some 17), .mv, [.t 5], none⟩, []),
                            (⟨(some 18), (.idxA 1), [.t 16, .t 17], none⟩, [0, 1]),
                            (⟨(some 19), (.ld none), [.t 18], none⟩, [2]),
                            (⟨(some 20), .mv, [.t 1], none⟩, []),
                            (⟨(some 21), .mv, [.t 5], none⟩, []),
                            (⟨(some 22), (.idxA 1), [.t 20, .t 21], none⟩, [4, 5]),
                            (⟨(some 23), (.ld none), [.t 22], none⟩, [6]),
                            (⟨(some 24), (.bin .neq), [.t 19, .t 23], none⟩, [3, 7])] [0, 1, 12, 13, 24] [0, 0, 0, 0, 0, 0, 0, 0, 0])
                          (.cond (.t 24)
                            (.seq
                              (.reg [⟨(some 4), .mv, [.k (.bool false)], none⟩] [4])
                              .ret)
                            .skip))))
                    (.reg [⟨(some 25), (.bin .add), [.t 13, .k (.int .i64 1)], none⟩,
                      ⟨(some 13), .mv, [.t 25], none⟩] [0, 1, 12, 13])))))))
        (.seq
          (.reg [⟨(some 4), .mv, [.k (.bool true)], none⟩] [4])
          .ret))))
def slices_Equal_int_int.F : Cfg := ⟨fun _ => 0, fun r => match r with | 0 => [0, 1] | 1 => [0, 1, 10] | 2 => [4] | 3 => [0, 1, 12, 13] | 4 => [0, 1, 12, 13, 14] | 5 => [0, 1, 5, 12, 13] | 6 => [0, 1, 12, 13, 24] | 7 => [4] | 8 => [0, 1, 12, 13] | 9 => [4] | 1000006 => [0, 0, 0, 0, 0, 0, 0, 0, 0] | _ => []⟩
def slices_Equal_int_int.X : FX := ⟨26, [.tmp 4], slices_Equal_int_int.F, slices_Equal_int_int.x⟩

theorem slices_Equal_int_int.ok {P : Program} {k : Nat} (hk : Has P k (slices_Equal_int_int.X)) : C_eqS Int P k := by
  intro l m hl hm n H
  obtain ⟨hl1, hl2⟩ := hl
  obtain ⟨hm1, hm2⟩ := hm
  unfold mxs at hl1 hm1
  refine S.ofX hk rfl fun hB fn hr => ?_
  unfold slices_Equal_int_int.x
  repeat' (first
    | refine S.seq ?_ | refine S.skip ?_ | refine S.block ?_ | refine S.inBlock ?_ | refine S.exit rfl ?_ | refine S.regN ?_ | refine S.reg ?_ | refine S.drw hk.mo (by kernel_rfl) ?_
    | ((first | refine Ns.go ?_ | refine XOs.go ?_ | refine XDs.go ?_ | refine OK.go ?_); (first | refine TTdt ?_ | (apply Ns.sc ⟨rfl, rfl⟩ rfl; intro hg) | (refine OK.tr ?_; refine TTdt ?_)); (try simp only [HC] at hg))
    | with_reducible exact rfl | exact ⟨rfl, rfl, rfl⟩
    | (refine S.cond rfl (fun hc => ?_) (fun hc => ?_) <;> try simp only [HC] at hc)
    | (refine Gd.on (fun hg => ?_) (fun hg => ?_) <;> refine TGdt ?_ <;> (try simp only [HC] at hg))
    | refine S.retH hr rfl ?_ | refine S.finH hr rfl ?_ | (refine S.retK hr ?_; refine TRdt ?_)
    | (refine Fin.go ?_; first | (refine Fin.p ?_; first | exact FT | (try refine TTdt ?_; try simp only [LF])) | refine Fin.a0 ?_ | refine Fin.a ?_ | refine Fin.ni ?_ | refine Fin.v ?_ ?_ | refine Fin.r ?_ ?_ | exact Fin.th | (refine Fin.t ?_; try simp only [AV.sl.injEq]))
    | (refine And.go ?_; refine AndI ?_)
    | fail)
  · exact (decL (by omega)).symm
  refine S.loopV (σ := Nat) [0, 1, 12, 13] (fun s => [(13, .int .i64 (s : Int))]) (fun s => s ≤ l.length ∧ ∀ j, j < s → l.getD j default = m.getD j default) (fun s => n) (fun s => H) (fun s => l.length - s) (0) (⟨by omega, ?_⟩) ?_
  · first | rfl | omega | (simp; done) | (simp; omega) | skip
  rintro i ⟨hi1, hi2⟩ ih
  try dsimp only at hi1 hi2
  repeat' (first
    | refine S.seq ?_ | refine S.skip ?_ | refine S.block ?_ | refine S.inBlock ?_ | refine S.exit rfl ?_ | refine S.regN ?_ | refine S.reg ?_ | refine S.drw hk.mo (by kernel_rfl) ?_
    | ((first | refine Ns.go ?_ | refine XOs.go ?_ | refine XDs.go ?_ | refine OK.go ?_); (first | refine TTdt ?_ | (apply Ns.sc ⟨rfl, rfl⟩ rfl; intro hg) | (refine OK.tr ?_; refine TTdt ?_)); (try simp only [HC] at hg))
    | with_reducible exact rfl | exact ⟨rfl, rfl, rfl⟩
    | refine S.ag (ih (i + 1) ?_ ?_)
    | (refine S.cond rfl (fun hc => ?_) (fun hc => ?_) <;> try simp only [HC] at hc)
    | (refine Gd.on (fun hg => ?_) (fun hg => ?_) <;> refine TGdt ?_ <;> (try simp only [HC] at hg))
    | refine S.retH hr rfl ?_ | refine S.finH hr rfl ?_ | (refine S.retK hr ?_; refine TRdt ?_)
    | (refine Fin.go ?_; first | (refine Fin.p ?_; first | exact FT | (try refine TTdt ?_; try simp only [LF])) | refine Fin.a0 ?_ | refine Fin.a ?_ | refine Fin.ni ?_ | refine Fin.v ?_ ?_ | refine Fin.r ?_ ?_ | exact Fin.th | (refine Fin.t ?_; try simp only [AV.sl.injEq]))
    | (refine And.go ?_; refine AndI ?_)
    | fail)
  all_goals (try clear ih)
  all_goals (try dsimp only)
  all_goals (repeat' apply And.intro)
  all_goals first | omega | (simp only [ZL]; omega) | skip
  all_goals (try clear hr hk hB)
  all_goals first | (exact (decG hc).symm) | (exact (decA (by omega) (fun j hj => hi2 j (by omega))).symm) | (exact decN hi2 hc)
/-- slices.Equal[[]string,string] -/
def slices_Equal_string_string.x : XCode :=
  (.seq
    (.reg [⟨(some 4), .mv, [.k (.bool false)], none⟩] [0, 1])
    (.seq
      (.seq
        (.reg [⟨(some 6), .mv, [.t 0], none⟩,
          ⟨(some 7), .lenL, [.t 6], none⟩,
          ⟨(some 8), .mv, [.t 1], none⟩,
          ⟨(some 9), .lenL, [.t 8], none⟩,
          ⟨(some 10), (.bin .neq), [.t 7, .t 9], none⟩] [0, 1, 10])
        (.cond (.t 10)
          (.seq
            (.reg [⟨(some 4), .mv, [.k (.bool false)], none⟩] [4])
            .ret)
          .skip))
      (.seq
        (.seq
          (.reg [⟨(some 11), .mv, [.t 0], none⟩,
            ⟨(some 12), .lenL, [.t 11], none⟩,
            ⟨(some 13), .mv, [.k (.int .i64 0)], none⟩] [0, 1, 12, 13])
          (.block 0
            (.loop
              (.seq
                (.reg [⟨(some 14), (.bin .lss), [.t 13, .t 12], none⟩] [0, 1, 12, 13, 14])
                (.seq
                  (.cond (.t 14)
                    .skip
                    (.exit 0))
                  (.seq
                    (.block 1
                      (.seq
                        (.reg [⟨(some 15), .mv, [.t 13], none⟩,
                          ⟨(some 5), .mv, [.t 15], none⟩] [0, 1, 5, 12, 13])
                        (.seq
                          (.drw [(⟨(some 16), .mv, [.t 0], none⟩, []),
                            (⟨(some 17), .mv, [.t 5], none⟩, []),
                            (⟨(some 18), (.idxA 1), [.t 16, .t 17], none⟩, [0, 1]),
                            (⟨(some 19), (.ld none), [.t 18], none⟩, [2]),
                            (⟨(some 20), .mv, [.t 1], none⟩, []),
                            (⟨(some 21), .mv, [.t 5], none⟩, []),
                            (⟨(some 22), (.idxA 1), [.t 20, .t 21], none⟩, [4, 5]),
                            (⟨(some 23), (.ld none), [.t 22], none⟩, [6]),
                            (⟨(some 24), (.bin .neq), [.t 19, .t 23], none⟩, [3, 7])] [0, 1, 12, 13, 24] [0, 0, 0, 0, 0, 0, 0, 0, 0])
                          (.cond (.t 24)
                            (.seq
                              (.reg [⟨(some 4), .mv, [.k (.bool false)], none⟩] [4])
                              .ret)
                            .skip))))
                    (.reg [⟨(some 25), (.bin .add), [.t 13, .k (.int .i64 1)], none⟩,
                      ⟨(some 13), .mv, [.t 25], none⟩] [0, 1, 12, 13])))))))
        (.seq
          (.reg [⟨(some 4), .mv, [.k (.bool true)], none⟩] [4])
          .ret))))
def slices_Equal_string_string.F : Cfg := ⟨fun _ => 0, fun r => match r with | 0 => [0, 1] | 1 => [0, 1, 10] | 2 => [4] | 3 => [0, 1, 12, 13] | 4 => [0, 1, 12, 13, 14] | 5 => [0, 1, 5, 12, 13] | 6 => [0, 1, 12, 13, 24] | 7 => [4] | 8 => [0, 1, 12, 13] | 9 => [4] | 1000006 => [0, 0, 0, 0, 0, 0, 0, 0, 0] | _ => []⟩
def slices_Equal_string_string.X : FX := ⟨26, [.tmp 4], slices_Equal_string_string.F, slices_Equal_string_string.x⟩

theorem slices_Equal_string_string.ok {P : Program} {k : Nat} (hk : Has P k (slices_Equal_string_string.X)) : C_eqS (List UInt8) P k := by
  intro l m hl hm n H
  obtain ⟨hl1, hl2⟩ := hl
  obtain ⟨hm1, hm2⟩ := hm
  unfold mxs at hl1 hm1
  refine S.ofX hk rfl fun hB fn hr => ?_
  unfold slices_Equal_string_string.x
  repeat' (first
    | refine S.seq ?_ | refine S.skip ?_ | refine S.block ?_ | refine S.inBlock ?_ | refine S.exit rfl ?_ | refine S.regN ?_ | refine S.reg ?_ | refine S.drw hk.mo (by kernel_rfl) ?_
    | ((first | refine Ns.go ?_ | refine XOs.go ?_ | refine XDs.go ?_ | refine OK.go ?_); (first | refine TTdt ?_ | (apply Ns.sc ⟨rfl, rfl⟩ rfl; intro hg) | (refine OK.tr ?_; refine TTdt ?_)); (try simp only [HC] at hg))
    | with_reducible exact rfl | exact ⟨rfl, rfl, rfl⟩
    | (refine S.cond rfl (fun hc => ?_) (fun hc => ?_) <;> try simp only [HC] at hc)
    | (refine Gd.on (fun hg => ?_) (fun hg => ?_) <;> refine TGdt ?_ <;> (try simp only [HC] at hg))
    | refine S.retH hr rfl ?_ | refine S.finH hr rfl ?_ | (refine S.retK hr ?_; refine TRdt ?_)
    | (refine Fin.go ?_; first | (refine Fin.p ?_; first | exact FT | (try refine TTdt ?_; try simp only [LF])) | refine Fin.a0 ?_ | refine Fin.a ?_ | refine Fin.ni ?_ | refine Fin.v ?_ ?_ | refine Fin.r ?_ ?_ | exact Fin.th | (refine Fin.t ?_; try simp only [AV.sl.injEq]))
    | (refine And.go ?_; refine AndI ?_)
    | fail)
  · exact (decL (by omega)).symm
  refine S.loopV (σ := Nat) [0, 1, 12, 13] (fun s => [(13, .int .i64 (s : Int))]) (fun s => s ≤ l.length ∧ ∀ j, j < s → l.getD j default = m.getD j default) (fun s => n) (fun s => H) (fun s => l.length - s) (0) (⟨by omega, ?_⟩) ?_
  · first | rfl | omega | (simp; done) | (simp; omega) | skip
  rintro i ⟨hi1, hi2⟩ ih
  try dsimp only at hi1 hi2
  repeat' (first
    | refine S.seq ?_ | refine S.skip ?_ | refine S.block ?_ | refine S.inBlock ?_ | refine S.exit rfl ?_ | refine S.regN ?_ | refine S.reg ?_ | refine S.drw hk.mo (by kernel_rfl) ?_
    | ((first | refine Ns.go ?_ | refine XOs.go ?_ | refine XDs.go ?_ | refine OK.go ?_); (first | refine TTdt ?_ | (apply Ns.sc ⟨rfl, rfl⟩ rfl; intro hg) | (refine OK.tr ?_; refine TTdt ?_)); (try simp only [HC] at hg))
    | with_reducible exact rfl | exact ⟨rfl, rfl, rfl⟩
    | refine S.ag (ih (i + 1) ?_ ?_)
    | (refine S.cond rfl (fun hc => ?_) (fun hc => ?_) <;> try simp only [HC] at hc)
    | (refine Gd.on (fun hg => ?_) (fun hg => ?_) <;> refine TGdt ?_ <;> (try simp only [HC] at hg))
    | refine S.retH hr rfl ?_ | refine S.finH hr rfl ?_ | (refine S.retK hr ?_; refine TRdt ?_)
    | (refine Fin.go ?_; first | (refine Fin.p ?_; first | exact FT | (try refine TTdt ?_; try simp only [LF])) | refine Fin.a0 ?_ | refine Fin.a ?_ | refine Fin.ni ?_ | refine Fin.v ?_ ?_ | refine Fin.r ?_ ?_ | exact Fin.th | (refine Fin.t ?_; try simp only [AV.sl.injEq]))
    | (refine And.go ?_; refine AndI ?_)
    | fail)
  all_goals (try clear ih)
  all_goals (try dsimp only)
  all_goals (repeat' apply And.intro)
  all_goals first | omega | (simp only [ZL]; omega) | skip
  all_goals (try clear hr hk hB)
  all_goals first | (exact (decG hc).symm) | (exact (decA (by omega) (fun j hj => hi2 j (by omega))).symm) | (exact decN hi2 hc)
/-- impl.Link] -/
def slices_Equal_impl_Link_impl_Link.x : XCode :=
  (.seq
    (.reg [⟨(some 4), .mv, [.k (.bool false)], none⟩] [0, 1])
    (.seq
      (.seq
        (.reg [⟨(some 6), .mv, [.t 0], none⟩,
          ⟨(some 7), .lenL, [.t 6], none⟩,
          ⟨(some 8), .mv, [.t 1], none⟩,
          ⟨(some 9), .lenL, [.t 8], none⟩,
          ⟨(some 10), (.bin .neq), [.t 7, .t 9], none⟩] [0, 1, 10])
        (.cond (.t 10)
          (.seq
            (.reg [⟨(some 4), .mv, [.k (.bool false)], none⟩] [4])
            .ret)
          .skip))
      (.seq
        (.seq
          (.reg [⟨(some 11), .mv, [.t 0], none⟩,
            ⟨(some 12), .lenL, [.t 11], none⟩,
            ⟨(some 13), .mv, [.k (.int .i64 0)], none⟩] [0, 1, 12, 13])
          (.block 0
            (.loop
              (.seq
                (.reg [⟨(some 14), (.bin .lss), [.t 13, .t 12], none⟩] [0, 1, 12, 13, 14])
                (.seq
                  (.cond (.t 14)
                    .skip
                    (.exit 0))
                  (.seq
                    (.block 1
                      (.seq
                        (.reg [⟨(some 15), .mv, [.t 13], none⟩,
                          ⟨(some 5), .mv, [.t 15], none⟩] [0, 1, 5, 12, 13])
                        (.seq
                          (.drw [(⟨(some 16), .mv, [.t 0], none⟩, []),
                            (⟨(some 17), .mv, [.t 5], none⟩, []),
                            (⟨(some 18), (.idxA 2), [.t 16, .t 17], none⟩, [0, 1]),
                            (⟨(some 19), (.ld (some 2)), [.t 18], none⟩, [2]),
                            (⟨(some 20), .mv, [.t 1], none⟩, []),
                            (⟨(some 21), .mv, [.t 5], none⟩, []),
                            (⟨(some 22), (.idxA 2), [.t 20, .t 21], none⟩, [4, 5]),
                            (⟨(some 23), (.ld (some 2)), [.t 22], none⟩, [6]),
                            (⟨(some 24), (.eqS true 2), [.t 19, .t 23], none⟩, [3, 7])] [0, 1, 12, 13, 24] [0, 0, 0, 0, 0, 0, 0, 0, 0])
                          (.cond (.t 24)
                            (.seq
                              (.reg [⟨(some 4), .mv, [.k (.bool false)], none⟩] [4])
                              .ret)
                            .skip))))
                    (.reg [⟨(some 25), (.bin .add), [.t 13, .k (.int .i64 1)], none⟩,
                      ⟨(some 13), .mv, [.t 25], none⟩] [0, 1, 12, 13])))))))
        (.seq
          (.reg [⟨(some 4), .mv, [.k (.bool true)], none⟩] [4])
          .ret))))
def slices_Equal_impl_Link_impl_Link.F : Cfg := ⟨fun _ => 0, fun r => match r with | 0 => [0, 1] | 1 => [0, 1, 10] | 2 => [4] | 3 => [0, 1, 12, 13] | 4 => [0, 1, 12, 13, 14] | 5 => [0, 1, 5, 12, 13] | 6 => [0, 1, 12, 13, 24] | 7 => [4] | 8 => [0, 1, 12, 13] | 9 => [4] | 1000006 => [0, 0, 0, 0, 0, 0, 0, 0, 0] | _ => []⟩
def slices_Equal_impl_Link_impl_Link.X : FX := ⟨26, [.tmp 4], slices_Equal_impl_Link_impl_Link.F, slices_Equal_impl_Link_impl_Link.x⟩

theorem slices_Equal_impl_Link_impl_Link.ok {P : Program} {k : Nat} (hk : Has P k (slices_Equal_impl_Link_impl_Link.X)) : C_eqS Lnk P k := by
  intro l m hl hm n H
  obtain ⟨hl1, hl2⟩ := hl
  obtain ⟨hm1, hm2⟩ := hm
  unfold mxs at hl1 hm1
  refine S.ofX hk rfl fun hB fn hr => ?_
  unfold slices_Equal_impl_Link_impl_Link.x
  repeat' (first
    | refine S.seq ?_ | refine S.skip ?_ | refine S.block ?_ | refine S.inBlock ?_ | refine S.exit rfl ?_ | refine S.regN ?_ | refine S.reg ?_ | refine S.drw hk.mo (by kernel_rfl) ?_
    | ((first | refine Ns.go ?_ | refine XOs.go ?_ | refine XDs.go ?_ | refine OK.go ?_); (first | refine TTdt ?_ | (apply Ns.sc ⟨rfl, rfl⟩ rfl; intro hg) | (refine OK.tr ?_; refine TTdt ?_)); (try simp only [HC] at hg))
    | with_reducible exact rfl | exact ⟨rfl, rfl, rfl⟩
    | (refine S.cond rfl (fun hc => ?_) (fun hc => ?_) <;> try simp only [HC] at hc)
    | (refine Gd.on (fun hg => ?_) (fun hg => ?_) <;> refine TGdt ?_ <;> (try simp only [HC] at hg))
    | refine S.retH hr rfl ?_ | refine S.finH hr rfl ?_ | (refine S.retK hr ?_; refine TRdt ?_)
    | (refine Fin.go ?_; first | (refine Fin.p ?_; first | exact FT | (try refine TTdt ?_; try simp only [LF])) | refine Fin.a0 ?_ | refine Fin.a ?_ | refine Fin.ni ?_ | refine Fin.v ?_ ?_ | refine Fin.r ?_ ?_ | exact Fin.th | (refine Fin.t ?_; try simp only [AV.sl.injEq]))
    | (refine And.go ?_; refine AndI ?_)
    | fail)
  · exact (decL (by omega)).symm
  refine S.loopV (σ := Nat) [0, 1, 12, 13] (fun s => [(13, .int .i64 (s : Int))]) (fun s => s ≤ l.length ∧ ∀ j, j < s → l.getD j default = m.getD j default) (fun s => n) (fun s => H) (fun s => l.length - s) (0) (⟨by omega, ?_⟩) ?_
  · first | rfl | omega | (simp; done) | (simp; omega) | skip
  rintro i ⟨hi1, hi2⟩ ih
  try dsimp only at hi1 hi2
  repeat' (first
    | refine S.seq ?_ | refine S.skip ?_ | refine S.block ?_ | refine S.inBlock ?_ | refine S.exit rfl ?_ | refine S.regN ?_ | refine S.reg ?_ | refine S.drw hk.mo (by kernel_rfl) ?_
    | ((first | refine Ns.go ?_ | refine XOs.go ?_ | refine XDs.go ?_ | refine OK.go ?_); (first | refine TTdt ?_ | (apply Ns.sc ⟨rfl, rfl⟩ rfl; intro hg) | (refine OK.tr ?_; refine TTdt ?_)); (try simp only [HC] at hg))
    | with_reducible exact rfl | exact ⟨rfl, rfl, rfl⟩
    | refine S.ag (ih (i + 1) ?_ ?_)
    | (refine S.cond rfl (fun hc => ?_) (fun hc => ?_) <;> try simp only [HC] at hc)
    | (refine Gd.on (fun hg => ?_) (fun hg => ?_) <;> refine TGdt ?_ <;> (try simp only [HC] at hg))
    | refine S.retH hr rfl ?_ | refine S.finH hr rfl ?_ | (refine S.retK hr ?_; refine TRdt ?_)
    | (refine Fin.go ?_; first | (refine Fin.p ?_; first | exact FT | (try refine TTdt ?_; try simp only [LF])) | refine Fin.a0 ?_ | refine Fin.a ?_ | refine Fin.ni ?_ | refine Fin.v ?_ ?_ | refine Fin.r ?_ ?_ | exact Fin.th | (refine Fin.t ?_; try simp only [AV.sl.injEq]))
    | (refine And.go ?_; refine AndI ?_)
    | fail)
  all_goals (try clear ih)
  all_goals (try dsimp only)
  all_goals (repeat' apply And.intro)
  all_goals first | omega | (simp only [ZL]; omega) | skip
  all_goals (try clear hr hk hB)
  all_goals first | (exact (decG hc).symm) | (exact (decA (by omega) (fun j hj => hi2 j (by omega))).symm) | (exact decN hi2 hc)
/-- slices.EqualFunc[[][]int,[][]int,[]int,[]int] -/
def slices_EqualFunc_int_int_int_int.x : XCode :=
  (.seq
    (.reg [⟨(some 6), .mv, [.k (.bool false)], none⟩] [0, 1, 2])
    (.seq
      (.seq
        (.reg [⟨(some 10), .mv, [.t 0], none⟩,
          ⟨(some 11), .lenL, [.t 10], none⟩,
          ⟨(some 12), .mv, [.t 1], none⟩,
          ⟨(some 13), .lenL, [.t 12], none⟩,
          ⟨(some 14), (.bin .neq), [.t 11, .t 13], none⟩] [0, 1, 2, 14])
        (.cond (.t 14)
          (.seq
            (.reg [⟨(some 6), .mv, [.k (.bool false)], none⟩] [6])
            .ret)
          .skip))
      (.seq
        (.seq
          (.reg [⟨(some 15), .mv, [.t 0], none⟩,
            ⟨(some 16), .lenL, [.t 15], none⟩,
            ⟨(some 17), .mv, [.k (.int .i64 0)], none⟩] [1, 2, 15, 16, 17])
          (.block 0
            (.loop
              (.seq
                (.reg [⟨(some 18), (.bin .lss), [.t 17, .t 16], none⟩] [1, 2, 15, 16, 17, 18])
                (.seq
                  (.cond (.t 18)
                    .skip
                    (.exit 0))
                  (.seq
                    (.block 1
                      (.seq
                        (.reg [⟨(some 19), .mv, [.t 17], none⟩,
                          ⟨(some 20), (.idxA 1), [.t 15, .t 17], none⟩,
                          ⟨(some 21), (.ld none), [.t 20], none⟩,
                          ⟨(some 7), .mv, [.t 19], none⟩,
                          ⟨(some 8), .mv, [.t 21], none⟩] [1, 2, 7, 8, 15, 16, 17])
                        (.seq
                          (.reg [⟨(some 22), .mv, [.t 1], none⟩,
                            ⟨(some 23), .mv, [.t 7], none⟩,
                            ⟨(some 24), (.idxA 1), [.t 22, .t 23], none⟩,
                            ⟨(some 25), (.ld none), [.t 24], none⟩,
                            ⟨(some 9), .mv, [.t 25], none⟩] [1, 2, 8, 9, 15, 16, 17])
                          (.seq
                            (.reg [⟨(some 26), .mv, [.t 2], none⟩,
                              ⟨(some 27), .mv, [.t 8], none⟩,
                              ⟨(some 28), .mv, [.t 9], none⟩,
                              ⟨(some 29), .call, [.t 26, .t 27, .t 28], none⟩,
                              ⟨(some 30), (.un .not), [.t 29], none⟩] [1, 2, 15, 16, 17, 30])
                            (.cond (.t 30)
                              (.seq
                                (.reg [⟨(some 6), .mv, [.k (.bool false)], none⟩] [6])
                                .ret)
                              .skip)))))
                    (.reg [⟨(some 31), (.bin .add), [.t 17, .k (.int .i64 1)], none⟩,
                      ⟨(some 17), .mv, [.t 31], none⟩] [1, 2, 15, 16, 17])))))))
        (.seq
          (.reg [⟨(some 6), .mv, [.k (.bool true)], none⟩] [6])
          .ret))))
def slices_EqualFunc_int_int_int_int.F : Cfg := ⟨fun _ => 0, fun r => match r with | 0 => [0, 1, 2] | 1 => [0, 1, 2, 14] | 2 => [6] | 3 => [1, 2, 15, 16, 17] | 4 => [1, 2, 15, 16, 17, 18] | 5 => [1, 2, 7, 8, 15, 16, 17] | 6 => [1, 2, 8, 9, 15, 16, 17] | 7 => [1, 2, 15, 16, 17, 30] | 8 => [6] | 9 => [1, 2, 15, 16, 17] | 10 => [6] | _ => []⟩
def slices_EqualFunc_int_int_int_int.X : FX := ⟨32, [.tmp 6], slices_EqualFunc_int_int_int_int.F, slices_EqualFunc_int_int_int_int.x⟩

theorem slices_EqualFunc_int_int_int_int.ok {P : Program} {k : Nat} (hk : Has P k (slices_EqualFunc_int_int_int_int.X)) : C_eqfS Int P k := by
  intro l m f hl hm hf n H
  obtain ⟨hl1, hl2⟩ := hl
  obtain ⟨hm1, hm2⟩ := hm
  unfold mxs at hl1 hm1
  refine S.ofX hk rfl fun hB fn hr => ?_
  unfold slices_EqualFunc_int_int_int_int.x
  repeat' (first
    | refine S.seq ?_ | refine S.skip ?_ | refine S.block ?_ | refine S.inBlock ?_ | refine S.exit rfl ?_ | refine S.regN ?_ | refine S.reg ?_ | refine S.drw hk.mo (by kernel_rfl) ?_
    | ((first | refine Ns.go ?_ | refine XOs.go ?_ | refine XDs.go ?_ | refine OK.go ?_); (first | refine TTdt ?_ | (apply Ns.sc ⟨rfl, rfl⟩ rfl; intro hg) | (refine OK.tr ?_; refine TTdt ?_)); (try simp only [HC] at hg))
    | with_reducible exact rfl | exact ⟨rfl, rfl, rfl⟩
    | (refine S.cond rfl (fun hc => ?_) (fun hc => ?_) <;> try simp only [HC] at hc)
    | (refine Gd.on (fun hg => ?_) (fun hg => ?_) <;> refine TGdt ?_ <;> (try simp only [HC] at hg))
    | refine S.retH hr rfl ?_ | refine S.finH hr rfl ?_ | (refine S.retK hr ?_; refine TRdt ?_)
    | (refine Fin.go ?_; first | (refine Fin.p ?_; first | exact FT | (try refine TTdt ?_; try simp only [LF])) | refine Fin.a0 ?_ | refine Fin.a ?_ | refine Fin.ni ?_ | refine Fin.v ?_ ?_ | refine Fin.r ?_ ?_ | exact Fin.th | (refine Fin.t ?_; try simp only [AV.sl.injEq]))
    | (refine And.go ?_; refine AndI ?_)
    | fail)
  · exact (decL (by omega)).symm
  refine S.loopV (σ := Nat) [1, 2, 15, 16, 17] (fun s => [(17, .int .i64 (s : Int))]) (fun s => s ≤ l.length ∧ ∀ j, j < s → l.getD j default = m.getD j default) (fun s => n) (fun s => H) (fun s => l.length - s) (0) (⟨by omega, ?_⟩) ?_
  · first | rfl | omega | (simp; done) | (simp; omega) | skip
  rintro i ⟨hi1, hi2⟩ ih
  try dsimp only at hi1 hi2
  repeat' (first
    | refine S.seq ?_ | refine S.skip ?_ | refine S.block ?_ | refine S.inBlock ?_ | refine S.exit rfl ?_ | refine S.regN ?_ | refine S.reg ?_ | refine S.drw hk.mo (by kernel_rfl) ?_
    | ((first | refine Ns.go ?_ | refine XOs.go ?_ | refine XDs.go ?_ | refine OK.go ?_); (first | refine TTdt ?_ | (apply Ns.sc ⟨rfl, rfl⟩ rfl; intro hg) | (refine OK.tr ?_; refine TTdt ?_)); (try simp only [HC] at hg))
    | with_reducible exact rfl | exact ⟨rfl, rfl, rfl⟩
    | refine RunsF.ap (hf _ _ (ok_at hl2 (by omega)) (ok_at hm2 (by omega))) ?_
    | refine S.ag (ih (i + 1) ?_ ?_)
    | (refine S.cond rfl (fun hc => ?_) (fun hc => ?_) <;> try simp only [HC] at hc)
    | (refine Gd.on (fun hg => ?_) (fun hg => ?_) <;> refine TGdt ?_ <;> (try simp only [HC] at hg))
    | refine S.retH hr rfl ?_ | refine S.finH hr rfl ?_ | (refine S.retK hr ?_; refine TRdt ?_)
    | (refine Fin.go ?_; first | (refine Fin.p ?_; first | exact FT | (try refine TTdt ?_; try simp only [LF])) | refine Fin.a0 ?_ | refine Fin.a ?_ | refine Fin.ni ?_ | refine Fin.v ?_ ?_ | refine Fin.r ?_ ?_ | exact Fin.th | (refine Fin.t ?_; try simp only [AV.sl.injEq]))
    | (refine And.go ?_; refine AndI ?_)
    | fail)
  all_goals (try clear ih)
  all_goals (try dsimp only)
  all_goals (repeat' apply And.intro)
  all_goals first | omega | (simp only [ZL]; omega) | skip
  all_goals (try clear hr hk hB)
  all_goals first | (exact (decG hc).symm) | (exact (decA (by omega) (fun j hj => hi2 j (by omega))).symm) | (exact decN hi2 hc)
/-- impl.Row] -/
def slices_EqualFunc_impl_Row_impl_Row_impl_Row_impl_Row.x : XCode :=
  (.seq
    (.reg [⟨(some 6), .mv, [.k (.bool false)], none⟩] [0, 1, 2])
    (.seq
      (.seq
        (.reg [⟨(some 10), .mv, [.t 0], none⟩,
          ⟨(some 11), .lenL, [.t 10], none⟩,
          ⟨(some 12), .mv, [.t 1], none⟩,
          ⟨(some 13), .lenL, [.t 12], none⟩,
          ⟨(some 14), (.bin .neq), [.t 11, .t 13], none⟩] [0, 1, 2, 14])
        (.cond (.t 14)
          (.seq
            (.reg [⟨(some 6), .mv, [.k (.bool false)], none⟩] [6])
            .ret)
          .skip))
      (.seq
        (.seq
          (.reg [⟨(some 15), .mv, [.t 0], none⟩,
            ⟨(some 16), .lenL, [.t 15], none⟩,
            ⟨(some 17), .mv, [.k (.int .i64 0)], none⟩] [1, 2, 15, 16, 17])
          (.block 0
            (.loop
              (.seq
                (.reg [⟨(some 18), (.bin .lss), [.t 17, .t 16], none⟩] [1, 2, 15, 16, 17, 18])
                (.seq
                  (.cond (.t 18)
                    .skip
                    (.exit 0))
                  (.seq
                    (.block 1
                      (.seq
                        (.reg [⟨(some 19), .mv, [.t 17], none⟩,
                          ⟨(some 20), (.idxA 1), [.t 15, .t 17], none⟩,
                          ⟨(some 21), (.ld (some 1)), [.t 20], none⟩,
                          ⟨(some 8), (.alloc [.nilsl]), [], none⟩,
                          ⟨(some 7), .mv, [.t 19], none⟩,
                          ⟨none, (.st (some 1)), [.t 8, .t 21], none⟩] [1, 2, 7, 8, 15, 16, 17])
                        (.seq
                          (.reg [⟨(some 22), .mv, [.t 1], none⟩,
                            ⟨(some 23), .mv, [.t 7], none⟩,
                            ⟨(some 24), (.idxA 1), [.t 22, .t 23], none⟩,
                            ⟨(some 25), (.ld (some 1)), [.t 24], none⟩,
                            ⟨(some 9), (.alloc [.nilsl]), [], none⟩,
                            ⟨none, (.st (some 1)), [.t 9, .t 25], none⟩] [1, 2, 8, 9, 15, 16, 17])
                          (.seq
                            (.reg [⟨(some 26), .mv, [.t 2], none⟩,
                              ⟨(some 27), (.ld (some 1)), [.t 8], none⟩,
                              ⟨(some 28), (.ld (some 1)), [.t 9], none⟩,
                              ⟨(some 29), .call, [.t 26, .t 27, .t 28], none⟩,
                              ⟨(some 30), (.un .not), [.t 29], none⟩] [1, 2, 15, 16, 17, 30])
                            (.cond (.t 30)
                              (.seq
                                (.reg [⟨(some 6), .mv, [.k (.bool false)], none⟩] [6])
                                .ret)
                              .skip)))))
                    (.reg [⟨(some 31), (.bin .add), [.t 17, .k (.int .i64 1)], none⟩,
                      ⟨(some 17), .mv, [.t 31], none⟩] [1, 2, 15, 16, 17])))))))
        (.seq
          (.reg [⟨(some 6), .mv, [.k (.bool true)], none⟩] [6])
          .ret))))
def slices_EqualFunc_impl_Row_impl_Row_impl_Row_impl_Row.F : Cfg := ⟨fun _ => 0, fun r => match r with | 0 => [0, 1, 2] | 1 => [0, 1, 2, 14] | 2 => [6] | 3 => [1, 2, 15, 16, 17] | 4 => [1, 2, 15, 16, 17, 18] | 5 => [1, 2, 7, 8, 15, 16, 17] | 6 => [1, 2, 8, 9, 15, 16, 17] | 7 => [1, 2, 15, 16, 17, 30] | 8 => [6] | 9 => [1, 2, 15, 16, 17] | 10 => [6] | _ => []⟩
def slices_EqualFunc_impl_Row_impl_Row_impl_Row_impl_Row.X : FX := ⟨32, [.tmp 6], slices_EqualFunc_impl_Row_impl_Row_impl_Row_impl_Row.F, slices_EqualFunc_impl_Row_impl_Row_impl_Row_impl_Row.x⟩

theorem slices_EqualFunc_impl_Row_impl_Row_impl_Row_impl_Row.ok {P : Program} {k : Nat} (hk : Has P k (slices_EqualFunc_impl_Row_impl_Row_impl_Row_impl_Row.X)) : C_eqfT (List Int) P k := by
  intro l m f hl hm hf n H
  obtain ⟨hl1, hl2⟩ := hl
  obtain ⟨hm1, hm2⟩ := hm
  unfold mxs at hl1 hm1
  refine S.ofX hk rfl fun hB fn hr => ?_
  unfold slices_EqualFunc_impl_Row_impl_Row_impl_Row_impl_Row.x
  repeat' (first
    | refine S.seq ?_ | refine S.skip ?_ | refine S.block ?_ | refine S.inBlock ?_ | refine S.exit rfl ?_ | refine S.regN ?_ | refine S.reg ?_ | refine S.drw hk.mo (by kernel_rfl) ?_
    | ((first | refine Ns.go ?_ | refine XOs.go ?_ | refine XDs.go ?_ | refine OK.go ?_); (first | refine TTdt ?_ | (apply Ns.sc ⟨rfl, rfl⟩ rfl; intro hg) | (refine OK.tr ?_; refine TTdt ?_)); (try simp only [HC] at hg))
    | with_reducible exact rfl | exact ⟨rfl, rfl, rfl⟩
    | (refine S.cond rfl (fun hc => ?_) (fun hc => ?_) <;> try simp only [HC] at hc)
    | (refine Gd.on (fun hg => ?_) (fun hg => ?_) <;> refine TGdt ?_ <;> (try simp only [HC] at hg))
    | refine S.retH hr rfl ?_ | refine S.finH hr rfl ?_ | (refine S.retK hr ?_; refine TRdt ?_)
    | (refine Fin.go ?_; first | (refine Fin.p ?_; first | exact FT | (try refine TTdt ?_; try simp only [LF])) | refine Fin.a0 ?_ | refine Fin.a ?_ | refine Fin.ni ?_ | refine Fin.v ?_ ?_ | refine Fin.r ?_ ?_ | exact Fin.th | (refine Fin.t ?_; try simp only [AV.sl.injEq]))
    | (refine And.go ?_; refine AndI ?_)
    | fail)
  · exact (decL (by omega)).symm
  refine S.loopV (σ := Nat) [1, 2, 15, 16, 17] (fun s => [(17, .int .i64 (s : Int))]) (fun s => s ≤ l.length ∧ ∀ j, j < s → l.getD j default = m.getD j default) (fun s => n + 2 * s) (fun s => H) (fun s => l.length - s) (0) (⟨by omega, ?_⟩) ?_
  · first | rfl | omega | (simp; done) | (simp; omega) | skip
  rintro i ⟨hi1, hi2⟩ ih
  try dsimp only at hi1 hi2
  repeat' (first
    | refine S.seq ?_ | refine S.skip ?_ | refine S.block ?_ | refine S.inBlock ?_ | refine S.exit rfl ?_ | refine S.regN ?_ | refine S.reg ?_ | refine S.drw hk.mo (by kernel_rfl) ?_
    | ((first | refine Ns.go ?_ | refine XOs.go ?_ | refine XDs.go ?_ | refine OK.go ?_); (first | refine TTdt ?_ | (apply Ns.sc ⟨rfl, rfl⟩ rfl; intro hg) | (refine OK.tr ?_; refine TTdt ?_)); (try simp only [HC] at hg))
    | with_reducible exact rfl | exact ⟨rfl, rfl, rfl⟩
    | refine RunsF.ap (hf _ _ (ok_at hl2 (by omega)) (ok_at hm2 (by omega))) ?_
    | refine S.ag (ih (i + 1) ?_ ?_)
    | (refine S.cond rfl (fun hc => ?_) (fun hc => ?_) <;> try simp only [HC] at hc)
    | (refine Gd.on (fun hg => ?_) (fun hg => ?_) <;> refine TGdt ?_ <;> (try simp only [HC] at hg))
    | refine S.retH hr rfl ?_ | refine S.finH hr rfl ?_ | (refine S.retK hr ?_; refine TRdt ?_)
    | (refine Fin.go ?_; first | (refine Fin.p ?_; first | exact FT | (try refine TTdt ?_; try simp only [LF])) | refine Fin.a0 ?_ | refine Fin.a ?_ | refine Fin.ni ?_ | refine Fin.v ?_ ?_ | refine Fin.r ?_ ?_ | exact Fin.th | (refine Fin.t ?_; try simp only [AV.sl.injEq]))
    | (refine And.go ?_; refine AndI ?_)
    | fail)
  all_goals (try clear ih)
  all_goals (try dsimp only)
  all_goals (repeat' apply And.intro)
  all_goals first | omega | (simp only [ZL]; omega) | skip
  all_goals (try clear hr hk hB)
  all_goals first | (exact (decG hc).symm) | (exact (decA (by omega) (fun j hj => hi2 j (by omega))).symm) | (exact decN hi2 hc)
/-- impl.Candidate] -/
def slices_EqualFunc_impl_Candidate_impl_Candidate_impl_Candidate_impl_Candidate.x : XCode :=
  (.seq
    (.reg [⟨(some 6), .mv, [.k (.bool false)], none⟩] [0, 1, 2])
    (.seq
      (.seq
        (.reg [⟨(some 10), .mv, [.t 0], none⟩,
          ⟨(some 11), .lenL, [.t 10], none⟩,
          ⟨(some 12), .mv, [.t 1], none⟩,
          ⟨(some 13), .lenL, [.t 12], none⟩,
          ⟨(some 14), (.bin .neq), [.t 11, .t 13], none⟩] [0, 1, 2, 14])
        (.cond (.t 14)
          (.seq
            (.reg [⟨(some 6), .mv, [.k (.bool false)], none⟩] [6])
            .ret)
          .skip))
      (.seq
        (.seq
          (.reg [⟨(some 15), .mv, [.t 0], none⟩,
            ⟨(some 16), .lenL, [.t 15], none⟩,
            ⟨(some 17), .mv, [.k (.int .i64 0)], none⟩] [1, 2, 15, 16, 17])
          (.block 0
            (.loop
              (.seq
                (.reg [⟨(some 18), (.bin .lss), [.t 17, .t 16], none⟩] [1, 2, 15, 16, 17, 18])
                (.seq
                  (.cond (.t 18)
                    .skip
                    (.exit 0))
                  (.seq
                    (.block 1
                      (.seq
                        (.reg [⟨(some 19), .mv, [.t 17], none⟩,
                          ⟨(some 20), (.idxA 1), [.t 15, .t 17], none⟩,
                          ⟨(some 21), (.ld (some 1)), [.t 20], none⟩,
                          ⟨(some 8), (.alloc [.nilsl]), [], none⟩,
                          ⟨(some 7), .mv, [.t 19], none⟩,
                          ⟨none, (.st (some 1)), [.t 8, .t 21], none⟩] [1, 2, 7, 8, 15, 16, 17])
                        (.seq
                          (.reg [⟨(some 22), .mv, [.t 1], none⟩,
                            ⟨(some 23), .mv, [.t 7], none⟩,
                            ⟨(some 24), (.idxA 1), [.t 22, .t 23], none⟩,
                            ⟨(some 25), (.ld (some 1)), [.t 24], none⟩,
                            ⟨(some 9), (.alloc [.nilsl]), [], none⟩,
                            ⟨none, (.st (some 1)), [.t 9, .t 25], none⟩] [1, 2, 8, 9, 15, 16, 17])
                          (.seq
                            (.reg [⟨(some 26), .mv, [.t 2], none⟩,
                              ⟨(some 27), (.ld (some 1)), [.t 8], none⟩,
                              ⟨(some 28), (.ld (some 1)), [.t 9], none⟩,
                              ⟨(some 29), .call, [.t 26, .t 27, .t 28], none⟩,
                              ⟨(some 30), (.un .not), [.t 29], none⟩] [1, 2, 15, 16, 17, 30])
                            (.cond (.t 30)
                              (.seq
                                (.reg [⟨(some 6), .mv, [.k (.bool false)], none⟩] [6])
                                .ret)
                              .skip)))))
                    (.reg [⟨(some 31), (.bin .add), [.t 17, .k (.int .i64 1)], none⟩,
                      ⟨(some 17), .mv, [.t 31], none⟩] [1, 2, 15, 16, 17])))))))
        (.seq
          (.reg [⟨(some 6), .mv, [.k (.bool true)], none⟩] [6])
          .ret))))
def slices_EqualFunc_impl_Candidate_impl_Candidate_impl_Candidate_impl_Candidate.F : Cfg := ⟨fun _ => 0, fun r => match r with | 0 => [0, 1, 2] | 1 => [0, 1, 2, 14] | 2 => [6] | 3 => [1, 2, 15, 16, 17] | 4 => [1, 2, 15, 16, 17, 18] | 5 => [1, 2, 7, 8, 15, 16, 17] | 6 => [1, 2, 8, 9, 15, 16, 17] | 7 => [1, 2, 15, 16, 17, 30] | 8 => [6] | 9 => [1, 2, 15, 16, 17] | 10 => [6] | _ => []⟩
def slices_EqualFunc_impl_Candidate_impl_Candidate_impl_Candidate_impl_Candidate.X : FX := ⟨32, [.tmp 6], slices_EqualFunc_impl_Candidate_impl_Candidate_impl_Candidate_impl_Candidate.F, slices_EqualFunc_impl_Candidate_impl_Candidate_impl_Candidate_impl_Candidate.x⟩

theorem slices_EqualFunc_impl_Candidate_impl_Candidate_impl_Candidate_impl_Candidate.ok {P : Program} {k : Nat} (hk : Has P k (slices_EqualFunc_impl_Candidate_impl_Candidate_impl_Candidate_impl_Candidate.X)) : C_eqfT (List Lnk) P k := by
  intro l m f hl hm hf n H
  obtain ⟨hl1, hl2⟩ := hl
  obtain ⟨hm1, hm2⟩ := hm
  unfold mxs at hl1 hm1
  refine S.ofX hk rfl fun hB fn hr => ?_
  unfold slices_EqualFunc_impl_Candidate_impl_Candidate_impl_Candidate_impl_Candidate.x
  repeat' (first
    | refine S.seq ?_ | refine S.skip ?_ | refine S.block ?_ | refine S.inBlock ?_ | refine S.exit rfl ?_ | refine S.regN ?_ | refine S.reg ?_ | refine S.drw hk.mo (by kernel_rfl) ?_
    | ((first | refine Ns.go ?_ | refine XOs.go ?_ | refine XDs.go ?_ | refine OK.go ?_); (first | refine TTdt ?_ | (apply Ns.sc ⟨rfl, rfl⟩ rfl; intro hg) | (refine OK.tr ?_; refine TTdt ?_)); (try simp only [HC] at hg))
    | with_reducible exact rfl | exact ⟨rfl, rfl, rfl⟩
    | (refine S.cond rfl (fun hc => ?_) (fun hc => ?_) <;> try simp only [HC] at hc)
    | (refine Gd.on (fun hg => ?_) (fun hg => ?_) <;> refine TGdt ?_ <;> (try simp only [HC] at hg))
    | refine S.retH hr rfl ?_ | refine S.finH hr rfl ?_ | (refine S.retK hr ?_; refine TRdt ?_)
    | (refine Fin.go ?_; first | (refine Fin.p ?_; first | exact FT | (try refine TTdt ?_; try simp only [LF])) | refine Fin.a0 ?_ | refine Fin.a ?_ | refine Fin.ni ?_ | refine Fin.v ?_ ?_ | refine Fin.r ?_ ?_ | exact Fin.th | (refine Fin.t ?_; try simp only [AV.sl.injEq]))
    | (refine And.go ?_; refine AndI ?_)
    | fail)
  · exact (decL (by omega)).symm
  refine S.loopV (σ := Nat) [1, 2, 15, 16, 17] (fun s => [(17, .int .i64 (s : Int))]) (fun s => s ≤ l.length ∧ ∀ j, j < s → l.getD j default = m.getD j default) (fun s => n + 2 * s) (fun s => H) (fun s => l.length - s) (0) (⟨by omega, ?_⟩) ?_
  · first | rfl | omega | (simp; done) | (simp; omega) | skip
  rintro i ⟨hi1, hi2⟩ ih
  try dsimp only at hi1 hi2
  repeat' (first
    | refine S.seq ?_ | refine S.skip ?_ | refine S.block ?_ | refine S.inBlock ?_ | refine S.exit rfl ?_ | refine S.regN ?_ | refine S.reg ?_ | refine S.drw hk.mo (by kernel_rfl) ?_
    | ((first | refine Ns.go ?_ | refine XOs.go ?_ | refine XDs.go ?_ | refine OK.go ?_); (first | refine TTdt ?_ | (apply Ns.sc ⟨rfl, rfl⟩ rfl; intro hg) | (refine OK.tr ?_; refine TTdt ?_)); (try simp only [HC] at hg))
    | with_reducible exact rfl | exact ⟨rfl, rfl, rfl⟩
    | refine RunsF.ap (hf _ _ (ok_at hl2 (by omega)) (ok_at hm2 (by omega))) ?_
    | refine S.ag (ih (i + 1) ?_ ?_)
    | (refine S.cond rfl (fun hc => ?_) (fun hc => ?_) <;> try simp only [HC] at hc)
    | (refine Gd.on (fun hg => ?_) (fun hg => ?_) <;> refine TGdt ?_ <;> (try simp only [HC] at hg))
    | refine S.retH hr rfl ?_ | refine S.finH hr rfl ?_ | (refine S.retK hr ?_; refine TRdt ?_)
    | (refine Fin.go ?_; first | (refine Fin.p ?_; first | exact FT | (try refine TTdt ?_; try simp only [LF])) | refine Fin.a0 ?_ | refine Fin.a ?_ | refine Fin.ni ?_ | refine Fin.v ?_ ?_ | refine Fin.r ?_ ?_ | exact Fin.th | (refine Fin.t ?_; try simp only [AV.sl.injEq]))
    | (refine And.go ?_; refine AndI ?_)
    | fail)
  all_goals (try clear ih)
  all_goals (try dsimp only)
  all_goals (repeat' apply And.intro)
  all_goals first | omega | (simp only [ZL]; omega) | skip
  all_goals (try clear hr hk hB)
  all_goals first | (exact (decG hc).symm) | (exact (decA (by omega) (fun j hj => hi2 j (by omega))).symm) | (exact decN hi2 hc)
/-- impl.EqualCandidates -/
def i_EqualCandidates.x (c_slices_Equal_impl_Link_impl_Link : Nat) : XCode :=
  (.seq
    (.reg [⟨(some 2), .boxF, [.t 0], none⟩,
      ⟨(some 3), .boxF, [.t 1], none⟩,
      ⟨(some 4), .mv, [.k (.bool false)], none⟩] [2, 3])
    (.seq
      (.reg [⟨(some 5), (.fldA 0), [.t 2], none⟩,
        ⟨(some 6), (.ld none), [.t 5], none⟩,
        ⟨(some 7), (.fldA 0), [.t 3], none⟩,
        ⟨(some 8), (.ld none), [.t 7], none⟩,
        ⟨(some 9), .call, [.k (.fn c_slices_Equal_impl_Link_impl_Link []), .t 6, .t 8], none⟩,
        ⟨(some 4), .mv, [.t 9], none⟩] [4])
      .ret))
def i_EqualCandidates.F : Cfg := ⟨fun _ => 0, fun r => match r with | 0 => [2, 3] | 1 => [4] | _ => []⟩
def i_EqualCandidates.X (c_slices_Equal_impl_Link_impl_Link : Nat) : FX := ⟨10, [.tmp 4], i_EqualCandidates.F, i_EqualCandidates.x c_slices_Equal_impl_Link_impl_Link⟩

theorem i_EqualCandidates.ok {P : Program} {k c_slices_Equal_impl_Link_impl_Link : Nat} (hk : Has P k (i_EqualCandidates.X c_slices_Equal_impl_Link_impl_Link)) (h1 : C_eqS Lnk P c_slices_Equal_impl_Link_impl_Link) : C_eqT (List Lnk) P k := by
  intro x y hl hm n H
  refine S.ofX hk rfl fun hB fn hr => ?_
  unfold i_EqualCandidates.x
  repeat' (first
    | refine S.seq ?_ | refine S.skip ?_ | refine S.block ?_ | refine S.inBlock ?_ | refine S.exit rfl ?_ | refine S.regN ?_ | refine S.reg ?_ | refine S.drw hk.mo (by kernel_rfl) ?_
    | ((first | refine Ns.go ?_ | refine XOs.go ?_ | refine XDs.go ?_ | refine OK.go ?_); (first | refine TTdt ?_ | (apply Ns.sc ⟨rfl, rfl⟩ rfl; intro hg) | (refine OK.tr ?_; refine TTdt ?_)); (try simp only [HC] at hg))
    | with_reducible exact rfl | exact ⟨rfl, rfl, rfl⟩
    | refine RunsF.apf (h1 _ _ hl hm) rfl ?_ | refine RunsF.apd (h1 _ _ hl hm) rfl ?_
    | (refine S.cond rfl (fun hc => ?_) (fun hc => ?_) <;> try simp only [HC] at hc)
    | (refine Gd.on (fun hg => ?_) (fun hg => ?_) <;> refine TGdt ?_ <;> (try simp only [HC] at hg))
    | refine S.retH hr rfl ?_ | refine S.finH hr rfl ?_ | (refine S.retK hr ?_; refine TRdt ?_)
    | (refine Fin.go ?_; first | (refine Fin.p ?_; first | exact FT | (try refine TTdt ?_; try simp only [LF])) | refine Fin.a0 ?_ | refine Fin.a ?_ | refine Fin.ni ?_ | refine Fin.v ?_ ?_ | refine Fin.r ?_ ?_ | exact Fin.th | (refine Fin.t ?_; try simp only [AV.sl.injEq]))
    | (refine And.go ?_; refine AndI ?_)
    | fail)
/-- impl.sameRow -/
def i_sameRow.x (c_slices_Equal_int_int : Nat) : XCode :=
  (.seq
    (.reg [⟨(some 2), .boxF, [.t 0], none⟩,
      ⟨(some 3), .boxF, [.t 1], none⟩,
      ⟨(some 4), .mv, [.k (.bool false)], none⟩] [2, 3])
    (.seq
      (.reg [⟨(some 5), (.fldA 0), [.t 2], none⟩,
        ⟨(some 6), (.ld none), [.t 5], none⟩,
        ⟨(some 7), (.fldA 0), [.t 3], none⟩,
        ⟨(some 8), (.ld none), [.t 7], none⟩,
        ⟨(some 9), .call, [.k (.fn c_slices_Equal_int_int []), .t 6, .t 8], none⟩,
        ⟨(some 4), .mv, [.t 9], none⟩] [4])
      .ret))
def i_sameRow.F : Cfg := ⟨fun _ => 0, fun r => match r with | 0 => [2, 3] | 1 => [4] | _ => []⟩
def i_sameRow.X (c_slices_Equal_int_int : Nat) : FX := ⟨10, [.tmp 4], i_sameRow.F, i_sameRow.x c_slices_Equal_int_int⟩

theorem i_sameRow.ok {P : Program} {k c_slices_Equal_int_int : Nat} (hk : Has P k (i_sameRow.X c_slices_Equal_int_int)) (h1 : C_eqS Int P c_slices_Equal_int_int) : C_eqT (List Int) P k := by
  intro x y hl hm n H
  refine S.ofX hk rfl fun hB fn hr => ?_
  unfold i_sameRow.x
  repeat' (first
    | refine S.seq ?_ | refine S.skip ?_ | refine S.block ?_ | refine S.inBlock ?_ | refine S.exit rfl ?_ | refine S.regN ?_ | refine S.reg ?_ | refine S.drw hk.mo (by kernel_rfl) ?_
    | ((first | refine Ns.go ?_ | refine XOs.go ?_ | refine XDs.go ?_ | refine OK.go ?_); (first | refine TTdt ?_ | (apply Ns.sc ⟨rfl, rfl⟩ rfl; intro hg) | (refine OK.tr ?_; refine TTdt ?_)); (try simp only [HC] at hg))
    | with_reducible exact rfl | exact ⟨rfl, rfl, rfl⟩
    | refine RunsF.apf (h1 _ _ hl hm) rfl ?_ | refine RunsF.apd (h1 _ _ hl hm) rfl ?_
    | (refine S.cond rfl (fun hc => ?_) (fun hc => ?_) <;> try simp only [HC] at hc)
    | (refine Gd.on (fun hg => ?_) (fun hg => ?_) <;> refine TGdt ?_ <;> (try simp only [HC] at hg))
    | refine S.retH hr rfl ?_ | refine S.finH hr rfl ?_ | (refine S.retK hr ?_; refine TRdt ?_)
    | (refine Fin.go ?_; first | (refine Fin.p ?_; first | exact FT | (try refine TTdt ?_; try simp only [LF])) | refine Fin.a0 ?_ | refine Fin.a ?_ | refine Fin.ni ?_ | refine Fin.v ?_ ?_ | refine Fin.r ?_ ?_ | exact Fin.th | (refine Fin.t ?_; try simp only [AV.sl.injEq]))
    | (refine And.go ?_; refine AndI ?_)
    | fail)
/-- impl.sameLists$1 -/
def i_sameLists_1.x (c_slices_Equal_int_int : Nat) : XCode :=
  (.seq
    (.reg [⟨(some 4), .mv, [.k (.bool false)], none⟩] [0, 1])
    (.seq
      (.reg [⟨(some 5), .mv, [.t 0], none⟩,
        ⟨(some 6), .mv, [.t 1], none⟩,
        ⟨(some 7), .call, [.k (.fn c_slices_Equal_int_int []), .t 5, .t 6], none⟩,
        ⟨(some 4), .mv, [.t 7], none⟩] [4])
      .ret))
def i_sameLists_1.F : Cfg := ⟨fun _ => 0, fun r => match r with | 0 => [0, 1] | 1 => [4] | _ => []⟩
def i_sameLists_1.X (c_slices_Equal_int_int : Nat) : FX := ⟨8, [.tmp 4], i_sameLists_1.F, i_sameLists_1.x c_slices_Equal_int_int⟩

theorem i_sameLists_1.ok {P : Program} {k c_slices_Equal_int_int : Nat} (hk : Has P k (i_sameLists_1.X c_slices_Equal_int_int)) (h1 : C_eqS Int P c_slices_Equal_int_int) : C_eqS Int P k := by
  intro l m hl hm n H
  refine S.ofX hk rfl fun hB fn hr => ?_
  unfold i_sameLists_1.x
  repeat' (first
    | refine S.seq ?_ | refine S.skip ?_ | refine S.block ?_ | refine S.inBlock ?_ | refine S.exit rfl ?_ | refine S.regN ?_ | refine S.reg ?_ | refine S.drw hk.mo (by kernel_rfl) ?_
    | ((first | refine Ns.go ?_ | refine XOs.go ?_ | refine XDs.go ?_ | refine OK.go ?_); (first | refine TTdt ?_ | (apply Ns.sc ⟨rfl, rfl⟩ rfl; intro hg) | (refine OK.tr ?_; refine TTdt ?_)); (try simp only [HC] at hg))
    | with_reducible exact rfl | exact ⟨rfl, rfl, rfl⟩
    | refine RunsF.apf (h1 _ _ hl hm) rfl ?_ | refine RunsF.apd (h1 _ _ hl hm) rfl ?_
    | (refine S.cond rfl (fun hc => ?_) (fun hc => ?_) <;> try simp only [HC] at hc)
    | (refine Gd.on (fun hg => ?_) (fun hg => ?_) <;> refine TGdt ?_ <;> (try simp only [HC] at hg))
    | refine S.retH hr rfl ?_ | refine S.finH hr rfl ?_ | (refine S.retK hr ?_; refine TRdt ?_)
    | (refine Fin.go ?_; first | (refine Fin.p ?_; first | exact FT | (try refine TTdt ?_; try simp only [LF])) | refine Fin.a0 ?_ | refine Fin.a ?_ | refine Fin.ni ?_ | refine Fin.v ?_ ?_ | refine Fin.r ?_ ?_ | exact Fin.th | (refine Fin.t ?_; try simp only [AV.sl.injEq]))
    | (refine And.go ?_; refine AndI ?_)
    | fail)
/-- impl.sameLists -/
def i_sameLists.x (c_slices_EqualFunc_int_int_int_int c_i_sameLists_1 : Nat) : XCode :=
  (.seq
    (.reg [⟨(some 4), .mv, [.k (.bool false)], none⟩] [0, 1])
    (.seq
      (.reg [⟨(some 5), .mv, [.t 0], none⟩,
        ⟨(some 6), .mv, [.t 1], none⟩,
        ⟨(some 7), .call, [.k (.fn c_slices_EqualFunc_int_int_int_int []), .t 5, .t 6, .k (.fn c_i_sameLists_1 [])], none⟩,
        ⟨(some 4), .mv, [.t 7], none⟩] [4])
      .ret))
def i_sameLists.F : Cfg := ⟨fun _ => 0, fun r => match r with | 0 => [0, 1] | 1 => [4] | _ => []⟩
def i_sameLists.X (c_slices_EqualFunc_int_int_int_int c_i_sameLists_1 : Nat) : FX := ⟨8, [.tmp 4], i_sameLists.F, i_sameLists.x c_slices_EqualFunc_int_int_int_int c_i_sameLists_1⟩

theorem i_sameLists.ok {P : Program} {k c_slices_EqualFunc_int_int_int_int c_i_sameLists_1 : Nat} (hk : Has P k (i_sameLists.X c_slices_EqualFunc_int_int_int_int c_i_sameLists_1)) (h1 : C_eqfS Int P c_slices_EqualFunc_int_int_int_int) (h2 : C_eqS Int P c_i_sameLists_1) : C_eqS (List Int) P k := by
  intro l m hl hm n H
  refine S.ofX hk rfl fun hB fn hr => ?_
  unfold i_sameLists.x
  repeat' (first
    | refine S.seq ?_ | refine S.skip ?_ | refine S.block ?_ | refine S.inBlock ?_ | refine S.exit rfl ?_ | refine S.regN ?_ | refine S.reg ?_ | refine S.drw hk.mo (by kernel_rfl) ?_
    | ((first | refine Ns.go ?_ | refine XOs.go ?_ | refine XDs.go ?_ | refine OK.go ?_); (first | refine TTdt ?_ | (apply Ns.sc ⟨rfl, rfl⟩ rfl; intro hg) | (refine OK.tr ?_; refine TTdt ?_)); (try simp only [HC] at hg))
    | with_reducible exact rfl | exact ⟨rfl, rfl, rfl⟩
    | refine RunsF.apf (h1 _ _ _ hl hm h2) rfl ?_ | refine RunsF.apd (h1 _ _ _ hl hm h2) rfl ?_
    | (refine S.cond rfl (fun hc => ?_) (fun hc => ?_) <;> try simp only [HC] at hc)
    | (refine Gd.on (fun hg => ?_) (fun hg => ?_) <;> refine TGdt ?_ <;> (try simp only [HC] at hg))
    | refine S.retH hr rfl ?_ | refine S.finH hr rfl ?_ | (refine S.retK hr ?_; refine TRdt ?_)
    | (refine Fin.go ?_; first | (refine Fin.p ?_; first | exact FT | (try refine TTdt ?_; try simp only [LF])) | refine Fin.a0 ?_ | refine Fin.a ?_ | refine Fin.ni ?_ | refine Fin.v ?_ ?_ | refine Fin.r ?_ ?_ | exact Fin.th | (refine Fin.t ?_; try simp only [AV.sl.injEq]))
    | (refine And.go ?_; refine AndI ?_)
    | fail)
/-- impl.EqualRows -/
def i_EqualRows.x (c_slices_EqualFunc_impl_Row_impl_Row_impl_Row_impl_Row c_i_sameRow : Nat) : XCode :=
  (.seq
    (.reg [⟨(some 4), .mv, [.k (.bool false)], none⟩] [0, 1])
    (.seq
      (.reg [⟨(some 5), .mv, [.t 0], none⟩,
        ⟨(some 6), .mv, [.t 1], none⟩,
        ⟨(some 7), .call, [.k (.fn c_slices_EqualFunc_impl_Row_impl_Row_impl_Row_impl_Row []), .t 5, .t 6, .k (.fn c_i_sameRow [])], none⟩,
        ⟨(some 4), .mv, [.t 7], none⟩] [4])
      .ret))
def i_EqualRows.F : Cfg := ⟨fun _ => 0, fun r => match r with | 0 => [0, 1] | 1 => [4] | _ => []⟩
def i_EqualRows.X (c_slices_EqualFunc_impl_Row_impl_Row_impl_Row_impl_Row c_i_sameRow : Nat) : FX := ⟨8, [.tmp 4], i_EqualRows.F, i_EqualRows.x c_slices_EqualFunc_impl_Row_impl_Row_impl_Row_impl_Row c_i_sameRow⟩

theorem i_EqualRows.ok {P : Program} {k c_slices_EqualFunc_impl_Row_impl_Row_impl_Row_impl_Row c_i_sameRow : Nat} (hk : Has P k (i_EqualRows.X c_slices_EqualFunc_impl_Row_impl_Row_impl_Row_impl_Row c_i_sameRow)) (h1 : C_eqfT (List Int) P c_slices_EqualFunc_impl_Row_impl_Row_impl_Row_impl_Row) (h2 : C_eqT (List Int) P c_i_sameRow) : C_eqS (List Int) P k := by
  intro l m hl hm n H
  refine S.ofX hk rfl fun hB fn hr => ?_
  unfold i_EqualRows.x
  repeat' (first
    | refine S.seq ?_ | refine S.skip ?_ | refine S.block ?_ | refine S.inBlock ?_ | refine S.exit rfl ?_ | refine S.regN ?_ | refine S.reg ?_ | refine S.drw hk.mo (by kernel_rfl) ?_
    | ((first | refine Ns.go ?_ | refine XOs.go ?_ | refine XDs.go ?_ | refine OK.go ?_); (first | refine TTdt ?_ | (apply Ns.sc ⟨rfl, rfl⟩ rfl; intro hg) | (refine OK.tr ?_; refine TTdt ?_)); (try simp only [HC] at hg))
    | with_reducible exact rfl | exact ⟨rfl, rfl, rfl⟩
    | refine RunsF.apf (h1 _ _ _ hl hm h2) rfl ?_ | refine RunsF.apd (h1 _ _ _ hl hm h2) rfl ?_
    | (refine S.cond rfl (fun hc => ?_) (fun hc => ?_) <;> try simp only [HC] at hc)
    | (refine Gd.on (fun hg => ?_) (fun hg => ?_) <;> refine TGdt ?_ <;> (try simp only [HC] at hg))
    | refine S.retH hr rfl ?_ | refine S.finH hr rfl ?_ | (refine S.retK hr ?_; refine TRdt ?_)
    | (refine Fin.go ?_; first | (refine Fin.p ?_; first | exact FT | (try refine TTdt ?_; try simp only [LF])) | refine Fin.a0 ?_ | refine Fin.a ?_ | refine Fin.ni ?_ | refine Fin.v ?_ ?_ | refine Fin.r ?_ ?_ | exact Fin.th | (refine Fin.t ?_; try simp only [AV.sl.injEq]))
    | (refine And.go ?_; refine AndI ?_)
    | fail)
/-- impl.sameTableaux -/
def i_sameTableaux.x (c_slices_Equal_string_string c_slices_EqualFunc_impl_Candidate_impl_Candidate_impl_Candidate_impl_Candidate c_i_EqualCandidates c_i_sameLists : Nat) : XCode :=
  (.seq
    (.reg [⟨(some 2), .boxF, [.t 0], none⟩,
      ⟨(some 3), .boxF, [.t 1], none⟩,
      ⟨(some 4), .mv, [.k (.bool false)], none⟩] [2, 3])
    (.seq
      (.reg (flatNs none (nl [.op (some 5) (.fldA 0) [.t 2], .op (some 6) (.ld none) [.t 5], .op (some 7) (.fldA 0) [.t 3], .op (some 8) (.ld none) [.t 7], .op (some 9) (.bin .eql) [.t 6, .t 8], .op (some 10) .mv [.t 9], .sc 10 true (nl [.op (some 11) (.fldA 1) [.t 2], .op (some 12) (.ld none) [.t 11], .op (some 13) (.fldA 1) [.t 3], .op (some 14) (.ld none) [.t 13], .op (some 15) .call [.k (.fn c_slices_Equal_string_string []), .t 12, .t 14]]) (.t 15) (some 16), .op (some 17) .mv [.t 16], .sc 17 true (nl [.op (some 18) (.fldA 2) [.t 2], .op (some 19) (.ld none) [.t 18], .op (some 20) (.fldA 2) [.t 3], .op (some 21) (.ld none) [.t 20], .op (some 22) .call [.k (.fn c_slices_EqualFunc_impl_Candidate_impl_Candidate_impl_Candidate_impl_Candidate []), .t 19, .t 21, .k (.fn c_i_EqualCandidates [])]]) (.t 22) (some 23), .op (some 24) .mv [.t 23], .sc 24 true (nl [.op (some 25) (.fldA 3) [.t 2], .op (some 26) (.ld none) [.t 25], .op (some 27) (.fldA 3) [.t 3], .op (some 28) (.ld none) [.t 27], .op (some 29) .call [.k (.fn c_i_sameLists []), .t 26, .t 28]]) (.t 29) (some 30), .op (some 4) .mv [.t 30]])) [4])
      .ret))
def i_sameTableaux.F : Cfg := ⟨fun _ => 0, fun r => match r with | 0 => [2, 3] | 1 => [4] | _ => []⟩
def i_sameTableaux.X (c_slices_Equal_string_string c_slices_EqualFunc_impl_Candidate_impl_Candidate_impl_Candidate_impl_Candidate c_i_EqualCandidates c_i_sameLists : Nat) : FX := ⟨31, [.tmp 4], i_sameTableaux.F, i_sameTableaux.x c_slices_Equal_string_string c_slices_EqualFunc_impl_Candidate_impl_Candidate_impl_Candidate_impl_Candidate c_i_EqualCandidates c_i_sameLists⟩

theorem i_sameTableaux.ok {P : Program} {k c_slices_Equal_string_string c_slices_EqualFunc_impl_Candidate_impl_Candidate_impl_Candidate_impl_Candidate c_i_EqualCandidates c_i_sameLists : Nat} (hk : Has P k (i_sameTableaux.X c_slices_Equal_string_string c_slices_EqualFunc_impl_Candidate_impl_Candidate_impl_Candidate_impl_Candidate c_i_EqualCandidates c_i_sameLists)) (h1 : C_eqS (List UInt8) P c_slices_Equal_string_string) (h2 : C_eqfT (List Lnk) P c_slices_EqualFunc_impl_Candidate_impl_Candidate_impl_Candidate_impl_Candidate) (h3 : C_eqT (List Lnk) P c_i_EqualCandidates) (h4 : C_eqS (List Int) P c_i_sameLists) : C_eqT Tab P k := by
  intro x y hl hm n H
  obtain ⟨x1, x2, x3, x4⟩ := x
  obtain ⟨y1, y2, y3, y4⟩ := y
  obtain ⟨hl1, hl2, hl3, hl4⟩ := hl
  obtain ⟨hm1, hm2, hm3, hm4⟩ := hm
  refine S.ofX hk rfl fun hB fn hr => ?_
  unfold i_sameTableaux.x
  repeat' (first
    | refine S.seq ?_ | refine S.skip ?_ | refine S.block ?_ | refine S.inBlock ?_ | refine S.exit rfl ?_ | refine S.regN ?_ | refine S.reg ?_ | refine S.drw hk.mo (by kernel_rfl) ?_
    | ((first | refine Ns.go ?_ | refine XOs.go ?_ | refine XDs.go ?_ | refine OK.go ?_); (first | refine TTdt ?_ | (apply Ns.sc ⟨rfl, rfl⟩ rfl; intro hg) | (refine OK.tr ?_; refine TTdt ?_)); (try simp only [HC] at hg))
    | with_reducible exact rfl | exact ⟨rfl, rfl, rfl⟩
    | refine RunsF.apf (h1 _ _ hl2 hm2) rfl ?_ | refine RunsF.apd (h1 _ _ hl2 hm2) rfl ?_
    | refine RunsF.apf (h2 _ _ _ hl3 hm3 h3) rfl ?_ | refine RunsF.apd (h2 _ _ _ hl3 hm3 h3) rfl ?_
    | refine RunsF.apf (h4 _ _ hl4 hm4) rfl ?_ | refine RunsF.apd (h4 _ _ hl4 hm4) rfl ?_
    | (refine S.cond rfl (fun hc => ?_) (fun hc => ?_) <;> try simp only [HC] at hc)
    | (refine Gd.on (fun hg => ?_) (fun hg => ?_) <;> refine TGdt ?_ <;> (try simp only [HC] at hg))
    | refine S.retH hr rfl ?_ | refine S.finH hr rfl ?_ | (refine S.retK hr ?_; refine TRdt ?_)
    | (refine Fin.go ?_; first | (refine Fin.p ?_; first | exact FT | (try refine TTdt ?_; try simp only [LF])) | refine Fin.a0 ?_ | refine Fin.a ?_ | refine Fin.ni ?_ | refine Fin.v ?_ ?_ | refine Fin.r ?_ ?_ | exact Fin.th | (refine Fin.t ?_; try simp only [AV.sl.injEq]))
    | (refine And.go ?_; refine AndI ?_)
    | fail)
  all_goals (try clear hr hk hB)
  all_goals (rw [Bool.eq_iff_iff]; simp only [Prod.mk.injEq, decide_eq_true_eq, Bool.and_eq_true, beq_iff_eq]; grind)
/-- impl.EqualClaims -/
def i_EqualClaims.x (c_i_sameTableaux c_i_EqualRows c_slices_Equal_int_int c_slices_Equal_string_string : Nat) : XCode :=
  (.seq
    (.reg [⟨(some 2), .boxF, [.t 0], none⟩,
      ⟨(some 3), .boxF, [.t 1], none⟩,
      ⟨(some 4), .mv, [.k (.bool false)], none⟩] [2, 3])
    (.seq
      (.reg (flatNs none (nl [.op (some 5) (.fldA 0) [.t 2], .op (some 6) (.ld none) [.t 5], .op (some 7) (.fldA 0) [.t 3], .op (some 8) (.ld none) [.t 7], .op (some 9) (.bin .eql) [.t 6, .t 8], .op (some 10) .mv [.t 9], .sc 10 true (nl [.op (some 11) (.fldA 5) [.t 2], .op (some 12) (.ld none) [.t 11], .op (some 13) (.fldA 5) [.t 3], .op (some 14) (.ld none) [.t 13], .op (some 15) (.bin .eql) [.t 12, .t 14]]) (.t 15) (some 16), .op (some 17) .mv [.t 16], .sc 17 true (nl [.op (some 18) (.fldA 1) [.t 2], .op (some 19) (.ld (some 4)) [.t 18], .op (some 20) (.fldA 1) [.t 3], .op (some 21) (.ld (some 4)) [.t 20], .op (some 22) .call [.k (.fn c_i_sameTableaux []), .t 19, .t 21]]) (.t 22) (some 23), .op (some 24) .mv [.t 23], .sc 24 true (nl [.op (some 25) (.fldA 6) [.t 2], .op (some 26) (.ld none) [.t 25], .op (some 27) (.fldA 6) [.t 3], .op (some 28) (.ld none) [.t 27], .op (some 29) .call [.k (.fn c_i_EqualRows []), .t 26, .t 28]]) (.t 29) (some 30), .op (some 31) .mv [.t 30], .sc 31 true (nl [.op (some 32) (.fldA 7) [.t 2], .op (some 33) (.ld none) [.t 32], .op (some 34) (.fldA 7) [.t 3], .op (some 35) (.ld none) [.t 34], .op (some 36) .call [.k (.fn c_slices_Equal_int_int []), .t 33, .t 35]]) (.t 36) (some 37), .op (some 38) .mv [.t 37], .sc 38 true (nl [.op (some 39) (.fldA 8) [.t 2], .op (some 40) (.ld none) [.t 39], .op (some 41) (.fldA 8) [.t 3], .op (some 42) (.ld none) [.t 41], .op (some 43) .call [.k (.fn c_slices_Equal_int_int []), .t 40, .t 42]]) (.t 43) (some 44), .op (some 45) .mv [.t 44], .sc 45 true (nl [.op (some 46) (.fldA 9) [.t 2], .op (some 47) (.ld none) [.t 46], .op (some 48) (.fldA 9) [.t 3], .op (some 49) (.ld none) [.t 48], .op (some 50) .call [.k (.fn c_slices_Equal_string_string []), .t 47, .t 49]]) (.t 50) (some 51), .op (some 4) .mv [.t 51]])) [4])
      .ret))
def i_EqualClaims.F : Cfg := ⟨fun _ => 0, fun r => match r with | 0 => [2, 3] | 1 => [4] | _ => []⟩
def i_EqualClaims.X (c_i_sameTableaux c_i_EqualRows c_slices_Equal_int_int c_slices_Equal_string_string : Nat) : FX := ⟨52, [.tmp 4], i_EqualClaims.F, i_EqualClaims.x c_i_sameTableaux c_i_EqualRows c_slices_Equal_int_int c_slices_Equal_string_string⟩

set_option maxHeartbeats 2000000 in
theorem i_EqualClaims.ok {P : Program} {k c_i_sameTableaux c_i_EqualRows c_slices_Equal_int_int c_slices_Equal_string_string : Nat} (hk : Has P k (i_EqualClaims.X c_i_sameTableaux c_i_EqualRows c_slices_Equal_int_int c_slices_Equal_string_string)) (h1 : C_eqT Tab P c_i_sameTableaux) (h2 : C_eqS (List Int) P c_i_EqualRows) (h3 : C_eqS Int P c_slices_Equal_int_int) (h4 : C_eqS (List UInt8) P c_slices_Equal_string_string) : C_eqT Clm P k := by
  intro x y hl hm n H
  obtain ⟨x1, x2, x3, x4, x5, x6, x7⟩ := x
  obtain ⟨y1, y2, y3, y4, y5, y6, y7⟩ := y
  obtain ⟨hl1, hl2, hl3, hl4, hl5, hl6, hl7⟩ := hl
  obtain ⟨hm1, hm2, hm3, hm4, hm5, hm6, hm7⟩ := hm
  refine S.ofX hk rfl fun hB fn hr => ?_
  unfold i_EqualClaims.x
  repeat' (first
    | refine S.seq ?_ | refine S.skip ?_ | refine S.block ?_ | refine S.inBlock ?_ | refine S.exit rfl ?_ | refine S.regN ?_ | refine S.reg ?_ | refine S.drw hk.mo (by kernel_rfl) ?_
    | ((first | refine Ns.go ?_ | refine XOs.go ?_ | refine XDs.go ?_ | refine OK.go ?_); (first | refine TTdt ?_ | (apply Ns.sc ⟨rfl, rfl⟩ rfl; intro hg) | (refine OK.tr ?_; refine TTdt ?_)); (try simp only [HC] at hg))
    | with_reducible exact rfl | exact ⟨rfl, rfl, rfl⟩
    | refine RunsF.apf (h1 _ _ hl2 hm2) rfl ?_ | refine RunsF.apd (h1 _ _ hl2 hm2) rfl ?_
    | refine RunsF.apf (h2 _ _ hl4 hm4) rfl ?_ | refine RunsF.apd (h2 _ _ hl4 hm4) rfl ?_
    | refine RunsF.apf (h3 _ _ hl5 hm5) rfl ?_ | refine RunsF.apd (h3 _ _ hl5 hm5) rfl ?_
    | refine RunsF.apf (h3 _ _ hl6 hm6) rfl ?_ | refine RunsF.apd (h3 _ _ hl6 hm6) rfl ?_
    | refine RunsF.apf (h4 _ _ hl7 hm7) rfl ?_ | refine RunsF.apd (h4 _ _ hl7 hm7) rfl ?_
    | (refine S.cond rfl (fun hc => ?_) (fun hc => ?_) <;> try simp only [HC] at hc)
    | (refine Gd.on (fun hg => ?_) (fun hg => ?_) <;> refine TGdt ?_ <;> (try simp only [HC] at hg))
    | refine S.retH hr rfl ?_ | refine S.finH hr rfl ?_ | (refine S.retK hr ?_; refine TRdt ?_)
    | (refine Fin.go ?_; first | (refine Fin.p ?_; first | exact FT | (try refine TTdt ?_; try simp only [LF])) | refine Fin.a0 ?_ | refine Fin.a ?_ | refine Fin.ni ?_ | refine Fin.v ?_ ?_ | refine Fin.r ?_ ?_ | exact Fin.th | (refine Fin.t ?_; try simp only [AV.sl.injEq]))
    | (refine And.go ?_; refine AndI ?_)
    | fail)
  all_goals (try clear hr hk hB)
  all_goals (rw [Bool.eq_iff_iff]; simp only [Prod.mk.injEq, decide_eq_true_eq, Bool.and_eq_true, beq_iff_eq]; grind)
/-- spec.EqualClaims -/
def s_EqualClaims.x (c_s_l33SameTable c_s_EqualRows c_s_l5Same c_s_l20Same : Nat) : XCode :=
  (.seq
    (.reg [⟨(some 2), .boxF, [.t 0], none⟩,
      ⟨(some 3), .boxF, [.t 1], none⟩,
      ⟨(some 4), .mv, [.k (.bool false)], none⟩] [2, 3])
    (.seq
      (.reg (flatNs none (nl [.op (some 5) (.fldA 0) [.t 2], .op (some 6) (.ld none) [.t 5], .op (some 7) (.fldA 0) [.t 3], .op (some 8) (.ld none) [.t 7], .op (some 9) (.bin .eql) [.t 6, .t 8], .op (some 10) .mv [.t 9], .sc 10 true (nl [.op (some 11) (.fldA 1) [.t 2], .op (some 12) (.ld (some 4)) [.t 11], .op (some 13) (.fldA 1) [.t 3], .op (some 14) (.ld (some 4)) [.t 13], .op (some 15) .call [.k (.fn c_s_l33SameTable []), .t 12, .t 14]]) (.t 15) (some 16), .op (some 17) .mv [.t 16], .sc 17 true (nl [.op (some 18) (.fldA 5) [.t 2], .op (some 19) (.ld none) [.t 18], .op (some 20) (.fldA 5) [.t 3], .op (some 21) (.ld none) [.t 20], .op (some 22) (.bin .eql) [.t 19, .t 21]]) (.t 22) (some 23), .op (some 24) .mv [.t 23], .sc 24 true (nl [.op (some 25) (.fldA 6) [.t 2], .op (some 26) (.ld none) [.t 25], .op (some 27) (.fldA 6) [.t 3], .op (some 28) (.ld none) [.t 27], .op (some 29) .call [.k (.fn c_s_EqualRows []), .t 26, .t 28]]) (.t 29) (some 30), .op (some 31) .mv [.t 30], .sc 31 true (nl [.op (some 32) (.fldA 7) [.t 2], .op (some 33) (.ld none) [.t 32], .op (some 34) (.fldA 7) [.t 3], .op (some 35) (.ld none) [.t 34], .op (some 36) .call [.k (.fn c_s_l5Same []), .t 33, .t 35]]) (.t 36) (some 37), .op (some 38) .mv [.t 37], .sc 38 true (nl [.op (some 39) (.fldA 8) [.t 2], .op (some 40) (.ld none) [.t 39], .op (some 41) (.fldA 8) [.t 3], .op (some 42) (.ld none) [.t 41], .op (some 43) .call [.k (.fn c_s_l5Same []), .t 40, .t 42]]) (.t 43) (some 44), .op (some 45) .mv [.t 44], .sc 45 true (nl [.op (some 46) (.fldA 9) [.t 2], .op (some 47) (.ld none) [.t 46], .op (some 48) (.fldA 9) [.t 3], .op (some 49) (.ld none) [.t 48], .op (some 50) .call [.k (.fn c_s_l20Same []), .t 47, .t 49]]) (.t 50) (some 51), .op (some 4) .mv [.t 51]])) [4])
      .ret))
def s_EqualClaims.F : Cfg := ⟨fun _ => 0, fun r => match r with | 0 => [2, 3] | 1 => [4] | _ => []⟩
def s_EqualClaims.X (c_s_l33SameTable c_s_EqualRows c_s_l5Same c_s_l20Same : Nat) : FX := ⟨52, [.tmp 4], s_EqualClaims.F, s_EqualClaims.x c_s_l33SameTable c_s_EqualRows c_s_l5Same c_s_l20Same⟩

set_option maxHeartbeats 2000000 in
theorem s_EqualClaims.ok {P : Program} {k c_s_l33SameTable c_s_EqualRows c_s_l5Same c_s_l20Same : Nat} (hk : Has P k (s_EqualClaims.X c_s_l33SameTable c_s_EqualRows c_s_l5Same c_s_l20Same)) (h1 : C_eqT Tab P c_s_l33SameTable) (h2 : C_eqS (List Int) P c_s_EqualRows) (h3 : C_eqS Int P c_s_l5Same) (h4 : C_eqS (List UInt8) P c_s_l20Same) : C_eqT Clm P k := by
  intro x y hl hm n H
  obtain ⟨x1, x2, x3, x4, x5, x6, x7⟩ := x
  obtain ⟨y1, y2, y3, y4, y5, y6, y7⟩ := y
  obtain ⟨hl1, hl2, hl3, hl4, hl5, hl6, hl7⟩ := hl
  obtain ⟨hm1, hm2, hm3, hm4, hm5, hm6, hm7⟩ := hm
  refine S.ofX hk rfl fun hB fn hr => ?_
  unfold s_EqualClaims.x
  repeat' (first
    | refine S.seq ?_ | refine S.skip ?_ | refine S.block ?_ | refine S.inBlock ?_ | refine S.exit rfl ?_ | refine S.regN ?_ | refine S.reg ?_ | refine S.drw hk.mo (by kernel_rfl) ?_
    | ((first | refine Ns.go ?_ | refine XOs.go ?_ | refine XDs.go ?_ | refine OK.go ?_); (first | refine TTdt ?_ | (apply Ns.sc ⟨rfl, rfl⟩ rfl; intro hg) | (refine OK.tr ?_; refine TTdt ?_)); (try simp only [HC] at hg))
    | with_reducible exact rfl | exact ⟨rfl, rfl, rfl⟩
    | refine RunsF.apf (h1 _ _ hl2 hm2) rfl ?_ | refine RunsF.apd (h1 _ _ hl2 hm2) rfl ?_
    | refine RunsF.apf (h2 _ _ hl4 hm4) rfl ?_ | refine RunsF.apd (h2 _ _ hl4 hm4) rfl ?_
    | refine RunsF.apf (h3 _ _ hl5 hm5) rfl ?_ | refine RunsF.apd (h3 _ _ hl5 hm5) rfl ?_
    | refine RunsF.apf (h3 _ _ hl6 hm6) rfl ?_ | refine RunsF.apd (h3 _ _ hl6 hm6) rfl ?_
    | refine RunsF.apf (h4 _ _ hl7 hm7) rfl ?_ | refine RunsF.apd (h4 _ _ hl7 hm7) rfl ?_
    | (refine S.cond rfl (fun hc => ?_) (fun hc => ?_) <;> try simp only [HC] at hc)
    | (refine Gd.on (fun hg => ?_) (fun hg => ?_) <;> refine TGdt ?_ <;> (try simp only [HC] at hg))
    | refine S.retH hr rfl ?_ | refine S.finH hr rfl ?_ | (refine S.retK hr ?_; refine TRdt ?_)
    | (refine Fin.go ?_; first | (refine Fin.p ?_; first | exact FT | (try refine TTdt ?_; try simp only [LF])) | refine Fin.a0 ?_ | refine Fin.a ?_ | refine Fin.ni ?_ | refine Fin.v ?_ ?_ | refine Fin.r ?_ ?_ | exact Fin.th | (refine Fin.t ?_; try simp only [AV.sl.injEq]))
    | (refine And.go ?_; refine AndI ?_)
    | fail)
  all_goals (try clear hr hk hB)
  all_goals (rw [Bool.eq_iff_iff]; simp only [Prod.mk.injEq, decide_eq_true_eq, Bool.and_eq_true, beq_iff_eq]; grind)
/-- spec.l33SameTable -/
def s_l33SameTable.x (c_s_l20Same c_s_EqualCandidates c_s_l5Same : Nat) : XCode :=
  (.seq
    (.reg [⟨(some 2), .boxF, [.t 0], none⟩,
      ⟨(some 3), .boxF, [.t 1], none⟩,
      ⟨(some 4), .mv, [.k (.bool false)], none⟩] [2, 3])
    (.seq
      (.seq
        (.reg (flatNs none (nl [.op (some 7) (.fldA 0) [.t 2], .op (some 8) (.ld none) [.t 7], .op (some 9) (.fldA 0) [.t 3], .op (some 10) (.ld none) [.t 9], .op (some 11) (.bin .neq) [.t 8, .t 10], .op (some 12) .mv [.t 11], .sc 12 false (nl [.op (some 13) (.fldA 1) [.t 2], .op (some 14) (.ld none) [.t 13], .op (some 15) (.fldA 1) [.t 3], .op (some 16) (.ld none) [.t 15], .op (some 17) .call [.k (.fn c_s_l20Same []), .t 14, .t 16], .op (some 18) (.un .not) [.t 17]]) (.t 18) (some 19), .op (some 20) .mv [.t 19], .sc 20 false (nl [.op (some 21) (.fldA 2) [.t 2], .op (some 22) (.ld none) [.t 21], .op (some 23) .lenL [.t 22], .op (some 24) (.fldA 2) [.t 3], .op (some 25) (.ld none) [.t 24], .op (some 26) .lenL [.t 25], .op (some 27) (.bin .neq) [.t 23, .t 26]]) (.t 27) (some 28), .op (some 29) .mv [.t 28], .sc 29 false (nl [.op (some 30) (.fldA 3) [.t 2], .op (some 31) (.ld none) [.t 30], .op (some 32) .lenL [.t 31], .op (some 33) (.fldA 3) [.t 3], .op (some 34) (.ld none) [.t 33], .op (some 35) .lenL [.t 34], .op (some 36) (.bin .neq) [.t 32, .t 35]]) (.t 36) (some 37)])) [2, 3, 37])
        (.cond (.t 37)
          (.seq
            (.reg [⟨(some 4), .mv, [.k (.bool false)], none⟩] [4])
            .ret)
          .skip))
      (.seq
        (.seq
          (.reg [⟨(some 5), .mv, [.k (.int .i64 0)], none⟩] [2, 3, 5])
          (.block 0
            (.loop
              (.seq
                (.seq
                  (.reg [⟨(some 38), .mv, [.t 5], none⟩,
                    ⟨(some 39), (.fldA 2), [.t 2], none⟩,
                    ⟨(some 40), (.ld none), [.t 39], none⟩,
                    ⟨(some 41), .lenL, [.t 40], none⟩,
                    ⟨(some 42), (.bin .lss), [.t 38, .t 41], none⟩] [2, 3, 5, 42])
                  (.cond (.t 42)
                    .skip
                    (.exit 0)))
                (.seq
                  (.block 1
                    (.seq
                      (.drw [(⟨(some 45), (.fldA 2), [.t 2], none⟩, []),
                        (⟨(some 46), (.ld none), [.t 45], none⟩, [0]),
                        (⟨(some 47), .mv, [.t 5], none⟩, []),
                        (⟨(some 48), (.idxA 1), [.t 46, .t 47], none⟩, [1, 2]),
                        (⟨(some 49), (.ld (some 1)), [.t 48], none⟩, [3]),
                        (⟨(some 50), (.fldA 2), [.t 3], none⟩, []),
                        (⟨(some 51), (.ld none), [.t 50], none⟩, [5]),
                        (⟨(some 52), .mv, [.t 5], none⟩, []),
                        (⟨(some 53), (.idxA 1), [.t 51, .t 52], none⟩, [6, 7]),
                        (⟨(some 54), (.ld (some 1)), [.t 53], none⟩, [8]),
                        (⟨(some 55), .call, [.k (.fn c_s_EqualCandidates []), .t 49, .t 54], none⟩, [4, 9]),
                        (⟨(some 56), (.un .not), [.t 55], none⟩, [10])] [2, 3, 5, 56] [0, 0, 0, 0, 0, 0, 0, 0, 0, 0, 0, 0])
                      (.cond (.t 56)
                        (.seq
                          (.reg [⟨(some 4), .mv, [.k (.bool false)], none⟩] [4])
                          .ret)
                        .skip)))
                  (.reg [⟨(some 43), .mv, [.t 5], none⟩,
                    ⟨(some 44), (.bin .add), [.t 43, .k (.int .i64 1)], none⟩,
                    ⟨(some 5), .mv, [.t 44], none⟩] [2, 3, 5]))))))
        (.seq
          (.seq
            (.reg [⟨(some 6), .mv, [.k (.int .i64 0)], none⟩] [2, 3, 6])
            (.block 2
              (.loop
                (.seq
                  (.seq
                    (.reg [⟨(some 57), .mv, [.t 6], none⟩,
                      ⟨(some 58), (.fldA 3), [.t 2], none⟩,
                      ⟨(some 59), (.ld none), [.t 58], none⟩,
                      ⟨(some 60), .lenL, [.t 59], none⟩,
                      ⟨(some 61), (.bin .lss), [.t 57, .t 60], none⟩] [2, 3, 6, 61])
                    (.cond (.t 61)
                      .skip
                      (.exit 2)))
                  (.seq
                    (.block 3
                      (.seq
                        (.drw [(⟨(some 64), (.fldA 3), [.t 2], none⟩, []),
                          (⟨(some 65), (.ld none), [.t 64], none⟩, [0]),
                          (⟨(some 66), .mv, [.t 6], none⟩, []),
                          (⟨(some 67), (.idxA 1), [.t 65, .t 66], none⟩, [1, 2]),
                          (⟨(some 68), (.ld none), [.t 67], none⟩, [3]),
                          (⟨(some 69), (.fldA 3), [.t 3], none⟩, []),
                          (⟨(some 70), (.ld none), [.t 69], none⟩, [5]),
                          (⟨(some 71), .mv, [.t 6], none⟩, []),
                          (⟨(some 72), (.idxA 1), [.t 70, .t 71], none⟩, [6, 7]),
                          (⟨(some 73), (.ld none), [.t 72], none⟩, [8]),
                          (⟨(some 74), .call, [.k (.fn c_s_l5Same []), .t 68, .t 73], none⟩, [4, 9]),
                          (⟨(some 75), (.un .not), [.t 74], none⟩, [10])] [2, 3, 6, 75] [0, 0, 0, 0, 0, 0, 0, 0, 0, 0, 0, 0])
                        (.cond (.t 75)
                          (.seq
                            (.reg [⟨(some 4), .mv, [.k (.bool false)], none⟩] [4])
                            .ret)
                          .skip)))
                    (.reg [⟨(some 62), .mv, [.t 6], none⟩,
                      ⟨(some 63), (.bin .add), [.t 62, .k (.int .i64 1)], none⟩,
                      ⟨(some 6), .mv, [.t 63], none⟩] [2, 3, 6]))))))
          (.seq
            (.reg [⟨(some 4), .mv, [.k (.bool true)], none⟩] [4])
            .ret)))))
def s_l33SameTable.F : Cfg := ⟨fun _ => 0, fun r => match r with | 0 => [2, 3] | 1 => [2, 3, 37] | 2 => [4] | 3 => [2, 3, 5] | 4 => [2, 3, 5, 42] | 5 => [2, 3, 5] | 6 => [2, 3, 5, 56] | 7 => [4] | 8 => [2, 3, 6] | 9 => [2, 3, 6, 61] | 10 => [2, 3, 6] | 11 => [2, 3, 6, 75] | 12 => [4] | 13 => [4] | 1000006 => [0, 0, 0, 0, 0, 0, 0, 0, 0, 0, 0, 0] | 1000011 => [0, 0, 0, 0, 0, 0, 0, 0, 0, 0, 0, 0] | _ => []⟩
def s_l33SameTable.X (c_s_l20Same c_s_EqualCandidates c_s_l5Same : Nat) : FX := ⟨76, [.tmp 4], s_l33SameTable.F, s_l33SameTable.x c_s_l20Same c_s_EqualCandidates c_s_l5Same⟩

theorem s_l33SameTable.ok {P : Program} {k c_s_l20Same c_s_EqualCandidates c_s_l5Same : Nat} (hk : Has P k (s_l33SameTable.X c_s_l20Same c_s_EqualCandidates c_s_l5Same)) (h1 : C_eqS (List UInt8) P c_s_l20Same) (h2 : C_eqT (List Lnk) P c_s_EqualCandidates) (h3 : C_eqS Int P c_s_l5Same) : C_eqT Tab P k := by
  intro x y hl hm n H
  obtain ⟨x1, x2, x3, x4⟩ := x
  obtain ⟨y1, y2, y3, y4⟩ := y
  obtain ⟨hl1, hl2, hl3, hl4⟩ := hl
  obtain ⟨hm1, hm2, hm3, hm4⟩ := hm
  obtain ⟨hl3a, hl3b⟩ := hl3
  obtain ⟨hm3a, hm3b⟩ := hm3
  obtain ⟨hl4a, hl4b⟩ := hl4
  obtain ⟨hm4a, hm4b⟩ := hm4
  unfold mxs at hl3a hm3a hl4a hm4a
  dsimp only at hl3a hl3b hm3a hm3b hl4a hl4b hm4a hm4b
  refine S.ofX hk rfl fun hB fn hr => ?_
  unfold s_l33SameTable.x
  repeat' (first
    | refine S.seq ?_ | refine S.skip ?_ | refine S.block ?_ | refine S.inBlock ?_ | refine S.exit rfl ?_ | refine S.regN ?_ | refine S.reg ?_ | refine S.drw hk.mo (by kernel_rfl) ?_
    | ((first | refine Ns.go ?_ | refine XOs.go ?_ | refine XDs.go ?_ | refine OK.go ?_); (first | refine TTdt ?_ | (apply Ns.sc ⟨rfl, rfl⟩ rfl; intro hg) | (refine OK.tr ?_; refine TTdt ?_)); (try simp only [HC] at hg))
    | with_reducible exact rfl | exact ⟨rfl, rfl, rfl⟩
    | refine RunsF.apf (h1 _ _ hl2 hm2) rfl ?_ | refine RunsF.apd (h1 _ _ hl2 hm2) rfl ?_
    | (refine S.cond rfl (fun hc => ?_) (fun hc => ?_) <;> try simp only [HC] at hc)
    | (refine Gd.on (fun hg => ?_) (fun hg => ?_) <;> refine TGdt ?_ <;> (try simp only [HC] at hg))
    | refine S.retH hr rfl ?_ | refine S.finH hr rfl ?_ | (refine S.retK hr ?_; refine TRdt ?_)
    | (refine Fin.go ?_; first | (refine Fin.p ?_; first | exact FT | (try refine TTdt ?_; try simp only [LF])) | refine Fin.a0 ?_ | refine Fin.a ?_ | refine Fin.ni ?_ | refine Fin.v ?_ ?_ | refine Fin.r ?_ ?_ | exact Fin.th | (refine Fin.t ?_; try simp only [AV.sl.injEq]))
    | (refine And.go ?_; refine AndI ?_)
    | fail)
  · simp only [Prod.mk.injEq]
    refine (decide_eq_false ?_).symm
    rintro ⟨rfl, rfl, rfl, rfl⟩
    simp at hc
  simp only [and_assoc] at hc
  obtain ⟨e1, e2, e3, e4⟩ := hc
  refine S.loopV (σ := Nat) [2, 3, 5] (fun s => [(5, .int .i64 (s : Int))]) (fun s => s ≤ x3.length ∧ ∀ j, j < s → x3.getD j default = y3.getD j default) (fun s => n) (fun s => H) (fun s => x3.length - s) (0) (⟨by omega, ?_⟩) ?_
  · first | rfl | omega | (simp; done) | (simp; omega) | skip
  rintro i ⟨hi1, hi2⟩ ih
  try dsimp only at hi1 hi2
  repeat' (first
    | refine S.seq ?_ | refine S.skip ?_ | refine S.block ?_ | refine S.inBlock ?_ | refine S.exit rfl ?_ | refine S.regN ?_ | refine S.reg ?_ | refine S.drw hk.mo (by kernel_rfl) ?_
    | ((first | refine Ns.go ?_ | refine XOs.go ?_ | refine XDs.go ?_ | refine OK.go ?_); (first | refine TTdt ?_ | (apply Ns.sc ⟨rfl, rfl⟩ rfl; intro hg) | (refine OK.tr ?_; refine TTdt ?_)); (try simp only [HC] at hg))
    | with_reducible exact rfl | exact ⟨rfl, rfl, rfl⟩
    | refine S.ag (ih (i + 1) ?_ ?_)
    | refine RunsF.apf (h2 _ _ (ok_at hl3b (by omega)) (ok_at hm3b (by omega))) rfl ?_ | refine RunsF.apd (h2 _ _ (ok_at hl3b (by omega)) (ok_at hm3b (by omega))) rfl ?_
    | (refine S.cond rfl (fun hc => ?_) (fun hc => ?_) <;> try simp only [HC] at hc)
    | (refine Gd.on (fun hg => ?_) (fun hg => ?_) <;> refine TGdt ?_ <;> (try simp only [HC] at hg))
    | refine S.retH hr rfl ?_ | refine S.finH hr rfl ?_ | (refine S.retK hr ?_; refine TRdt ?_)
    | (refine Fin.go ?_; first | (refine Fin.p ?_; first | exact FT | (try refine TTdt ?_; try simp only [LF])) | refine Fin.a0 ?_ | refine Fin.a ?_ | refine Fin.ni ?_ | refine Fin.v ?_ ?_ | refine Fin.r ?_ ?_ | exact Fin.th | (refine Fin.t ?_; try simp only [AV.sl.injEq]))
    | (refine And.go ?_; refine AndI ?_)
    | fail)
  all_goals (try clear ih)
  all_goals (try dsimp only)
  all_goals (repeat' apply And.intro)
  all_goals first | omega | (simp only [ZL]; omega) | skip
  all_goals first | (exact (decide_eq_false fun e => hc (by cases e; rfl)).symm) | (exact decN hi2 hc) | skip
  have e3' : x3 = y3 := of_decide_eq_true (decA (by omega) (fun j hj => hi2 j (by omega)))
  refine S.loopV (σ := Nat) [2, 3, 6] (fun s => [(6, .int .i64 (s : Int))]) (fun s => s ≤ x4.length ∧ ∀ j, j < s → x4.getD j default = y4.getD j default) (fun s => n) (fun s => H) (fun s => x4.length - s) (0) (⟨by omega, ?_⟩) ?_
  · first | rfl | omega | (simp; done) | (simp; omega) | skip
  rintro i2 ⟨hi1, hi2⟩ ih
  try dsimp only at hi1 hi2
  repeat' (first
    | refine S.seq ?_ | refine S.skip ?_ | refine S.block ?_ | refine S.inBlock ?_ | refine S.exit rfl ?_ | refine S.regN ?_ | refine S.reg ?_ | refine S.drw hk.mo (by kernel_rfl) ?_
    | ((first | refine Ns.go ?_ | refine XOs.go ?_ | refine XDs.go ?_ | refine OK.go ?_); (first | refine TTdt ?_ | (apply Ns.sc ⟨rfl, rfl⟩ rfl; intro hg) | (refine OK.tr ?_; refine TTdt ?_)); (try simp only [HC] at hg))
    | with_reducible exact rfl | exact ⟨rfl, rfl, rfl⟩
    | refine S.ag (ih (i2 + 1) ?_ ?_)
    | refine RunsF.apf (h3 _ _ (ok_at hl4b (by omega)) (ok_at hm4b (by omega))) rfl ?_ | refine RunsF.apd (h3 _ _ (ok_at hl4b (by omega)) (ok_at hm4b (by omega))) rfl ?_
    | (refine S.cond rfl (fun hc => ?_) (fun hc => ?_) <;> try simp only [HC] at hc)
    | (refine Gd.on (fun hg => ?_) (fun hg => ?_) <;> refine TGdt ?_ <;> (try simp only [HC] at hg))
    | refine S.retH hr rfl ?_ | refine S.finH hr rfl ?_ | (refine S.retK hr ?_; refine TRdt ?_)
    | (refine Fin.go ?_; first | (refine Fin.p ?_; first | exact FT | (try refine TTdt ?_; try simp only [LF])) | refine Fin.a0 ?_ | refine Fin.a ?_ | refine Fin.ni ?_ | refine Fin.v ?_ ?_ | refine Fin.r ?_ ?_ | exact Fin.th | (refine Fin.t ?_; try simp only [AV.sl.injEq]))
    | (refine And.go ?_; refine AndI ?_)
    | fail)
  all_goals (try clear ih)
  all_goals (try dsimp only)
  all_goals (repeat' apply And.intro)
  all_goals first | omega | (simp only [ZL]; omega) | skip
  all_goals first | (exact (decide_eq_false fun e => hc (by cases e; rfl)).symm) | (exact decN hi2 hc) | skip
  have e4' : x4 = y4 := of_decide_eq_true (decA (by omega) (fun j hj => hi2 j (by omega)))
  subst e1 e2 e3' e4'
  simp
def C_law2 (α β : Type) [Dat α] [Dat β] [Siz α] [Siz β] (P : Program) (k : Nat) : Prop := ∀ (x : α) (y : β), ok mxi x → ok mxi y → RunsF P k [.agg (Dat.row x), .agg (Dat.row y)] (.bool true)
/-- laws.FnExactEqualClaims -/
def w_FnExactEqualClaims.x (c_w_szClaim c_w_toClaim c_s_EqualClaims c_i_EqualClaims c_w_eqClaim : Nat) : XCode :=
  (.seq
    (.reg [⟨(some 2), .boxF, [.t 0], none⟩,
      ⟨(some 3), .boxF, [.t 1], none⟩,
      ⟨(some 4), .mv, [.k (.bool false)], none⟩] [2, 3])
    (.seq
      (.reg [⟨(some 5), .mv, [.k (.int .i64 1048576)], none⟩] [2, 3, 5])
      (.seq
        (.reg [⟨(some 10), (.ld (some 10)), [.t 2], none⟩,
          ⟨(some 11), .mv, [.t 5], none⟩,
          ⟨(some 12), .call, [.k (.fn c_w_szClaim []), .t 10, .t 11], none⟩,
          ⟨(some 5), .mv, [.t 12], none⟩] [2, 3, 5])
        (.seq
          (.seq
            (.reg [⟨(some 13), .mv, [.t 5], none⟩,
              ⟨(some 14), (.bin .lss), [.t 13, .k (.int .i64 0)], none⟩] [2, 3, 5, 14])
            (.cond (.t 14)
              (.seq
                (.reg [⟨(some 4), .mv, [.k (.bool true)], none⟩] [4])
                .ret)
              .skip))
          (.seq
            (.reg [⟨(some 15), (.ld (some 10)), [.t 3], none⟩,
              ⟨(some 16), .mv, [.t 5], none⟩,
              ⟨(some 17), .call, [.k (.fn c_w_szClaim []), .t 15, .t 16], none⟩,
              ⟨(some 5), .mv, [.t 17], none⟩] [2, 3, 5])
            (.seq
              (.seq
                (.reg [⟨(some 18), .mv, [.t 5], none⟩,
                  ⟨(some 19), (.bin .lss), [.t 18, .k (.int .i64 0)], none⟩] [2, 3, 19])
                (.cond (.t 19)
                  (.seq
                    (.reg [⟨(some 4), .mv, [.k (.bool true)], none⟩] [4])
                    .ret)
                  .skip))
              (.seq
                (.drw [(⟨(some 20), (.ld (some 10)), [.t 2], none⟩, []),
                  (⟨(some 21), .call, [.k (.fn c_w_toClaim []), .t 20], none⟩, [0]),
                  (⟨(some 22), (.ld (some 10)), [.t 3], none⟩, []),
                  (⟨(some 23), .call, [.k (.fn c_w_toClaim []), .t 22], none⟩, [2, 1]),
                  (⟨(some 24), .call, [.k (.fn c_s_EqualClaims []), .t 21, .t 23], none⟩, [1, 3, 3]),
                  (⟨(some 6), .mv, [.t 24], none⟩, [4, 4, 0, 1, 2, 3, 4])] [2, 3, 6] [0, 0, 0, 0, 0, 0])
                (.seq
                  (.reg [⟨(some 25), (.ld (some 10)), [.t 2], none⟩,
                    ⟨(some 26), .call, [.k (.fn c_w_toClaim []), .t 25], none⟩,
                    ⟨(some 7), (.alloc [.int .i64 0, .str [], .nilsl, .nilsl, .nilsl, .int .i64 0, .nilsl, .nilsl, .nilsl, .nilsl]), [], none⟩,
                    ⟨none, (.st (some 10)), [.t 7, .t 26], none⟩] [2, 3, 6, 7])
                  (.seq
                    (.reg [⟨(some 27), (.ld (some 10)), [.t 3], none⟩,
                      ⟨(some 28), .call, [.k (.fn c_w_toClaim []), .t 27], none⟩,
                      ⟨(some 8), (.alloc [.int .i64 0, .str [], .nilsl, .nilsl, .nilsl, .int .i64 0, .nilsl, .nilsl, .nilsl, .nilsl]), [], none⟩,
                      ⟨none, (.st (some 10)), [.t 8, .t 28], none⟩] [2, 3, 6, 7, 8])
                    (.seq
                      (.reg [⟨(some 29), (.ld (some 10)), [.t 7], none⟩,
                        ⟨(some 30), (.ld (some 10)), [.t 8], none⟩,
                        ⟨(some 31), .call, [.k (.fn c_i_EqualClaims []), .t 29, .t 30], none⟩,
                        ⟨(some 9), .mv, [.t 31], none⟩] [2, 3, 6, 7, 8, 9])
                      (.seq
                        (.seq
                          (.reg [⟨(some 32), .mv, [.t 9], none⟩,
                            ⟨(some 33), .mv, [.t 6], none⟩,
                            ⟨(some 34), (.binB true), [.t 32, .t 33], none⟩] [2, 3, 7, 8, 34])
                          (.cond (.t 34)
                            (.seq
                              (.reg [⟨(some 4), .mv, [.k (.bool false)], none⟩] [4])
                              .ret)
                            .skip))
                        (.seq
                          (.seq
                            (.drw [(⟨(some 35), (.ld (some 10)), [.t 7], none⟩, []),
                              (⟨(some 36), (.ld (some 10)), [.t 2], none⟩, []),
                              (⟨(some 37), .call, [.k (.fn c_w_toClaim []), .t 36], none⟩, [1]),
                              (⟨(some 38), .call, [.k (.fn c_w_eqClaim []), .t 35, .t 37], none⟩, [0, 2, 2]),
                              (⟨(some 39), (.un .not), [.t 38], none⟩, [3])] [3, 8, 39] [1, 0, 0, 0, 0])
                            (.cond (.t 39)
                              (.seq
                                (.reg [⟨(some 4), .mv, [.k (.bool false)], none⟩] [4])
                                .ret)
                              .skip))
                          (.seq
                            (.seq
                              (.drw [(⟨(some 40), (.ld (some 10)), [.t 8], none⟩, []),
                                (⟨(some 41), (.ld (some 10)), [.t 3], none⟩, []),
                                (⟨(some 42), .call, [.k (.fn c_w_toClaim []), .t 41], none⟩, [1]),
                                (⟨(some 43), .call, [.k (.fn c_w_eqClaim []), .t 40, .t 42], none⟩, [0, 2, 2]),
                                (⟨(some 44), (.un .not), [.t 43], none⟩, [3])] [44] [1, 0, 0, 0, 0])
                              (.cond (.t 44)
                                (.seq
                                  (.reg [⟨(some 4), .mv, [.k (.bool false)], none⟩] [4])
                                  .ret)
                                .skip))
                            (.seq
                              (.reg [⟨(some 4), .mv, [.k (.bool true)], none⟩] [4])
                              .ret))))))))))))))
def w_FnExactEqualClaims.F : Cfg := ⟨fun _ => 0, fun r => match r with | 0 => [2, 3] | 1 => [2, 3, 5] | 2 => [2, 3, 5] | 3 => [2, 3, 5, 14] | 4 => [4] | 5 => [2, 3, 5] | 6 => [2, 3, 19] | 7 => [4] | 8 => [2, 3, 6] | 9 => [2, 3, 6, 7] | 10 => [2, 3, 6, 7, 8] | 11 => [2, 3, 6, 7, 8, 9] | 12 => [2, 3, 7, 8, 34] | 13 => [4] | 14 => [3, 8, 39] | 15 => [4] | 16 => [44] | 17 => [4] | 18 => [4] | 1000008 => [0, 0, 0, 0, 0, 0] | 1000014 => [1, 0, 0, 0, 0] | 1000016 => [1, 0, 0, 0, 0] | _ => []⟩
def w_FnExactEqualClaims.X (c_w_szClaim c_w_toClaim c_s_EqualClaims c_i_EqualClaims c_w_eqClaim : Nat) : FX := ⟨45, [.tmp 4], w_FnExactEqualClaims.F, w_FnExactEqualClaims.x c_w_szClaim c_w_toClaim c_s_EqualClaims c_i_EqualClaims c_w_eqClaim⟩

set_option maxHeartbeats 2000000 in
theorem w_FnExactEqualClaims.ok {P : Program} {k c_w_szClaim c_w_toClaim c_s_EqualClaims c_i_EqualClaims c_w_eqClaim : Nat} (hk : Has P k (w_FnExactEqualClaims.X c_w_szClaim c_w_toClaim c_s_EqualClaims c_i_EqualClaims c_w_eqClaim)) (h1 : C_szT Clm P c_w_szClaim) (h2 : C_toT Clm P c_w_toClaim) (h3 : C_eqT Clm P c_s_EqualClaims) (h4 : C_eqT Clm P c_i_EqualClaims) (h5 : C_eqT Clm P c_w_eqClaim) : C_law2 Clm Clm P k := by
  intro x y hx hy n H
  have k1 := h1 x 1048576 hx (by omega) (by omega)
  have u1 := up x 1048576 (by omega)
  have l1 := lo x 1048576 (by omega)
  have k2 := h1 y (sz x 1048576) hy l1 u1
  have o1 := fun h => mono _ mxs x (by unfold mxs; omega) (okk _ x 1048576 hx h (by omega))
  have o2 := fun h => mono _ mxs y (by unfold mxs; omega) (okk _ y (sz x 1048576) hy h l1)
  refine S.ofX hk rfl fun hB fn hr => ?_
  unfold w_FnExactEqualClaims.x
  repeat' (first
    | refine S.seq ?_ | refine S.skip ?_ | refine S.block ?_ | refine S.inBlock ?_ | refine S.exit rfl ?_ | refine S.regN ?_ | refine S.reg ?_ | refine S.drw hk.mo (by kernel_rfl) ?_
    | ((first | refine Ns.go ?_ | refine XOs.go ?_ | refine XDs.go ?_ | refine OK.go ?_); (first | refine TTdt ?_ | (apply Ns.sc ⟨rfl, rfl⟩ rfl; intro hg) | (refine OK.tr ?_; refine TTdt ?_)); (try simp only [HC] at hg))
    | with_reducible exact rfl | exact ⟨rfl, rfl, rfl⟩
    | refine RunsF.apf (k1) rfl ?_ | refine RunsF.apd (k1) rfl ?_
    | refine RunsF.apf (k2) rfl ?_ | refine RunsF.apd (k2) rfl ?_
    | refine RunsF.apf (h2 _ (o1 (by omega))) rfl ?_ | refine RunsF.apd (h2 _ (o1 (by omega))) rfl ?_
    | refine RunsF.apf (h2 _ (o2 (by omega))) rfl ?_ | refine RunsF.apd (h2 _ (o2 (by omega))) rfl ?_
    | refine RunsF.apf (h3 _ _ (o1 (by omega)) (o2 (by omega))) rfl ?_ | refine RunsF.apd (h3 _ _ (o1 (by omega)) (o2 (by omega))) rfl ?_
    | refine RunsF.apf (h4 _ _ (o1 (by omega)) (o2 (by omega))) rfl ?_ | refine RunsF.apd (h4 _ _ (o1 (by omega)) (o2 (by omega))) rfl ?_
    | refine RunsF.apf (h5 _ _ (o1 (by omega)) (o1 (by omega))) rfl ?_ | refine RunsF.apd (h5 _ _ (o1 (by omega)) (o1 (by omega))) rfl ?_
    | refine RunsF.apf (h5 _ _ (o2 (by omega)) (o2 (by omega))) rfl ?_ | refine RunsF.apd (h5 _ _ (o2 (by omega)) (o2 (by omega))) rfl ?_
    | (refine S.cond rfl (fun hc => ?_) (fun hc => ?_) <;> try simp only [HC] at hc)
    | (refine Gd.on (fun hg => ?_) (fun hg => ?_) <;> refine TGdt ?_ <;> (try simp only [HC] at hg))
    | refine S.retH hr rfl ?_ | refine S.finH hr rfl ?_ | (refine S.retK hr ?_; refine TRdt ?_)
    | (refine Fin.go ?_; first | (refine Fin.p ?_; first | exact FT | (try refine TTdt ?_; try simp only [LF])) | refine Fin.a0 ?_ | refine Fin.a ?_ | refine Fin.ni ?_ | refine Fin.v ?_ ?_ | refine Fin.r ?_ ?_ | exact Fin.th | (refine Fin.t ?_; try simp only [AV.sl.injEq]))
    | (refine And.go ?_; refine AndI ?_)
    | fail)
  all_goals (try clear hr hk hB)
  all_goals exact absurd trivial hc
end Go.N01
