/- Marks in a slice of strings, and what holds them. Over any program. -/
import Derived.Test.YtobhjgipeepmoaaL03
import Derived.Test.YtobhjgipeepmoaaAbTac
namespace Go.Lib04
open Go.Ab Go.Lib01 Go.Lib02 Go.Lib03
set_option linter.unusedVariables false
set_option linter.unusedSimpArgs false
set_option maxRecDepth 2000

def dg (k : Nat) : UInt8 := UInt8.ofNat (48 + k % 10)
def digs (k : Nat) (o : List UInt8) : List UInt8 := if h : k = 0 then o else digs (k / 10) (dg k :: o)
def mtxt (k : Nat) : List UInt8 := if k = 0 then [109, 48] else 109 :: digs k []
def C_markText (P : Program) (k : Nat) : Prop := ∀ i : Nat, i ≤ 1000000000000 → RunsF P k [.int .i64 (i : Int)] (.str (mtxt i))
/-- laws.markText -/
def w_markText.x : XCode :=
  (.seq
    (.reg [⟨(some 2), .mv, [.k (.str [])], none⟩] [0])
    (.seq
      (.seq
        (.reg [⟨(some 4), .mv, [.t 0], none⟩,
          ⟨(some 5), (.bin .leq), [.t 4, .k (.int .i64 0)], none⟩] [0, 5])
        (.cond (.t 5)
          (.seq
            (.reg [⟨(some 2), .mv, [.k (.str [109, 48])], none⟩] [2])
            .ret)
          .skip))
      (.seq
        (.reg [⟨(some 3), .mv, [.k (.str [])], none⟩] [0, 3])
        (.seq
          (.block 0
            (.loop
              (.seq
                (.seq
                  (.reg [⟨(some 6), .mv, [.t 0], none⟩,
                    ⟨(some 7), (.bin .gtr), [.t 6, .k (.int .i64 0)], none⟩] [0, 3, 7])
                  (.cond (.t 7)
                    .skip
                    (.exit 0)))
                (.block 1
                  (.seq
                    (.reg [⟨(some 8), .mv, [.t 0], none⟩,
                      ⟨(some 9), (.bin .rem), [.t 8, .k (.int .i64 10)], none⟩,
                      ⟨(some 10), (.bin .add), [.k (.int .i64 48), .t 9], none⟩,
                      ⟨(some 11), (.cvI .u8), [.t 10], none⟩,
                      ⟨(some 12), (.bsl 0 1), [.t 11], none⟩,
                      ⟨(some 13), .cvBS, [.t 12], none⟩,
                      ⟨(some 14), .mv, [.t 3], none⟩,
                      ⟨(some 15), (.bin .add), [.t 13, .t 14], none⟩,
                      ⟨(some 3), .mv, [.t 15], none⟩] [0, 3])
                    (.reg [⟨(some 16), .mv, [.t 0], none⟩,
                      ⟨(some 17), (.bin .quo), [.t 16, .k (.int .i64 10)], none⟩,
                      ⟨(some 0), .mv, [.t 17], none⟩] [0, 3]))))))
          (.seq
            (.reg [⟨(some 18), .mv, [.t 3], none⟩,
              ⟨(some 19), (.bin .add), [.k (.str [109]), .t 18], none⟩,
              ⟨(some 2), .mv, [.t 19], none⟩] [2])
            .ret)))))
def w_markText.F : Cfg := ⟨fun _ => 0, fun r => match r with | 0 => [0] | 1 => [0, 5] | 2 => [2] | 3 => [0, 3] | 4 => [0, 3, 7] | 5 => [0, 3] | 6 => [0, 3] | 7 => [2] | _ => []⟩
def w_markText.X : FX := ⟨20, [.tmp 2], w_markText.F, w_markText.x⟩

theorem w_markText.ok {P : Program} {k : Nat} (hk : Has P k (w_markText.X)) : C_markText P k := by
  intro i hi n H
  refine S.ofX hk rfl fun hB fn hr => ?_
  unfold w_markText.x
  repeat' (first
    | ((with_reducible refine S.go ?_); first | refine S.seq ?_ | refine S.skip ?_ | refine S.block ?_ | refine S.inBlock ?_ | refine S.exit rfl ?_ | refine S.regN ?_ | refine S.reg ?_ | refine S.drw hk.mo (by kernel_rfl) ?_ | (refine S.cond rfl (fun hc => ?_) (fun hc => ?_) <;> try simp only [HC] at hc) | refine S.retH hr rfl ?_ | refine S.finH hr rfl ?_ | (refine S.retK hr ?_; refine TR ?_) | fail)
    | ((first | with_reducible refine Ns.go ?_ | with_reducible refine XOs.go ?_ | with_reducible refine XDs.go ?_ | with_reducible refine OK.go ?_); (first | refine TT ?_ | (apply Ns.sc ⟨rfl, rfl⟩ rfl; intro hg) | (refine OK.tr ?_; refine TT ?_)); (try simp only [HC] at hg))
    | with_reducible exact rfl | exact ⟨rfl, rfl, rfl⟩
    | ((with_reducible refine Gd.go ?_); refine Gd.on (fun hg => ?_) (fun hg => ?_) <;> refine TG ?_ <;> (try simp only [HC] at hg))
    | ((with_reducible refine Fin.go ?_); first | (refine Fin.p ?_; first | exact FT | (try refine TT ?_; try simp only [LF])) | refine Fin.a0 ?_ | refine Fin.a ?_ | refine Fin.ni ?_ | refine Fin.v ?_ ?_ | refine Fin.r ?_ ?_ | exact Fin.th | (refine Fin.t ?_; try simp only [AV.sl.injEq]))
    | (refine And.go ?_; refine AndI ?_)
    | fail)
  · skip
    all_goals (try clear ih); (try clear ih2); (try clear hr hk hB); (try dsimp only)
    all_goals (try simp only [mtxt] at *)
    all_goals first | rfl | omega | (simp_all; done) | (simp_all; omega) | (rw [Bool.eq_iff_iff]; simp_all; done) | (rw [Bool.eq_iff_iff]; simp_all; omega) | grind | (rw [Bool.eq_iff_iff]; grind)
  refine S.loop (σ := Nat × List UInt8) (fun σ => σ.1 ≤ 1000000000000 ∧ σ.1 + σ.2.length ≤ i ∧ digs σ.1 σ.2 = digs i []) (fun σ => [(0, .int .i64 (σ.1 : Int)), (3, .str σ.2)]) (fun _ => n) (fun _ => H) (fun σ => σ.1) (i, []) rfl ⟨hi, by simp, rfl⟩ (Nat.le_refl _) (List.Sublist.refl _) ?_
  rintro ⟨a, o⟩ ⟨h1, h2, h3⟩ ih
  dsimp only at h1 h2 h3
  repeat' (first
    | ((with_reducible refine S.go ?_); first | refine S.seq ?_ | refine S.skip ?_ | refine S.block ?_ | refine S.inBlock ?_ | refine S.exit rfl ?_ | refine S.regN ?_ | refine S.reg ?_ | refine S.drw hk.mo (by kernel_rfl) ?_ | (refine S.cond rfl (fun hc => ?_) (fun hc => ?_) <;> try simp only [HC] at hc) | refine S.retH hr rfl ?_ | refine S.finH hr rfl ?_ | (refine S.retK hr ?_; refine TR ?_) | fail)
    | ((first | with_reducible refine Ns.go ?_ | with_reducible refine XOs.go ?_ | with_reducible refine XDs.go ?_ | with_reducible refine OK.go ?_); (first | refine TT ?_ | (apply Ns.sc ⟨rfl, rfl⟩ rfl; intro hg) | (refine OK.tr ?_; refine TT ?_)); (try simp only [HC] at hg))
    | with_reducible exact rfl | exact ⟨rfl, rfl, rfl⟩
    | (refine S.again (ih (a / 10, dg a :: o) ⟨?_, ?_, ?_⟩ ?_) rfl (Nat.le_refl _) (List.Sublist.refl _))
    | ((with_reducible refine Gd.go ?_); refine Gd.on (fun hg => ?_) (fun hg => ?_) <;> refine TG ?_ <;> (try simp only [HC] at hg))
    | ((with_reducible refine Fin.go ?_); first | (refine Fin.p ?_; first | exact FT | (try refine TT ?_; try simp only [LF])) | refine Fin.a0 ?_ | refine Fin.a ?_ | refine Fin.ni ?_ | refine Fin.v ?_ ?_ | refine Fin.r ?_ ?_ | exact Fin.th | (refine Fin.t ?_; try simp only [AV.sl.injEq]))
    | (refine And.go ?_; refine AndI ?_)
    | fail)
  all_goals (try clear ih); (try dsimp only)
  all_goals (try (have ha0 : a = 0 := (by omega); subst ha0; rw [digs, dif_pos rfl] at h3))
  all_goals first | omega | (simp only [List.length_cons]; omega) | (rw [← h3]; conv => rhs; rw [digs, dif_neg (by omega)]) | (rw [h3, mtxt, if_neg (by omega)]; try rfl)

def marks (k len : Nat) : List (List UInt8) := (List.range len).map fun j => mtxt (k + j)
theorem marks_len (k len : Nat) : (marks k len).length = len := by simp [marks]
theorem marks_getD (k len i : Nat) (h : i < len) : (marks k len).getD i default = mtxt (k + i) := by simp [marks, List.getD_eq_getElem?_getD, h]
theorem marks_succ (k i : Nat) : marks k (i + 1) = marks k i ++ [mtxt (k + i)] := by simp [marks, List.range_succ]

def C_markStringS (P : Program) (f : Nat) : Prop := ∀ (k len n : Nat) (H : Heap) (id : Nat) (cells : List AV), len ≤ 4294967296 → k ≤ 4294967296 → hget H id = some (.own cells) → cells.length = len →
  Runs P f [.ref id 1 0 len, .int .i64 (k : Int)] n H (fun v n' H' => v = .int .i64 ((k + len : Nat) : Int) ∧ n' = n ∧ H' = hset H id (.own (strs (marks k len)).flatten))
/-- laws.markStringS -/
def w_markStringS.x (c_w_markText : Nat) : XCode :=
  (.seq
    (.reg [⟨(some 4), .mv, [.k (.int .i64 0)], none⟩] [0, 1])
    (.seq
      (.seq
        (.reg [⟨(some 5), .mv, [.k (.int .i64 0)], none⟩] [0, 1, 5])
        (.block 0
          (.loop
            (.seq
              (.seq
                (.reg [⟨(some 6), .mv, [.t 5], none⟩,
                  ⟨(some 7), .mv, [.t 0], none⟩,
                  ⟨(some 8), .lenL, [.t 7], none⟩,
                  ⟨(some 9), (.bin .lss), [.t 6, .t 8], none⟩] [0, 1, 5, 9])
                (.cond (.t 9)
                  .skip
                  (.exit 0)))
              (.seq
                (.block 1
                  (.seq
                    (.reg [⟨(some 12), .mv, [.t 0], none⟩,
                      ⟨(some 13), .mv, [.t 5], none⟩,
                      ⟨(some 14), .mv, [.t 1], none⟩,
                      ⟨(some 15), .call, [.k (.fn c_w_markText []), .t 14], none⟩,
                      ⟨(some 16), (.idxA 1), [.t 12, .t 13], none⟩,
                      ⟨none, (.st none), [.t 16, .t 15], none⟩] [0, 1, 5])
                    (.reg [⟨(some 17), .mv, [.t 1], none⟩,
                      ⟨(some 18), (.bin .add), [.t 17, .k (.int .i64 1)], none⟩,
                      ⟨(some 1), .mv, [.t 18], none⟩] [0, 1, 5])))
                (.reg [⟨(some 10), .mv, [.t 5], none⟩,
                  ⟨(some 11), (.bin .add), [.t 10, .k (.int .i64 1)], none⟩,
                  ⟨(some 5), .mv, [.t 11], none⟩] [0, 1, 5]))))))
      (.seq
        (.reg [⟨(some 19), .mv, [.t 1], none⟩,
          ⟨(some 4), .mv, [.t 19], none⟩] [4])
        .ret)))
def w_markStringS.F : Cfg := ⟨fun _ => 0, fun r => match r with | 0 => [0, 1] | 1 => [0, 1, 5] | 2 => [0, 1, 5, 9] | 3 => [0, 1, 5] | 4 => [0, 1, 5] | 5 => [0, 1, 5] | 6 => [4] | _ => []⟩
def w_markStringS.X (c_w_markText : Nat) : FX := ⟨20, [.tmp 4], w_markStringS.F, w_markStringS.x c_w_markText⟩

theorem w_markStringS.ok {P : Program} {k c_w_markText : Nat} (hk : Has P k (w_markStringS.X c_w_markText)) (h1 : C_markText P c_w_markText) : C_markStringS P k := by
  intro k0 len n H id cells0 hlen hk0 hm hc0
  have hgs := hget_hset hm
  refine S.ofX hk rfl fun hB fn hr => ?_
  unfold w_markStringS.x
  repeat' (first
    | ((with_reducible refine S.go ?_); first | refine S.seq ?_ | refine S.skip ?_ | refine S.block ?_ | refine S.inBlock ?_ | refine S.exit rfl ?_ | refine S.regN ?_ | refine S.reg ?_ | refine S.drw hk.mo (by kernel_rfl) ?_ | (refine S.cond rfl (fun hc => ?_) (fun hc => ?_) <;> try simp only [HC] at hc) | refine S.retH hr rfl ?_ | refine S.finH hr rfl ?_ | (refine S.retK hr ?_; refine TR ?_) | fail)
    | ((first | with_reducible refine Ns.go ?_ | with_reducible refine XOs.go ?_ | with_reducible refine XDs.go ?_ | with_reducible refine OK.go ?_); (first | refine TT ?_ | (apply Ns.sc ⟨rfl, rfl⟩ rfl; intro hg) | (refine OK.tr ?_; refine TT ?_)); (try simp only [HC] at hg))
    | with_reducible exact rfl | exact ⟨rfl, rfl, rfl⟩
    | ((with_reducible refine Gd.go ?_); refine Gd.on (fun hg => ?_) (fun hg => ?_) <;> refine TG ?_ <;> (try simp only [HC] at hg))
    | ((with_reducible refine Fin.go ?_); first | (refine Fin.p ?_; first | exact FT | (try refine TT ?_; try simp only [LF])) | refine Fin.a0 ?_ | refine Fin.a ?_ | refine Fin.ni ?_ | refine Fin.v ?_ ?_ | refine Fin.r ?_ ?_ | exact Fin.th | (refine Fin.t ?_; try simp only [AV.sl.injEq]))
    | (refine And.go ?_; refine AndI ?_)
    | fail)
  refine S.loop (σ := Nat × List AV) (fun σ => σ.1 ≤ len ∧ σ.2.length = len ∧ σ.2.take (σ.1 * 1) = (strs (marks k0 σ.1)).flatten) (fun σ => [(0, .ref id 1 0 len), (1, .int .i64 ((k0 + σ.1 : Nat) : Int)), (5, .int .i64 (σ.1 : Int))]) (fun _ => n) (fun σ => hset H id (.own σ.2)) (fun σ => len - σ.1) (0, cells0) rfl ⟨by omega, hc0, by simp [enc, marks]⟩ (Nat.le_refl _) (by rw [hset_self hm]; exact List.Sublist.refl _) ?_
  rintro ⟨i, cells⟩ ⟨hi1, hi2, hi3⟩ ih
  dsimp only at hi1 hi2 hi3
  repeat' (first
    | ((with_reducible refine S.go ?_); first | refine S.seq ?_ | refine S.skip ?_ | refine S.block ?_ | refine S.inBlock ?_ | refine S.exit rfl ?_ | refine S.regN ?_ | refine S.reg ?_ | refine S.drw hk.mo (by kernel_rfl) ?_ | (refine S.cond rfl (fun hc => ?_) (fun hc => ?_) <;> try simp only [HC] at hc) | refine S.retH hr rfl ?_ | refine S.finH hr rfl ?_ | (refine S.retK hr ?_; refine TR ?_) | fail)
    | ((first | with_reducible refine Ns.go ?_ | with_reducible refine XOs.go ?_ | with_reducible refine XDs.go ?_ | with_reducible refine OK.go ?_); (first | refine TT ?_ | (apply Ns.sc ⟨rfl, rfl⟩ rfl; intro hg) | (refine OK.tr ?_; refine TT ?_)); (try simp only [HC] at hg))
    | with_reducible exact rfl | exact ⟨rfl, rfl, rfl⟩
    | ((with_reducible refine RunsT.go ?_); first | refine RunsF.apf (h1 _ (by omega)) rfl ?_ | fail)
    | ((with_reducible refine RunsD.go ?_); first | refine RunsF.apd (h1 _ (by omega)) rfl ?_ | fail)
    | (rw [hgs]; refine TT ?_; try rw [hset_hset])
    | (refine S.again (ih (i + 1, setCells cells (0 + i * 1) [AV.str (mtxt (k0 + i))]) ⟨?_, ?_, ?_⟩ ?_) rfl (Nat.le_refl _) (List.Sublist.refl _))
    | ((with_reducible refine Gd.go ?_); refine Gd.on (fun hg => ?_) (fun hg => ?_) <;> refine TG ?_ <;> (try simp only [HC] at hg))
    | ((with_reducible refine Fin.go ?_); first | (refine Fin.p ?_; first | exact FT | (try refine TT ?_; try simp only [LF])) | refine Fin.a0 ?_ | refine Fin.a ?_ | refine Fin.ni ?_ | refine Fin.v ?_ ?_ | refine Fin.r ?_ ?_ | exact Fin.th | (refine Fin.t ?_; try simp only [AV.sl.injEq]))
    | (refine And.go ?_; refine AndI ?_)
    | fail)
  all_goals (try clear ih); (try dsimp only)
  all_goals first | omega | (rw [setc_len _ _ _ (by simp only [List.length_cons, List.length_nil]; omega)]; exact hi2) | (rw [setc_next hi3 rfl (by simp only [List.length_cons, List.length_nil]; omega), strs_app1, marks_succ]) | skip
  have he : i = len := by omega
  subst he
  refine Fin.same ⟨rfl, rfl, ?_⟩
  rw [Nat.mul_one, ← hi2, List.take_length] at hi3
  rw [hi3, hi2]

def C_markStringS0 (P : Program) (f : Nat) : Prop := ∀ (k : Int), RunsF P f [.sl (strs []), .int .i64 k] (.int .i64 k)
theorem w_markStringS.ok0 {P : Program} {k c_w_markText : Nat} (hk : Has P k (w_markStringS.X c_w_markText)) : C_markStringS0 P k := by
  intro k0 n H
  refine S.ofX hk rfl fun hB fn hr => ?_
  unfold w_markStringS.x
  repeat' (first
    | ((with_reducible refine S.go ?_); first | refine S.seq ?_ | refine S.skip ?_ | refine S.block ?_ | refine S.inBlock ?_ | refine S.exit rfl ?_ | refine S.regN ?_ | refine S.reg ?_ | refine S.drw hk.mo (by kernel_rfl) ?_ | (refine S.cond rfl (fun hc => ?_) (fun hc => ?_) <;> try simp only [HC] at hc) | refine S.retH hr rfl ?_ | refine S.finH hr rfl ?_ | (refine S.retK hr ?_; refine TR ?_) | fail)
    | ((first | with_reducible refine Ns.go ?_ | with_reducible refine XOs.go ?_ | with_reducible refine XDs.go ?_ | with_reducible refine OK.go ?_); (first | refine TT ?_ | (apply Ns.sc ⟨rfl, rfl⟩ rfl; intro hg) | (refine OK.tr ?_; refine TT ?_)); (try simp only [HC] at hg))
    | with_reducible exact rfl | exact ⟨rfl, rfl, rfl⟩
    | ((with_reducible refine Gd.go ?_); refine Gd.on (fun hg => ?_) (fun hg => ?_) <;> refine TG ?_ <;> (try simp only [HC] at hg))
    | ((with_reducible refine Fin.go ?_); first | (refine Fin.p ?_; first | exact FT | (try refine TT ?_; try simp only [LF])) | refine Fin.a0 ?_ | refine Fin.a ?_ | refine Fin.ni ?_ | refine Fin.v ?_ ?_ | refine Fin.r ?_ ?_ | exact Fin.th | (refine Fin.t ?_; try simp only [AV.sl.injEq]))
    | (refine And.go ?_; refine AndI ?_)
    | fail)
  refine S.loop (σ := Unit) (fun σ => True) (fun σ => [(0, .sl (strs [])), (1, .int .i64 k0), (5, .int .i64 0)]) (fun _ => n) (fun σ => H) (fun σ => 0) () rfl trivial (Nat.le_refl _) (List.Sublist.refl _) ?_
  intro σ _ ih
  repeat' (first
    | ((with_reducible refine S.go ?_); first | refine S.seq ?_ | refine S.skip ?_ | refine S.block ?_ | refine S.inBlock ?_ | refine S.exit rfl ?_ | refine S.regN ?_ | refine S.reg ?_ | refine S.drw hk.mo (by kernel_rfl) ?_ | (refine S.cond rfl (fun hc => ?_) (fun hc => ?_) <;> try simp only [HC] at hc) | refine S.retH hr rfl ?_ | refine S.finH hr rfl ?_ | (refine S.retK hr ?_; refine TR ?_) | fail)
    | ((first | with_reducible refine Ns.go ?_ | with_reducible refine XOs.go ?_ | with_reducible refine XDs.go ?_ | with_reducible refine OK.go ?_); (first | refine TT ?_ | (apply Ns.sc ⟨rfl, rfl⟩ rfl; intro hg) | (refine OK.tr ?_; refine TT ?_)); (try simp only [HC] at hg))
    | with_reducible exact rfl | exact ⟨rfl, rfl, rfl⟩
    | ((with_reducible refine Gd.go ?_); refine Gd.on (fun hg => ?_) (fun hg => ?_) <;> refine TG ?_ <;> (try simp only [HC] at hg))
    | ((with_reducible refine Fin.go ?_); first | (refine Fin.p ?_; first | exact FT | (try refine TT ?_; try simp only [LF])) | refine Fin.a0 ?_ | refine Fin.a ?_ | refine Fin.ni ?_ | refine Fin.v ?_ ?_ | refine Fin.r ?_ ?_ | exact Fin.th | (refine Fin.t ?_; try simp only [AV.sl.injEq]))
    | (refine And.go ?_; refine AndI ?_)
    | fail)
  all_goals (try clear ih)
  all_goals first | rfl | (exfalso; revert hc; simp [enc])

def C_heldStringS (P : Program) (f : Nat) : Prop := ∀ (k len : Nat), len ≤ 4294967296 → k ≤ 4294967296 → RunsF P f [.sl (strs (marks k len)), .int .i64 (k : Int)] (.int .i64 ((k + len : Nat) : Int))
end Go.Lib04
