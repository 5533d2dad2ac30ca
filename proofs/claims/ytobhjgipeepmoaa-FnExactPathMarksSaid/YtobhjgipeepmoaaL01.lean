/- The least functions: numbers in bounds, sounds, forms. Over any program. -/
import Derived.Test.YtobhjgipeepmoaaAbTac
import Derived.Lib.IndexAny
namespace Go.Lib01
open Go.Ab
set_option linter.unusedVariables false
set_option linter.unusedSimpArgs false
set_option maxRecDepth 2000

/-- impl.within -/
def i_within.x : XCode :=
  (.seq
    (.reg [⟨(some 6), .mv, [.k (.bool false)], none⟩] [0, 1, 2])
    (.seq
      (.reg (flatNs none (nl [.op (some 7) .mv [.t 1], .op (some 8) .mv [.t 0], .op (some 9) (.bin .leq) [.t 7, .t 8], .op (some 10) .mv [.t 9], .sc 10 true (nl [.op (some 11) .mv [.t 0], .op (some 12) .mv [.t 2], .op (some 13) (.bin .leq) [.t 11, .t 12]]) (.t 13) (some 14), .op (some 6) .mv [.t 14]])) [6])
      .ret))
def i_within.F : Cfg := ⟨fun _ => 0, fun r => match r with | 0 => [0, 1, 2] | 1 => [6] | _ => []⟩
def i_within.X : FX := ⟨15, [.tmp 6], i_within.F, i_within.x⟩

def C_within (P : Program) (k : Nat) : Prop := ∀ a l h : Int, RunsF P k [.int .i64 a, .int .i64 l, .int .i64 h] (.bool (decide (l ≤ a) && decide (a ≤ h)))
theorem i_within.ok {P : Program} {k : Nat} (hk : Has P k (i_within.X)) : C_within P k := by
  intro a l h n H
  refine S.ofX hk rfl fun hB fn hr => ?_
  unfold i_within.x
  repeat' (first
    | ((with_reducible refine S.go ?_); first | refine S.seq ?_ | refine S.skip ?_ | refine S.block ?_ | refine S.inBlock ?_ | refine S.exit rfl ?_ | refine S.regN ?_ | refine S.reg ?_ | refine S.drw hk.mo (by kernel_rfl) ?_ | (refine S.cond rfl (fun hc => ?_) (fun hc => ?_) <;> try simp only [HC] at hc) | refine S.retH hr rfl ?_ | refine S.finH hr rfl ?_ | (refine S.retK hr ?_; refine TR ?_) | fail)
    | ((first | with_reducible refine Ns.go ?_ | with_reducible refine XOs.go ?_ | with_reducible refine XDs.go ?_ | with_reducible refine OK.go ?_); (first | refine TT ?_ | (apply Ns.sc ⟨rfl, rfl⟩ rfl; intro hg) | (refine OK.tr ?_; refine TT ?_)); (try simp only [HC] at hg))
    | with_reducible exact rfl | exact ⟨rfl, rfl, rfl⟩
    | ((with_reducible refine Gd.go ?_); refine Gd.on (fun hg => ?_) (fun hg => ?_) <;> refine TG ?_ <;> (try simp only [HC] at hg))
    | ((with_reducible refine Fin.go ?_); first | (refine Fin.p ?_; first | exact FT | (try refine TT ?_; try simp only [LF])) | refine Fin.a0 ?_ | refine Fin.a ?_ | refine Fin.ni ?_ | refine Fin.v ?_ ?_ | refine Fin.r ?_ ?_ | exact Fin.th | (refine Fin.t ?_; try simp only [AV.sl.injEq]))
    | (refine And.go ?_; refine AndI ?_)
    | fail)
  all_goals (try clear ih); (try clear ih2); (try clear hr hk hB); (try dsimp only)
  all_goals first | rfl | omega | (simp_all; done) | (simp_all; omega) | (rw [Bool.eq_iff_iff]; simp_all; done) | (rw [Bool.eq_iff_iff]; simp_all; omega) | grind | (rw [Bool.eq_iff_iff]; grind)

/-- spec.l1In -/
def s_l1In.x : XCode :=
  (.seq
    (.reg [⟨(some 6), .mv, [.k (.bool false)], none⟩] [0, 1, 2])
    (.seq
      (.reg (flatNs none (nl [.op (some 7) .mv [.t 0], .op (some 8) .mv [.t 1], .op (some 9) (.bin .geq) [.t 7, .t 8], .op (some 10) .mv [.t 9], .sc 10 true (nl [.op (some 11) .mv [.t 0], .op (some 12) .mv [.t 2], .op (some 13) (.bin .leq) [.t 11, .t 12]]) (.t 13) (some 14), .op (some 6) .mv [.t 14]])) [6])
      .ret))
def s_l1In.F : Cfg := ⟨fun _ => 0, fun r => match r with | 0 => [0, 1, 2] | 1 => [6] | _ => []⟩
def s_l1In.X : FX := ⟨15, [.tmp 6], s_l1In.F, s_l1In.x⟩

theorem s_l1In.ok {P : Program} {k : Nat} (hk : Has P k (s_l1In.X)) : C_within P k := by
  intro a l h n H
  refine S.ofX hk rfl fun hB fn hr => ?_
  unfold s_l1In.x
  repeat' (first
    | ((with_reducible refine S.go ?_); first | refine S.seq ?_ | refine S.skip ?_ | refine S.block ?_ | refine S.inBlock ?_ | refine S.exit rfl ?_ | refine S.regN ?_ | refine S.reg ?_ | refine S.drw hk.mo (by kernel_rfl) ?_ | (refine S.cond rfl (fun hc => ?_) (fun hc => ?_) <;> try simp only [HC] at hc) | refine S.retH hr rfl ?_ | refine S.finH hr rfl ?_ | (refine S.retK hr ?_; refine TR ?_) | fail)
    | ((first | with_reducible refine Ns.go ?_ | with_reducible refine XOs.go ?_ | with_reducible refine XDs.go ?_ | with_reducible refine OK.go ?_); (first | refine TT ?_ | (apply Ns.sc ⟨rfl, rfl⟩ rfl; intro hg) | (refine OK.tr ?_; refine TT ?_)); (try simp only [HC] at hg))
    | with_reducible exact rfl | exact ⟨rfl, rfl, rfl⟩
    | ((with_reducible refine Gd.go ?_); refine Gd.on (fun hg => ?_) (fun hg => ?_) <;> refine TG ?_ <;> (try simp only [HC] at hg))
    | ((with_reducible refine Fin.go ?_); first | (refine Fin.p ?_; first | exact FT | (try refine TT ?_; try simp only [LF])) | refine Fin.a0 ?_ | refine Fin.a ?_ | refine Fin.ni ?_ | refine Fin.v ?_ ?_ | refine Fin.r ?_ ?_ | exact Fin.th | (refine Fin.t ?_; try simp only [AV.sl.injEq]))
    | (refine And.go ?_; refine AndI ?_)
    | fail)
  all_goals (try clear ih); (try clear ih2); (try clear hr hk hB); (try dsimp only)
  all_goals first | rfl | omega | (simp_all; done) | (simp_all; omega) | (rw [Bool.eq_iff_iff]; simp_all; done) | (rw [Bool.eq_iff_iff]; simp_all; omega) | grind | (rw [Bool.eq_iff_iff]; grind)

def C_indexByte (P : Program) (k : Nat) : Prop := ∀ (s : List UInt8) (c : UInt8), RunsF P k [.str s, .int .u8 (c.toNat : Int)] (.int .i64 (Lib.indexByte s c))
theorem indexByte_ok {P : Program} {f : FuncId} {fn : Func} (hf : P.funcs[f]? = some fn) (hb : fn.body.isNone = true) (hnm : (fn.name == "runtime.NumGoroutine") = false)
    (h1 : (Extern.findNext fn).isNone = true) (h2 : Extern.find fn = some Extern.BytealgIndexByte.indexByte) : C_indexByte P f := fun s c => by
  have h := Runs.indexByte hf hb hnm h1 h2 s (c.toNat : Int)
  rw [show ((c.toNat : Int).toNat.toUInt8) = c by simp] at h
  exact h
/-- stringslite.IndexByte -/
def stringslite_IndexByte.x (c_bytealg_IndexByteString : Nat) : XCode :=
  (.seq
    (.reg [⟨(some 4), .mv, [.k (.int .i64 0)], none⟩] [0, 1])
    (.seq
      (.reg [⟨(some 5), .mv, [.t 0], none⟩,
        ⟨(some 6), .mv, [.t 1], none⟩,
        ⟨(some 7), .call, [.k (.fn c_bytealg_IndexByteString []), .t 5, .t 6], none⟩,
        ⟨(some 4), .mv, [.t 7], none⟩] [4])
      .ret))
def stringslite_IndexByte.F : Cfg := ⟨fun _ => 0, fun r => match r with | 0 => [0, 1] | 1 => [4] | _ => []⟩
def stringslite_IndexByte.X (c_bytealg_IndexByteString : Nat) : FX := ⟨8, [.tmp 4], stringslite_IndexByte.F, stringslite_IndexByte.x c_bytealg_IndexByteString⟩

theorem stringslite_IndexByte.ok {P : Program} {k c_bytealg_IndexByteString : Nat} (hk : Has P k (stringslite_IndexByte.X c_bytealg_IndexByteString)) (h1 : C_indexByte P c_bytealg_IndexByteString) : C_indexByte P k := by
  intro s c n H
  refine S.ofX hk rfl fun hB fn hr => ?_
  unfold stringslite_IndexByte.x
  repeat' (first
    | ((with_reducible refine S.go ?_); first | refine S.seq ?_ | refine S.skip ?_ | refine S.block ?_ | refine S.inBlock ?_ | refine S.exit rfl ?_ | refine S.regN ?_ | refine S.reg ?_ | refine S.drw hk.mo (by kernel_rfl) ?_ | (refine S.cond rfl (fun hc => ?_) (fun hc => ?_) <;> try simp only [HC] at hc) | refine S.retH hr rfl ?_ | refine S.finH hr rfl ?_ | (refine S.retK hr ?_; refine TR ?_) | fail)
    | ((first | with_reducible refine Ns.go ?_ | with_reducible refine XOs.go ?_ | with_reducible refine XDs.go ?_ | with_reducible refine OK.go ?_); (first | refine TT ?_ | (apply Ns.sc ⟨rfl, rfl⟩ rfl; intro hg) | (refine OK.tr ?_; refine TT ?_)); (try simp only [HC] at hg))
    | with_reducible exact rfl | exact ⟨rfl, rfl, rfl⟩
    | ((with_reducible refine RunsT.go ?_); first | refine RunsF.apf (h1 _ _) rfl ?_ | fail)
    | ((with_reducible refine RunsD.go ?_); first | refine RunsF.apd (h1 _ _) rfl ?_ | fail)
    | ((with_reducible refine Gd.go ?_); refine Gd.on (fun hg => ?_) (fun hg => ?_) <;> refine TG ?_ <;> (try simp only [HC] at hg))
    | ((with_reducible refine Fin.go ?_); first | (refine Fin.p ?_; first | exact FT | (try refine TT ?_; try simp only [LF])) | refine Fin.a0 ?_ | refine Fin.a ?_ | refine Fin.ni ?_ | refine Fin.v ?_ ?_ | refine Fin.r ?_ ?_ | exact Fin.th | (refine Fin.t ?_; try simp only [AV.sl.injEq]))
    | (refine And.go ?_; refine AndI ?_)
    | fail)
  all_goals (try clear ih); (try clear ih2); (try clear hr hk hB); (try dsimp only)
  all_goals first | rfl | omega | (simp_all; done) | (simp_all; omega) | (rw [Bool.eq_iff_iff]; simp_all; done) | (rw [Bool.eq_iff_iff]; simp_all; omega) | grind | (rw [Bool.eq_iff_iff]; grind)
/-- strings.IndexByte -/
def strings_IndexByte.x (c_stringslite_IndexByte : Nat) : XCode :=
  (.seq
    (.reg [⟨(some 4), .mv, [.k (.int .i64 0)], none⟩] [0, 1])
    (.seq
      (.reg [⟨(some 5), .mv, [.t 0], none⟩,
        ⟨(some 6), .mv, [.t 1], none⟩,
        ⟨(some 7), .call, [.k (.fn c_stringslite_IndexByte []), .t 5, .t 6], none⟩,
        ⟨(some 4), .mv, [.t 7], none⟩] [4])
      .ret))
def strings_IndexByte.F : Cfg := ⟨fun _ => 0, fun r => match r with | 0 => [0, 1] | 1 => [4] | _ => []⟩
def strings_IndexByte.X (c_stringslite_IndexByte : Nat) : FX := ⟨8, [.tmp 4], strings_IndexByte.F, strings_IndexByte.x c_stringslite_IndexByte⟩

theorem strings_IndexByte.ok {P : Program} {k c_stringslite_IndexByte : Nat} (hk : Has P k (strings_IndexByte.X c_stringslite_IndexByte)) (h1 : C_indexByte P c_stringslite_IndexByte) : C_indexByte P k := by
  intro s c n H
  refine S.ofX hk rfl fun hB fn hr => ?_
  unfold strings_IndexByte.x
  repeat' (first
    | ((with_reducible refine S.go ?_); first | refine S.seq ?_ | refine S.skip ?_ | refine S.block ?_ | refine S.inBlock ?_ | refine S.exit rfl ?_ | refine S.regN ?_ | refine S.reg ?_ | refine S.drw hk.mo (by kernel_rfl) ?_ | (refine S.cond rfl (fun hc => ?_) (fun hc => ?_) <;> try simp only [HC] at hc) | refine S.retH hr rfl ?_ | refine S.finH hr rfl ?_ | (refine S.retK hr ?_; refine TR ?_) | fail)
    | ((first | with_reducible refine Ns.go ?_ | with_reducible refine XOs.go ?_ | with_reducible refine XDs.go ?_ | with_reducible refine OK.go ?_); (first | refine TT ?_ | (apply Ns.sc ⟨rfl, rfl⟩ rfl; intro hg) | (refine OK.tr ?_; refine TT ?_)); (try simp only [HC] at hg))
    | with_reducible exact rfl | exact ⟨rfl, rfl, rfl⟩
    | ((with_reducible refine RunsT.go ?_); first | refine RunsF.apf (h1 _ _) rfl ?_ | fail)
    | ((with_reducible refine RunsD.go ?_); first | refine RunsF.apd (h1 _ _) rfl ?_ | fail)
    | ((with_reducible refine Gd.go ?_); refine Gd.on (fun hg => ?_) (fun hg => ?_) <;> refine TG ?_ <;> (try simp only [HC] at hg))
    | ((with_reducible refine Fin.go ?_); first | (refine Fin.p ?_; first | exact FT | (try refine TT ?_; try simp only [LF])) | refine Fin.a0 ?_ | refine Fin.a ?_ | refine Fin.ni ?_ | refine Fin.v ?_ ?_ | refine Fin.r ?_ ?_ | exact Fin.th | (refine Fin.t ?_; try simp only [AV.sl.injEq]))
    | (refine And.go ?_; refine AndI ?_)
    | fail)
  all_goals (try clear ih); (try clear ih2); (try clear hr hk hB); (try dsimp only)
  all_goals first | rfl | omega | (simp_all; done) | (simp_all; omega) | (rw [Bool.eq_iff_iff]; simp_all; done) | (rw [Bool.eq_iff_iff]; simp_all; omega) | grind | (rw [Bool.eq_iff_iff]; grind)

def sounds : List UInt8 := [112, 116, 98, 100, 110, 97, 105]
/-- A byte is a sound. -/
def isSnd (c : UInt8) : Bool := sounds.contains c
def C_IsSound (P : Program) (k : Nat) : Prop := ∀ c : UInt8, RunsF P k [.int .u8 (c.toNat : Int)] (.bool (isSnd c))
/-- impl.IsSound -/
def i_IsSound.x (c_strings_IndexByte : Nat) : XCode :=
  (.seq
    (.reg [⟨(some 2), .mv, [.k (.bool false)], none⟩] [0])
    (.seq
      (.reg [⟨(some 3), .mv, [.t 0], none⟩,
        ⟨(some 4), .call, [.k (.fn c_strings_IndexByte []), .k (.str [112, 116, 98, 100, 110, 97, 105]), .t 3], none⟩,
        ⟨(some 5), (.bin .geq), [.t 4, .k (.int .i64 0)], none⟩,
        ⟨(some 2), .mv, [.t 5], none⟩] [2])
      .ret))
def i_IsSound.F : Cfg := ⟨fun _ => 0, fun r => match r with | 0 => [0] | 1 => [2] | _ => []⟩
def i_IsSound.X (c_strings_IndexByte : Nat) : FX := ⟨6, [.tmp 2], i_IsSound.F, i_IsSound.x c_strings_IndexByte⟩

theorem i_IsSound.ok {P : Program} {k c_strings_IndexByte : Nat} (hk : Has P k (i_IsSound.X c_strings_IndexByte)) (h1 : C_indexByte P c_strings_IndexByte) : C_IsSound P k := by
  intro c n H
  refine S.ofX hk rfl fun hB fn hr => ?_
  unfold i_IsSound.x
  repeat' (first
    | ((with_reducible refine S.go ?_); first | refine S.seq ?_ | refine S.skip ?_ | refine S.block ?_ | refine S.inBlock ?_ | refine S.exit rfl ?_ | refine S.regN ?_ | refine S.reg ?_ | refine S.drw hk.mo (by kernel_rfl) ?_ | (refine S.cond rfl (fun hc => ?_) (fun hc => ?_) <;> try simp only [HC] at hc) | refine S.retH hr rfl ?_ | refine S.finH hr rfl ?_ | (refine S.retK hr ?_; refine TR ?_) | fail)
    | ((first | with_reducible refine Ns.go ?_ | with_reducible refine XOs.go ?_ | with_reducible refine XDs.go ?_ | with_reducible refine OK.go ?_); (first | refine TT ?_ | (apply Ns.sc ⟨rfl, rfl⟩ rfl; intro hg) | (refine OK.tr ?_; refine TT ?_)); (try simp only [HC] at hg))
    | with_reducible exact rfl | exact ⟨rfl, rfl, rfl⟩
    | ((with_reducible refine RunsT.go ?_); first | refine RunsF.apf (h1 _ _) rfl ?_ | fail)
    | ((with_reducible refine RunsD.go ?_); first | refine RunsF.apd (h1 _ _) rfl ?_ | fail)
    | ((with_reducible refine Gd.go ?_); refine Gd.on (fun hg => ?_) (fun hg => ?_) <;> refine TG ?_ <;> (try simp only [HC] at hg))
    | ((with_reducible refine Fin.go ?_); first | (refine Fin.p ?_; first | exact FT | (try refine TT ?_; try simp only [LF])) | refine Fin.a0 ?_ | refine Fin.a ?_ | refine Fin.ni ?_ | refine Fin.v ?_ ?_ | refine Fin.r ?_ ?_ | exact Fin.th | (refine Fin.t ?_; try simp only [AV.sl.injEq]))
    | (refine And.go ?_; refine AndI ?_)
    | fail)
  all_goals (rw [isSnd, Lib.contains_iff_indexByte]; rfl)

/-- spec.IsSound -/
def s_IsSound.x : XCode :=
  (.seq
    (.reg [⟨(some 2), .mv, [.k (.bool false)], none⟩] [0])
    (.seq
      (.seq
        (.reg [⟨(some 3), .mv, [.k (.int .i64 0)], none⟩] [0, 3])
        (.block 0
          (.loop
            (.seq
              (.seq
                (.reg [⟨(some 4), .mv, [.t 3], none⟩,
                  ⟨(some 5), (.bin .lss), [.t 4, .k (.int .i64 7)], none⟩] [0, 3, 5])
                (.cond (.t 5)
                  .skip
                  (.exit 0)))
              (.seq
                (.block 1
                  (.seq
                    (.reg [⟨(some 8), .mv, [.t 3], none⟩,
                      ⟨(some 9), .idxS, [.k (.str [112, 116, 98, 100, 110, 97, 105]), .t 8], none⟩,
                      ⟨(some 10), .mv, [.t 0], none⟩,
                      ⟨(some 11), (.bin .eql), [.t 9, .t 10], none⟩] [0, 3, 11])
                    (.cond (.t 11)
                      (.seq
                        (.reg [⟨(some 2), .mv, [.k (.bool true)], none⟩] [2])
                        .ret)
                      .skip)))
                (.reg [⟨(some 6), .mv, [.t 3], none⟩,
                  ⟨(some 7), (.bin .add), [.t 6, .k (.int .i64 1)], none⟩,
                  ⟨(some 3), .mv, [.t 7], none⟩] [0, 3]))))))
      (.seq
        (.reg [⟨(some 2), .mv, [.k (.bool false)], none⟩] [2])
        .ret)))
def s_IsSound.F : Cfg := ⟨fun _ => 0, fun r => match r with | 0 => [0] | 1 => [0, 3] | 2 => [0, 3, 5] | 3 => [0, 3] | 4 => [0, 3, 11] | 5 => [2] | 6 => [2] | _ => []⟩
def s_IsSound.X : FX := ⟨12, [.tmp 2], s_IsSound.F, s_IsSound.x⟩

theorem s_IsSound.ok {P : Program} {k : Nat} (hk : Has P k (s_IsSound.X)) : C_IsSound P k := by
  intro c n H
  refine S.ofX hk rfl fun hB fn hr => ?_
  unfold s_IsSound.x
  repeat' (first
    | ((with_reducible refine S.go ?_); first | refine S.seq ?_ | refine S.skip ?_ | refine S.block ?_ | refine S.inBlock ?_ | refine S.exit rfl ?_ | refine S.regN ?_ | refine S.reg ?_ | refine S.drw hk.mo (by kernel_rfl) ?_ | (refine S.cond rfl (fun hc => ?_) (fun hc => ?_) <;> try simp only [HC] at hc) | refine S.retH hr rfl ?_ | refine S.finH hr rfl ?_ | (refine S.retK hr ?_; refine TR ?_) | fail)
    | ((first | with_reducible refine Ns.go ?_ | with_reducible refine XOs.go ?_ | with_reducible refine XDs.go ?_ | with_reducible refine OK.go ?_); (first | refine TT ?_ | (apply Ns.sc ⟨rfl, rfl⟩ rfl; intro hg) | (refine OK.tr ?_; refine TT ?_)); (try simp only [HC] at hg))
    | with_reducible exact rfl | exact ⟨rfl, rfl, rfl⟩
    | ((with_reducible refine Gd.go ?_); refine Gd.on (fun hg => ?_) (fun hg => ?_) <;> refine TG ?_ <;> (try simp only [HC] at hg))
    | ((with_reducible refine Fin.go ?_); first | (refine Fin.p ?_; first | exact FT | (try refine TT ?_; try simp only [LF])) | refine Fin.a0 ?_ | refine Fin.a ?_ | refine Fin.ni ?_ | refine Fin.v ?_ ?_ | refine Fin.r ?_ ?_ | exact Fin.th | (refine Fin.t ?_; try simp only [AV.sl.injEq]))
    | (refine And.go ?_; refine AndI ?_)
    | fail)
  refine S.loop (σ := Nat) (fun i => i ≤ 7 ∧ (sounds.drop i).contains c = sounds.contains c) (fun i => [(0, .int .u8 (c.toNat : Int)), (3, .int .i64 (i : Int))]) (fun _ => n) (fun _ => H) (fun i => 7 - i) 0 rfl ⟨by omega, rfl⟩ (Nat.le_refl _) (List.Sublist.refl _) ?_
  intro i hi ih
  obtain ⟨hi1, hi2⟩ := hi
  repeat' (first
    | ((with_reducible refine S.go ?_); first | refine S.seq ?_ | refine S.skip ?_ | refine S.block ?_ | refine S.inBlock ?_ | refine S.exit rfl ?_ | refine S.regN ?_ | refine S.reg ?_ | refine S.drw hk.mo (by kernel_rfl) ?_ | (refine S.cond rfl (fun hc => ?_) (fun hc => ?_) <;> try simp only [HC] at hc) | refine S.retH hr rfl ?_ | refine S.finH hr rfl ?_ | (refine S.retK hr ?_; refine TR ?_) | fail)
    | ((first | with_reducible refine Ns.go ?_ | with_reducible refine XOs.go ?_ | with_reducible refine XDs.go ?_ | with_reducible refine OK.go ?_); (first | refine TT ?_ | (apply Ns.sc ⟨rfl, rfl⟩ rfl; intro hg) | (refine OK.tr ?_; refine TT ?_)); (try simp only [HC] at hg))
    | with_reducible exact rfl | exact ⟨rfl, rfl, rfl⟩
    | (refine S.again (ih (i + 1) ?_ ?_) rfl (Nat.le_refl _) (List.Sublist.refl _))
    | ((with_reducible refine Gd.go ?_); refine Gd.on (fun hg => ?_) (fun hg => ?_) <;> refine TG ?_ <;> (try simp only [HC] at hg))
    | ((with_reducible refine Fin.go ?_); first | (refine Fin.p ?_; first | exact FT | (try refine TT ?_; try simp only [LF])) | refine Fin.a0 ?_ | refine Fin.a ?_ | refine Fin.ni ?_ | refine Fin.v ?_ ?_ | refine Fin.r ?_ ?_ | exact Fin.th | (refine Fin.t ?_; try simp only [AV.sl.injEq]))
    | (refine And.go ?_; refine AndI ?_)
    | fail)
  all_goals first | (have he : i = 7 := (by omega); subst he) | skip
  all_goals first | (have hs := getD_drop [112, 116, 98, 100, 110, 97, 105] i (0 : UInt8) (by omega)) | (have hs := getD_drop [112, 116, 98, 100, 110, 97, 105] i (0 : UInt8) (by simp only [List.length_cons, List.length_nil]; omega)) | skip
  all_goals (try clear ih); (try clear ih2); (try clear hr hk hB); (try dsimp only)
  all_goals (try simp only [sounds, isSnd] at *)
  all_goals first | rfl | omega | (simp_all; done) | (simp_all; omega) | (rw [Bool.eq_iff_iff]; simp_all; done) | (rw [Bool.eq_iff_iff]; simp_all; omega) | grind | (rw [Bool.eq_iff_iff]; grind)

/-- Sounds only, at most 20. -/
def sndS (s : List UInt8) : Bool := s.all isSnd && decide (s.length ≤ 20)
def C_l2Sounds (P : Program) (k : Nat) : Prop := ∀ s : List UInt8, s.length ≤ 4294967296 → RunsF P k [.str s] (.bool (sndS s))
/-- spec.l2Sounds -/
def s_l2Sounds.x (c_s_IsSound : Nat) : XCode :=
  (.seq
    (.reg [⟨(some 2), .mv, [.k (.bool false)], none⟩] [0])
    (.seq
      (.seq
        (.reg [⟨(some 3), .mv, [.k (.int .i64 0)], none⟩] [0, 3])
        (.block 0
          (.loop
            (.seq
              (.seq
                (.reg [⟨(some 4), .mv, [.t 3], none⟩,
                  ⟨(some 5), .mv, [.t 0], none⟩,
                  ⟨(some 6), .lenS, [.t 5], none⟩,
                  ⟨(some 7), (.bin .lss), [.t 4, .t 6], none⟩] [0, 3, 7])
                (.cond (.t 7)
                  .skip
                  (.exit 0)))
              (.seq
                (.block 1
                  (.seq
                    (.reg [⟨(some 10), .mv, [.t 0], none⟩,
                      ⟨(some 11), .mv, [.t 3], none⟩,
                      ⟨(some 12), .idxS, [.t 10, .t 11], none⟩,
                      ⟨(some 13), .call, [.k (.fn c_s_IsSound []), .t 12], none⟩,
                      ⟨(some 14), (.un .not), [.t 13], none⟩] [0, 3, 14])
                    (.cond (.t 14)
                      (.seq
                        (.reg [⟨(some 2), .mv, [.k (.bool false)], none⟩] [2])
                        .ret)
                      .skip)))
                (.reg [⟨(some 8), .mv, [.t 3], none⟩,
                  ⟨(some 9), (.bin .add), [.t 8, .k (.int .i64 1)], none⟩,
                  ⟨(some 3), .mv, [.t 9], none⟩] [0, 3]))))))
      (.seq
        (.reg [⟨(some 15), .mv, [.t 0], none⟩,
          ⟨(some 16), .lenS, [.t 15], none⟩,
          ⟨(some 17), (.bin .leq), [.t 16, .k (.int .i64 20)], none⟩,
          ⟨(some 2), .mv, [.t 17], none⟩] [2])
        .ret)))
def s_l2Sounds.F : Cfg := ⟨fun _ => 0, fun r => match r with | 0 => [0] | 1 => [0, 3] | 2 => [0, 3, 7] | 3 => [0, 3] | 4 => [0, 3, 14] | 5 => [2] | 6 => [2] | _ => []⟩
def s_l2Sounds.X (c_s_IsSound : Nat) : FX := ⟨18, [.tmp 2], s_l2Sounds.F, s_l2Sounds.x c_s_IsSound⟩

theorem s_l2Sounds.ok {P : Program} {k c_s_IsSound : Nat} (hk : Has P k (s_l2Sounds.X c_s_IsSound)) (h1 : C_IsSound P c_s_IsSound) : C_l2Sounds P k := by
  intro s hs n H
  refine S.ofX hk rfl fun hB fn hr => ?_
  unfold s_l2Sounds.x
  repeat' (first
    | ((with_reducible refine S.go ?_); first | refine S.seq ?_ | refine S.skip ?_ | refine S.block ?_ | refine S.inBlock ?_ | refine S.exit rfl ?_ | refine S.regN ?_ | refine S.reg ?_ | refine S.drw hk.mo (by kernel_rfl) ?_ | (refine S.cond rfl (fun hc => ?_) (fun hc => ?_) <;> try simp only [HC] at hc) | refine S.retH hr rfl ?_ | refine S.finH hr rfl ?_ | (refine S.retK hr ?_; refine TR ?_) | fail)
    | ((first | with_reducible refine Ns.go ?_ | with_reducible refine XOs.go ?_ | with_reducible refine XDs.go ?_ | with_reducible refine OK.go ?_); (first | refine TT ?_ | (apply Ns.sc ⟨rfl, rfl⟩ rfl; intro hg) | (refine OK.tr ?_; refine TT ?_)); (try simp only [HC] at hg))
    | with_reducible exact rfl | exact ⟨rfl, rfl, rfl⟩
    | ((with_reducible refine Gd.go ?_); refine Gd.on (fun hg => ?_) (fun hg => ?_) <;> refine TG ?_ <;> (try simp only [HC] at hg))
    | ((with_reducible refine Fin.go ?_); first | (refine Fin.p ?_; first | exact FT | (try refine TT ?_; try simp only [LF])) | refine Fin.a0 ?_ | refine Fin.a ?_ | refine Fin.ni ?_ | refine Fin.v ?_ ?_ | refine Fin.r ?_ ?_ | exact Fin.th | (refine Fin.t ?_; try simp only [AV.sl.injEq]))
    | (refine And.go ?_; refine AndI ?_)
    | fail)
  refine S.loop (σ := Nat) (fun i => i ≤ s.length ∧ (s.drop i).all isSnd = s.all isSnd) (fun i => [(0, .str s), (3, .int .i64 (i : Int))]) (fun _ => n) (fun _ => H) (fun i => s.length - i) 0 rfl ⟨by omega, rfl⟩ (Nat.le_refl _) (List.Sublist.refl _) ?_
  intro i hi ih
  obtain ⟨hi1, hi2⟩ := hi
  repeat' (first
    | ((with_reducible refine S.go ?_); first | refine S.seq ?_ | refine S.skip ?_ | refine S.block ?_ | refine S.inBlock ?_ | refine S.exit rfl ?_ | refine S.regN ?_ | refine S.reg ?_ | refine S.drw hk.mo (by kernel_rfl) ?_ | (refine S.cond rfl (fun hc => ?_) (fun hc => ?_) <;> try simp only [HC] at hc) | refine S.retH hr rfl ?_ | refine S.finH hr rfl ?_ | (refine S.retK hr ?_; refine TR ?_) | fail)
    | ((first | with_reducible refine Ns.go ?_ | with_reducible refine XOs.go ?_ | with_reducible refine XDs.go ?_ | with_reducible refine OK.go ?_); (first | refine TT ?_ | (apply Ns.sc ⟨rfl, rfl⟩ rfl; intro hg) | (refine OK.tr ?_; refine TT ?_)); (try simp only [HC] at hg))
    | with_reducible exact rfl | exact ⟨rfl, rfl, rfl⟩
    | ((with_reducible refine RunsT.go ?_); first | refine RunsF.apf (h1 _) rfl ?_ | fail)
    | ((with_reducible refine RunsD.go ?_); first | refine RunsF.apd (h1 _) rfl ?_ | fail)
    | (refine S.again (ih (i + 1) ?_ ?_) rfl (Nat.le_refl _) (List.Sublist.refl _))
    | ((with_reducible refine Gd.go ?_); refine Gd.on (fun hg => ?_) (fun hg => ?_) <;> refine TG ?_ <;> (try simp only [HC] at hg))
    | ((with_reducible refine Fin.go ?_); first | (refine Fin.p ?_; first | exact FT | (try refine TT ?_; try simp only [LF])) | refine Fin.a0 ?_ | refine Fin.a ?_ | refine Fin.ni ?_ | refine Fin.v ?_ ?_ | refine Fin.r ?_ ?_ | exact Fin.th | (refine Fin.t ?_; try simp only [AV.sl.injEq]))
    | (refine And.go ?_; refine AndI ?_)
    | fail)
  all_goals first | (have he : i = s.length := (by omega); subst he) | skip
  all_goals first | (have hs := getD_drop s i 0 (by omega)) | (have hs := getD_drop s i 0 (by simp only [List.length_cons, List.length_nil]; omega)) | skip
  all_goals (try clear ih); (try clear ih2); (try clear hr hk hB); (try dsimp only)
  all_goals (try simp only [sndS] at *)
  all_goals first | rfl | omega | (simp_all; done) | (simp_all; omega) | (rw [Bool.eq_iff_iff]; simp_all; done) | (rw [Bool.eq_iff_iff]; simp_all; omega) | grind | (rw [Bool.eq_iff_iff]; grind)

def C_areSounds (P : Program) (k : Nat) : Prop := ∀ s : List UInt8, s.length ≤ 4294967296 → RunsF P k [.str s] (.bool (sndS s && decide (0 < s.length)))
/-- impl.areSounds -/
def i_areSounds.x (c_i_IsSound c_i_within : Nat) : XCode :=
  (.seq
    (.reg [⟨(some 2), .mv, [.k (.bool false)], none⟩] [0])
    (.seq
      (.seq
        (.reg [⟨(some 4), .mv, [.t 0], none⟩,
          ⟨(some 5), .lenS, [.t 4], none⟩,
          ⟨(some 6), .mv, [.k (.int .i64 0)], none⟩] [0, 5, 6])
        (.block 0
          (.loop
            (.seq
              (.reg [⟨(some 7), (.bin .lss), [.t 6, .t 5], none⟩] [0, 5, 6, 7])
              (.seq
                (.cond (.t 7)
                  .skip
                  (.exit 0))
                (.seq
                  (.block 1
                    (.seq
                      (.reg [⟨(some 8), .mv, [.t 6], none⟩,
                        ⟨(some 3), .mv, [.t 8], none⟩] [0, 3, 5, 6])
                      (.seq
                        (.reg [⟨(some 9), .mv, [.t 0], none⟩,
                          ⟨(some 10), .mv, [.t 3], none⟩,
                          ⟨(some 11), .idxS, [.t 9, .t 10], none⟩,
                          ⟨(some 12), .call, [.k (.fn c_i_IsSound []), .t 11], none⟩,
                          ⟨(some 13), (.un .not), [.t 12], none⟩] [0, 5, 6, 13])
                        (.cond (.t 13)
                          (.seq
                            (.reg [⟨(some 2), .mv, [.k (.bool false)], none⟩] [2])
                            .ret)
                          .skip))))
                  (.reg [⟨(some 14), (.bin .add), [.t 6, .k (.int .i64 1)], none⟩,
                    ⟨(some 6), .mv, [.t 14], none⟩] [0, 5, 6])))))))
      (.seq
        (.reg [⟨(some 15), .mv, [.t 0], none⟩,
          ⟨(some 16), .lenS, [.t 15], none⟩,
          ⟨(some 17), .call, [.k (.fn c_i_within []), .t 16, .k (.int .i64 1), .k (.int .i64 20)], none⟩,
          ⟨(some 2), .mv, [.t 17], none⟩] [2])
        .ret)))
def i_areSounds.F : Cfg := ⟨fun _ => 0, fun r => match r with | 0 => [0] | 1 => [0, 5, 6] | 2 => [0, 5, 6, 7] | 3 => [0, 3, 5, 6] | 4 => [0, 5, 6, 13] | 5 => [2] | 6 => [0, 5, 6] | 7 => [2] | _ => []⟩
def i_areSounds.X (c_i_IsSound c_i_within : Nat) : FX := ⟨18, [.tmp 2], i_areSounds.F, i_areSounds.x c_i_IsSound c_i_within⟩

theorem i_areSounds.ok {P : Program} {k c_i_IsSound c_i_within : Nat} (hk : Has P k (i_areSounds.X c_i_IsSound c_i_within)) (h1 : C_IsSound P c_i_IsSound) (h2 : C_within P c_i_within) : C_areSounds P k := by
  intro s hs n H
  refine S.ofX hk rfl fun hB fn hr => ?_
  unfold i_areSounds.x
  repeat' (first
    | ((with_reducible refine S.go ?_); first | refine S.seq ?_ | refine S.skip ?_ | refine S.block ?_ | refine S.inBlock ?_ | refine S.exit rfl ?_ | refine S.regN ?_ | refine S.reg ?_ | refine S.drw hk.mo (by kernel_rfl) ?_ | (refine S.cond rfl (fun hc => ?_) (fun hc => ?_) <;> try simp only [HC] at hc) | refine S.retH hr rfl ?_ | refine S.finH hr rfl ?_ | (refine S.retK hr ?_; refine TR ?_) | fail)
    | ((first | with_reducible refine Ns.go ?_ | with_reducible refine XOs.go ?_ | with_reducible refine XDs.go ?_ | with_reducible refine OK.go ?_); (first | refine TT ?_ | (apply Ns.sc ⟨rfl, rfl⟩ rfl; intro hg) | (refine OK.tr ?_; refine TT ?_)); (try simp only [HC] at hg))
    | with_reducible exact rfl | exact ⟨rfl, rfl, rfl⟩
    | ((with_reducible refine Gd.go ?_); refine Gd.on (fun hg => ?_) (fun hg => ?_) <;> refine TG ?_ <;> (try simp only [HC] at hg))
    | ((with_reducible refine Fin.go ?_); first | (refine Fin.p ?_; first | exact FT | (try refine TT ?_; try simp only [LF])) | refine Fin.a0 ?_ | refine Fin.a ?_ | refine Fin.ni ?_ | refine Fin.v ?_ ?_ | refine Fin.r ?_ ?_ | exact Fin.th | (refine Fin.t ?_; try simp only [AV.sl.injEq]))
    | (refine And.go ?_; refine AndI ?_)
    | fail)
  refine S.loop (σ := Nat) (fun i => i ≤ s.length ∧ (s.drop i).all isSnd = s.all isSnd) (fun i => [(0, .str s), (5, .int .i64 (s.length : Int)), (6, .int .i64 (i : Int))]) (fun _ => n) (fun _ => H) (fun i => s.length - i) 0 rfl ⟨by omega, rfl⟩ (Nat.le_refl _) (List.Sublist.refl _) ?_
  intro i hi ih
  obtain ⟨hi1, hi2⟩ := hi
  repeat' (first
    | ((with_reducible refine S.go ?_); first | refine S.seq ?_ | refine S.skip ?_ | refine S.block ?_ | refine S.inBlock ?_ | refine S.exit rfl ?_ | refine S.regN ?_ | refine S.reg ?_ | refine S.drw hk.mo (by kernel_rfl) ?_ | (refine S.cond rfl (fun hc => ?_) (fun hc => ?_) <;> try simp only [HC] at hc) | refine S.retH hr rfl ?_ | refine S.finH hr rfl ?_ | (refine S.retK hr ?_; refine TR ?_) | fail)
    | ((first | with_reducible refine Ns.go ?_ | with_reducible refine XOs.go ?_ | with_reducible refine XDs.go ?_ | with_reducible refine OK.go ?_); (first | refine TT ?_ | (apply Ns.sc ⟨rfl, rfl⟩ rfl; intro hg) | (refine OK.tr ?_; refine TT ?_)); (try simp only [HC] at hg))
    | with_reducible exact rfl | exact ⟨rfl, rfl, rfl⟩
    | ((with_reducible refine RunsT.go ?_); first | refine RunsF.apf (h1 _) rfl ?_ | refine RunsF.apf (h2 _ _ _) rfl ?_ | fail)
    | ((with_reducible refine RunsD.go ?_); first | refine RunsF.apd (h1 _) rfl ?_ | refine RunsF.apd (h2 _ _ _) rfl ?_ | fail)
    | (refine S.again (ih (i + 1) ?_ ?_) rfl (Nat.le_refl _) (List.Sublist.refl _))
    | ((with_reducible refine Gd.go ?_); refine Gd.on (fun hg => ?_) (fun hg => ?_) <;> refine TG ?_ <;> (try simp only [HC] at hg))
    | ((with_reducible refine Fin.go ?_); first | (refine Fin.p ?_; first | exact FT | (try refine TT ?_; try simp only [LF])) | refine Fin.a0 ?_ | refine Fin.a ?_ | refine Fin.ni ?_ | refine Fin.v ?_ ?_ | refine Fin.r ?_ ?_ | exact Fin.th | (refine Fin.t ?_; try simp only [AV.sl.injEq]))
    | (refine And.go ?_; refine AndI ?_)
    | fail)
  all_goals first | (have he : i = s.length := (by omega); subst he) | skip
  all_goals first | (have hs := getD_drop s i 0 (by omega)) | (have hs := getD_drop s i 0 (by simp only [List.length_cons, List.length_nil]; omega)) | skip
  all_goals (try clear ih); (try clear ih2); (try clear hr hk hB); (try dsimp only)
  all_goals (try simp only [sndS] at *)
  all_goals first | rfl | omega | (simp_all; done) | (simp_all; omega) | (rw [Bool.eq_iff_iff]; simp_all; done) | (rw [Bool.eq_iff_iff]; simp_all; omega) | grind | (rw [Bool.eq_iff_iff]; grind)

/-- A form: at most eight sounds. -/
def isForm (s : List UInt8) : Bool := s.all isSnd && decide (s.length ≤ 8)
def C_IsForm (P : Program) (k : Nat) : Prop := ∀ s : List UInt8, s.length ≤ 4294967296 → RunsF P k [.str s] (.bool (isForm s))
/-- spec.IsForm -/
def s_IsForm.x (c_s_l2Sounds : Nat) : XCode :=
  (.seq
    (.reg [⟨(some 2), .mv, [.k (.bool false)], none⟩] [0])
    (.seq
      (.reg (flatNs none (nl [.op (some 3) .mv [.t 0], .op (some 4) .call [.k (.fn c_s_l2Sounds []), .t 3], .op (some 5) .mv [.t 4], .sc 5 true (nl [.op (some 6) .mv [.t 0], .op (some 7) .lenS [.t 6], .op (some 8) (.bin .leq) [.t 7, .k (.int .i64 8)]]) (.t 8) (some 9), .op (some 2) .mv [.t 9]])) [2])
      .ret))
def s_IsForm.F : Cfg := ⟨fun _ => 0, fun r => match r with | 0 => [0] | 1 => [2] | _ => []⟩
def s_IsForm.X (c_s_l2Sounds : Nat) : FX := ⟨10, [.tmp 2], s_IsForm.F, s_IsForm.x c_s_l2Sounds⟩

theorem s_IsForm.ok {P : Program} {k c_s_l2Sounds : Nat} (hk : Has P k (s_IsForm.X c_s_l2Sounds)) (h1 : C_l2Sounds P c_s_l2Sounds) : C_IsForm P k := by
  intro s hs n H
  refine S.ofX hk rfl fun hB fn hr => ?_
  unfold s_IsForm.x
  repeat' (first
    | ((with_reducible refine S.go ?_); first | refine S.seq ?_ | refine S.skip ?_ | refine S.block ?_ | refine S.inBlock ?_ | refine S.exit rfl ?_ | refine S.regN ?_ | refine S.reg ?_ | refine S.drw hk.mo (by kernel_rfl) ?_ | (refine S.cond rfl (fun hc => ?_) (fun hc => ?_) <;> try simp only [HC] at hc) | refine S.retH hr rfl ?_ | refine S.finH hr rfl ?_ | (refine S.retK hr ?_; refine TR ?_) | fail)
    | ((first | with_reducible refine Ns.go ?_ | with_reducible refine XOs.go ?_ | with_reducible refine XDs.go ?_ | with_reducible refine OK.go ?_); (first | refine TT ?_ | (apply Ns.sc ⟨rfl, rfl⟩ rfl; intro hg) | (refine OK.tr ?_; refine TT ?_)); (try simp only [HC] at hg))
    | with_reducible exact rfl | exact ⟨rfl, rfl, rfl⟩
    | ((with_reducible refine RunsT.go ?_); first | refine RunsF.apf (h1 _ hs) rfl ?_ | fail)
    | ((with_reducible refine RunsD.go ?_); first | refine RunsF.apd (h1 _ hs) rfl ?_ | fail)
    | ((with_reducible refine Gd.go ?_); refine Gd.on (fun hg => ?_) (fun hg => ?_) <;> refine TG ?_ <;> (try simp only [HC] at hg))
    | ((with_reducible refine Fin.go ?_); first | (refine Fin.p ?_; first | exact FT | (try refine TT ?_; try simp only [LF])) | refine Fin.a0 ?_ | refine Fin.a ?_ | refine Fin.ni ?_ | refine Fin.v ?_ ?_ | refine Fin.r ?_ ?_ | exact Fin.th | (refine Fin.t ?_; try simp only [AV.sl.injEq]))
    | (refine And.go ?_; refine AndI ?_)
    | fail)
  all_goals (try clear ih); (try clear ih2); (try clear hr hk hB); (try dsimp only)
  all_goals (try simp only [sndS, isForm] at *)
  all_goals first | rfl | omega | (simp_all; done) | (simp_all; omega) | (rw [Bool.eq_iff_iff]; simp_all; done) | (rw [Bool.eq_iff_iff]; simp_all; omega) | grind | (rw [Bool.eq_iff_iff]; grind)
/-- impl.IsForm -/
def i_IsForm.x (c_i_areSounds : Nat) : XCode :=
  (.seq
    (.reg [⟨(some 2), .mv, [.k (.bool false)], none⟩] [0])
    (.seq
      (.reg (flatNs none (nl [.op (some 3) .mv [.t 0], .op (some 4) (.bin .eql) [.t 3, .k (.str [])], .op (some 5) .mv [.t 4], .sc 5 false (nl [.op (some 6) .mv [.t 0], .op (some 7) .lenS [.t 6], .op (some 8) (.bin .leq) [.t 7, .k (.int .i64 8)], .op (some 9) .mv [.t 8], .sc 9 true (nl [.op (some 10) .mv [.t 0], .op (some 11) .call [.k (.fn c_i_areSounds []), .t 10]]) (.t 11) (some 12)]) (.t 12) (some 13), .op (some 2) .mv [.t 13]])) [2])
      .ret))
def i_IsForm.F : Cfg := ⟨fun _ => 0, fun r => match r with | 0 => [0] | 1 => [2] | _ => []⟩
def i_IsForm.X (c_i_areSounds : Nat) : FX := ⟨14, [.tmp 2], i_IsForm.F, i_IsForm.x c_i_areSounds⟩

theorem i_IsForm.ok {P : Program} {k c_i_areSounds : Nat} (hk : Has P k (i_IsForm.X c_i_areSounds)) (h1 : C_areSounds P c_i_areSounds) : C_IsForm P k := by
  intro s hs n H
  refine S.ofX hk rfl fun hB fn hr => ?_
  unfold i_IsForm.x
  repeat' (first
    | ((with_reducible refine S.go ?_); first | refine S.seq ?_ | refine S.skip ?_ | refine S.block ?_ | refine S.inBlock ?_ | refine S.exit rfl ?_ | refine S.regN ?_ | refine S.reg ?_ | refine S.drw hk.mo (by kernel_rfl) ?_ | (refine S.cond rfl (fun hc => ?_) (fun hc => ?_) <;> try simp only [HC] at hc) | refine S.retH hr rfl ?_ | refine S.finH hr rfl ?_ | (refine S.retK hr ?_; refine TR ?_) | fail)
    | ((first | with_reducible refine Ns.go ?_ | with_reducible refine XOs.go ?_ | with_reducible refine XDs.go ?_ | with_reducible refine OK.go ?_); (first | refine TT ?_ | (apply Ns.sc ⟨rfl, rfl⟩ rfl; intro hg) | (refine OK.tr ?_; refine TT ?_)); (try simp only [HC] at hg))
    | with_reducible exact rfl | exact ⟨rfl, rfl, rfl⟩
    | ((with_reducible refine RunsT.go ?_); first | refine RunsF.apf (h1 _ hs) rfl ?_ | fail)
    | ((with_reducible refine RunsD.go ?_); first | refine RunsF.apd (h1 _ hs) rfl ?_ | fail)
    | ((with_reducible refine Gd.go ?_); refine Gd.on (fun hg => ?_) (fun hg => ?_) <;> refine TG ?_ <;> (try simp only [HC] at hg))
    | ((with_reducible refine Fin.go ?_); first | (refine Fin.p ?_; first | exact FT | (try refine TT ?_; try simp only [LF])) | refine Fin.a0 ?_ | refine Fin.a ?_ | refine Fin.ni ?_ | refine Fin.v ?_ ?_ | refine Fin.r ?_ ?_ | exact Fin.th | (refine Fin.t ?_; try simp only [AV.sl.injEq]))
    | (refine And.go ?_; refine AndI ?_)
    | fail)
  all_goals (try clear ih); (try clear ih2); (try clear hr hk hB); (try dsimp only)
  all_goals (try simp only [sndS, isForm] at *)
  all_goals first | rfl | omega | (simp_all; done) | (simp_all; omega) | (rw [Bool.eq_iff_iff]; simp_all; done) | (rw [Bool.eq_iff_iff]; simp_all; omega) | grind | (rw [Bool.eq_iff_iff]; grind)

/-- A paradigm: alone and before. -/
def isPara (a b : List UInt8) : Bool := isForm a && isForm b && decide (a.length ≤ 3) && decide (1 ≤ b.length) && decide (b.length ≤ 4) && b.getD (b.length - 1) 0 == 97
def C_IsParadigm (P : Program) (k : Nat) : Prop := ∀ a b : List UInt8, a.length ≤ 4294967296 → b.length ≤ 4294967296 → RunsF P k [.agg [.str a, .str b]] (.bool (isPara a b))
def C_IsAlternating (P : Program) (k : Nat) : Prop := ∀ a b : List UInt8, a.length ≤ 4294967296 → b.length ≤ 4294967296 → RunsF P k [.agg [.str a, .str b]] (.bool (isPara a b && !(b == a ++ [97])))
end Go.Lib01
