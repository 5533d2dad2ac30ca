/- The least functions: numbers in bounds, sounds, forms. Over any program. The laws of paradigms: IsParadigm and IsAlternating answer as the reference does. Over any program. Lists of strings: what is in them, their size, copies of them, their equality; lists of constraints. Over any program. Features of sounds, links, marks of steps. Over any program. Candidates; marks of steps, of ends, of paths. Over any program. No condition. -/
import Derived.Test.YtiaimihgfldfgaaGreatA4
import Derived.Lib.IndexAny
section
namespace Go.Lib01
open Go.Ab
set_option linter.unusedVariables false
set_option linter.unusedSimpArgs false
set_option maxRecDepth 2000

/-- impl.within -/
def i_within.x : XCode :=
  (.seq
    (.reg [⟨(some 6), .mv, [.k (.bool false)], none⟩] [0, 1, 2])
    (.seq
      (.reg (flatNs none (nl [.op (some 7) .mv [.t 1], .op (some 8) .mv [.t 0], .op (some 9) (.bin .leq) [.t 7, .t 8], .op (some 10) .mv [.t 9], .sc 10 true (nl [.op (some 11) .mv [.t 0], .op (some 12) .mv [.t 2], .op (some 13) (.bin .leq) [.t 11, .t 12]]) (.t 13) (some 14), .op (some 6) .mv [.t 14]])) [6])
      .ret))
def i_within.F : Cfg := ⟨fun _ => 0, fun r => match r with | 0 => [0, 1, 2] | 1 => [6] | _ => []⟩
def i_within.X : FX := ⟨15, [.tmp 6], i_within.F, i_within.x⟩

def C_within (P : Program) (k : Nat) : Prop := ∀ a l h : Int, RunsF P k [.int .i64 a, .int .i64 l, .int .i64 h] (.bool (decide (l ≤ a) && decide (a ≤ h)))
theorem i_within.ok {P : Program} {k : Nat} (hk : Has P k (i_within.X)) : C_within P k := by
  intro a l h n H
  refine S.ofX hk rfl fun hB fn hr => ?_
  unfold i_within.x
  repeat' (first
    | ((with_reducible refine S.go ?_); first | refine S.seq ?_ | refine S.skip ?_ | refine S.block ?_ | refine S.inBlock ?_ | refine S.exit rfl ?_ | refine S.regN ?_ | refine S.reg ?_ | refine S.drw hk.mo (by kernel_rfl) ?_ | (refine S.cond rfl (fun hc => ?_) (fun hc => ?_) <;> try simp only [HC] at hc) | refine S.retH hr rfl ?_ | refine S.finH hr rfl ?_ | (refine S.retK hr ?_; refine TR ?_) | fail)
    | ((first | with_reducible refine Ns.go ?_ | with_reducible refine XOs.go ?_ | with_reducible refine XDs.go ?_ | with_reducible refine OK.go ?_); (first | refine TT ?_ | (apply Ns.sc ⟨rfl, rfl⟩ rfl; intro hg) | (refine OK.tr ?_; refine TT ?_)); (try simp only [HC] at hg))
    | with_reducible exact rfl | exact ⟨rfl, rfl, rfl⟩
    | ((with_reducible refine Gd.go ?_); refine Gd.on (fun hg => ?_) (fun hg => ?_) <;> refine TG ?_ <;> (try simp only [HC] at hg))
    | ((with_reducible refine Fin.go ?_); first | (refine Fin.p ?_; first | exact FT | (try refine TT ?_; try simp only [LF])) | refine Fin.a0 ?_ | refine Fin.a ?_ | refine Fin.ni ?_ | refine Fin.v ?_ ?_ | refine Fin.r ?_ ?_ | exact Fin.th | (refine Fin.t ?_; try simp only [AV.sl.injEq]))
    | (refine And.go ?_; refine AndI ?_)
    | fail)
  all_goals (try clear ih); (try clear ih2); (try clear hr hk hB); (try dsimp only)
  all_goals first | rfl | omega | (simp_all; done) | (simp_all; omega) | (rw [Bool.eq_iff_iff]; simp_all; done) | (rw [Bool.eq_iff_iff]; simp_all; omega) | grind | (rw [Bool.eq_iff_iff]; grind)

/-- spec.l1In -/
def s_l1In.x : XCode :=
  (.seq
    (.reg [⟨(some 6), .mv, [.k (.bool false)], none⟩] [0, 1, 2])
    (.seq
      (.reg (flatNs none (nl [.op (some 7) .mv [.t 0], .op (some 8) .mv [.t 1], .op (some 9) (.bin .geq) [.t 7, .t 8], .op (some 10) .mv [.t 9], .sc 10 true (nl [.op (some 11) .mv [.t 0], .op (some 12) .mv [.t 2], .op (some 13) (.bin .leq) [.t 11, .t 12]]) (.t 13) (some 14), .op (some 6) .mv [.t 14]])) [6])
      .ret))
def s_l1In.F : Cfg := ⟨fun _ => 0, fun r => match r with | 0 => [0, 1, 2] | 1 => [6] | _ => []⟩
def s_l1In.X : FX := ⟨15, [.tmp 6], s_l1In.F, s_l1In.x⟩

theorem s_l1In.ok {P : Program} {k : Nat} (hk : Has P k (s_l1In.X)) : C_within P k := by
  intro a l h n H
  refine S.ofX hk rfl fun hB fn hr => ?_
  unfold s_l1In.x
  repeat' (first
    | ((with_reducible refine S.go ?_); first | refine S.seq ?_ | refine S.skip ?_ | refine S.block ?_ | refine S.inBlock ?_ | refine S.exit rfl ?_ | refine S.regN ?_ | refine S.reg ?_ | refine S.drw hk.mo (by kernel_rfl) ?_ | (refine S.cond rfl (fun hc => ?_) (fun hc => ?_) <;> try simp only [HC] at hc) | refine S.retH hr rfl ?_ | refine S.finH hr rfl ?_ | (refine S.retK hr ?_; refine TR ?_) | fail)
    | ((first | with_reducible refine Ns.go ?_ | with_reducible refine XOs.go ?_ | with_reducible refine XDs.go ?_ | with_reducible refine OK.go ?_); (first | refine TT ?_ | (apply Ns.sc ⟨rfl, rfl⟩ rfl; intro hg) | (refine OK.tr ?_; refine TT ?_)); (try simp only [HC] at hg))
    | with_reducible exact rfl | exact ⟨rfl, rfl, rfl⟩
    | ((with_reducible refine Gd.go ?_); refine Gd.on (fun hg => ?_) (fun hg => ?_) <;> refine TG ?_ <;> (try simp only [HC] at hg))
    | ((with_reducible refine Fin.go ?_); first | (refine Fin.p ?_; first | exact FT | (try refine TT ?_; try simp only [LF])) | refine Fin.a0 ?_ | refine Fin.a ?_ | refine Fin.ni ?_ | refine Fin.v ?_ ?_ | refine Fin.r ?_ ?_ | exact Fin.th | (refine Fin.t ?_; try simp only [AV.sl.injEq]))
    | (refine And.go ?_; refine AndI ?_)
    | fail)
  all_goals (try clear ih); (try clear ih2); (try clear hr hk hB); (try dsimp only)
  all_goals first | rfl | omega | (simp_all; done) | (simp_all; omega) | (rw [Bool.eq_iff_iff]; simp_all; done) | (rw [Bool.eq_iff_iff]; simp_all; omega) | grind | (rw [Bool.eq_iff_iff]; grind)

def C_indexByte (P : Program) (k : Nat) : Prop := ∀ (s : List UInt8) (c : UInt8), RunsF P k [.str s, .int .u8 (c.toNat : Int)] (.int .i64 (Lib.indexByte s c))
theorem indexByte_ok {P : Program} {f : FuncId} {fn : Func} (hf : P.funcs[f]? = some fn) (hb : fn.body.isNone = true) (hnm : (fn.name == "runtime.NumGoroutine") = false)
    (h1 : (Extern.findNext fn).isNone = true) (h2 : Extern.find fn = some Extern.BytealgIndexByte.indexByte) : C_indexByte P f := fun s c => by
  have h := Runs.indexByte hf hb hnm h1 h2 s (c.toNat : Int)
  rw [show ((c.toNat : Int).toNat.toUInt8) = c by simp] at h
  exact h
/-- stringslite.IndexByte -/
def stringslite_IndexByte.x (c_bytealg_IndexByteString : Nat) : XCode :=
  (.seq
    (.reg [⟨(some 4), .mv, [.k (.int .i64 0)], none⟩] [0, 1])
    (.seq
      (.reg [⟨(some 5), .mv, [.t 0], none⟩,
        ⟨(some 6), .mv, [.t 1], none⟩,
        ⟨(some 7), .call, [.k (.fn c_bytealg_IndexByteString []), .t 5, .t 6], none⟩,
        ⟨(some 4), .mv, [.t 7], none⟩] [4])
      .ret))
def stringslite_IndexByte.F : Cfg := ⟨fun _ => 0, fun r => match r with | 0 => [0, 1] | 1 => [4] | _ => []⟩
def stringslite_IndexByte.X (c_bytealg_IndexByteString : Nat) : FX := ⟨8, [.tmp 4], stringslite_IndexByte.F, stringslite_IndexByte.x c_bytealg_IndexByteString⟩

theorem stringslite_IndexByte.ok {P : Program} {k c_bytealg_IndexByteString : Nat} (hk : Has P k (stringslite_IndexByte.X c_bytealg_IndexByteString)) (h1 : C_indexByte P c_bytealg_IndexByteString) : C_indexByte P k := by
  intro s c n H
  refine S.ofX hk rfl fun hB fn hr => ?_
  unfold stringslite_IndexByte.x
  repeat' (first
    | ((with_reducible refine S.go ?_); first | refine S.seq ?_ | refine S.skip ?_ | refine S.block ?_ | refine S.inBlock ?_ | refine S.exit rfl ?_ | refine S.regN ?_ | refine S.reg ?_ | refine S.drw hk.mo (by kernel_rfl) ?_ | (refine S.cond rfl (fun hc => ?_) (fun hc => ?_) <;> try simp only [HC] at hc) | refine S.retH hr rfl ?_ | refine S.finH hr rfl ?_ | (refine S.retK hr ?_; refine TR ?_) | fail)
    | ((first | with_reducible refine Ns.go ?_ | with_reducible refine XOs.go ?_ | with_reducible refine XDs.go ?_ | with_reducible refine OK.go ?_); (first | refine TT ?_ | (apply Ns.sc ⟨rfl, rfl⟩ rfl; intro hg) | (refine OK.tr ?_; refine TT ?_)); (try simp only [HC] at hg))
    | with_reducible exact rfl | exact ⟨rfl, rfl, rfl⟩
    | ((with_reducible refine RunsT.go ?_); first | refine RunsF.apf (h1 _ _) rfl ?_ | fail)
    | ((with_reducible refine RunsD.go ?_); first | refine RunsF.apd (h1 _ _) rfl ?_ | fail)
    | ((with_reducible refine Gd.go ?_); refine Gd.on (fun hg => ?_) (fun hg => ?_) <;> refine TG ?_ <;> (try simp only [HC] at hg))
    | ((with_reducible refine Fin.go ?_); first | (refine Fin.p ?_; first | exact FT | (try refine TT ?_; try simp only [LF])) | refine Fin.a0 ?_ | refine Fin.a ?_ | refine Fin.ni ?_ | refine Fin.v ?_ ?_ | refine Fin.r ?_ ?_ | exact Fin.th | (refine Fin.t ?_; try simp only [AV.sl.injEq]))
    | (refine And.go ?_; refine AndI ?_)
    | fail)
  all_goals (try clear ih); (try clear ih2); (try clear hr hk hB); (try dsimp only)
  all_goals first | rfl | omega | (simp_all; done) | (simp_all; omega) | (rw [Bool.eq_iff_iff]; simp_all; done) | (rw [Bool.eq_iff_iff]; simp_all; omega) | grind | (rw [Bool.eq_iff_iff]; grind)
/-- strings.IndexByte -/
def strings_IndexByte.x (c_stringslite_IndexByte : Nat) : XCode :=
  (.seq
    (.reg [⟨(some 4), .mv, [.k (.int .i64 0)], none⟩] [0, 1])
    (.seq
      (.reg [⟨(some 5), .mv, [.t 0], none⟩,
        ⟨(some 6), .mv, [.t 1], none⟩,
        ⟨(some 7), .call, [.k (.fn c_stringslite_IndexByte []), .t 5, .t 6], none⟩,
        ⟨(some 4), .mv, [.t 7], none⟩] [4])
      .ret))
def strings_IndexByte.F : Cfg := ⟨fun _ => 0, fun r => match r with | 0 => [0, 1] | 1 => [4] | _ => []⟩
def strings_IndexByte.X (c_stringslite_IndexByte : Nat) : FX := ⟨8, [.tmp 4], strings_IndexByte.F, strings_IndexByte.x c_stringslite_IndexByte⟩

theorem strings_IndexByte.ok {P : Program} {k c_stringslite_IndexByte : Nat} (hk : Has P k (strings_IndexByte.X c_stringslite_IndexByte)) (h1 : C_indexByte P c_stringslite_IndexByte) : C_indexByte P k := by
  intro s c n H
  refine S.ofX hk rfl fun hB fn hr => ?_
  unfold strings_IndexByte.x
  repeat' (first
    | ((with_reducible refine S.go ?_); first | refine S.seq ?_ | refine S.skip ?_ | refine S.block ?_ | refine S.inBlock ?_ | refine S.exit rfl ?_ | refine S.regN ?_ | refine S.reg ?_ | refine S.drw hk.mo (by kernel_rfl) ?_ | (refine S.cond rfl (fun hc => ?_) (fun hc => ?_) <;> try simp only [HC] at hc) | refine S.retH hr rfl ?_ | refine S.finH hr rfl ?_ | (refine S.retK hr ?_; refine TR ?_) | fail)
    | ((first | with_reducible refine Ns.go ?_ | with_reducible refine XOs.go ?_ | with_reducible refine XDs.go ?_ | with_reducible refine OK.go ?_); (first | refine TT ?_ | (apply Ns.sc ⟨rfl, rfl⟩ rfl; intro hg) | (refine OK.tr ?_; refine TT ?_)); (try simp only [HC] at hg))
    | with_reducible exact rfl | exact ⟨rfl, rfl, rfl⟩
    | ((with_reducible refine RunsT.go ?_); first | refine RunsF.apf (h1 _ _) rfl ?_ | fail)
    | ((with_reducible refine RunsD.go ?_); first | refine RunsF.apd (h1 _ _) rfl ?_ | fail)
    | ((with_reducible refine Gd.go ?_); refine Gd.on (fun hg => ?_) (fun hg => ?_) <;> refine TG ?_ <;> (try simp only [HC] at hg))
    | ((with_reducible refine Fin.go ?_); first | (refine Fin.p ?_; first | exact FT | (try refine TT ?_; try simp only [LF])) | refine Fin.a0 ?_ | refine Fin.a ?_ | refine Fin.ni ?_ | refine Fin.v ?_ ?_ | refine Fin.r ?_ ?_ | exact Fin.th | (refine Fin.t ?_; try simp only [AV.sl.injEq]))
    | (refine And.go ?_; refine AndI ?_)
    | fail)
  all_goals (try clear ih); (try clear ih2); (try clear hr hk hB); (try dsimp only)
  all_goals first | rfl | omega | (simp_all; done) | (simp_all; omega) | (rw [Bool.eq_iff_iff]; simp_all; done) | (rw [Bool.eq_iff_iff]; simp_all; omega) | grind | (rw [Bool.eq_iff_iff]; grind)

def sounds : List UInt8 := [112, 116, 98, 100, 110, 97, 105]
/-- A byte is a sound. -/
def isSnd (c : UInt8) : Bool := sounds.contains c
def C_IsSound (P : Program) (k : Nat) : Prop := ∀ c : UInt8, RunsF P k [.int .u8 (c.toNat : Int)] (.bool (isSnd c))
/-- impl.IsSound -/
def i_IsSound.x (c_strings_IndexByte : Nat) : XCode :=
  (.seq
    (.reg [⟨(some 2), .mv, [.k (.bool false)], none⟩] [0])
    (.seq
      (.reg [⟨(some 3), .mv, [.t 0], none⟩,
        ⟨(some 4), .call, [.k (.fn c_strings_IndexByte []), .k (.str [112, 116, 98, 100, 110, 97, 105]), .t 3], none⟩,
        ⟨(some 5), (.bin .geq), [.t 4, .k (.int .i64 0)], none⟩,
        ⟨(some 2), .mv, [.t 5], none⟩] [2])
      .ret))
def i_IsSound.F : Cfg := ⟨fun _ => 0, fun r => match r with | 0 => [0] | 1 => [2] | _ => []⟩
def i_IsSound.X (c_strings_IndexByte : Nat) : FX := ⟨6, [.tmp 2], i_IsSound.F, i_IsSound.x c_strings_IndexByte⟩

theorem i_IsSound.ok {P : Program} {k c_strings_IndexByte : Nat} (hk : Has P k (i_IsSound.X c_strings_IndexByte)) (h1 : C_indexByte P c_strings_IndexByte) : C_IsSound P k := by
  intro c n H
  refine S.ofX hk rfl fun hB fn hr => ?_
  unfold i_IsSound.x
  repeat' (first
    | ((with_reducible refine S.go ?_); first | refine S.seq ?_ | refine S.skip ?_ | refine S.block ?_ | refine S.inBlock ?_ | refine S.exit rfl ?_ | refine S.regN ?_ | refine S.reg ?_ | refine S.drw hk.mo (by kernel_rfl) ?_ | (refine S.cond rfl (fun hc => ?_) (fun hc => ?_) <;> try simp only [HC] at hc) | refine S.retH hr rfl ?_ | refine S.finH hr rfl ?_ | (refine S.retK hr ?_; refine TR ?_) | fail)
    | ((first | with_reducible refine Ns.go ?_ | with_reducible refine XOs.go ?_ | with_reducible refine XDs.go ?_ | with_reducible refine OK.go ?_); (first | refine TT ?_ | (apply Ns.sc ⟨rfl, rfl⟩ rfl; intro hg) | (refine OK.tr ?_; refine TT ?_)); (try simp only [HC] at hg))
    | with_reducible exact rfl | exact ⟨rfl, rfl, rfl⟩
    | ((with_reducible refine RunsT.go ?_); first | refine RunsF.apf (h1 _ _) rfl ?_ | fail)
    | ((with_reducible refine RunsD.go ?_); first | refine RunsF.apd (h1 _ _) rfl ?_ | fail)
    | ((with_reducible refine Gd.go ?_); refine Gd.on (fun hg => ?_) (fun hg => ?_) <;> refine TG ?_ <;> (try simp only [HC] at hg))
    | ((with_reducible refine Fin.go ?_); first | (refine Fin.p ?_; first | exact FT | (try refine TT ?_; try simp only [LF])) | refine Fin.a0 ?_ | refine Fin.a ?_ | refine Fin.ni ?_ | refine Fin.v ?_ ?_ | refine Fin.r ?_ ?_ | exact Fin.th | (refine Fin.t ?_; try simp only [AV.sl.injEq]))
    | (refine And.go ?_; refine AndI ?_)
    | fail)
  all_goals (rw [isSnd, Lib.contains_iff_indexByte]; rfl)

/-- spec.IsSound -/
def s_IsSound.x : XCode :=
  (.seq
    (.reg [⟨(some 2), .mv, [.k (.bool false)], none⟩] [0])
    (.seq
      (.seq
        (.reg [⟨(some 3), .mv, [.k (.int .i64 0)], none⟩] [0, 3])
        (.block 0
          (.loop
            (.seq
              (.seq
                (.reg [⟨(some 4), .mv, [.t 3], none⟩,
                  ⟨(some 5), (.bin .lss), [.t 4, .k (.int .i64 7)], none⟩] [0, 3, 5])
                (.cond (.t 5)
                  .skip
                  (.exit 0)))
              (.seq
                (.block 1
                  (.seq
                    (.reg [⟨(some 8), .mv, [.t 3], none⟩,
                      ⟨(some 9), .idxS, [.k (.str [112, 116, 98, 100, 110, 97, 105]), .t 8], none⟩,
                      ⟨(some 10), .mv, [.t 0], none⟩,
                      ⟨(some 11), (.bin .eql), [.t 9, .t 10], none⟩] [0, 3, 11])
                    (.cond (.t 11)
                      (.seq
                        (.reg [⟨(some 2), .mv, [.k (.bool true)], none⟩] [2])
                        .ret)
                      .skip)))
                (.reg [⟨(some 6), .mv, [.t 3], none⟩,
                  ⟨(some 7), (.bin .add), [.t 6, .k (.int .i64 1)], none⟩,
                  ⟨(some 3), .mv, [.t 7], none⟩] [0, 3]))))))
      (.seq
        (.reg [⟨(some 2), .mv, [.k (.bool false)], none⟩] [2])
        .ret)))
def s_IsSound.F : Cfg := ⟨fun _ => 0, fun r => match r with | 0 => [0] | 1 => [0, 3] | 2 => [0, 3, 5] | 3 => [0, 3] | 4 => [0, 3, 11] | 5 => [2] | 6 => [2] | _ => []⟩
def s_IsSound.X : FX := ⟨12, [.tmp 2], s_IsSound.F, s_IsSound.x⟩

theorem s_IsSound.ok {P : Program} {k : Nat} (hk : Has P k (s_IsSound.X)) : C_IsSound P k := by
  intro c n H
  refine S.ofX hk rfl fun hB fn hr => ?_
  unfold s_IsSound.x
  repeat' (first
    | ((with_reducible refine S.go ?_); first | refine S.seq ?_ | refine S.skip ?_ | refine S.block ?_ | refine S.inBlock ?_ | refine S.exit rfl ?_ | refine S.regN ?_ | refine S.reg ?_ | refine S.drw hk.mo (by kernel_rfl) ?_ | (refine S.cond rfl (fun hc => ?_) (fun hc => ?_) <;> try simp only [HC] at hc) | refine S.retH hr rfl ?_ | refine S.finH hr rfl ?_ | (refine S.retK hr ?_; refine TR ?_) | fail)
    | ((first | with_reducible refine Ns.go ?_ | with_reducible refine XOs.go ?_ | with_reducible refine XDs.go ?_ | with_reducible refine OK.go ?_); (first | refine TT ?_ | (apply Ns.sc ⟨rfl, rfl⟩ rfl; intro hg) | (refine OK.tr ?_; refine TT ?_)); (try simp only [HC] at hg))
    | with_reducible exact rfl | exact ⟨rfl, rfl, rfl⟩
    | ((with_reducible refine Gd.go ?_); refine Gd.on (fun hg => ?_) (fun hg => ?_) <;> refine TG ?_ <;> (try simp only [HC] at hg))
    | ((with_reducible refine Fin.go ?_); first | (refine Fin.p ?_; first | exact FT | (try refine TT ?_; try simp only [LF])) | refine Fin.a0 ?_ | refine Fin.a ?_ | refine Fin.ni ?_ | refine Fin.v ?_ ?_ | refine Fin.r ?_ ?_ | exact Fin.th | (refine Fin.t ?_; try simp only [AV.sl.injEq]))
    | (refine And.go ?_; refine AndI ?_)
    | fail)
  refine S.loop (σ := Nat) (fun i => i ≤ 7 ∧ (sounds.drop i).contains c = sounds.contains c) (fun i => [(0, .int .u8 (c.toNat : Int)), (3, .int .i64 (i : Int))]) (fun _ => n) (fun _ => H) (fun i => 7 - i) 0 rfl ⟨by omega, rfl⟩ (Nat.le_refl _) (List.Sublist.refl _) ?_
  intro i hi ih
  obtain ⟨hi1, hi2⟩ := hi
  repeat' (first
    | ((with_reducible refine S.go ?_); first | refine S.seq ?_ | refine S.skip ?_ | refine S.block ?_ | refine S.inBlock ?_ | refine S.exit rfl ?_ | refine S.regN ?_ | refine S.reg ?_ | refine S.drw hk.mo (by kernel_rfl) ?_ | (refine S.cond rfl (fun hc => ?_) (fun hc => ?_) <;> try simp only [HC] at hc) | refine S.retH hr rfl ?_ | refine S.finH hr rfl ?_ | (refine S.retK hr ?_; refine TR ?_) | fail)
    | ((first | with_reducible refine Ns.go ?_ | with_reducible refine XOs.go ?_ | with_reducible refine XDs.go ?_ | with_reducible refine OK.go ?_); (first | refine TT ?_ | (apply Ns.sc ⟨rfl, rfl⟩ rfl; intro hg) | (refine OK.tr ?_; refine TT ?_)); (try simp only [HC] at hg))
    | with_reducible exact rfl | exact ⟨rfl, rfl, rfl⟩
    | (refine S.again (ih (i + 1) ?_ ?_) rfl (Nat.le_refl _) (List.Sublist.refl _))
    | ((with_reducible refine Gd.go ?_); refine Gd.on (fun hg => ?_) (fun hg => ?_) <;> refine TG ?_ <;> (try simp only [HC] at hg))
    | ((with_reducible refine Fin.go ?_); first | (refine Fin.p ?_; first | exact FT | (try refine TT ?_; try simp only [LF])) | refine Fin.a0 ?_ | refine Fin.a ?_ | refine Fin.ni ?_ | refine Fin.v ?_ ?_ | refine Fin.r ?_ ?_ | exact Fin.th | (refine Fin.t ?_; try simp only [AV.sl.injEq]))
    | (refine And.go ?_; refine AndI ?_)
    | fail)
  all_goals first | (have he : i = 7 := (by omega); subst he) | skip
  all_goals first | (have hs := getD_drop [112, 116, 98, 100, 110, 97, 105] i (0 : UInt8) (by omega)) | (have hs := getD_drop [112, 116, 98, 100, 110, 97, 105] i (0 : UInt8) (by simp only [List.length_cons, List.length_nil]; omega)) | skip
  all_goals (try clear ih); (try clear ih2); (try clear hr hk hB); (try dsimp only)
  all_goals (try simp only [sounds, isSnd] at *)
  all_goals first | rfl | omega | (simp_all; done) | (simp_all; omega) | (rw [Bool.eq_iff_iff]; simp_all; done) | (rw [Bool.eq_iff_iff]; simp_all; omega) | grind | (rw [Bool.eq_iff_iff]; grind)

/-- Sounds only, at most 20. -/
def sndS (s : List UInt8) : Bool := s.all isSnd && decide (s.length ≤ 20)
def C_l2Sounds (P : Program) (k : Nat) : Prop := ∀ s : List UInt8, s.length ≤ 4294967296 → RunsF P k [.str s] (.bool (sndS s))
/-- spec.l2Sounds -/
def s_l2Sounds.x (c_s_IsSound : Nat) : XCode :=
  (.seq
    (.reg [⟨(some 2), .mv, [.k (.bool false)], none⟩] [0])
    (.seq
      (.seq
        (.reg [⟨(some 3), .mv, [.k (.int .i64 0)], none⟩] [0, 3])
        (.block 0
          (.loop
            (.seq
              (.seq
                (.reg [⟨(some 4), .mv, [.t 3], none⟩,
                  ⟨(some 5), .mv, [.t 0], none⟩,
                  ⟨(some 6), .lenS, [.t 5], none⟩,
                  ⟨(some 7), (.bin .lss), [.t 4, .t 6], none⟩] [0, 3, 7])
                (.cond (.t 7)
                  .skip
                  (.exit 0)))
              (.seq
                (.block 1
                  (.seq
                    (.reg [⟨(some 10), .mv, [.t 0], none⟩,
                      ⟨(some 11), .mv, [.t 3], none⟩,
                      ⟨(some 12), .idxS, [.t 10, .t 11], none⟩,
                      ⟨(some 13), .call, [.k (.fn c_s_IsSound []), .t 12], none⟩,
                      ⟨(some 14), (.un .not), [.t 13], none⟩] [0, 3, 14])
                    (.cond (.t 14)
                      (.seq
                        (.reg [⟨(some 2), .mv, [.k (.bool false)], none⟩] [2])
                        .ret)
                      .skip)))
                (.reg [⟨(some 8), .mv, [.t 3], none⟩,
                  ⟨(some 9), (.bin .add), [.t 8, .k (.int .i64 1)], none⟩,
                  ⟨(some 3), .mv, [.t 9], none⟩] [0, 3]))))))
      (.seq
        (.reg [⟨(some 15), .mv, [.t 0], none⟩,
          ⟨(some 16), .lenS, [.t 15], none⟩,
          ⟨(some 17), (.bin .leq), [.t 16, .k (.int .i64 20)], none⟩,
          ⟨(some 2), .mv, [.t 17], none⟩] [2])
        .ret)))
def s_l2Sounds.F : Cfg := ⟨fun _ => 0, fun r => match r with | 0 => [0] | 1 => [0, 3] | 2 => [0, 3, 7] | 3 => [0, 3] | 4 => [0, 3, 14] | 5 => [2] | 6 => [2] | _ => []⟩
def s_l2Sounds.X (c_s_IsSound : Nat) : FX := ⟨18, [.tmp 2], s_l2Sounds.F, s_l2Sounds.x c_s_IsSound⟩

theorem s_l2Sounds.ok {P : Program} {k c_s_IsSound : Nat} (hk : Has P k (s_l2Sounds.X c_s_IsSound)) (h1 : C_IsSound P c_s_IsSound) : C_l2Sounds P k := by
  intro s hs n H
  refine S.ofX hk rfl fun hB fn hr => ?_
  unfold s_l2Sounds.x
  repeat' (first
    | ((with_reducible refine S.go ?_); first | refine S.seq ?_ | refine S.skip ?_ | refine S.block ?_ | refine S.inBlock ?_ | refine S.exit rfl ?_ | refine S.regN ?_ | refine S.reg ?_ | refine S.drw hk.mo (by kernel_rfl) ?_ | (refine S.cond rfl (fun hc => ?_) (fun hc => ?_) <;> try simp only [HC] at hc) | refine S.retH hr rfl ?_ | refine S.finH hr rfl ?_ | (refine S.retK hr ?_; refine TR ?_) | fail)
    | ((first | with_reducible refine Ns.go ?_ | with_reducible refine XOs.go ?_ | with_reducible refine XDs.go ?_ | with_reducible refine OK.go ?_); (first | refine TT ?_ | (apply Ns.sc ⟨rfl, rfl⟩ rfl; intro hg) | (refine OK.tr ?_; refine TT ?_)); (try simp only [HC] at hg))
    | with_reducible exact rfl | exact ⟨rfl, rfl, rfl⟩
    | ((with_reducible refine Gd.go ?_); refine Gd.on (fun hg => ?_) (fun hg => ?_) <;> refine TG ?_ <;> (try simp only [HC] at hg))
    | ((with_reducible refine Fin.go ?_); first | (refine Fin.p ?_; first | exact FT | (try refine TT ?_; try simp only [LF])) | refine Fin.a0 ?_ | refine Fin.a ?_ | refine Fin.ni ?_ | refine Fin.v ?_ ?_ | refine Fin.r ?_ ?_ | exact Fin.th | (refine Fin.t ?_; try simp only [AV.sl.injEq]))
    | (refine And.go ?_; refine AndI ?_)
    | fail)
  refine S.loop (σ := Nat) (fun i => i ≤ s.length ∧ (s.drop i).all isSnd = s.all isSnd) (fun i => [(0, .str s), (3, .int .i64 (i : Int))]) (fun _ => n) (fun _ => H) (fun i => s.length - i) 0 rfl ⟨by omega, rfl⟩ (Nat.le_refl _) (List.Sublist.refl _) ?_
  intro i hi ih
  obtain ⟨hi1, hi2⟩ := hi
  repeat' (first
    | ((with_reducible refine S.go ?_); first | refine S.seq ?_ | refine S.skip ?_ | refine S.block ?_ | refine S.inBlock ?_ | refine S.exit rfl ?_ | refine S.regN ?_ | refine S.reg ?_ | refine S.drw hk.mo (by kernel_rfl) ?_ | (refine S.cond rfl (fun hc => ?_) (fun hc => ?_) <;> try simp only [HC] at hc) | refine S.retH hr rfl ?_ | refine S.finH hr rfl ?_ | (refine S.retK hr ?_; refine TR ?_) | fail)
    | ((first | with_reducible refine Ns.go ?_ | with_reducible refine XOs.go ?_ | with_reducible refine XDs.go ?_ | with_reducible refine OK.go ?_); (first | refine TT ?_ | (apply Ns.sc ⟨rfl, rfl⟩ rfl; intro hg) | (refine OK.tr ?_; refine TT ?_)); (try simp only [HC] at hg))
    | with_reducible exact rfl | exact ⟨rfl, rfl, rfl⟩
    | ((with_reducible refine RunsT.go ?_); first | refine RunsF.apf (h1 _) rfl ?_ | fail)
    | ((with_reducible refine RunsD.go ?_); first | refine RunsF.apd (h1 _) rfl ?_ | fail)
    | (refine S.again (ih (i + 1) ?_ ?_) rfl (Nat.le_refl _) (List.Sublist.refl _))
    | ((with_reducible refine Gd.go ?_); refine Gd.on (fun hg => ?_) (fun hg => ?_) <;> refine TG ?_ <;> (try simp only [HC] at hg))
    | ((with_reducible refine Fin.go ?_); first | (refine Fin.p ?_; first | exact FT | (try refine TT ?_; try simp only [LF])) | refine Fin.a0 ?_ | refine Fin.a ?_ | refine Fin.ni ?_ | refine Fin.v ?_ ?_ | refine Fin.r ?_ ?_ | exact Fin.th | (refine Fin.t ?_; try simp only [AV.sl.injEq]))
    | (refine And.go ?_; refine AndI ?_)
    | fail)
  all_goals first | (have he : i = s.length := (by omega); subst he) | skip
  all_goals first | (have hs := getD_drop s i 0 (by omega)) | (have hs := getD_drop s i 0 (by simp only [List.length_cons, List.length_nil]; omega)) | skip
  all_goals (try clear ih); (try clear ih2); (try clear hr hk hB); (try dsimp only)
  all_goals (try simp only [sndS] at *)
  all_goals first | rfl | omega | (simp_all; done) | (simp_all; omega) | (rw [Bool.eq_iff_iff]; simp_all; done) | (rw [Bool.eq_iff_iff]; simp_all; omega) | grind | (rw [Bool.eq_iff_iff]; grind)

def C_areSounds (P : Program) (k : Nat) : Prop := ∀ s : List UInt8, s.length ≤ 4294967296 → RunsF P k [.str s] (.bool (sndS s && decide (0 < s.length)))
/-- impl.areSounds -/
def i_areSounds.x (c_i_IsSound c_i_within : Nat) : XCode :=
  (.seq
    (.reg [⟨(some 2), .mv, [.k (.bool false)], none⟩] [0])
    (.seq
      (.seq
        (.reg [⟨(some 4), .mv, [.t 0], none⟩,
          ⟨(some 5), .lenS, [.t 4], none⟩,
          ⟨(some 6), .mv, [.k (.int .i64 0)], none⟩] [0, 5, 6])
        (.block 0
          (.loop
            (.seq
              (.reg [⟨(some 7), (.bin .lss), [.t 6, .t 5], none⟩] [0, 5, 6, 7])
              (.seq
                (.cond (.t 7)
                  .skip
                  (.exit 0))
                (.seq
                  (.block 1
                    (.seq
                      (.reg [⟨(some 8), .mv, [.t 6], none⟩,
                        ⟨(some 3), .mv, [.t 8], none⟩] [0, 3, 5, 6])
                      (.seq
                        (.reg [⟨(some 9), .mv, [.t 0], none⟩,
                          ⟨(some 10), .mv, [.t 3], none⟩,
                          ⟨(some 11), .idxS, [.t 9, .t 10], none⟩,
                          ⟨(some 12), .call, [.k (.fn c_i_IsSound []), .t 11], none⟩,
                          ⟨(some 13), (.un .not), [.t 12], none⟩] [0, 5, 6, 13])
                        (.cond (.t 13)
                          (.seq
                            (.reg [⟨(some 2), .mv, [.k (.bool false)], none⟩] [2])
                            .ret)
                          .skip))))
                  (.reg [⟨(some 14), (.bin .add), [.t 6, .k (.int .i64 1)], none⟩,
                    ⟨(some 6), .mv, [.t 14], none⟩] [0, 5, 6])))))))
      (.seq
        (.reg [⟨(some 15), .mv, [.t 0], none⟩,
          ⟨(some 16), .lenS, [.t 15], none⟩,
          ⟨(some 17), .call, [.k (.fn c_i_within []), .t 16, .k (.int .i64 1), .k (.int .i64 20)], none⟩,
          ⟨(some 2), .mv, [.t 17], none⟩] [2])
        .ret)))
def i_areSounds.F : Cfg := ⟨fun _ => 0, fun r => match r with | 0 => [0] | 1 => [0, 5, 6] | 2 => [0, 5, 6, 7] | 3 => [0, 3, 5, 6] | 4 => [0, 5, 6, 13] | 5 => [2] | 6 => [0, 5, 6] | 7 => [2] | _ => []⟩
def i_areSounds.X (c_i_IsSound c_i_within : Nat) : FX := ⟨18, [.tmp 2], i_areSounds.F, i_areSounds.x c_i_IsSound c_i_within⟩

theorem i_areSounds.ok {P : Program} {k c_i_IsSound c_i_within : Nat} (hk : Has P k (i_areSounds.X c_i_IsSound c_i_within)) (h1 : C_IsSound P c_i_IsSound) (h2 : C_within P c_i_within) : C_areSounds P k := by
  intro s hs n H
  refine S.ofX hk rfl fun hB fn hr => ?_
  unfold i_areSounds.x
  repeat' (first
    | ((with_reducible refine S.go ?_); first | refine S.seq ?_ | refine S.skip ?_ | refine S.block ?_ | refine S.inBlock ?_ | refine S.exit rfl ?_ | refine S.regN ?_ | refine S.reg ?_ | refine S.drw hk.mo (by kernel_rfl) ?_ | (refine S.cond rfl (fun hc => ?_) (fun hc => ?_) <;> try simp only [HC] at hc) | refine S.retH hr rfl ?_ | refine S.finH hr rfl ?_ | (refine S.retK hr ?_; refine TR ?_) | fail)
    | ((first | with_reducible refine Ns.go ?_ | with_reducible refine XOs.go ?_ | with_reducible refine XDs.go ?_ | with_reducible refine OK.go ?_); (first | refine TT ?_ | (apply Ns.sc ⟨rfl, rfl⟩ rfl; intro hg) | (refine OK.tr ?_; refine TT ?_)); (try simp only [HC] at hg))
    | with_reducible exact rfl | exact ⟨rfl, rfl, rfl⟩
    | ((with_reducible refine Gd.go ?_); refine Gd.on (fun hg => ?_) (fun hg => ?_) <;> refine TG ?_ <;> (try simp only [HC] at hg))
    | ((with_reducible refine Fin.go ?_); first | (refine Fin.p ?_; first | exact FT | (try refine TT ?_; try simp only [LF])) | refine Fin.a0 ?_ | refine Fin.a ?_ | refine Fin.ni ?_ | refine Fin.v ?_ ?_ | refine Fin.r ?_ ?_ | exact Fin.th | (refine Fin.t ?_; try simp only [AV.sl.injEq]))
    | (refine And.go ?_; refine AndI ?_)
    | fail)
  refine S.loop (σ := Nat) (fun i => i ≤ s.length ∧ (s.drop i).all isSnd = s.all isSnd) (fun i => [(0, .str s), (5, .int .i64 (s.length : Int)), (6, .int .i64 (i : Int))]) (fun _ => n) (fun _ => H) (fun i => s.length - i) 0 rfl ⟨by omega, rfl⟩ (Nat.le_refl _) (List.Sublist.refl _) ?_
  intro i hi ih
  obtain ⟨hi1, hi2⟩ := hi
  repeat' (first
    | ((with_reducible refine S.go ?_); first | refine S.seq ?_ | refine S.skip ?_ | refine S.block ?_ | refine S.inBlock ?_ | refine S.exit rfl ?_ | refine S.regN ?_ | refine S.reg ?_ | refine S.drw hk.mo (by kernel_rfl) ?_ | (refine S.cond rfl (fun hc => ?_) (fun hc => ?_) <;> try simp only [HC] at hc) | refine S.retH hr rfl ?_ | refine S.finH hr rfl ?_ | (refine S.retK hr ?_; refine TR ?_) | fail)
    | ((first | with_reducible refine Ns.go ?_ | with_reducible refine XOs.go ?_ | with_reducible refine XDs.go ?_ | with_reducible refine OK.go ?_); (first | refine TT ?_ | (apply Ns.sc ⟨rfl, rfl⟩ rfl; intro hg) | (refine OK.tr ?_; refine TT ?_)); (try simp only [HC] at hg))
    | with_reducible exact rfl | exact ⟨rfl, rfl, rfl⟩
    | ((with_reducible refine RunsT.go ?_); first | refine RunsF.apf (h1 _) rfl ?_ | refine RunsF.apf (h2 _ _ _) rfl ?_ | fail)
    | ((with_reducible refine RunsD.go ?_); first | refine RunsF.apd (h1 _) rfl ?_ | refine RunsF.apd (h2 _ _ _) rfl ?_ | fail)
    | (refine S.again (ih (i + 1) ?_ ?_) rfl (Nat.le_refl _) (List.Sublist.refl _))
    | ((with_reducible refine Gd.go ?_); refine Gd.on (fun hg => ?_) (fun hg => ?_) <;> refine TG ?_ <;> (try simp only [HC] at hg))
    | ((with_reducible refine Fin.go ?_); first | (refine Fin.p ?_; first | exact FT | (try refine TT ?_; try simp only [LF])) | refine Fin.a0 ?_ | refine Fin.a ?_ | refine Fin.ni ?_ | refine Fin.v ?_ ?_ | refine Fin.r ?_ ?_ | exact Fin.th | (refine Fin.t ?_; try simp only [AV.sl.injEq]))
    | (refine And.go ?_; refine AndI ?_)
    | fail)
  all_goals first | (have he : i = s.length := (by omega); subst he) | skip
  all_goals first | (have hs := getD_drop s i 0 (by omega)) | (have hs := getD_drop s i 0 (by simp only [List.length_cons, List.length_nil]; omega)) | skip
  all_goals (try clear ih); (try clear ih2); (try clear hr hk hB); (try dsimp only)
  all_goals (try simp only [sndS] at *)
  all_goals first | rfl | omega | (simp_all; done) | (simp_all; omega) | (rw [Bool.eq_iff_iff]; simp_all; done) | (rw [Bool.eq_iff_iff]; simp_all; omega) | grind | (rw [Bool.eq_iff_iff]; grind)

/-- A form: at most eight sounds. -/
def isForm (s : List UInt8) : Bool := s.all isSnd && decide (s.length ≤ 8)
def C_IsForm (P : Program) (k : Nat) : Prop := ∀ s : List UInt8, s.length ≤ 4294967296 → RunsF P k [.str s] (.bool (isForm s))
/-- spec.IsForm -/
def s_IsForm.x (c_s_l2Sounds : Nat) : XCode :=
  (.seq
    (.reg [⟨(some 2), .mv, [.k (.bool false)], none⟩] [0])
    (.seq
      (.reg (flatNs none (nl [.op (some 3) .mv [.t 0], .op (some 4) .call [.k (.fn c_s_l2Sounds []), .t 3], .op (some 5) .mv [.t 4], .sc 5 true (nl [.op (some 6) .mv [.t 0], .op (some 7) .lenS [.t 6], .op (some 8) (.bin .leq) [.t 7, .k (.int .i64 8)]]) (.t 8) (some 9), .op (some 2) .mv [.t 9]])) [2])
      .ret))
def s_IsForm.F : Cfg := ⟨fun _ => 0, fun r => match r with | 0 => [0] | 1 => [2] | _ => []⟩
def s_IsForm.X (c_s_l2Sounds : Nat) : FX := ⟨10, [.tmp 2], s_IsForm.F, s_IsForm.x c_s_l2Sounds⟩

theorem s_IsForm.ok {P : Program} {k c_s_l2Sounds : Nat} (hk : Has P k (s_IsForm.X c_s_l2Sounds)) (h1 : C_l2Sounds P c_s_l2Sounds) : C_IsForm P k := by
  intro s hs n H
  refine S.ofX hk rfl fun hB fn hr => ?_
  unfold s_IsForm.x
  repeat' (first
    | ((with_reducible refine S.go ?_); first | refine S.seq ?_ | refine S.skip ?_ | refine S.block ?_ | refine S.inBlock ?_ | refine S.exit rfl ?_ | refine S.regN ?_ | refine S.reg ?_ | refine S.drw hk.mo (by kernel_rfl) ?_ | (refine S.cond rfl (fun hc => ?_) (fun hc => ?_) <;> try simp only [HC] at hc) | refine S.retH hr rfl ?_ | refine S.finH hr rfl ?_ | (refine S.retK hr ?_; refine TR ?_) | fail)
    | ((first | with_reducible refine Ns.go ?_ | with_reducible refine XOs.go ?_ | with_reducible refine XDs.go ?_ | with_reducible refine OK.go ?_); (first | refine TT ?_ | (apply Ns.sc ⟨rfl, rfl⟩ rfl; intro hg) | (refine OK.tr ?_; refine TT ?_)); (try simp only [HC] at hg))
    | with_reducible exact rfl | exact ⟨rfl, rfl, rfl⟩
    | ((with_reducible refine RunsT.go ?_); first | refine RunsF.apf (h1 _ hs) rfl ?_ | fail)
    | ((with_reducible refine RunsD.go ?_); first | refine RunsF.apd (h1 _ hs) rfl ?_ | fail)
    | ((with_reducible refine Gd.go ?_); refine Gd.on (fun hg => ?_) (fun hg => ?_) <;> refine TG ?_ <;> (try simp only [HC] at hg))
    | ((with_reducible refine Fin.go ?_); first | (refine Fin.p ?_; first | exact FT | (try refine TT ?_; try simp only [LF])) | refine Fin.a0 ?_ | refine Fin.a ?_ | refine Fin.ni ?_ | refine Fin.v ?_ ?_ | refine Fin.r ?_ ?_ | exact Fin.th | (refine Fin.t ?_; try simp only [AV.sl.injEq]))
    | (refine And.go ?_; refine AndI ?_)
    | fail)
  all_goals (try clear ih); (try clear ih2); (try clear hr hk hB); (try dsimp only)
  all_goals (try simp only [sndS, isForm] at *)
  all_goals first | rfl | omega | (simp_all; done) | (simp_all; omega) | (rw [Bool.eq_iff_iff]; simp_all; done) | (rw [Bool.eq_iff_iff]; simp_all; omega) | grind | (rw [Bool.eq_iff_iff]; grind)
/-- impl.IsForm -/
def i_IsForm.x (c_i_areSounds : Nat) : XCode :=
  (.seq
    (.reg [⟨(some 2), .mv, [.k (.bool false)], none⟩] [0])
    (.seq
      (.reg (flatNs none (nl [.op (some 3) .mv [.t 0], .op (some 4) (.bin .eql) [.t 3, .k (.str [])], .op (some 5) .mv [.t 4], .sc 5 false (nl [.op (some 6) .mv [.t 0], .op (some 7) .lenS [.t 6], .op (some 8) (.bin .leq) [.t 7, .k (.int .i64 8)], .op (some 9) .mv [.t 8], .sc 9 true (nl [.op (some 10) .mv [.t 0], .op (some 11) .call [.k (.fn c_i_areSounds []), .t 10]]) (.t 11) (some 12)]) (.t 12) (some 13), .op (some 2) .mv [.t 13]])) [2])
      .ret))
def i_IsForm.F : Cfg := ⟨fun _ => 0, fun r => match r with | 0 => [0] | 1 => [2] | _ => []⟩
def i_IsForm.X (c_i_areSounds : Nat) : FX := ⟨14, [.tmp 2], i_IsForm.F, i_IsForm.x c_i_areSounds⟩

theorem i_IsForm.ok {P : Program} {k c_i_areSounds : Nat} (hk : Has P k (i_IsForm.X c_i_areSounds)) (h1 : C_areSounds P c_i_areSounds) : C_IsForm P k := by
  intro s hs n H
  refine S.ofX hk rfl fun hB fn hr => ?_
  unfold i_IsForm.x
  repeat' (first
    | ((with_reducible refine S.go ?_); first | refine S.seq ?_ | refine S.skip ?_ | refine S.block ?_ | refine S.inBlock ?_ | refine S.exit rfl ?_ | refine S.regN ?_ | refine S.reg ?_ | refine S.drw hk.mo (by kernel_rfl) ?_ | (refine S.cond rfl (fun hc => ?_) (fun hc => ?_) <;> try simp only [HC] at hc) | refine S.retH hr rfl ?_ | refine S.finH hr rfl ?_ | (refine S.retK hr ?_; refine TR ?_) | fail)
    | ((first | with_reducible refine Ns.go ?_ | with_reducible refine XOs.go ?_ | with_reducible refine XDs.go ?_ | with_reducible refine OK.go ?_); (first | refine TT ?_ | (apply Ns.sc ⟨rfl, rfl⟩ rfl; intro hg) | (refine OK.tr ?_; refine TT ?_)); (try simp only [HC] at hg))
    | with_reducible exact rfl | exact ⟨rfl, rfl, rfl⟩
    | ((with_reducible refine RunsT.go ?_); first | refine RunsF.apf (h1 _ hs) rfl ?_ | fail)
    | ((with_reducible refine RunsD.go ?_); first | refine RunsF.apd (h1 _ hs) rfl ?_ | fail)
    | ((with_reducible refine Gd.go ?_); refine Gd.on (fun hg => ?_) (fun hg => ?_) <;> refine TG ?_ <;> (try simp only [HC] at hg))
    | ((with_reducible refine Fin.go ?_); first | (refine Fin.p ?_; first | exact FT | (try refine TT ?_; try simp only [LF])) | refine Fin.a0 ?_ | refine Fin.a ?_ | refine Fin.ni ?_ | refine Fin.v ?_ ?_ | refine Fin.r ?_ ?_ | exact Fin.th | (refine Fin.t ?_; try simp only [AV.sl.injEq]))
    | (refine And.go ?_; refine AndI ?_)
    | fail)
  all_goals (try clear ih); (try clear ih2); (try clear hr hk hB); (try dsimp only)
  all_goals (try simp only [sndS, isForm] at *)
  all_goals first | rfl | omega | (simp_all; done) | (simp_all; omega) | (rw [Bool.eq_iff_iff]; simp_all; done) | (rw [Bool.eq_iff_iff]; simp_all; omega) | grind | (rw [Bool.eq_iff_iff]; grind)

/-- A paradigm: alone and before. -/
def isPara (a b : List UInt8) : Bool := isForm a && isForm b && decide (a.length ≤ 3) && decide (1 ≤ b.length) && decide (b.length ≤ 4) && b.getD (b.length - 1) 0 == 97
def C_IsParadigm (P : Program) (k : Nat) : Prop := ∀ a b : List UInt8, a.length ≤ 4294967296 → b.length ≤ 4294967296 → RunsF P k [.agg [.str a, .str b]] (.bool (isPara a b))
def C_IsAlternating (P : Program) (k : Nat) : Prop := ∀ a b : List UInt8, a.length ≤ 4294967296 → b.length ≤ 4294967296 → RunsF P k [.agg [.str a, .str b]] (.bool (isPara a b && !(b == a ++ [97])))
end Go.Lib01
end
section
namespace Go.Lib02
open Go.Ab Go.Lib01
set_option linter.unusedVariables false
set_option linter.unusedSimpArgs false
set_option maxRecDepth 2000

/-- What is left of a size. -/
def szTwo (a b : List UInt8) (l : Int) : Int := if l - a.length < 0 then -1 else if l - a.length - b.length < 0 then -1 else l - a.length - b.length
def C_szParadigm (P : Program) (k : Nat) : Prop := ∀ (a b : List UInt8) (l : Int), a.length ≤ 9223372036854775807 → b.length ≤ 9223372036854775807 → -1 ≤ l → l ≤ 1048576 → RunsF P k [.agg [.str a, .str b], .int .i64 l] (.int .i64 (szTwo a b l))
def C_toParadigm (P : Program) (k : Nat) : Prop := ∀ (a b : List UInt8), RunsF P k [.agg [.str a, .str b]] (.agg [.str a, .str b])
theorem szTwo_le {a b : List UInt8} {l : Int} (h : 0 ≤ szTwo a b l) : a.length + b.length ≤ l := by
  unfold szTwo at h
  split at h
  · omega
  · split at h <;> omega
def C_lawPara (P : Program) (k : Nat) : Prop := ∀ (a b : List UInt8), a.length ≤ 9223372036854775807 → b.length ≤ 9223372036854775807 → RunsF P k [.agg [.str a, .str b]] (.bool true)
end Go.Lib02
end
section
namespace Go.Lib03
open Go.Ab Go.Lib01
set_option linter.unusedVariables false
set_option linter.unusedSimpArgs false
set_option maxRecDepth 2000

/-- The place of the first one, or -1. -/
def idxL {α : Type} [BEq α] : List α → α → Int
  | [], _ => -1
  | x :: xs, s => if s == x then 0 else if idxL xs s < 0 then -1 else idxL xs s + 1
theorem idxL_has (l : List (List UInt8)) (s : List UInt8) : decide (0 ≤ idxL l s) = l.contains s := by
  induction l with
  | nil => rfl
  | cons x xs ih =>
    rw [List.contains_cons, ← ih]
    rw [idxL]
    by_cases h : s = x
    · simp [h]
    · have hb : (s == x) = false := by simpa using h
      rw [hb]
      simp only [Bool.false_or, Bool.false_eq_true, if_false]
      by_cases h2 : idxL xs s < 0
      · rw [if_pos h2, decide_eq_false (by omega), decide_eq_false (by omega)]
      · rw [if_neg h2, decide_eq_true (by omega), decide_eq_true (by omega)]
theorem idxL_ge {α : Type} [BEq α] (l : List α) (s : α) : -1 ≤ idxL l s ∧ idxL l s < l.length := by
  induction l with
  | nil => simp [idxL]
  | cons x xs ih =>
    unfold idxL
    simp only [List.length_cons]
    split
    · omega
    · split <;> omega

def C_has (P : Program) (k : Nat) : Prop := ∀ (l : List (List UInt8)) (s : List UInt8), l.length ≤ 4294967296 → RunsF P k [.sl (strs l), .str s] (.bool (l.contains s))
/-- spec.l3Has -/
def s_l3Has.x : XCode :=
  (.seq
    (.reg [⟨(some 4), .mv, [.k (.bool false)], none⟩] [0, 1])
    (.seq
      (.seq
        (.reg [⟨(some 5), .mv, [.k (.int .i64 0)], none⟩] [0, 1, 5])
        (.block 0
          (.loop
            (.seq
              (.seq
                (.reg [⟨(some 6), .mv, [.t 5], none⟩,
                  ⟨(some 7), .mv, [.t 0], none⟩,
                  ⟨(some 8), .lenL, [.t 7], none⟩,
                  ⟨(some 9), (.bin .lss), [.t 6, .t 8], none⟩] [0, 1, 5, 9])
                (.cond (.t 9)
                  .skip
                  (.exit 0)))
              (.seq
                (.block 1
                  (.seq
                    (.reg [⟨(some 12), .mv, [.t 0], none⟩,
                      ⟨(some 13), .mv, [.t 5], none⟩,
                      ⟨(some 14), (.idxA 1), [.t 12, .t 13], none⟩,
                      ⟨(some 15), (.ld none), [.t 14], none⟩,
                      ⟨(some 16), .mv, [.t 1], none⟩,
                      ⟨(some 17), (.bin .eql), [.t 15, .t 16], none⟩] [0, 1, 5, 17])
                    (.cond (.t 17)
                      (.seq
                        (.reg [⟨(some 4), .mv, [.k (.bool true)], none⟩] [4])
                        .ret)
                      .skip)))
                (.reg [⟨(some 10), .mv, [.t 5], none⟩,
                  ⟨(some 11), (.bin .add), [.t 10, .k (.int .i64 1)], none⟩,
                  ⟨(some 5), .mv, [.t 11], none⟩] [0, 1, 5]))))))
      (.seq
        (.reg [⟨(some 4), .mv, [.k (.bool false)], none⟩] [4])
        .ret)))
def s_l3Has.F : Cfg := ⟨fun _ => 0, fun r => match r with | 0 => [0, 1] | 1 => [0, 1, 5] | 2 => [0, 1, 5, 9] | 3 => [0, 1, 5] | 4 => [0, 1, 5, 17] | 5 => [4] | 6 => [4] | _ => []⟩
def s_l3Has.X : FX := ⟨18, [.tmp 4], s_l3Has.F, s_l3Has.x⟩

theorem s_l3Has.ok {P : Program} {k : Nat} (hk : Has P k (s_l3Has.X)) : C_has P k := by
  intro l s hl n H
  refine S.ofX hk rfl fun hB fn hr => ?_
  unfold s_l3Has.x
  repeat' (first
    | ((with_reducible refine S.go ?_); first | refine S.seq ?_ | refine S.skip ?_ | refine S.block ?_ | refine S.inBlock ?_ | refine S.exit rfl ?_ | refine S.regN ?_ | refine S.reg ?_ | refine S.drw hk.mo (by kernel_rfl) ?_ | (refine S.cond rfl (fun hc => ?_) (fun hc => ?_) <;> try simp only [HC] at hc) | refine S.retH hr rfl ?_ | refine S.finH hr rfl ?_ | (refine S.retK hr ?_; refine TR ?_) | fail)
    | ((first | with_reducible refine Ns.go ?_ | with_reducible refine XOs.go ?_ | with_reducible refine XDs.go ?_ | with_reducible refine OK.go ?_); (first | refine TT ?_ | (apply Ns.sc ⟨rfl, rfl⟩ rfl; intro hg) | (refine OK.tr ?_; refine TT ?_)); (try simp only [HC] at hg))
    | with_reducible exact rfl | exact ⟨rfl, rfl, rfl⟩
    | ((with_reducible refine Gd.go ?_); refine Gd.on (fun hg => ?_) (fun hg => ?_) <;> refine TG ?_ <;> (try simp only [HC] at hg))
    | ((with_reducible refine Fin.go ?_); first | (refine Fin.p ?_; first | exact FT | (try refine TT ?_; try simp only [LF])) | refine Fin.a0 ?_ | refine Fin.a ?_ | refine Fin.ni ?_ | refine Fin.v ?_ ?_ | refine Fin.r ?_ ?_ | exact Fin.th | (refine Fin.t ?_; try simp only [AV.sl.injEq]))
    | (refine And.go ?_; refine AndI ?_)
    | fail)
  refine S.loop (σ := Nat) (fun i => i ≤ l.length ∧ (l.drop i).contains s = l.contains s) (fun i => [(0, .sl (strs l)), (1, .str s), (5, .int .i64 (i : Int))]) (fun _ => n) (fun _ => H) (fun i => l.length - i) 0 rfl ⟨by omega, rfl⟩ (Nat.le_refl _) (List.Sublist.refl _) ?_
  intro i hi ih
  obtain ⟨hi1, hi2⟩ := hi
  repeat' (first
    | ((with_reducible refine S.go ?_); first | refine S.seq ?_ | refine S.skip ?_ | refine S.block ?_ | refine S.inBlock ?_ | refine S.exit rfl ?_ | refine S.regN ?_ | refine S.reg ?_ | refine S.drw hk.mo (by kernel_rfl) ?_ | (refine S.cond rfl (fun hc => ?_) (fun hc => ?_) <;> try simp only [HC] at hc) | refine S.retH hr rfl ?_ | refine S.finH hr rfl ?_ | (refine S.retK hr ?_; refine TR ?_) | fail)
    | ((first | with_reducible refine Ns.go ?_ | with_reducible refine XOs.go ?_ | with_reducible refine XDs.go ?_ | with_reducible refine OK.go ?_); (first | refine TT ?_ | (apply Ns.sc ⟨rfl, rfl⟩ rfl; intro hg) | (refine OK.tr ?_; refine TT ?_)); (try simp only [HC] at hg))
    | with_reducible exact rfl | exact ⟨rfl, rfl, rfl⟩
    | (refine S.again (ih (i + 1) ?_ ?_) rfl (Nat.le_refl _) (List.Sublist.refl _))
    | ((with_reducible refine Gd.go ?_); refine Gd.on (fun hg => ?_) (fun hg => ?_) <;> refine TG ?_ <;> (try simp only [HC] at hg))
    | ((with_reducible refine Fin.go ?_); first | (refine Fin.p ?_; first | exact FT | (try refine TT ?_; try simp only [LF])) | refine Fin.a0 ?_ | refine Fin.a ?_ | refine Fin.ni ?_ | refine Fin.v ?_ ?_ | refine Fin.r ?_ ?_ | exact Fin.th | (refine Fin.t ?_; try simp only [AV.sl.injEq]))
    | (refine And.go ?_; refine AndI ?_)
    | fail)
  all_goals first | (have he : i = l.length := (by omega); subst he) | skip
  all_goals first | (have hs := getD_drop l i default (by omega)) | (have hs := getD_drop l i default (by simp only [List.length_cons, List.length_nil]; omega)) | skip
  all_goals (try clear ih); (try clear ih2); (try clear hr hk hB); (try dsimp only)
  all_goals first | rfl | omega | (simp_all; done) | (simp_all; omega) | (rw [Bool.eq_iff_iff]; simp_all; done) | (rw [Bool.eq_iff_iff]; simp_all; omega) | grind | (rw [Bool.eq_iff_iff]; grind)
def C_indexStr (P : Program) (k : Nat) : Prop := ∀ (l : List (List UInt8)) (s : List UInt8), l.length ≤ 4294967296 → RunsF P k [.sl (strs l), .str s] (.int .i64 (idxL l s))
/-- slices.Index[[]string,string] -/
def slices_Index_string_string.x : XCode :=
  (.seq
    (.reg [⟨(some 4), .mv, [.k (.int .i64 0)], none⟩] [0, 1])
    (.seq
      (.seq
        (.reg [⟨(some 6), .mv, [.t 0], none⟩,
          ⟨(some 7), .lenL, [.t 6], none⟩,
          ⟨(some 8), .mv, [.k (.int .i64 0)], none⟩] [0, 1, 7, 8])
        (.block 0
          (.loop
            (.seq
              (.reg [⟨(some 9), (.bin .lss), [.t 8, .t 7], none⟩] [0, 1, 7, 8, 9])
              (.seq
                (.cond (.t 9)
                  .skip
                  (.exit 0))
                (.seq
                  (.block 1
                    (.seq
                      (.reg [⟨(some 10), .mv, [.t 8], none⟩,
                        ⟨(some 5), .mv, [.t 10], none⟩] [0, 1, 5, 7, 8])
                      (.seq
                        (.reg [⟨(some 11), .mv, [.t 1], none⟩,
                          ⟨(some 12), .mv, [.t 0], none⟩,
                          ⟨(some 13), .mv, [.t 5], none⟩,
                          ⟨(some 14), (.idxA 1), [.t 12, .t 13], none⟩,
                          ⟨(some 15), (.ld none), [.t 14], none⟩,
                          ⟨(some 16), (.bin .eql), [.t 11, .t 15], none⟩] [0, 1, 5, 7, 8, 16])
                        (.cond (.t 16)
                          (.seq
                            (.reg [⟨(some 17), .mv, [.t 5], none⟩,
                              ⟨(some 4), .mv, [.t 17], none⟩] [4])
                            .ret)
                          .skip))))
                  (.reg [⟨(some 18), (.bin .add), [.t 8, .k (.int .i64 1)], none⟩,
                    ⟨(some 8), .mv, [.t 18], none⟩] [0, 1, 7, 8])))))))
      (.seq
        (.reg [⟨(some 4), .mv, [.k (.int .i64 (-1))], none⟩] [4])
        .ret)))
def slices_Index_string_string.F : Cfg := ⟨fun _ => 0, fun r => match r with | 0 => [0, 1] | 1 => [0, 1, 7, 8] | 2 => [0, 1, 7, 8, 9] | 3 => [0, 1, 5, 7, 8] | 4 => [0, 1, 5, 7, 8, 16] | 5 => [4] | 6 => [0, 1, 7, 8] | 7 => [4] | _ => []⟩
def slices_Index_string_string.X : FX := ⟨19, [.tmp 4], slices_Index_string_string.F, slices_Index_string_string.x⟩

theorem slices_Index_string_string.ok {P : Program} {k : Nat} (hk : Has P k (slices_Index_string_string.X)) : C_indexStr P k := by
  intro l s hl n H
  refine S.ofX hk rfl fun hB fn hr => ?_
  unfold slices_Index_string_string.x
  repeat' (first
    | ((with_reducible refine S.go ?_); first | refine S.seq ?_ | refine S.skip ?_ | refine S.block ?_ | refine S.inBlock ?_ | refine S.exit rfl ?_ | refine S.regN ?_ | refine S.reg ?_ | refine S.drw hk.mo (by kernel_rfl) ?_ | (refine S.cond rfl (fun hc => ?_) (fun hc => ?_) <;> try simp only [HC] at hc) | refine S.retH hr rfl ?_ | refine S.finH hr rfl ?_ | (refine S.retK hr ?_; refine TR ?_) | fail)
    | ((first | with_reducible refine Ns.go ?_ | with_reducible refine XOs.go ?_ | with_reducible refine XDs.go ?_ | with_reducible refine OK.go ?_); (first | refine TT ?_ | (apply Ns.sc ⟨rfl, rfl⟩ rfl; intro hg) | (refine OK.tr ?_; refine TT ?_)); (try simp only [HC] at hg))
    | with_reducible exact rfl | exact ⟨rfl, rfl, rfl⟩
    | ((with_reducible refine Gd.go ?_); refine Gd.on (fun hg => ?_) (fun hg => ?_) <;> refine TG ?_ <;> (try simp only [HC] at hg))
    | ((with_reducible refine Fin.go ?_); first | (refine Fin.p ?_; first | exact FT | (try refine TT ?_; try simp only [LF])) | refine Fin.a0 ?_ | refine Fin.a ?_ | refine Fin.ni ?_ | refine Fin.v ?_ ?_ | refine Fin.r ?_ ?_ | exact Fin.th | (refine Fin.t ?_; try simp only [AV.sl.injEq]))
    | (refine And.go ?_; refine AndI ?_)
    | fail)
  refine S.loop (σ := Nat) (fun i => i ≤ l.length ∧ idxL l s = if idxL (l.drop i) s < 0 then -1 else idxL (l.drop i) s + i) (fun i => [(0, .sl (strs l)), (1, .str s), (7, .int .i64 (l.length : Int)), (8, .int .i64 (i : Int))]) (fun _ => n) (fun _ => H) (fun i => l.length - i) 0 rfl ?_ (Nat.le_refl _) (List.Sublist.refl _) ?_
  · refine ⟨by omega, ?_⟩
    have := idxL_ge l s
    simp only [List.drop_zero]
    split <;> omega
  intro i hi ih
  obtain ⟨hi1, hi2⟩ := hi
  repeat' (first
    | ((with_reducible refine S.go ?_); first | refine S.seq ?_ | refine S.skip ?_ | refine S.block ?_ | refine S.inBlock ?_ | refine S.exit rfl ?_ | refine S.regN ?_ | refine S.reg ?_ | refine S.drw hk.mo (by kernel_rfl) ?_ | (refine S.cond rfl (fun hc => ?_) (fun hc => ?_) <;> try simp only [HC] at hc) | refine S.retH hr rfl ?_ | refine S.finH hr rfl ?_ | (refine S.retK hr ?_; refine TR ?_) | fail)
    | ((first | with_reducible refine Ns.go ?_ | with_reducible refine XOs.go ?_ | with_reducible refine XDs.go ?_ | with_reducible refine OK.go ?_); (first | refine TT ?_ | (apply Ns.sc ⟨rfl, rfl⟩ rfl; intro hg) | (refine OK.tr ?_; refine TT ?_)); (try simp only [HC] at hg))
    | with_reducible exact rfl | exact ⟨rfl, rfl, rfl⟩
    | (refine S.again (ih (i + 1) ?_ ?_) rfl (Nat.le_refl _) (List.Sublist.refl _))
    | ((with_reducible refine Gd.go ?_); refine Gd.on (fun hg => ?_) (fun hg => ?_) <;> refine TG ?_ <;> (try simp only [HC] at hg))
    | ((with_reducible refine Fin.go ?_); first | (refine Fin.p ?_; first | exact FT | (try refine TT ?_; try simp only [LF])) | refine Fin.a0 ?_ | refine Fin.a ?_ | refine Fin.ni ?_ | refine Fin.v ?_ ?_ | refine Fin.r ?_ ?_ | exact Fin.th | (refine Fin.t ?_; try simp only [AV.sl.injEq]))
    | (refine And.go ?_; refine AndI ?_)
    | fail)
  all_goals first | (have he : i = l.length := (by omega); subst he) | skip
  all_goals first | (have hs := getD_drop l i default (by omega)) | (have hs := getD_drop l i default (by simp only [List.length_cons, List.length_nil]; omega)) | skip
  all_goals try (have hx := idxL_ge (l.drop (i + 1)) s)
  all_goals (try rw [hs] at hi2); (try simp only [idxL, List.drop_length] at hi2)
  all_goals (try clear ih); (try clear ih2); (try clear hr hk hB); (try dsimp only)
  all_goals first | rfl | omega | (simp_all; done) | (simp_all; omega) | (rw [Bool.eq_iff_iff]; simp_all; done) | (rw [Bool.eq_iff_iff]; simp_all; omega) | grind | (rw [Bool.eq_iff_iff]; grind)
/-- slices.Contains[[]string,string] -/
def slices_Contains_string_string.x (c_slices_Index_string_string : Nat) : XCode :=
  (.seq
    (.reg [⟨(some 4), .mv, [.k (.bool false)], none⟩] [0, 1])
    (.seq
      (.reg [⟨(some 5), .mv, [.t 0], none⟩,
        ⟨(some 6), .mv, [.t 1], none⟩,
        ⟨(some 7), .call, [.k (.fn c_slices_Index_string_string []), .t 5, .t 6], none⟩,
        ⟨(some 8), (.bin .geq), [.t 7, .k (.int .i64 0)], none⟩,
        ⟨(some 4), .mv, [.t 8], none⟩] [4])
      .ret))
def slices_Contains_string_string.F : Cfg := ⟨fun _ => 0, fun r => match r with | 0 => [0, 1] | 1 => [4] | _ => []⟩
def slices_Contains_string_string.X (c_slices_Index_string_string : Nat) : FX := ⟨9, [.tmp 4], slices_Contains_string_string.F, slices_Contains_string_string.x c_slices_Index_string_string⟩

theorem slices_Contains_string_string.ok {P : Program} {k c_slices_Index_string_string : Nat} (hk : Has P k (slices_Contains_string_string.X c_slices_Index_string_string)) (h1 : C_indexStr P c_slices_Index_string_string) : C_has P k := by
  intro l s hl n H
  refine S.ofX hk rfl fun hB fn hr => ?_
  unfold slices_Contains_string_string.x
  repeat' (first
    | ((with_reducible refine S.go ?_); first | refine S.seq ?_ | refine S.skip ?_ | refine S.block ?_ | refine S.inBlock ?_ | refine S.exit rfl ?_ | refine S.regN ?_ | refine S.reg ?_ | refine S.drw hk.mo (by kernel_rfl) ?_ | (refine S.cond rfl (fun hc => ?_) (fun hc => ?_) <;> try simp only [HC] at hc) | refine S.retH hr rfl ?_ | refine S.finH hr rfl ?_ | (refine S.retK hr ?_; refine TR ?_) | fail)
    | ((first | with_reducible refine Ns.go ?_ | with_reducible refine XOs.go ?_ | with_reducible refine XDs.go ?_ | with_reducible refine OK.go ?_); (first | refine TT ?_ | (apply Ns.sc ⟨rfl, rfl⟩ rfl; intro hg) | (refine OK.tr ?_; refine TT ?_)); (try simp only [HC] at hg))
    | with_reducible exact rfl | exact ⟨rfl, rfl, rfl⟩
    | ((with_reducible refine RunsT.go ?_); first | refine RunsF.apf (h1 _ _ hl) rfl ?_ | fail)
    | ((with_reducible refine RunsD.go ?_); first | refine RunsF.apd (h1 _ _ hl) rfl ?_ | fail)
    | ((with_reducible refine Gd.go ?_); refine Gd.on (fun hg => ?_) (fun hg => ?_) <;> refine TG ?_ <;> (try simp only [HC] at hg))
    | ((with_reducible refine Fin.go ?_); first | (refine Fin.p ?_; first | exact FT | (try refine TT ?_; try simp only [LF])) | refine Fin.a0 ?_ | refine Fin.a ?_ | refine Fin.ni ?_ | refine Fin.v ?_ ?_ | refine Fin.r ?_ ?_ | exact Fin.th | (refine Fin.t ?_; try simp only [AV.sl.injEq]))
    | (refine And.go ?_; refine AndI ?_)
    | fail)
  all_goals (rw [← idxL_has])

def conNames : List (List UInt8) := [[111, 110, 115, 101, 116], [110, 111, 99, 111, 100, 97], [99, 108, 117, 115, 116, 101, 114], [118, 111, 105, 99, 101], [102, 105, 110, 97, 108], [110, 97, 115, 97, 108], [109, 97, 120], [100, 101, 112], [105, 100, 101, 110, 116], [99, 111, 110, 116, 105, 103]]
def C_ConstraintNames (P : Program) (k : Nat) : Prop := RunsF P k [] (.sl (strs conNames))
/-- spec.ConstraintNames -/
def s_ConstraintNames.x : XCode :=
  (.seq
    (.reg [⟨(some 0), .mv, [.k (.nilsl)], none⟩] [])
    (.seq
      (.reg [⟨(some 1), (.bsl 1 1), [.k (.str [111, 110, 115, 101, 116]), .k (.str [110, 111, 99, 111, 100, 97]), .k (.str [99, 108, 117, 115, 116, 101, 114]), .k (.str [118, 111, 105, 99, 101]), .k (.str [102, 105, 110, 97, 108]), .k (.str [110, 97, 115, 97, 108]), .k (.str [109, 97, 120]), .k (.str [100, 101, 112]), .k (.str [105, 100, 101, 110, 116]), .k (.str [99, 111, 110, 116, 105, 103])], none⟩,
        ⟨(some 0), .mv, [.t 1], none⟩] [0])
      .ret))
def s_ConstraintNames.F : Cfg := ⟨fun d => if d = 1 then 1 else 0, fun r => match r with | 0 => [] | 1 => [0] | _ => []⟩
def s_ConstraintNames.X : FX := ⟨2, [.tmp 0], s_ConstraintNames.F, s_ConstraintNames.x⟩

theorem s_ConstraintNames.ok {P : Program} {k : Nat} (hk : Has P k (s_ConstraintNames.X)) : C_ConstraintNames P k := by
  intro n H
  refine S.ofX hk rfl fun hB fn hr => ?_
  unfold s_ConstraintNames.x
  repeat' (first
    | ((with_reducible refine S.go ?_); first | refine S.seq ?_ | refine S.skip ?_ | refine S.block ?_ | refine S.inBlock ?_ | refine S.exit rfl ?_ | refine S.regN ?_ | refine S.reg ?_ | refine S.drw hk.mo (by kernel_rfl) ?_ | (refine S.cond rfl (fun hc => ?_) (fun hc => ?_) <;> try simp only [HC] at hc) | refine S.retH hr rfl ?_ | refine S.finH hr rfl ?_ | (refine S.retK hr ?_; refine TR ?_) | fail)
    | ((first | with_reducible refine Ns.go ?_ | with_reducible refine XOs.go ?_ | with_reducible refine XDs.go ?_ | with_reducible refine OK.go ?_); (first | refine TT ?_ | (apply Ns.sc ⟨rfl, rfl⟩ rfl; intro hg) | (refine OK.tr ?_; refine TT ?_)); (try simp only [HC] at hg))
    | with_reducible exact rfl | exact ⟨rfl, rfl, rfl⟩
    | ((with_reducible refine Gd.go ?_); refine Gd.on (fun hg => ?_) (fun hg => ?_) <;> refine TG ?_ <;> (try simp only [HC] at hg))
    | ((with_reducible refine Fin.go ?_); first | (refine Fin.p ?_; first | exact FT | (try refine TT ?_; try simp only [LF])) | refine Fin.a0 ?_ | refine Fin.a ?_ | refine Fin.ni ?_ | refine Fin.v ?_ ?_ | refine Fin.r ?_ ?_ | exact Fin.th | (refine Fin.t ?_; try simp only [AV.sl.injEq]))
    | (refine And.go ?_; refine AndI ?_)
    | fail)
  all_goals rfl
/-- impl.ConstraintNames -/
def i_ConstraintNames.x : XCode :=
  (.seq
    (.reg [⟨(some 0), .mv, [.k (.nilsl)], none⟩] [])
    (.seq
      (.reg [⟨(some 1), (.bsl 1 1), [.k (.str [111, 110, 115, 101, 116]), .k (.str [110, 111, 99, 111, 100, 97]), .k (.str [99, 108, 117, 115, 116, 101, 114]), .k (.str [118, 111, 105, 99, 101]), .k (.str [102, 105, 110, 97, 108]), .k (.str [110, 97, 115, 97, 108]), .k (.str [109, 97, 120]), .k (.str [100, 101, 112]), .k (.str [105, 100, 101, 110, 116]), .k (.str [99, 111, 110, 116, 105, 103])], none⟩,
        ⟨(some 0), .mv, [.t 1], none⟩] [0])
      .ret))
def i_ConstraintNames.F : Cfg := ⟨fun d => if d = 1 then 1 else 0, fun r => match r with | 0 => [] | 1 => [0] | _ => []⟩
def i_ConstraintNames.X : FX := ⟨2, [.tmp 0], i_ConstraintNames.F, i_ConstraintNames.x⟩

theorem i_ConstraintNames.ok {P : Program} {k : Nat} (hk : Has P k (i_ConstraintNames.X)) : C_ConstraintNames P k := by
  intro n H
  refine S.ofX hk rfl fun hB fn hr => ?_
  unfold i_ConstraintNames.x
  repeat' (first
    | ((with_reducible refine S.go ?_); first | refine S.seq ?_ | refine S.skip ?_ | refine S.block ?_ | refine S.inBlock ?_ | refine S.exit rfl ?_ | refine S.regN ?_ | refine S.reg ?_ | refine S.drw hk.mo (by kernel_rfl) ?_ | (refine S.cond rfl (fun hc => ?_) (fun hc => ?_) <;> try simp only [HC] at hc) | refine S.retH hr rfl ?_ | refine S.finH hr rfl ?_ | (refine S.retK hr ?_; refine TR ?_) | fail)
    | ((first | with_reducible refine Ns.go ?_ | with_reducible refine XOs.go ?_ | with_reducible refine XDs.go ?_ | with_reducible refine OK.go ?_); (first | refine TT ?_ | (apply Ns.sc ⟨rfl, rfl⟩ rfl; intro hg) | (refine OK.tr ?_; refine TT ?_)); (try simp only [HC] at hg))
    | with_reducible exact rfl | exact ⟨rfl, rfl, rfl⟩
    | ((with_reducible refine Gd.go ?_); refine Gd.on (fun hg => ?_) (fun hg => ?_) <;> refine TG ?_ <;> (try simp only [HC] at hg))
    | ((with_reducible refine Fin.go ?_); first | (refine Fin.p ?_; first | exact FT | (try refine TT ?_; try simp only [LF])) | refine Fin.a0 ?_ | refine Fin.a ?_ | refine Fin.ni ?_ | refine Fin.v ?_ ?_ | refine Fin.r ?_ ?_ | exact Fin.th | (refine Fin.t ?_; try simp only [AV.sl.injEq]))
    | (refine And.go ?_; refine AndI ?_)
    | fail)
  all_goals rfl

def rall (n : Nat) (p : Nat → Bool) : Bool := (List.range n).all p
theorem rall_true {n : Nat} {p : Nat → Bool} (h : ∀ j, j < n → p j = true) : rall n p = true := by
  unfold rall; rw [List.all_eq_true]; intro j hj; exact h j (List.mem_range.mp hj)
theorem rall_false {n j : Nat} {p : Nat → Bool} (h : j < n) (hp : p j = false) : rall n p = false := by
  unfold rall; rw [List.all_eq_false]; exact ⟨j, List.mem_range.mpr h, by simp [hp]⟩
theorem rall_elim {n j : Nat} {p : Nat → Bool} (h : rall n p = true) (hj : j < n) : p j = true := by
  unfold rall at h; rw [List.all_eq_true] at h; exact h j (List.mem_range.mpr hj)

/-- A name of constraints at its place: known, and not named before. -/
def conAt (l : List (List UInt8)) (i : Nat) : Bool := conNames.contains (l.getD i default) && !(l.take i).contains (l.getD i default)
def areCons (l : List (List UInt8)) : Bool := rall l.length (conAt l) && (decide (1 ≤ l.length) && decide (l.length ≤ 5))
def C_AreConstraints (P : Program) (k : Nat) : Prop := ∀ (l : List (List UInt8)), l.length ≤ 4294967296 → RunsF P k [.sl (strs l)] (.bool (areCons l))
theorem con_no {l : List (List UInt8)} {i : Nat} (h : i < l.length) (hc : conAt l i = false) : areCons l = false := by
  unfold areCons; rw [rall_false h hc]; rfl
theorem con_yes {l : List (List UInt8)} (h : ∀ j, j < l.length → conAt l j = true) : areCons l = (decide (1 ≤ l.length) && decide (l.length ≤ 5)) := by
  unfold areCons; rw [rall_true h]; rfl
/-- spec.AreConstraints -/
def s_AreConstraints.x (c_s_ConstraintNames c_s_l3Has c_s_l1In : Nat) : XCode :=
  (.seq
    (.reg [⟨(some 2), .mv, [.k (.bool false)], none⟩] [0])
    (.seq
      (.seq
        (.reg [⟨(some 3), .mv, [.k (.int .i64 0)], none⟩] [0, 3])
        (.block 0
          (.loop
            (.seq
              (.seq
                (.reg [⟨(some 4), .mv, [.t 3], none⟩,
                  ⟨(some 5), .mv, [.t 0], none⟩,
                  ⟨(some 6), .lenL, [.t 5], none⟩,
                  ⟨(some 7), (.bin .lss), [.t 4, .t 6], none⟩] [0, 3, 7])
                (.cond (.t 7)
                  .skip
                  (.exit 0)))
              (.seq
                (.block 1
                  (.seq
                    (.drw [(⟨(some 10), .call, [.k (.fn c_s_ConstraintNames [])], none⟩, []),
                      (⟨(some 11), .mv, [.t 0], none⟩, []),
                      (⟨(some 12), .mv, [.t 3], none⟩, []),
                      (⟨(some 13), (.idxA 1), [.t 11, .t 12], none⟩, [1, 2]),
                      (⟨(some 14), (.ld none), [.t 13], none⟩, [3]),
                      (⟨(some 15), .call, [.k (.fn c_s_l3Has []), .t 10, .t 14], none⟩, [0, 4, 0]),
                      (⟨(some 16), (.un .not), [.t 15], none⟩, [5]),
                      (⟨(some 17), .mv, [.t 16], none⟩, [6, 5]),
                      (⟨(some 18), .mv, [.t 0], (some (17, false))⟩, [7]),
                      (⟨(some 19), .mv, [.t 3], (some (17, false))⟩, [7]),
                      (⟨(some 20), (.slL 1 false true), [.t 18, .t 19], (some (17, false))⟩, [8, 9, 7]),
                      (⟨(some 21), .mv, [.t 0], (some (17, false))⟩, [7]),
                      (⟨(some 22), .mv, [.t 3], (some (17, false))⟩, [7]),
                      (⟨(some 23), (.idxA 1), [.t 21, .t 22], (some (17, false))⟩, [11, 12, 7]),
                      (⟨(some 24), (.ld none), [.t 23], (some (17, false))⟩, [13, 7]),
                      (⟨(some 25), .call, [.k (.fn c_s_l3Has []), .t 20, .t 24], (some (17, false))⟩, [10, 14, 7, 7]),
                      (⟨(some 26), .pick, [.t 17, .k (.bool true), .t 25], none⟩, [7, 15])] [0, 3, 26] [0, 0, 0, 0, 0, 0, 0, 0, 0, 0, 0, 0, 0, 0, 0, 0, 0])
                    (.cond (.t 26)
                      (.seq
                        (.reg [⟨(some 2), .mv, [.k (.bool false)], none⟩] [2])
                        .ret)
                      .skip)))
                (.reg [⟨(some 8), .mv, [.t 3], none⟩,
                  ⟨(some 9), (.bin .add), [.t 8, .k (.int .i64 1)], none⟩,
                  ⟨(some 3), .mv, [.t 9], none⟩] [0, 3]))))))
      (.seq
        (.reg [⟨(some 27), .mv, [.t 0], none⟩,
          ⟨(some 28), .lenL, [.t 27], none⟩,
          ⟨(some 29), .call, [.k (.fn c_s_l1In []), .t 28, .k (.int .i64 1), .k (.int .i64 5)], none⟩,
          ⟨(some 2), .mv, [.t 29], none⟩] [2])
        .ret)))
def s_AreConstraints.F : Cfg := ⟨fun _ => 0, fun r => match r with | 0 => [0] | 1 => [0, 3] | 2 => [0, 3, 7] | 3 => [0, 3] | 4 => [0, 3, 26] | 5 => [2] | 6 => [2] | 1000004 => [0, 0, 0, 0, 0, 0, 0, 0, 0, 0, 0, 0, 0, 0, 0, 0, 0] | _ => []⟩
def s_AreConstraints.X (c_s_ConstraintNames c_s_l3Has c_s_l1In : Nat) : FX := ⟨30, [.tmp 2], s_AreConstraints.F, s_AreConstraints.x c_s_ConstraintNames c_s_l3Has c_s_l1In⟩

theorem s_AreConstraints.ok {P : Program} {k c_s_ConstraintNames c_s_l3Has c_s_l1In : Nat} (hk : Has P k (s_AreConstraints.X c_s_ConstraintNames c_s_l3Has c_s_l1In)) (h1 : C_has P c_s_l3Has) (h2 : C_ConstraintNames P c_s_ConstraintNames) (h3 : C_within P c_s_l1In) : C_AreConstraints P k := by
  intro l hl n H
  refine S.ofX hk rfl fun hB fn hr => ?_
  unfold s_AreConstraints.x
  repeat' (first
    | ((with_reducible refine S.go ?_); first | refine S.seq ?_ | refine S.skip ?_ | refine S.block ?_ | refine S.inBlock ?_ | refine S.exit rfl ?_ | refine S.regN ?_ | refine S.reg ?_ | refine S.drw hk.mo (by kernel_rfl) ?_ | (refine S.cond rfl (fun hc => ?_) (fun hc => ?_) <;> try simp only [HC] at hc) | refine S.retH hr rfl ?_ | refine S.finH hr rfl ?_ | (refine S.retK hr ?_; refine TR ?_) | fail)
    | ((first | with_reducible refine Ns.go ?_ | with_reducible refine XOs.go ?_ | with_reducible refine XDs.go ?_ | with_reducible refine OK.go ?_); (first | refine TT ?_ | (apply Ns.sc ⟨rfl, rfl⟩ rfl; intro hg) | (refine OK.tr ?_; refine TT ?_)); (try simp only [HC] at hg))
    | with_reducible exact rfl | exact ⟨rfl, rfl, rfl⟩
    | ((with_reducible refine Gd.go ?_); refine Gd.on (fun hg => ?_) (fun hg => ?_) <;> refine TG ?_ <;> (try simp only [HC] at hg))
    | ((with_reducible refine Fin.go ?_); first | (refine Fin.p ?_; first | exact FT | (try refine TT ?_; try simp only [LF])) | refine Fin.a0 ?_ | refine Fin.a ?_ | refine Fin.ni ?_ | refine Fin.v ?_ ?_ | refine Fin.r ?_ ?_ | exact Fin.th | (refine Fin.t ?_; try simp only [AV.sl.injEq]))
    | (refine And.go ?_; refine AndI ?_)
    | fail)
  refine S.loop (σ := Nat) (fun i => i ≤ l.length ∧ ∀ j, j < i → conAt l j = true) (fun i => [(0, .sl (strs l)), (3, .int .i64 (i : Int))]) (fun _ => n) (fun _ => H) (fun i => l.length - i) 0 rfl ⟨by omega, fun j hj => by omega⟩ (Nat.le_refl _) (List.Sublist.refl _) ?_
  intro i hi ih
  obtain ⟨hi1, hi2⟩ := hi
  repeat' (first
    | ((with_reducible refine S.go ?_); first | refine S.seq ?_ | refine S.skip ?_ | refine S.block ?_ | refine S.inBlock ?_ | refine S.exit rfl ?_ | refine S.regN ?_ | refine S.reg ?_ | refine S.drw hk.mo (by kernel_rfl) ?_ | (refine S.cond rfl (fun hc => ?_) (fun hc => ?_) <;> try simp only [HC] at hc) | refine S.retH hr rfl ?_ | refine S.finH hr rfl ?_ | (refine S.retK hr ?_; refine TR ?_) | fail)
    | ((first | with_reducible refine Ns.go ?_ | with_reducible refine XOs.go ?_ | with_reducible refine XDs.go ?_ | with_reducible refine OK.go ?_); (first | refine TT ?_ | (apply Ns.sc ⟨rfl, rfl⟩ rfl; intro hg) | (refine OK.tr ?_; refine TT ?_)); (try simp only [HC] at hg))
    | with_reducible exact rfl | exact ⟨rfl, rfl, rfl⟩
    | ((with_reducible refine RunsT.go ?_); first | refine RunsF.apf (h2) rfl ?_ | refine RunsF.apf (h1 _ _ (by first | exact hl | decide | (simp only [List.length_take]; omega))) rfl ?_ | refine RunsF.apf (h3 _ _ _) rfl ?_ | fail)
    | ((with_reducible refine RunsD.go ?_); first | refine RunsF.apd (h2) rfl ?_ | refine RunsF.apd (h1 _ _ (by first | exact hl | decide | (simp only [List.length_take]; omega))) rfl ?_ | refine RunsF.apd (h3 _ _ _) rfl ?_ | fail)
    | (refine S.again (ih (i + 1) ?_ ?_) rfl (Nat.le_refl _) (List.Sublist.refl _))
    | ((with_reducible refine Gd.go ?_); refine Gd.on (fun hg => ?_) (fun hg => ?_) <;> refine TG ?_ <;> (try simp only [HC] at hg))
    | ((with_reducible refine Fin.go ?_); first | (refine Fin.p ?_; first | exact FT | (try refine TT ?_; try simp only [LF])) | refine Fin.a0 ?_ | refine Fin.a ?_ | refine Fin.ni ?_ | refine Fin.v ?_ ?_ | refine Fin.r ?_ ?_ | exact Fin.th | (refine Fin.t ?_; try simp only [AV.sl.injEq]))
    | (refine And.go ?_; refine AndI ?_)
    | fail)
  all_goals first | (have he : i = l.length := (by omega); subst he) | skip
  all_goals (try clear ih)
  all_goals first | omega | (exact (con_no (i := i) (by omega) (by simp only [conAt]; first | (rcases hc with h | h <;> rw [h] <;> simp) | (rw [hc]; simp) | simp_all)).symm) | (rw [con_yes hi2]; rw [Bool.eq_iff_iff]; simp; done) | (rw [con_yes hi2]; rw [Bool.eq_iff_iff]; simp; omega) | grind [conAt]
/-- impl.AreConstraints -/
def i_AreConstraints.x (c_i_ConstraintNames c_slices_Contains_string_string c_i_within : Nat) : XCode :=
  (.seq
    (.reg [⟨(some 2), .mv, [.k (.bool false)], none⟩] [0])
    (.seq
      (.seq
        (.reg [⟨(some 5), .mv, [.t 0], none⟩,
          ⟨(some 6), .lenL, [.t 5], none⟩,
          ⟨(some 7), .mv, [.k (.int .i64 0)], none⟩] [0, 5, 6, 7])
        (.block 0
          (.loop
            (.seq
              (.reg [⟨(some 8), (.bin .lss), [.t 7, .t 6], none⟩] [0, 5, 6, 7, 8])
              (.seq
                (.cond (.t 8)
                  .skip
                  (.exit 0))
                (.seq
                  (.block 1
                    (.seq
                      (.reg [⟨(some 9), .mv, [.t 7], none⟩,
                        ⟨(some 10), (.idxA 1), [.t 5, .t 7], none⟩,
                        ⟨(some 11), (.ld none), [.t 10], none⟩,
                        ⟨(some 3), .mv, [.t 9], none⟩,
                        ⟨(some 4), .mv, [.t 11], none⟩] [0, 3, 4, 5, 6, 7])
                      (.seq
                        (.reg (flatNs none (nl [.op (some 12) .call [.k (.fn c_i_ConstraintNames [])], .op (some 13) .mv [.t 4], .op (some 14) .call [.k (.fn c_slices_Contains_string_string []), .t 12, .t 13], .op (some 15) (.un .not) [.t 14], .op (some 16) .mv [.t 15], .sc 16 false (nl [.op (some 17) .mv [.t 0], .op (some 18) .mv [.t 3], .op (some 19) (.slL 1 false true) [.t 17, .t 18], .op (some 20) .mv [.t 4], .op (some 21) .call [.k (.fn c_slices_Contains_string_string []), .t 19, .t 20]]) (.t 21) (some 22)])) [0, 5, 6, 7, 22])
                        (.cond (.t 22)
                          (.seq
                            (.reg [⟨(some 2), .mv, [.k (.bool false)], none⟩] [2])
                            .ret)
                          .skip))))
                  (.reg [⟨(some 23), (.bin .add), [.t 7, .k (.int .i64 1)], none⟩,
                    ⟨(some 7), .mv, [.t 23], none⟩] [0, 5, 6, 7])))))))
      (.seq
        (.reg [⟨(some 24), .mv, [.t 0], none⟩,
          ⟨(some 25), .lenL, [.t 24], none⟩,
          ⟨(some 26), .call, [.k (.fn c_i_within []), .t 25, .k (.int .i64 1), .k (.int .i64 5)], none⟩,
          ⟨(some 2), .mv, [.t 26], none⟩] [2])
        .ret)))
def i_AreConstraints.F : Cfg := ⟨fun _ => 0, fun r => match r with | 0 => [0] | 1 => [0, 5, 6, 7] | 2 => [0, 5, 6, 7, 8] | 3 => [0, 3, 4, 5, 6, 7] | 4 => [0, 5, 6, 7, 22] | 5 => [2] | 6 => [0, 5, 6, 7] | 7 => [2] | _ => []⟩
def i_AreConstraints.X (c_i_ConstraintNames c_slices_Contains_string_string c_i_within : Nat) : FX := ⟨27, [.tmp 2], i_AreConstraints.F, i_AreConstraints.x c_i_ConstraintNames c_slices_Contains_string_string c_i_within⟩

theorem i_AreConstraints.ok {P : Program} {k c_i_ConstraintNames c_slices_Contains_string_string c_i_within : Nat} (hk : Has P k (i_AreConstraints.X c_i_ConstraintNames c_slices_Contains_string_string c_i_within)) (h1 : C_has P c_slices_Contains_string_string) (h2 : C_ConstraintNames P c_i_ConstraintNames) (h3 : C_within P c_i_within) : C_AreConstraints P k := by
  intro l hl n H
  refine S.ofX hk rfl fun hB fn hr => ?_
  unfold i_AreConstraints.x
  repeat' (first
    | ((with_reducible refine S.go ?_); first | refine S.seq ?_ | refine S.skip ?_ | refine S.block ?_ | refine S.inBlock ?_ | refine S.exit rfl ?_ | refine S.regN ?_ | refine S.reg ?_ | refine S.drw hk.mo (by kernel_rfl) ?_ | (refine S.cond rfl (fun hc => ?_) (fun hc => ?_) <;> try simp only [HC] at hc) | refine S.retH hr rfl ?_ | refine S.finH hr rfl ?_ | (refine S.retK hr ?_; refine TR ?_) | fail)
    | ((first | with_reducible refine Ns.go ?_ | with_reducible refine XOs.go ?_ | with_reducible refine XDs.go ?_ | with_reducible refine OK.go ?_); (first | refine TT ?_ | (apply Ns.sc ⟨rfl, rfl⟩ rfl; intro hg) | (refine OK.tr ?_; refine TT ?_)); (try simp only [HC] at hg))
    | with_reducible exact rfl | exact ⟨rfl, rfl, rfl⟩
    | ((with_reducible refine Gd.go ?_); refine Gd.on (fun hg => ?_) (fun hg => ?_) <;> refine TG ?_ <;> (try simp only [HC] at hg))
    | ((with_reducible refine Fin.go ?_); first | (refine Fin.p ?_; first | exact FT | (try refine TT ?_; try simp only [LF])) | refine Fin.a0 ?_ | refine Fin.a ?_ | refine Fin.ni ?_ | refine Fin.v ?_ ?_ | refine Fin.r ?_ ?_ | exact Fin.th | (refine Fin.t ?_; try simp only [AV.sl.injEq]))
    | (refine And.go ?_; refine AndI ?_)
    | fail)
  refine S.loop (σ := Nat) (fun i => i ≤ l.length ∧ ∀ j, j < i → conAt l j = true) (fun i => [(0, .sl (strs l)), (5, .sl (strs l)), (6, .int .i64 (l.length : Int)), (7, .int .i64 (i : Int))]) (fun _ => n) (fun _ => H) (fun i => l.length - i) 0 rfl ⟨by omega, fun j hj => by omega⟩ (Nat.le_refl _) (List.Sublist.refl _) ?_
  intro i hi ih
  obtain ⟨hi1, hi2⟩ := hi
  repeat' (first
    | ((with_reducible refine S.go ?_); first | refine S.seq ?_ | refine S.skip ?_ | refine S.block ?_ | refine S.inBlock ?_ | refine S.exit rfl ?_ | refine S.regN ?_ | refine S.reg ?_ | refine S.drw hk.mo (by kernel_rfl) ?_ | (refine S.cond rfl (fun hc => ?_) (fun hc => ?_) <;> try simp only [HC] at hc) | refine S.retH hr rfl ?_ | refine S.finH hr rfl ?_ | (refine S.retK hr ?_; refine TR ?_) | fail)
    | ((first | with_reducible refine Ns.go ?_ | with_reducible refine XOs.go ?_ | with_reducible refine XDs.go ?_ | with_reducible refine OK.go ?_); (first | refine TT ?_ | (apply Ns.sc ⟨rfl, rfl⟩ rfl; intro hg) | (refine OK.tr ?_; refine TT ?_)); (try simp only [HC] at hg))
    | with_reducible exact rfl | exact ⟨rfl, rfl, rfl⟩
    | ((with_reducible refine RunsT.go ?_); first | refine RunsF.apf (h2) rfl ?_ | refine RunsF.apf (h1 _ _ (by first | exact hl | decide | (simp only [List.length_take]; omega))) rfl ?_ | refine RunsF.apf (h3 _ _ _) rfl ?_ | fail)
    | ((with_reducible refine RunsD.go ?_); first | refine RunsF.apd (h2) rfl ?_ | refine RunsF.apd (h1 _ _ (by first | exact hl | decide | (simp only [List.length_take]; omega))) rfl ?_ | refine RunsF.apd (h3 _ _ _) rfl ?_ | fail)
    | (refine S.again (ih (i + 1) ?_ ?_) rfl (Nat.le_refl _) (List.Sublist.refl _))
    | ((with_reducible refine Gd.go ?_); refine Gd.on (fun hg => ?_) (fun hg => ?_) <;> refine TG ?_ <;> (try simp only [HC] at hg))
    | ((with_reducible refine Fin.go ?_); first | (refine Fin.p ?_; first | exact FT | (try refine TT ?_; try simp only [LF])) | refine Fin.a0 ?_ | refine Fin.a ?_ | refine Fin.ni ?_ | refine Fin.v ?_ ?_ | refine Fin.r ?_ ?_ | exact Fin.th | (refine Fin.t ?_; try simp only [AV.sl.injEq]))
    | (refine And.go ?_; refine AndI ?_)
    | fail)
  all_goals first | (have he : i = l.length := (by omega); subst he) | skip
  all_goals (try clear ih)
  all_goals first | omega | (exact (con_no (i := i) (by omega) (by simp only [conAt]; first | (rcases hc with h | h <;> rw [h] <;> simp) | (rw [hc]; simp) | simp_all)).symm) | (rw [con_yes hi2]; rw [Bool.eq_iff_iff]; simp; done) | (rw [con_yes hi2]; rw [Bool.eq_iff_iff]; simp; omega) | grind [conAt]

def contig : List UInt8 := [99, 111, 110, 116, 105, 103]
def areLoc (l : List (List UInt8)) : Bool := areCons l && !l.contains contig
def C_AreLocal (P : Program) (k : Nat) : Prop := ∀ (l : List (List UInt8)), l.length ≤ 4294967296 → RunsF P k [.sl (strs l)] (.bool (areLoc l))

/-- What is left of a size. -/
def szGo : List (List UInt8) → Int → Int
  | [], a => a
  | s :: l, a => if a - s.length < 0 then -1 else szGo l (a - s.length)
def szStr (l : List (List UInt8)) (a : Int) : Int := if a - l.length < 0 then -1 else szGo l (a - l.length)
theorem szGo_le : ∀ {l : List (List UInt8)} {a : Int}, 0 ≤ szGo l a → ∀ s ∈ l, (s.length : Int) ≤ a
  | [], a, h, s, hs => by cases hs
  | x :: l, a, h, s, hs => by
    unfold szGo at h
    split at h
    · omega
    · rw [List.mem_cons] at hs
      rcases hs with rfl | hs
      · omega
      · have := szGo_le h s hs; omega
theorem szStr_le {l : List (List UInt8)} {a : Int} (h : 0 ≤ szStr l a) : (l.length : Int) ≤ a ∧ ∀ s ∈ l, (s.length : Int) ≤ a := by
  unfold szStr at h
  split at h
  · omega
  · exact ⟨by omega, fun s hs => by have := szGo_le h s hs; omega⟩
def Big (l : List (List UInt8)) : Prop := l.length ≤ 9223372036854775807 ∧ ∀ i, i < l.length → (l.getD i default).length ≤ 9223372036854775807
def C_szStringS (P : Program) (k : Nat) : Prop := ∀ (l : List (List UInt8)) (a : Int), Big l → -1 ≤ a → a ≤ 1048576 → RunsF P k [.sl (strs l), .int .i64 a] (.int .i64 (szStr l a))

def C_toStringS (P : Program) (k : Nat) : Prop := ∀ (l : List (List UInt8)), l.length ≤ 4294967296 → RunsF P k [.sl (strs l)] (.sl (strs l))

def C_eqStringS (P : Program) (k : Nat) : Prop := ∀ (l m : List (List UInt8)), l.length ≤ 4294967296 → m.length ≤ 4294967296 → RunsF P k [.sl (strs l), .sl (strs m)] (.bool (l == m))
theorem neq_at {l m : List (List UInt8)} {i : Nat} (h : ¬ l.getD i default = m.getD i default) : (l == m) = false := by
  rw [beq_eq_false_iff_ne]; rintro rfl; exact h rfl
theorem eq_all {l m : List (List UInt8)} (h : l.length = m.length) (ha : ∀ j, j < l.length → l.getD j default = m.getD j default) : (l == m) = true := by
  rw [beq_iff_eq]
  apply List.ext_getElem h
  intro i h1 h2
  have := ha i h1
  simpa [List.getD_eq_getElem?_getD, h1, h2] using this

def C_lawAreLocal (P : Program) (k : Nat) : Prop := ∀ (l : List (List UInt8)), Big l → RunsF P k [.sl (strs l)] (.bool true)
end Go.Lib03
end
section
namespace Go.M01
open Go.Ab Go.Lib01 Go.Lib03
set_option linter.unusedVariables false
set_option linter.unusedSimpArgs false
set_option maxRecDepth 2000

/-- A question of a byte. -/
def CB (f : UInt8 → Bool) (P : Program) (k : Nat) : Prop := ∀ c : UInt8, RunsF P k [.int .u8 (c.toNat : Int)] (.bool (f c))
def isVow (c : UInt8) : Bool := c == 97 || c == 105
def isObs (c : UInt8) : Bool := c == 112 || c == 116 || c == 98 || c == 100
def hasF (c : UInt8) (f : Int) : Bool :=
  if f = 0 then c == 97 || c == 105 else if f = 1 then c == 98 || c == 100 || c == 110 || c == 97 || c == 105 else if f = 2 then c == 110 else if f = 3 then c == 112 || c == 98 else if f = 4 then c == 105 else false
def C_HasFeature (P : Program) (k : Nat) : Prop := ∀ (c : UInt8) (f : Int), RunsF P k [.int .u8 (c.toNat : Int), .int .i64 f] (.bool (hasF c f))
/-- spec.HasFeature -/
def s_HasFeature.x : XCode :=
  (.seq
    (.reg [⟨(some 4), .mv, [.k (.bool false)], none⟩] [0, 1])
    (.seq
      (.seq
        (.reg [⟨(some 5), .mv, [.t 1], none⟩] [0, 5])
        (.block 0
          (.seq
            (.reg [⟨(some 7), (.bin .eql), [.t 5, .k (.int .i64 0)], none⟩,
              ⟨(some 6), .mv, [.t 7], none⟩] [0, 5, 6])
            (.cond (.t 6)
              (.seq
                (.reg (flatNs none (nl [.op (some 8) .mv [.t 0], .op (some 9) (.bin .eql) [.t 8, .k (.int .u8 97)], .op (some 10) .mv [.t 9], .sc 10 false (nl [.op (some 11) .mv [.t 0], .op (some 12) (.bin .eql) [.t 11, .k (.int .u8 105)]]) (.t 12) (some 13), .op (some 4) .mv [.t 13]])) [4])
                .ret)
              (.seq
                (.reg [⟨(some 15), (.bin .eql), [.t 5, .k (.int .i64 1)], none⟩,
                  ⟨(some 14), .mv, [.t 15], none⟩] [0, 5, 14])
                (.cond (.t 14)
                  (.seq
                    (.reg (flatNs none (nl [.op (some 16) .mv [.t 0], .op (some 17) (.bin .eql) [.t 16, .k (.int .u8 98)], .op (some 18) .mv [.t 17], .sc 18 false (nl [.op (some 19) .mv [.t 0], .op (some 20) (.bin .eql) [.t 19, .k (.int .u8 100)]]) (.t 20) (some 21), .op (some 22) .mv [.t 21], .sc 22 false (nl [.op (some 23) .mv [.t 0], .op (some 24) (.bin .eql) [.t 23, .k (.int .u8 110)]]) (.t 24) (some 25), .op (some 26) .mv [.t 25], .sc 26 false (nl [.op (some 27) .mv [.t 0], .op (some 28) (.bin .eql) [.t 27, .k (.int .u8 97)]]) (.t 28) (some 29), .op (some 30) .mv [.t 29], .sc 30 false (nl [.op (some 31) .mv [.t 0], .op (some 32) (.bin .eql) [.t 31, .k (.int .u8 105)]]) (.t 32) (some 33), .op (some 4) .mv [.t 33]])) [4])
                    .ret)
                  (.seq
                    (.reg [⟨(some 35), (.bin .eql), [.t 5, .k (.int .i64 2)], none⟩,
                      ⟨(some 34), .mv, [.t 35], none⟩] [0, 5, 34])
                    (.cond (.t 34)
                      (.seq
                        (.reg [⟨(some 36), .mv, [.t 0], none⟩,
                          ⟨(some 37), (.bin .eql), [.t 36, .k (.int .u8 110)], none⟩,
                          ⟨(some 4), .mv, [.t 37], none⟩] [4])
                        .ret)
                      (.seq
                        (.reg [⟨(some 39), (.bin .eql), [.t 5, .k (.int .i64 3)], none⟩,
                          ⟨(some 38), .mv, [.t 39], none⟩] [0, 5, 38])
                        (.cond (.t 38)
                          (.seq
                            (.reg (flatNs none (nl [.op (some 40) .mv [.t 0], .op (some 41) (.bin .eql) [.t 40, .k (.int .u8 112)], .op (some 42) .mv [.t 41], .sc 42 false (nl [.op (some 43) .mv [.t 0], .op (some 44) (.bin .eql) [.t 43, .k (.int .u8 98)]]) (.t 44) (some 45), .op (some 4) .mv [.t 45]])) [4])
                            .ret)
                          (.seq
                            (.reg [⟨(some 47), (.bin .eql), [.t 5, .k (.int .i64 4)], none⟩,
                              ⟨(some 46), .mv, [.t 47], none⟩] [0, 46])
                            (.cond (.t 46)
                              (.seq
                                (.reg [⟨(some 48), .mv, [.t 0], none⟩,
                                  ⟨(some 49), (.bin .eql), [.t 48, .k (.int .u8 105)], none⟩,
                                  ⟨(some 4), .mv, [.t 49], none⟩] [4])
                                .ret)
                              .skip))))))))))))
      (.seq
        (.reg [⟨(some 4), .mv, [.k (.bool false)], none⟩] [4])
        .ret)))
def s_HasFeature.F : Cfg := ⟨fun _ => 0, fun r => match r with | 0 => [0, 1] | 1 => [0, 5] | 2 => [0, 5, 6] | 3 => [4] | 4 => [0, 5, 14] | 5 => [4] | 6 => [0, 5, 34] | 7 => [4] | 8 => [0, 5, 38] | 9 => [4] | 10 => [0, 46] | 11 => [4] | 12 => [4] | _ => []⟩
def s_HasFeature.X : FX := ⟨50, [.tmp 4], s_HasFeature.F, s_HasFeature.x⟩

theorem s_HasFeature.ok {P : Program} {k : Nat} (hk : Has P k (s_HasFeature.X)) : C_HasFeature P k := by
  intro c f n H
  refine S.ofX hk rfl fun hB fn hr => ?_
  unfold s_HasFeature.x
  repeat' (first
    | ((with_reducible refine S.go ?_); first | refine S.seq ?_ | refine S.skip ?_ | refine S.block ?_ | refine S.inBlock ?_ | refine S.exit rfl ?_ | refine S.regN ?_ | refine S.reg ?_ | refine S.drw hk.mo (by kernel_rfl) ?_ | (refine S.cond rfl (fun hc => ?_) (fun hc => ?_) <;> try simp only [HC] at hc) | refine S.retH hr rfl ?_ | refine S.finH hr rfl ?_ | (refine S.retK hr ?_; refine TR ?_) | fail)
    | ((first | with_reducible refine Ns.go ?_ | with_reducible refine XOs.go ?_ | with_reducible refine XDs.go ?_ | with_reducible refine OK.go ?_); (first | refine TT ?_ | (apply Ns.sc ⟨rfl, rfl⟩ rfl; intro hg) | (refine OK.tr ?_; refine TT ?_)); (try simp only [HC] at hg))
    | with_reducible exact rfl | exact ⟨rfl, rfl, rfl⟩
    | ((with_reducible refine Gd.go ?_); refine Gd.on (fun hg => ?_) (fun hg => ?_) <;> refine TG ?_ <;> (try simp only [HC] at hg))
    | ((with_reducible refine Fin.go ?_); first | (refine Fin.p ?_; first | exact FT | (try refine TT ?_; try simp only [LF])) | refine Fin.a0 ?_ | refine Fin.a ?_ | refine Fin.ni ?_ | refine Fin.v ?_ ?_ | refine Fin.r ?_ ?_ | exact Fin.th | (refine Fin.t ?_; try simp only [AV.sl.injEq]))
    | (refine And.go ?_; refine AndI ?_)
    | fail)
  all_goals (try clear ih); (try clear ih2); (try clear hr hk hB); (try dsimp only)
  all_goals (try simp only [hasF] at *)
  all_goals first | rfl | omega | (simp_all; done) | (simp_all; omega) | (rw [Bool.eq_iff_iff]; simp_all; done) | (rw [Bool.eq_iff_iff]; simp_all; omega) | grind | (rw [Bool.eq_iff_iff]; grind)
/-- spec.IsObstruent -/
def s_IsObstruent.x : XCode :=
  (.seq
    (.reg [⟨(some 2), .mv, [.k (.bool false)], none⟩] [0])
    (.seq
      (.reg (flatNs none (nl [.op (some 3) .mv [.t 0], .op (some 4) (.bin .eql) [.t 3, .k (.int .u8 112)], .op (some 5) .mv [.t 4], .sc 5 false (nl [.op (some 6) .mv [.t 0], .op (some 7) (.bin .eql) [.t 6, .k (.int .u8 116)]]) (.t 7) (some 8), .op (some 9) .mv [.t 8], .sc 9 false (nl [.op (some 10) .mv [.t 0], .op (some 11) (.bin .eql) [.t 10, .k (.int .u8 98)]]) (.t 11) (some 12), .op (some 13) .mv [.t 12], .sc 13 false (nl [.op (some 14) .mv [.t 0], .op (some 15) (.bin .eql) [.t 14, .k (.int .u8 100)]]) (.t 15) (some 16), .op (some 2) .mv [.t 16]])) [2])
      .ret))
def s_IsObstruent.F : Cfg := ⟨fun _ => 0, fun r => match r with | 0 => [0] | 1 => [2] | _ => []⟩
def s_IsObstruent.X : FX := ⟨17, [.tmp 2], s_IsObstruent.F, s_IsObstruent.x⟩

theorem s_IsObstruent.ok {P : Program} {k : Nat} (hk : Has P k (s_IsObstruent.X)) : CB isObs P k := by
  intro c n H
  refine S.ofX hk rfl fun hB fn hr => ?_
  unfold s_IsObstruent.x
  repeat' (first
    | ((with_reducible refine S.go ?_); first | refine S.seq ?_ | refine S.skip ?_ | refine S.block ?_ | refine S.inBlock ?_ | refine S.exit rfl ?_ | refine S.regN ?_ | refine S.reg ?_ | refine S.drw hk.mo (by kernel_rfl) ?_ | (refine S.cond rfl (fun hc => ?_) (fun hc => ?_) <;> try simp only [HC] at hc) | refine S.retH hr rfl ?_ | refine S.finH hr rfl ?_ | (refine S.retK hr ?_; refine TR ?_) | fail)
    | ((first | with_reducible refine Ns.go ?_ | with_reducible refine XOs.go ?_ | with_reducible refine XDs.go ?_ | with_reducible refine OK.go ?_); (first | refine TT ?_ | (apply Ns.sc ⟨rfl, rfl⟩ rfl; intro hg) | (refine OK.tr ?_; refine TT ?_)); (try simp only [HC] at hg))
    | with_reducible exact rfl | exact ⟨rfl, rfl, rfl⟩
    | ((with_reducible refine Gd.go ?_); refine Gd.on (fun hg => ?_) (fun hg => ?_) <;> refine TG ?_ <;> (try simp only [HC] at hg))
    | ((with_reducible refine Fin.go ?_); first | (refine Fin.p ?_; first | exact FT | (try refine TT ?_; try simp only [LF])) | refine Fin.a0 ?_ | refine Fin.a ?_ | refine Fin.ni ?_ | refine Fin.v ?_ ?_ | refine Fin.r ?_ ?_ | exact Fin.th | (refine Fin.t ?_; try simp only [AV.sl.injEq]))
    | (refine And.go ?_; refine AndI ?_)
    | fail)
  all_goals (try clear ih); (try clear ih2); (try clear hr hk hB); (try dsimp only)
  all_goals (try simp only [isObs] at *)
  all_goals first | rfl | omega | (simp_all; done) | (simp_all; omega) | (rw [Bool.eq_iff_iff]; simp_all; done) | (rw [Bool.eq_iff_iff]; simp_all; omega) | grind | (rw [Bool.eq_iff_iff]; grind)
theorem idx_has (l : List UInt8) (c : UInt8) : decide (0 ≤ Lib.indexByte l c) = l.contains c := by
  rw [Lib.contains_iff_indexByte]
/-- impl.IsObstruent -/
def i_IsObstruent.x (c_strings_IndexByte : Nat) : XCode :=
  (.seq
    (.reg [⟨(some 2), .mv, [.k (.bool false)], none⟩] [0])
    (.seq
      (.reg [⟨(some 3), .mv, [.t 0], none⟩,
        ⟨(some 4), .call, [.k (.fn c_strings_IndexByte []), .k (.str [112, 116, 98, 100]), .t 3], none⟩,
        ⟨(some 5), (.bin .geq), [.t 4, .k (.int .i64 0)], none⟩,
        ⟨(some 2), .mv, [.t 5], none⟩] [2])
      .ret))
def i_IsObstruent.F : Cfg := ⟨fun _ => 0, fun r => match r with | 0 => [0] | 1 => [2] | _ => []⟩
def i_IsObstruent.X (c_strings_IndexByte : Nat) : FX := ⟨6, [.tmp 2], i_IsObstruent.F, i_IsObstruent.x c_strings_IndexByte⟩

theorem i_IsObstruent.ok {P : Program} {k c_strings_IndexByte : Nat} (hk : Has P k (i_IsObstruent.X c_strings_IndexByte)) (h1 : C_indexByte P c_strings_IndexByte) : CB isObs P k := by
  intro c n H
  refine S.ofX hk rfl fun hB fn hr => ?_
  unfold i_IsObstruent.x
  repeat' (first
    | ((with_reducible refine S.go ?_); first | refine S.seq ?_ | refine S.skip ?_ | refine S.block ?_ | refine S.inBlock ?_ | refine S.exit rfl ?_ | refine S.regN ?_ | refine S.reg ?_ | refine S.drw hk.mo (by kernel_rfl) ?_ | (refine S.cond rfl (fun hc => ?_) (fun hc => ?_) <;> try simp only [HC] at hc) | refine S.retH hr rfl ?_ | refine S.finH hr rfl ?_ | (refine S.retK hr ?_; refine TR ?_) | fail)
    | ((first | with_reducible refine Ns.go ?_ | with_reducible refine XOs.go ?_ | with_reducible refine XDs.go ?_ | with_reducible refine OK.go ?_); (first | refine TT ?_ | (apply Ns.sc ⟨rfl, rfl⟩ rfl; intro hg) | (refine OK.tr ?_; refine TT ?_)); (try simp only [HC] at hg))
    | with_reducible exact rfl | exact ⟨rfl, rfl, rfl⟩
    | ((with_reducible refine RunsT.go ?_); first | refine RunsF.apf (h1 _ _) rfl ?_ | fail)
    | ((with_reducible refine RunsD.go ?_); first | refine RunsF.apd (h1 _ _) rfl ?_ | fail)
    | ((with_reducible refine Gd.go ?_); refine Gd.on (fun hg => ?_) (fun hg => ?_) <;> refine TG ?_ <;> (try simp only [HC] at hg))
    | ((with_reducible refine Fin.go ?_); first | (refine Fin.p ?_; first | exact FT | (try refine TT ?_; try simp only [LF])) | refine Fin.a0 ?_ | refine Fin.a ?_ | refine Fin.ni ?_ | refine Fin.v ?_ ?_ | refine Fin.r ?_ ?_ | exact Fin.th | (refine Fin.t ?_; try simp only [AV.sl.injEq]))
    | (refine And.go ?_; refine AndI ?_)
    | fail)
  all_goals (rw [idx_has, isObs]; simp only [List.contains_cons, List.contains_nil, Bool.or_false, Bool.or_assoc])
/-- impl.HasFeature -/
def i_HasFeature.x (c_i_within c_strings_IndexByte : Nat) : XCode :=
  (.seq
    (.reg [⟨(some 4), .mv, [.k (.bool false)], none⟩] [0, 1])
    (.seq
      (.seq
        (.reg [⟨(some 5), .mv, [.t 1], none⟩,
          ⟨(some 6), .call, [.k (.fn c_i_within []), .t 5, .k (.int .i64 0), .k (.int .i64 4)], none⟩,
          ⟨(some 7), (.un .not), [.t 6], none⟩] [0, 1, 7])
        (.cond (.t 7)
          (.seq
            (.reg [⟨(some 4), .mv, [.k (.bool false)], none⟩] [4])
            .ret)
          .skip))
      (.seq
        (.reg [⟨(some 8), (.bsl 0 1), [.k (.str [97, 105]), .k (.str [98, 100, 110, 97, 105]), .k (.str [110]), .k (.str [112, 98]), .k (.str [105])], none⟩,
          ⟨(some 9), .mv, [.t 1], none⟩,
          ⟨(some 10), (.idxA 1), [.t 8, .t 9], none⟩,
          ⟨(some 11), (.ld none), [.t 10], none⟩,
          ⟨(some 12), .mv, [.t 0], none⟩,
          ⟨(some 13), .call, [.k (.fn c_strings_IndexByte []), .t 11, .t 12], none⟩,
          ⟨(some 14), (.bin .geq), [.t 13, .k (.int .i64 0)], none⟩,
          ⟨(some 4), .mv, [.t 14], none⟩] [4])
        .ret)))
def i_HasFeature.F : Cfg := ⟨fun _ => 0, fun r => match r with | 0 => [0, 1] | 1 => [0, 1, 7] | 2 => [4] | 3 => [4] | _ => []⟩
def i_HasFeature.X (c_i_within c_strings_IndexByte : Nat) : FX := ⟨15, [.tmp 4], i_HasFeature.F, i_HasFeature.x c_i_within c_strings_IndexByte⟩

theorem i_HasFeature.ok {P : Program} {k c_i_within c_strings_IndexByte : Nat} (hk : Has P k (i_HasFeature.X c_i_within c_strings_IndexByte)) (h1 : C_within P c_i_within) (h2 : C_indexByte P c_strings_IndexByte) : C_HasFeature P k := by
  intro c f n H
  refine S.ofX hk rfl fun hB fn hr => ?_
  unfold i_HasFeature.x
  repeat' (first
    | ((with_reducible refine S.go ?_); first | refine S.seq ?_ | refine S.skip ?_ | refine S.block ?_ | refine S.inBlock ?_ | refine S.exit rfl ?_ | refine S.regN ?_ | refine S.reg ?_ | refine S.drw hk.mo (by kernel_rfl) ?_ | (refine S.cond rfl (fun hc => ?_) (fun hc => ?_) <;> try simp only [HC] at hc) | refine S.retH hr rfl ?_ | refine S.finH hr rfl ?_ | (refine S.retK hr ?_; refine TR ?_) | fail)
    | ((first | with_reducible refine Ns.go ?_ | with_reducible refine XOs.go ?_ | with_reducible refine XDs.go ?_ | with_reducible refine OK.go ?_); (first | refine TT ?_ | (apply Ns.sc ⟨rfl, rfl⟩ rfl; intro hg) | (refine OK.tr ?_; refine TT ?_)); (try simp only [HC] at hg))
    | with_reducible exact rfl | exact ⟨rfl, rfl, rfl⟩
    | ((with_reducible refine RunsT.go ?_); first | refine RunsF.apf (h1 _ _ _) rfl ?_ | fail)
    | ((with_reducible refine RunsD.go ?_); first | refine RunsF.apd (h1 _ _ _) rfl ?_ | fail)
    | ((with_reducible refine Gd.go ?_); refine Gd.on (fun hg => ?_) (fun hg => ?_) <;> refine TG ?_ <;> (try simp only [HC] at hg))
    | ((with_reducible refine Fin.go ?_); first | (refine Fin.p ?_; first | exact FT | (try refine TT ?_; try simp only [LF])) | refine Fin.a0 ?_ | refine Fin.a ?_ | refine Fin.ni ?_ | refine Fin.v ?_ ?_ | refine Fin.r ?_ ?_ | exact Fin.th | (refine Fin.t ?_; try simp only [AV.sl.injEq]))
    | (refine And.go ?_; refine AndI ?_)
    | fail)
  · (simp only [hasF]; (repeat rw [if_neg (by omega)]))
  all_goals (have hf : f = 0 ∨ f = 1 ∨ f = 2 ∨ f = 3 ∨ f = 4 := (by omega))
  all_goals (rcases hf with rfl | rfl | rfl | rfl | rfl)
  repeat' (first
    | ((with_reducible refine S.go ?_); first | refine S.seq ?_ | refine S.skip ?_ | refine S.block ?_ | refine S.inBlock ?_ | refine S.exit rfl ?_ | refine S.regN ?_ | refine S.reg ?_ | refine S.drw hk.mo (by kernel_rfl) ?_ | (refine S.cond rfl (fun hc => ?_) (fun hc => ?_) <;> try simp only [HC] at hc) | refine S.retH hr rfl ?_ | refine S.finH hr rfl ?_ | (refine S.retK hr ?_; refine TR ?_) | fail)
    | ((first | with_reducible refine Ns.go ?_ | with_reducible refine XOs.go ?_ | with_reducible refine XDs.go ?_ | with_reducible refine OK.go ?_); (first | refine TT ?_ | (apply Ns.sc ⟨rfl, rfl⟩ rfl; intro hg) | (refine OK.tr ?_; refine TT ?_)); (try simp only [HC] at hg))
    | with_reducible exact rfl | exact ⟨rfl, rfl, rfl⟩
    | ((with_reducible refine RunsT.go ?_); first | refine RunsF.apf (h2 _ _) rfl ?_ | fail)
    | ((with_reducible refine RunsD.go ?_); first | refine RunsF.apd (h2 _ _) rfl ?_ | fail)
    | ((with_reducible refine Gd.go ?_); refine Gd.on (fun hg => ?_) (fun hg => ?_) <;> refine TG ?_ <;> (try simp only [HC] at hg))
    | ((with_reducible refine Fin.go ?_); first | (refine Fin.p ?_; first | exact FT | (try refine TT ?_; try simp only [LF])) | refine Fin.a0 ?_ | refine Fin.a ?_ | refine Fin.ni ?_ | refine Fin.v ?_ ?_ | refine Fin.r ?_ ?_ | exact Fin.th | (refine Fin.t ?_; try simp only [AV.sl.injEq]))
    | (refine And.go ?_; refine AndI ?_)
    | fail)
  all_goals (rw [idx_has]; simp only [List.contains_cons, List.contains_nil, Bool.or_false, Bool.or_assoc]; simp [hasF, Bool.or_assoc])
def isVoi (c : UInt8) : Bool := isObs c && hasF c 1
def isVls (c : UInt8) : Bool := isObs c && !hasF c 1
def isCon (c : UInt8) : Bool := isSnd c && !hasF c 0
def isLastB (c : UInt8) : Bool := c == 0 || isSnd c
theorem hasF_snd {c : UInt8} {f : Int} (h : hasF c f = true) : isSnd c = true := by
  have key : ∀ c : UInt8, (c = 97 ∨ c = 105 ∨ c = 98 ∨ c = 100 ∨ c = 110 ∨ c = 112) → isSnd c = true := by
    rintro c (rfl | rfl | rfl | rfl | rfl | rfl) <;> rfl
  apply key
  revert h
  unfold hasF
  repeat' split
  all_goals (simp; try grind)
/-- impl.isVowel -/
def i_isVowel.x (c_i_HasFeature : Nat) : XCode :=
  (.seq
    (.reg [⟨(some 2), .mv, [.k (.bool false)], none⟩] [0])
    (.seq
      (.reg [⟨(some 3), .mv, [.t 0], none⟩,
        ⟨(some 4), .call, [.k (.fn c_i_HasFeature []), .t 3, .k (.int .i64 0)], none⟩,
        ⟨(some 2), .mv, [.t 4], none⟩] [2])
      .ret))
def i_isVowel.F : Cfg := ⟨fun _ => 0, fun r => match r with | 0 => [0] | 1 => [2] | _ => []⟩
def i_isVowel.X (c_i_HasFeature : Nat) : FX := ⟨5, [.tmp 2], i_isVowel.F, i_isVowel.x c_i_HasFeature⟩

theorem i_isVowel.ok {P : Program} {k c_i_HasFeature : Nat} (hk : Has P k (i_isVowel.X c_i_HasFeature)) (h1 : C_HasFeature P c_i_HasFeature) : CB (fun c => hasF c 0) P k := by
  intro c n H
  refine S.ofX hk rfl fun hB fn hr => ?_
  unfold i_isVowel.x
  repeat' (first
    | ((with_reducible refine S.go ?_); first | refine S.seq ?_ | refine S.skip ?_ | refine S.block ?_ | refine S.inBlock ?_ | refine S.exit rfl ?_ | refine S.regN ?_ | refine S.reg ?_ | refine S.drw hk.mo (by kernel_rfl) ?_ | (refine S.cond rfl (fun hc => ?_) (fun hc => ?_) <;> try simp only [HC] at hc) | refine S.retH hr rfl ?_ | refine S.finH hr rfl ?_ | (refine S.retK hr ?_; refine TR ?_) | fail)
    | ((first | with_reducible refine Ns.go ?_ | with_reducible refine XOs.go ?_ | with_reducible refine XDs.go ?_ | with_reducible refine OK.go ?_); (first | refine TT ?_ | (apply Ns.sc ⟨rfl, rfl⟩ rfl; intro hg) | (refine OK.tr ?_; refine TT ?_)); (try simp only [HC] at hg))
    | with_reducible exact rfl | exact ⟨rfl, rfl, rfl⟩
    | ((with_reducible refine RunsT.go ?_); first | refine RunsF.apf (h1 _ _) rfl ?_ | fail)
    | ((with_reducible refine RunsD.go ?_); first | refine RunsF.apd (h1 _ _) rfl ?_ | fail)
    | ((with_reducible refine Gd.go ?_); refine Gd.on (fun hg => ?_) (fun hg => ?_) <;> refine TG ?_ <;> (try simp only [HC] at hg))
    | ((with_reducible refine Fin.go ?_); first | (refine Fin.p ?_; first | exact FT | (try refine TT ?_; try simp only [LF])) | refine Fin.a0 ?_ | refine Fin.a ?_ | refine Fin.ni ?_ | refine Fin.v ?_ ?_ | refine Fin.r ?_ ?_ | exact Fin.th | (refine Fin.t ?_; try simp only [AV.sl.injEq]))
    | (refine And.go ?_; refine AndI ?_)
    | fail)
/-- impl.isConsonant -/
def i_isConsonant.x (c_i_IsSound c_i_isVowel : Nat) : XCode :=
  (.seq
    (.reg [⟨(some 2), .mv, [.k (.bool false)], none⟩] [0])
    (.seq
      (.reg (flatNs none (nl [.op (some 3) .mv [.t 0], .op (some 4) .call [.k (.fn c_i_IsSound []), .t 3], .op (some 5) .mv [.t 4], .sc 5 true (nl [.op (some 6) .mv [.t 0], .op (some 7) .call [.k (.fn c_i_isVowel []), .t 6], .op (some 8) (.un .not) [.t 7]]) (.t 8) (some 9), .op (some 2) .mv [.t 9]])) [2])
      .ret))
def i_isConsonant.F : Cfg := ⟨fun _ => 0, fun r => match r with | 0 => [0] | 1 => [2] | _ => []⟩
def i_isConsonant.X (c_i_IsSound c_i_isVowel : Nat) : FX := ⟨10, [.tmp 2], i_isConsonant.F, i_isConsonant.x c_i_IsSound c_i_isVowel⟩

theorem i_isConsonant.ok {P : Program} {k c_i_IsSound c_i_isVowel : Nat} (hk : Has P k (i_isConsonant.X c_i_IsSound c_i_isVowel)) (h1 : C_IsSound P c_i_IsSound) (h2 : CB (fun c => hasF c 0) P c_i_isVowel) : CB isCon P k := by
  intro c n H
  refine S.ofX hk rfl fun hB fn hr => ?_
  unfold i_isConsonant.x
  repeat' (first
    | ((with_reducible refine S.go ?_); first | refine S.seq ?_ | refine S.skip ?_ | refine S.block ?_ | refine S.inBlock ?_ | refine S.exit rfl ?_ | refine S.regN ?_ | refine S.reg ?_ | refine S.drw hk.mo (by kernel_rfl) ?_ | (refine S.cond rfl (fun hc => ?_) (fun hc => ?_) <;> try simp only [HC] at hc) | refine S.retH hr rfl ?_ | refine S.finH hr rfl ?_ | (refine S.retK hr ?_; refine TR ?_) | fail)
    | ((first | with_reducible refine Ns.go ?_ | with_reducible refine XOs.go ?_ | with_reducible refine XDs.go ?_ | with_reducible refine OK.go ?_); (first | refine TT ?_ | (apply Ns.sc ⟨rfl, rfl⟩ rfl; intro hg) | (refine OK.tr ?_; refine TT ?_)); (try simp only [HC] at hg))
    | with_reducible exact rfl | exact ⟨rfl, rfl, rfl⟩
    | ((with_reducible refine RunsT.go ?_); first | refine RunsF.apf (h1 _) rfl ?_ | refine RunsF.apf (h2 _) rfl ?_ | fail)
    | ((with_reducible refine RunsD.go ?_); first | refine RunsF.apd (h1 _) rfl ?_ | refine RunsF.apd (h2 _) rfl ?_ | fail)
    | ((with_reducible refine Gd.go ?_); refine Gd.on (fun hg => ?_) (fun hg => ?_) <;> refine TG ?_ <;> (try simp only [HC] at hg))
    | ((with_reducible refine Fin.go ?_); first | (refine Fin.p ?_; first | exact FT | (try refine TT ?_; try simp only [LF])) | refine Fin.a0 ?_ | refine Fin.a ?_ | refine Fin.ni ?_ | refine Fin.v ?_ ?_ | refine Fin.r ?_ ?_ | exact Fin.th | (refine Fin.t ?_; try simp only [AV.sl.injEq]))
    | (refine And.go ?_; refine AndI ?_)
    | fail)
  all_goals (try clear ih); (try clear ih2); (try clear hr hk hB); (try dsimp only)
  all_goals (try simp only [isCon] at *)
  all_goals first | rfl | omega | (simp_all; done) | (simp_all; omega) | (rw [Bool.eq_iff_iff]; simp_all; done) | (rw [Bool.eq_iff_iff]; simp_all; omega) | grind | (rw [Bool.eq_iff_iff]; grind)
/-- impl.isVoiced -/
def i_isVoiced.x (c_i_IsObstruent c_i_HasFeature : Nat) : XCode :=
  (.seq
    (.reg [⟨(some 2), .mv, [.k (.bool false)], none⟩] [0])
    (.seq
      (.reg (flatNs none (nl [.op (some 3) .mv [.t 0], .op (some 4) .call [.k (.fn c_i_IsObstruent []), .t 3], .op (some 5) .mv [.t 4], .sc 5 true (nl [.op (some 6) .mv [.t 0], .op (some 7) .call [.k (.fn c_i_HasFeature []), .t 6, .k (.int .i64 1)]]) (.t 7) (some 8), .op (some 2) .mv [.t 8]])) [2])
      .ret))
def i_isVoiced.F : Cfg := ⟨fun _ => 0, fun r => match r with | 0 => [0] | 1 => [2] | _ => []⟩
def i_isVoiced.X (c_i_IsObstruent c_i_HasFeature : Nat) : FX := ⟨9, [.tmp 2], i_isVoiced.F, i_isVoiced.x c_i_IsObstruent c_i_HasFeature⟩

theorem i_isVoiced.ok {P : Program} {k c_i_IsObstruent c_i_HasFeature : Nat} (hk : Has P k (i_isVoiced.X c_i_IsObstruent c_i_HasFeature)) (h1 : CB isObs P c_i_IsObstruent) (h2 : C_HasFeature P c_i_HasFeature) : CB isVoi P k := by
  intro c n H
  refine S.ofX hk rfl fun hB fn hr => ?_
  unfold i_isVoiced.x
  repeat' (first
    | ((with_reducible refine S.go ?_); first | refine S.seq ?_ | refine S.skip ?_ | refine S.block ?_ | refine S.inBlock ?_ | refine S.exit rfl ?_ | refine S.regN ?_ | refine S.reg ?_ | refine S.drw hk.mo (by kernel_rfl) ?_ | (refine S.cond rfl (fun hc => ?_) (fun hc => ?_) <;> try simp only [HC] at hc) | refine S.retH hr rfl ?_ | refine S.finH hr rfl ?_ | (refine S.retK hr ?_; refine TR ?_) | fail)
    | ((first | with_reducible refine Ns.go ?_ | with_reducible refine XOs.go ?_ | with_reducible refine XDs.go ?_ | with_reducible refine OK.go ?_); (first | refine TT ?_ | (apply Ns.sc ⟨rfl, rfl⟩ rfl; intro hg) | (refine OK.tr ?_; refine TT ?_)); (try simp only [HC] at hg))
    | with_reducible exact rfl | exact ⟨rfl, rfl, rfl⟩
    | ((with_reducible refine RunsT.go ?_); first | refine RunsF.apf (h1 _) rfl ?_ | refine RunsF.apf (h2 _ _) rfl ?_ | fail)
    | ((with_reducible refine RunsD.go ?_); first | refine RunsF.apd (h1 _) rfl ?_ | refine RunsF.apd (h2 _ _) rfl ?_ | fail)
    | ((with_reducible refine Gd.go ?_); refine Gd.on (fun hg => ?_) (fun hg => ?_) <;> refine TG ?_ <;> (try simp only [HC] at hg))
    | ((with_reducible refine Fin.go ?_); first | (refine Fin.p ?_; first | exact FT | (try refine TT ?_; try simp only [LF])) | refine Fin.a0 ?_ | refine Fin.a ?_ | refine Fin.ni ?_ | refine Fin.v ?_ ?_ | refine Fin.r ?_ ?_ | exact Fin.th | (refine Fin.t ?_; try simp only [AV.sl.injEq]))
    | (refine And.go ?_; refine AndI ?_)
    | fail)
  all_goals (try clear ih); (try clear ih2); (try clear hr hk hB); (try dsimp only)
  all_goals (try simp only [isVoi] at *)
  all_goals first | rfl | omega | (simp_all; done) | (simp_all; omega) | (rw [Bool.eq_iff_iff]; simp_all; done) | (rw [Bool.eq_iff_iff]; simp_all; omega) | grind | (rw [Bool.eq_iff_iff]; grind)
/-- impl.isVoiceless -/
def i_isVoiceless.x (c_i_IsObstruent c_i_HasFeature : Nat) : XCode :=
  (.seq
    (.reg [⟨(some 2), .mv, [.k (.bool false)], none⟩] [0])
    (.seq
      (.reg (flatNs none (nl [.op (some 3) .mv [.t 0], .op (some 4) .call [.k (.fn c_i_IsObstruent []), .t 3], .op (some 5) .mv [.t 4], .sc 5 true (nl [.op (some 6) .mv [.t 0], .op (some 7) .call [.k (.fn c_i_HasFeature []), .t 6, .k (.int .i64 1)], .op (some 8) (.un .not) [.t 7]]) (.t 8) (some 9), .op (some 2) .mv [.t 9]])) [2])
      .ret))
def i_isVoiceless.F : Cfg := ⟨fun _ => 0, fun r => match r with | 0 => [0] | 1 => [2] | _ => []⟩
def i_isVoiceless.X (c_i_IsObstruent c_i_HasFeature : Nat) : FX := ⟨10, [.tmp 2], i_isVoiceless.F, i_isVoiceless.x c_i_IsObstruent c_i_HasFeature⟩

theorem i_isVoiceless.ok {P : Program} {k c_i_IsObstruent c_i_HasFeature : Nat} (hk : Has P k (i_isVoiceless.X c_i_IsObstruent c_i_HasFeature)) (h1 : CB isObs P c_i_IsObstruent) (h2 : C_HasFeature P c_i_HasFeature) : CB isVls P k := by
  intro c n H
  refine S.ofX hk rfl fun hB fn hr => ?_
  unfold i_isVoiceless.x
  repeat' (first
    | ((with_reducible refine S.go ?_); first | refine S.seq ?_ | refine S.skip ?_ | refine S.block ?_ | refine S.inBlock ?_ | refine S.exit rfl ?_ | refine S.regN ?_ | refine S.reg ?_ | refine S.drw hk.mo (by kernel_rfl) ?_ | (refine S.cond rfl (fun hc => ?_) (fun hc => ?_) <;> try simp only [HC] at hc) | refine S.retH hr rfl ?_ | refine S.finH hr rfl ?_ | (refine S.retK hr ?_; refine TR ?_) | fail)
    | ((first | with_reducible refine Ns.go ?_ | with_reducible refine XOs.go ?_ | with_reducible refine XDs.go ?_ | with_reducible refine OK.go ?_); (first | refine TT ?_ | (apply Ns.sc ⟨rfl, rfl⟩ rfl; intro hg) | (refine OK.tr ?_; refine TT ?_)); (try simp only [HC] at hg))
    | with_reducible exact rfl | exact ⟨rfl, rfl, rfl⟩
    | ((with_reducible refine RunsT.go ?_); first | refine RunsF.apf (h1 _) rfl ?_ | refine RunsF.apf (h2 _ _) rfl ?_ | fail)
    | ((with_reducible refine RunsD.go ?_); first | refine RunsF.apd (h1 _) rfl ?_ | refine RunsF.apd (h2 _ _) rfl ?_ | fail)
    | ((with_reducible refine Gd.go ?_); refine Gd.on (fun hg => ?_) (fun hg => ?_) <;> refine TG ?_ <;> (try simp only [HC] at hg))
    | ((with_reducible refine Fin.go ?_); first | (refine Fin.p ?_; first | exact FT | (try refine TT ?_; try simp only [LF])) | refine Fin.a0 ?_ | refine Fin.a ?_ | refine Fin.ni ?_ | refine Fin.v ?_ ?_ | refine Fin.r ?_ ?_ | exact Fin.th | (refine Fin.t ?_; try simp only [AV.sl.injEq]))
    | (refine And.go ?_; refine AndI ?_)
    | fail)
  all_goals (try clear ih); (try clear ih2); (try clear hr hk hB); (try dsimp only)
  all_goals (try simp only [isVls] at *)
  all_goals first | rfl | omega | (simp_all; done) | (simp_all; omega) | (rw [Bool.eq_iff_iff]; simp_all; done) | (rw [Bool.eq_iff_iff]; simp_all; omega) | grind | (rw [Bool.eq_iff_iff]; grind)
/-- spec.l8Voiced -/
def s_l8Voiced.x (c_s_IsObstruent c_s_HasFeature : Nat) : XCode :=
  (.seq
    (.reg [⟨(some 2), .mv, [.k (.bool false)], none⟩] [0])
    (.seq
      (.reg (flatNs none (nl [.op (some 3) .mv [.t 0], .op (some 4) .call [.k (.fn c_s_IsObstruent []), .t 3], .op (some 5) .mv [.t 4], .sc 5 true (nl [.op (some 6) .mv [.t 0], .op (some 7) .call [.k (.fn c_s_HasFeature []), .t 6, .k (.int .i64 1)]]) (.t 7) (some 8), .op (some 2) .mv [.t 8]])) [2])
      .ret))
def s_l8Voiced.F : Cfg := ⟨fun _ => 0, fun r => match r with | 0 => [0] | 1 => [2] | _ => []⟩
def s_l8Voiced.X (c_s_IsObstruent c_s_HasFeature : Nat) : FX := ⟨9, [.tmp 2], s_l8Voiced.F, s_l8Voiced.x c_s_IsObstruent c_s_HasFeature⟩

theorem s_l8Voiced.ok {P : Program} {k c_s_IsObstruent c_s_HasFeature : Nat} (hk : Has P k (s_l8Voiced.X c_s_IsObstruent c_s_HasFeature)) (h1 : CB isObs P c_s_IsObstruent) (h2 : C_HasFeature P c_s_HasFeature) : CB isVoi P k := by
  intro c n H
  refine S.ofX hk rfl fun hB fn hr => ?_
  unfold s_l8Voiced.x
  repeat' (first
    | ((with_reducible refine S.go ?_); first | refine S.seq ?_ | refine S.skip ?_ | refine S.block ?_ | refine S.inBlock ?_ | refine S.exit rfl ?_ | refine S.regN ?_ | refine S.reg ?_ | refine S.drw hk.mo (by kernel_rfl) ?_ | (refine S.cond rfl (fun hc => ?_) (fun hc => ?_) <;> try simp only [HC] at hc) | refine S.retH hr rfl ?_ | refine S.finH hr rfl ?_ | (refine S.retK hr ?_; refine TR ?_) | fail)
    | ((first | with_reducible refine Ns.go ?_ | with_reducible refine XOs.go ?_ | with_reducible refine XDs.go ?_ | with_reducible refine OK.go ?_); (first | refine TT ?_ | (apply Ns.sc ⟨rfl, rfl⟩ rfl; intro hg) | (refine OK.tr ?_; refine TT ?_)); (try simp only [HC] at hg))
    | with_reducible exact rfl | exact ⟨rfl, rfl, rfl⟩
    | ((with_reducible refine RunsT.go ?_); first | refine RunsF.apf (h1 _) rfl ?_ | refine RunsF.apf (h2 _ _) rfl ?_ | fail)
    | ((with_reducible refine RunsD.go ?_); first | refine RunsF.apd (h1 _) rfl ?_ | refine RunsF.apd (h2 _ _) rfl ?_ | fail)
    | ((with_reducible refine Gd.go ?_); refine Gd.on (fun hg => ?_) (fun hg => ?_) <;> refine TG ?_ <;> (try simp only [HC] at hg))
    | ((with_reducible refine Fin.go ?_); first | (refine Fin.p ?_; first | exact FT | (try refine TT ?_; try simp only [LF])) | refine Fin.a0 ?_ | refine Fin.a ?_ | refine Fin.ni ?_ | refine Fin.v ?_ ?_ | refine Fin.r ?_ ?_ | exact Fin.th | (refine Fin.t ?_; try simp only [AV.sl.injEq]))
    | (refine And.go ?_; refine AndI ?_)
    | fail)
  all_goals (try clear ih); (try clear ih2); (try clear hr hk hB); (try dsimp only)
  all_goals (try simp only [isVoi] at *)
  all_goals first | rfl | omega | (simp_all; done) | (simp_all; omega) | (rw [Bool.eq_iff_iff]; simp_all; done) | (rw [Bool.eq_iff_iff]; simp_all; omega) | grind | (rw [Bool.eq_iff_iff]; grind)

/-- The voice swapped. -/
def swapV (c : UInt8) : UInt8 := if c = 112 then 98 else if c = 98 then 112 else if c = 116 then 100 else if c = 100 then 116 else c
def C_SwapVoice (P : Program) (k : Nat) : Prop := ∀ c : UInt8, RunsF P k [.int .u8 (c.toNat : Int)] (.tup [.int .u8 ((swapV c).toNat : Int), .bool (isObs c)])
/-- spec.SwapVoice -/
def s_SwapVoice.x : XCode :=
  (.seq
    (.reg [⟨(some 2), .mv, [.k (.int .u8 0)], none⟩,
      ⟨(some 3), .mv, [.k (.bool false)], none⟩] [0])
    (.seq
      (.seq
        (.reg [⟨(some 4), .mv, [.t 0], none⟩] [0, 4])
        (.block 0
          (.seq
            (.reg [⟨(some 6), (.bin .eql), [.t 4, .k (.int .u8 112)], none⟩,
              ⟨(some 5), .mv, [.t 6], none⟩] [0, 4, 5])
            (.cond (.t 5)
              (.seq
                (.reg [⟨(some 2), .mv, [.k (.int .u8 98)], none⟩,
                  ⟨(some 3), .mv, [.k (.bool true)], none⟩] [2, 3])
                .ret)
              (.seq
                (.reg [⟨(some 8), (.bin .eql), [.t 4, .k (.int .u8 98)], none⟩,
                  ⟨(some 7), .mv, [.t 8], none⟩] [0, 4, 7])
                (.cond (.t 7)
                  (.seq
                    (.reg [⟨(some 2), .mv, [.k (.int .u8 112)], none⟩,
                      ⟨(some 3), .mv, [.k (.bool true)], none⟩] [2, 3])
                    .ret)
                  (.seq
                    (.reg [⟨(some 10), (.bin .eql), [.t 4, .k (.int .u8 116)], none⟩,
                      ⟨(some 9), .mv, [.t 10], none⟩] [0, 4, 9])
                    (.cond (.t 9)
                      (.seq
                        (.reg [⟨(some 2), .mv, [.k (.int .u8 100)], none⟩,
                          ⟨(some 3), .mv, [.k (.bool true)], none⟩] [2, 3])
                        .ret)
                      (.seq
                        (.reg [⟨(some 12), (.bin .eql), [.t 4, .k (.int .u8 100)], none⟩,
                          ⟨(some 11), .mv, [.t 12], none⟩] [0, 11])
                        (.cond (.t 11)
                          (.seq
                            (.reg [⟨(some 2), .mv, [.k (.int .u8 116)], none⟩,
                              ⟨(some 3), .mv, [.k (.bool true)], none⟩] [2, 3])
                            .ret)
                          .skip))))))))))
      (.seq
        (.reg [⟨(some 13), .mv, [.t 0], none⟩,
          ⟨(some 2), .mv, [.t 13], none⟩,
          ⟨(some 3), .mv, [.k (.bool false)], none⟩] [2, 3])
        .ret)))
def s_SwapVoice.F : Cfg := ⟨fun _ => 0, fun r => match r with | 0 => [0] | 1 => [0, 4] | 2 => [0, 4, 5] | 3 => [2, 3] | 4 => [0, 4, 7] | 5 => [2, 3] | 6 => [0, 4, 9] | 7 => [2, 3] | 8 => [0, 11] | 9 => [2, 3] | 10 => [2, 3] | _ => []⟩
def s_SwapVoice.X : FX := ⟨14, [.tmp 2, .tmp 3], s_SwapVoice.F, s_SwapVoice.x⟩

theorem s_SwapVoice.ok {P : Program} {k : Nat} (hk : Has P k (s_SwapVoice.X)) : C_SwapVoice P k := by
  intro c n H
  refine S.ofX hk rfl fun hB fn hr => ?_
  unfold s_SwapVoice.x
  repeat' (first
    | ((with_reducible refine S.go ?_); first | refine S.seq ?_ | refine S.skip ?_ | refine S.block ?_ | refine S.inBlock ?_ | refine S.exit rfl ?_ | refine S.regN ?_ | refine S.reg ?_ | refine S.drw hk.mo (by kernel_rfl) ?_ | (refine S.cond rfl (fun hc => ?_) (fun hc => ?_) <;> try simp only [HC] at hc) | refine S.retH hr rfl ?_ | refine S.finH hr rfl ?_ | (refine S.retK hr ?_; refine TR ?_) | fail)
    | ((first | with_reducible refine Ns.go ?_ | with_reducible refine XOs.go ?_ | with_reducible refine XDs.go ?_ | with_reducible refine OK.go ?_); (first | refine TT ?_ | (apply Ns.sc ⟨rfl, rfl⟩ rfl; intro hg) | (refine OK.tr ?_; refine TT ?_)); (try simp only [HC] at hg))
    | with_reducible exact rfl | exact ⟨rfl, rfl, rfl⟩
    | ((with_reducible refine Gd.go ?_); refine Gd.on (fun hg => ?_) (fun hg => ?_) <;> refine TG ?_ <;> (try simp only [HC] at hg))
    | ((with_reducible refine Fin.go ?_); first | (refine Fin.p ?_; first | exact FT | (try refine TT ?_; try simp only [LF])) | refine Fin.a0 ?_ | refine Fin.a ?_ | refine Fin.ni ?_ | refine Fin.v ?_ ?_ | refine Fin.r ?_ ?_ | exact Fin.th | (refine Fin.t ?_; try simp only [AV.sl.injEq]))
    | (refine And.go ?_; refine AndI ?_)
    | fail)
  all_goals (try clear ih); (try clear ih2); (try clear hr hk hB); (try dsimp only)
  all_goals (try simp only [swapV, isObs] at *)
  all_goals first | rfl | omega | (simp_all; done) | (simp_all; omega) | (rw [Bool.eq_iff_iff]; simp_all; done) | (rw [Bool.eq_iff_iff]; simp_all; omega) | grind | (rw [Bool.eq_iff_iff]; grind)
theorem sw_idx (c : UInt8) : (c = 112 ∧ Lib.indexByte [112, 116, 98, 100] c = 0) ∨ (c = 116 ∧ Lib.indexByte [112, 116, 98, 100] c = 1) ∨ (c = 98 ∧ Lib.indexByte [112, 116, 98, 100] c = 2) ∨ (c = 100 ∧ Lib.indexByte [112, 116, 98, 100] c = 3) ∨
    (c ≠ 112 ∧ c ≠ 116 ∧ c ≠ 98 ∧ c ≠ 100 ∧ Lib.indexByte [112, 116, 98, 100] c = -1) := by
  by_cases h1 : c = 112
  · subst h1; exact .inl ⟨rfl, rfl⟩
  by_cases h2 : c = 116
  · subst h2; exact .inr (.inl ⟨rfl, rfl⟩)
  by_cases h3 : c = 98
  · subst h3; exact .inr (.inr (.inl ⟨rfl, rfl⟩))
  by_cases h4 : c = 100
  · subst h4; exact .inr (.inr (.inr (.inl ⟨rfl, rfl⟩)))
  refine .inr (.inr (.inr (.inr ⟨h1, h2, h3, h4, ?_⟩)))
  have e : ∀ {a b : UInt8}, a ≠ b → (b = a) = False := fun h => by simp; exact fun e => h e.symm
  simp [Lib.indexByte, e h1, e h2, e h3, e h4, h1, h2, h3, h4]
/-- impl.SwapVoice -/
def i_SwapVoice.x (c_strings_IndexByte : Nat) : XCode :=
  (.seq
    (.reg [⟨(some 2), .mv, [.k (.int .u8 0)], none⟩,
      ⟨(some 3), .mv, [.k (.bool false)], none⟩] [0])
    (.seq
      (.reg [⟨(some 5), .mv, [.t 0], none⟩,
        ⟨(some 6), .call, [.k (.fn c_strings_IndexByte []), .k (.str [112, 116, 98, 100]), .t 5], none⟩,
        ⟨(some 4), .mv, [.t 6], none⟩] [0, 4])
      (.seq
        (.seq
          (.reg [⟨(some 7), .mv, [.t 4], none⟩,
            ⟨(some 8), (.bin .lss), [.t 7, .k (.int .i64 0)], none⟩] [0, 4, 8])
          (.cond (.t 8)
            (.seq
              (.reg [⟨(some 9), .mv, [.t 0], none⟩,
                ⟨(some 2), .mv, [.t 9], none⟩,
                ⟨(some 3), .mv, [.k (.bool false)], none⟩] [2, 3])
              .ret)
            .skip))
        (.seq
          (.reg [⟨(some 10), .mv, [.t 4], none⟩,
            ⟨(some 11), .idxS, [.k (.str [98, 100, 112, 116]), .t 10], none⟩,
            ⟨(some 2), .mv, [.t 11], none⟩,
            ⟨(some 3), .mv, [.k (.bool true)], none⟩] [2, 3])
          .ret))))
def i_SwapVoice.F : Cfg := ⟨fun _ => 0, fun r => match r with | 0 => [0] | 1 => [0, 4] | 2 => [0, 4, 8] | 3 => [2, 3] | 4 => [2, 3] | _ => []⟩
def i_SwapVoice.X (c_strings_IndexByte : Nat) : FX := ⟨12, [.tmp 2, .tmp 3], i_SwapVoice.F, i_SwapVoice.x c_strings_IndexByte⟩

theorem i_SwapVoice.ok {P : Program} {k c_strings_IndexByte : Nat} (hk : Has P k (i_SwapVoice.X c_strings_IndexByte)) (h1 : C_indexByte P c_strings_IndexByte) : C_SwapVoice P k := by
  intro c n H
  refine S.ofX hk rfl fun hB fn hr => ?_
  unfold i_SwapVoice.x
  repeat' (first
    | ((with_reducible refine S.go ?_); first | refine S.seq ?_ | refine S.skip ?_ | refine S.block ?_ | refine S.inBlock ?_ | refine S.exit rfl ?_ | refine S.regN ?_ | refine S.reg ?_ | refine S.drw hk.mo (by kernel_rfl) ?_ | (refine S.cond rfl (fun hc => ?_) (fun hc => ?_) <;> try simp only [HC] at hc) | refine S.retH hr rfl ?_ | refine S.finH hr rfl ?_ | (refine S.retK hr ?_; refine TR ?_) | fail)
    | ((first | with_reducible refine Ns.go ?_ | with_reducible refine XOs.go ?_ | with_reducible refine XDs.go ?_ | with_reducible refine OK.go ?_); (first | refine TT ?_ | (apply Ns.sc ⟨rfl, rfl⟩ rfl; intro hg) | (refine OK.tr ?_; refine TT ?_)); (try simp only [HC] at hg))
    | with_reducible exact rfl | exact ⟨rfl, rfl, rfl⟩
    | ((with_reducible refine RunsT.go ?_); first | refine RunsF.apf (h1 _ _) rfl ?_ | fail)
    | ((with_reducible refine RunsD.go ?_); first | refine RunsF.apd (h1 _ _) rfl ?_ | fail)
    | ((with_reducible refine Gd.go ?_); refine Gd.on (fun hg => ?_) (fun hg => ?_) <;> refine TG ?_ <;> (try simp only [HC] at hg))
    | ((with_reducible refine Fin.go ?_); first | (refine Fin.p ?_; first | exact FT | (try refine TT ?_; try simp only [LF])) | refine Fin.a0 ?_ | refine Fin.a ?_ | refine Fin.ni ?_ | refine Fin.v ?_ ?_ | refine Fin.r ?_ ?_ | exact Fin.th | (refine Fin.t ?_; try simp only [AV.sl.injEq]))
    | (refine And.go ?_; refine AndI ?_)
    | fail)
  · obtain ⟨hc0, hx⟩ | ⟨hc0, hx⟩ | ⟨hc0, hx⟩ | ⟨hc0, hx⟩ | ⟨k1, k2, k3, k4, hx⟩ := sw_idx c <;> first | (exfalso; omega) | skip
    simp [swapV, isObs, k1, k2, k3, k4]
  obtain ⟨hc0, hx⟩ | ⟨hc0, hx⟩ | ⟨hc0, hx⟩ | ⟨hc0, hx⟩ | ⟨k1, k2, k3, k4, hx⟩ := sw_idx c <;> first | (exfalso; omega) | (rw [hx]; subst hc0; refine ⟨by decide, ?_⟩)
  repeat' (first
    | ((with_reducible refine S.go ?_); first | refine S.seq ?_ | refine S.skip ?_ | refine S.block ?_ | refine S.inBlock ?_ | refine S.exit rfl ?_ | refine S.regN ?_ | refine S.reg ?_ | refine S.drw hk.mo (by kernel_rfl) ?_ | (refine S.cond rfl (fun hc => ?_) (fun hc => ?_) <;> try simp only [HC] at hc) | refine S.retH hr rfl ?_ | refine S.finH hr rfl ?_ | (refine S.retK hr ?_; refine TR ?_) | fail)
    | ((first | with_reducible refine Ns.go ?_ | with_reducible refine XOs.go ?_ | with_reducible refine XDs.go ?_ | with_reducible refine OK.go ?_); (first | refine TT ?_ | (apply Ns.sc ⟨rfl, rfl⟩ rfl; intro hg) | (refine OK.tr ?_; refine TT ?_)); (try simp only [HC] at hg))
    | with_reducible exact rfl | exact ⟨rfl, rfl, rfl⟩
    | ((with_reducible refine Gd.go ?_); refine Gd.on (fun hg => ?_) (fun hg => ?_) <;> refine TG ?_ <;> (try simp only [HC] at hg))
    | ((with_reducible refine Fin.go ?_); first | (refine Fin.p ?_; first | exact FT | (try refine TT ?_; try simp only [LF])) | refine Fin.a0 ?_ | refine Fin.a ?_ | refine Fin.ni ?_ | refine Fin.v ?_ ?_ | refine Fin.r ?_ ?_ | exact Fin.th | (refine Fin.t ?_; try simp only [AV.sl.injEq]))
    | (refine And.go ?_; refine AndI ?_)
    | fail)
  all_goals exact ⟨rfl, rfl⟩
/-- A link that is one. -/
def isLnk (x : UInt8 × UInt8) : Bool := if x.1 = 0 then isSnd x.2 else isSnd x.1 && (x.2 == 0 || x.2 == x.1 || isObs x.1 && swapV x.1 == x.2)
def C_isLink (P : Program) (k : Nat) : Prop := ∀ x : UInt8 × UInt8, RunsF P k [.agg (Dat.row x)] (.bool (isLnk x))
/-- impl.isLink -/
def i_isLink.x (c_i_IsSound c_i_SwapVoice : Nat) : XCode :=
  (.seq
    (.reg [⟨(some 1), .boxF, [.t 0], none⟩,
      ⟨(some 2), .mv, [.k (.bool false)], none⟩] [1])
    (.seq
      (.block 0
        (.seq
          (.reg [⟨(some 6), (.fldA 0), [.t 1], none⟩,
            ⟨(some 7), (.ld none), [.t 6], none⟩,
            ⟨(some 8), (.bin .eql), [.t 7, .k (.int .u8 0)], none⟩,
            ⟨(some 5), .mv, [.t 8], none⟩] [1, 5])
          (.cond (.t 5)
            (.seq
              (.reg [⟨(some 9), (.fldA 1), [.t 1], none⟩,
                ⟨(some 10), (.ld none), [.t 9], none⟩,
                ⟨(some 11), .call, [.k (.fn c_i_IsSound []), .t 10], none⟩,
                ⟨(some 2), .mv, [.t 11], none⟩] [2])
              .ret)
            (.seq
              (.reg [⟨(some 13), (.fldA 0), [.t 1], none⟩,
                ⟨(some 14), (.ld none), [.t 13], none⟩,
                ⟨(some 15), .call, [.k (.fn c_i_IsSound []), .t 14], none⟩,
                ⟨(some 16), (.un .not), [.t 15], none⟩,
                ⟨(some 12), .mv, [.t 16], none⟩] [1, 12])
              (.cond (.t 12)
                (.seq
                  (.reg [⟨(some 2), .mv, [.k (.bool false)], none⟩] [2])
                  .ret)
                (.seq
                  (.reg (flatNs none (nl [.op (some 18) (.fldA 1) [.t 1], .op (some 19) (.ld none) [.t 18], .op (some 20) (.bin .eql) [.t 19, .k (.int .u8 0)], .op (some 21) .mv [.t 20], .sc 21 false (nl [.op (some 22) (.fldA 1) [.t 1], .op (some 23) (.ld none) [.t 22], .op (some 24) (.fldA 0) [.t 1], .op (some 25) (.ld none) [.t 24], .op (some 26) (.bin .eql) [.t 23, .t 25]]) (.t 26) (some 27), .op (some 17) .mv [.t 27]])) [1, 17])
                  (.cond (.t 17)
                    (.seq
                      (.reg [⟨(some 2), .mv, [.k (.bool true)], none⟩] [2])
                      .ret)
                    .skip)))))))
      (.seq
        (.reg [⟨(some 29), (.fldA 0), [.t 1], none⟩,
          ⟨(some 30), (.ld none), [.t 29], none⟩,
          ⟨(some 31), .call, [.k (.fn c_i_SwapVoice []), .t 30], none⟩,
          ⟨(some 28), .mv, [.t 31], none⟩,
          ⟨(some 32), (.ext 0), [.t 28], none⟩,
          ⟨(some 33), (.ext 1), [.t 28], none⟩,
          ⟨(some 3), .mv, [.t 32], none⟩,
          ⟨(some 4), .mv, [.t 33], none⟩] [1, 3, 4])
        (.seq
          (.reg (flatNs none (nl [.op (some 34) .mv [.t 4], .op (some 35) .mv [.t 34], .sc 35 true (nl [.op (some 36) .mv [.t 3], .op (some 37) (.fldA 1) [.t 1], .op (some 38) (.ld none) [.t 37], .op (some 39) (.bin .eql) [.t 36, .t 38]]) (.t 39) (some 40), .op (some 2) .mv [.t 40]])) [2])
          .ret))))
def i_isLink.F : Cfg := ⟨fun _ => 0, fun r => match r with | 0 => [1] | 1 => [1, 5] | 2 => [2] | 3 => [1, 12] | 4 => [2] | 5 => [1, 17] | 6 => [2] | 7 => [1, 3, 4] | 8 => [2] | _ => []⟩
def i_isLink.X (c_i_IsSound c_i_SwapVoice : Nat) : FX := ⟨41, [.tmp 2], i_isLink.F, i_isLink.x c_i_IsSound c_i_SwapVoice⟩

theorem i_isLink.ok {P : Program} {k c_i_IsSound c_i_SwapVoice : Nat} (hk : Has P k (i_isLink.X c_i_IsSound c_i_SwapVoice)) (h1 : C_IsSound P c_i_IsSound) (h2 : C_SwapVoice P c_i_SwapVoice) : C_isLink P k := by
  intro x n H
  refine S.ofX hk rfl fun hB fn hr => ?_
  unfold i_isLink.x
  repeat' (first
    | ((with_reducible refine S.go ?_); first | refine S.seq ?_ | refine S.skip ?_ | refine S.block ?_ | refine S.inBlock ?_ | refine S.exit rfl ?_ | refine S.regN ?_ | refine S.reg ?_ | refine S.drw hk.mo (by kernel_rfl) ?_ | (refine S.cond rfl (fun hc => ?_) (fun hc => ?_) <;> try simp only [HC] at hc) | refine S.retH hr rfl ?_ | refine S.finH hr rfl ?_ | (refine S.retK hr ?_; refine TR ?_) | fail)
    | ((first | with_reducible refine Ns.go ?_ | with_reducible refine XOs.go ?_ | with_reducible refine XDs.go ?_ | with_reducible refine OK.go ?_); (first | refine TT ?_ | (apply Ns.sc ⟨rfl, rfl⟩ rfl; intro hg) | (refine OK.tr ?_; refine TT ?_)); (try simp only [HC] at hg))
    | with_reducible exact rfl | exact ⟨rfl, rfl, rfl⟩
    | ((with_reducible refine RunsT.go ?_); first | refine RunsF.apf (h1 _) rfl ?_ | refine RunsF.apf (h2 _) rfl ?_ | fail)
    | ((with_reducible refine RunsD.go ?_); first | refine RunsF.apd (h1 _) rfl ?_ | refine RunsF.apd (h2 _) rfl ?_ | fail)
    | ((with_reducible refine Gd.go ?_); refine Gd.on (fun hg => ?_) (fun hg => ?_) <;> refine TG ?_ <;> (try simp only [HC] at hg))
    | ((with_reducible refine Fin.go ?_); first | (refine Fin.p ?_; first | exact FT | (try refine TT ?_; try simp only [LF])) | refine Fin.a0 ?_ | refine Fin.a ?_ | refine Fin.ni ?_ | refine Fin.v ?_ ?_ | refine Fin.r ?_ ?_ | exact Fin.th | (refine Fin.t ?_; try simp only [AV.sl.injEq]))
    | (refine And.go ?_; refine AndI ?_)
    | fail)
  all_goals (try clear ih); (try clear ih2); (try clear hr hk hB); (try dsimp only)
  all_goals (try simp only [isLnk] at *)
  all_goals first | rfl | omega | (simp_all; done) | (simp_all; omega) | (rw [Bool.eq_iff_iff]; simp_all; done) | (rw [Bool.eq_iff_iff]; simp_all; omega) | grind | (rw [Bool.eq_iff_iff]; grind)
end Go.M01
end
section
namespace Go.M02
open Go.Ab Go.Lib01 Go.Lib03 Go.M01
set_option linter.unusedVariables false
set_option linter.unusedSimpArgs false
set_option maxRecDepth 2000

abbrev Link := UInt8 × UInt8
theorem all_no {α : Type} [Inhabited α] {l : List α} {p : α → Bool} {i : Nat} (h : i < l.length) (hp : p (l.getD i default) = false) : l.all p = false := by
  rw [List.all_eq_false]
  refine ⟨l[i], List.getElem_mem h, ?_⟩
  rw [List.getD_eq_getElem?_getD, List.getElem?_eq_getElem h] at hp
  simpa using hp
theorem all_step {α : Type} [Inhabited α] {l : List α} {p : α → Bool} {i : Nat} (h : i < l.length) (hp : p (l.getD i default) = true) (ha : (l.take i).all p = true) : (l.take (i + 1)).all p = true := by
  rw [take_succ _ _ h, List.all_append, ha, List.all_cons, hp]; rfl

def nz (l : List UInt8) : List UInt8 := l.filter (· != 0)
def insS (c : List Link) : List UInt8 := nz (c.map (·.1))
def outS (c : List Link) : List UInt8 := nz (c.map (·.2))
def isCand (c : List Link) : Bool := c.all isLnk && (decide (c.length ≤ 16) && (isForm (insS c) && isForm (outS c)))
theorem nz_len (l : List UInt8) : (nz l).length ≤ l.length := List.length_filter_le _ _
theorem ins_len (c : List Link) : (insS c).length ≤ c.length := by unfold insS; exact Nat.le_trans (nz_len _) (by simp)
theorem outs_len (c : List Link) : (outS c).length ≤ c.length := by unfold outS; exact Nat.le_trans (nz_len _) (by simp)

theorem nz_snoc (l : List UInt8) (b : UInt8) : nz (l ++ [b]) = if b = 0 then nz l else nz l ++ [b] := by
  by_cases h : b = 0 <;> simp [nz, h]
theorem nzm {c : List Link} {f : Link → UInt8} {i : Nat} (h : i < c.length) : nz ((c.take (i + 1)).map f) = if f (c.getD i default) = 0 then nz ((c.take i).map f) else nz ((c.take i).map f) ++ [f (c.getD i default)] := by
  rw [take_succ _ _ h, List.map_append, List.map_cons, List.map_nil, nz_snoc]
def Cs (f : List Link → List UInt8) (P : Program) (k : Nat) : Prop := ∀ c : List Link, c.length ≤ 4294967295 → RunsF P k [.agg [.sl (enc c)]] (.str (f c))
/-- spec.l6In -/
def s_l6In.x : XCode :=
  (.seq
    (.reg [⟨(some 1), .boxF, [.t 0], none⟩,
      ⟨(some 2), .mv, [.k (.str [])], none⟩] [1])
    (.seq
      (.reg [⟨(some 5), (.bsl 1 1), [], none⟩,
        ⟨(some 3), .mv, [.t 5], none⟩] [1, 3])
      (.seq
        (.seq
          (.reg [⟨(some 4), .mv, [.k (.int .i64 0)], none⟩] [1, 3, 4])
          (.block 0
            (.loop
              (.seq
                (.seq
                  (.reg [⟨(some 6), .mv, [.t 4], none⟩,
                    ⟨(some 7), (.fldA 0), [.t 1], none⟩,
                    ⟨(some 8), (.ld none), [.t 7], none⟩,
                    ⟨(some 9), .lenL, [.t 8], none⟩,
                    ⟨(some 10), (.bin .lss), [.t 6, .t 9], none⟩] [1, 3, 4, 10])
                  (.cond (.t 10)
                    .skip
                    (.exit 0)))
                (.seq
                  (.block 1
                    (.seq
                      (.reg [⟨(some 13), (.fldA 0), [.t 1], none⟩,
                        ⟨(some 14), (.ld none), [.t 13], none⟩,
                        ⟨(some 15), .mv, [.t 4], none⟩,
                        ⟨(some 16), (.idxA 2), [.t 14, .t 15], none⟩,
                        ⟨(some 17), (.fldA 0), [.t 16], none⟩,
                        ⟨(some 18), (.ld none), [.t 17], none⟩,
                        ⟨(some 19), (.bin .neq), [.t 18, .k (.int .u8 0)], none⟩] [1, 3, 4, 19])
                      (.cond (.t 19)
                        (.reg [⟨(some 20), .mv, [.t 3], none⟩,
                          ⟨(some 21), (.fldA 0), [.t 1], none⟩,
                          ⟨(some 22), (.ld none), [.t 21], none⟩,
                          ⟨(some 23), .mv, [.t 4], none⟩,
                          ⟨(some 24), (.idxA 2), [.t 22, .t 23], none⟩,
                          ⟨(some 25), (.fldA 0), [.t 24], none⟩,
                          ⟨(some 26), (.ld none), [.t 25], none⟩,
                          ⟨(some 27), (.bsl 0 1), [.t 26], none⟩,
                          ⟨(some 28), (.app 1 1), [.t 20, .t 27], none⟩,
                          ⟨(some 3), .mv, [.t 28], none⟩] [1, 3, 4])
                        .skip)))
                  (.reg [⟨(some 11), .mv, [.t 4], none⟩,
                    ⟨(some 12), (.bin .add), [.t 11, .k (.int .i64 1)], none⟩,
                    ⟨(some 4), .mv, [.t 12], none⟩] [1, 3, 4]))))))
        (.seq
          (.reg [⟨(some 29), .mv, [.t 3], none⟩,
            ⟨(some 30), .cvBS, [.t 29], none⟩,
            ⟨(some 2), .mv, [.t 30], none⟩] [2])
          .ret))))
def s_l6In.F : Cfg := ⟨fun d => if d = 5 then 1 else 0, fun r => match r with | 0 => [1] | 1 => [1, 3] | 2 => [1, 3, 4] | 3 => [1, 3, 4, 10] | 4 => [1, 3, 4] | 5 => [1, 3, 4, 19] | 6 => [1, 3, 4] | 7 => [2] | _ => []⟩
def s_l6In.X : FX := ⟨31, [.tmp 2], s_l6In.F, s_l6In.x⟩

theorem s_l6In.ok {P : Program} {k : Nat} (hk : Has P k (s_l6In.X)) : Cs insS P k := by
  intro c hl n H
  refine S.ofX hk rfl fun hB fn hr => ?_
  unfold s_l6In.x
  repeat' (first
    | ((with_reducible refine S.go ?_); first | refine S.seq ?_ | refine S.skip ?_ | refine S.block ?_ | refine S.inBlock ?_ | refine S.exit rfl ?_ | refine S.regN ?_ | refine S.reg ?_ | refine S.drw hk.mo (by kernel_rfl) ?_ | (refine S.cond rfl (fun hc => ?_) (fun hc => ?_) <;> try simp only [HC] at hc) | refine S.retH hr rfl ?_ | refine S.finH hr rfl ?_ | (refine S.retK hr ?_; refine TR ?_) | fail)
    | ((first | with_reducible refine Ns.go ?_ | with_reducible refine XOs.go ?_ | with_reducible refine XDs.go ?_ | with_reducible refine OK.go ?_); (first | refine TT ?_ | (apply Ns.sc ⟨rfl, rfl⟩ rfl; intro hg) | (refine OK.tr ?_; refine TT ?_)); (try simp only [HC] at hg))
    | with_reducible exact rfl | exact ⟨rfl, rfl, rfl⟩
    | ((with_reducible refine Gd.go ?_); refine Gd.on (fun hg => ?_) (fun hg => ?_) <;> refine TG ?_ <;> (try simp only [HC] at hg))
    | ((with_reducible refine Fin.go ?_); first | (refine Fin.p ?_; first | exact FT | (try refine TT ?_; try simp only [LF])) | refine Fin.a0 ?_ | refine Fin.a ?_ | refine Fin.ni ?_ | refine Fin.v ?_ ?_ | refine Fin.r ?_ ?_ | exact Fin.th | (refine Fin.t ?_; try simp only [AV.sl.injEq]))
    | (refine And.go ?_; refine AndI ?_)
    | fail)
  refine S.loopV (σ := Nat × (List UInt8)) [1, 3, 4] (fun s => [(3, .acc n 1 (bts s.2)), (4, .int .i64 (s.1 : Int))]) (fun s => s.1 ≤ c.length ∧ s.2 = nz ((c.take s.1).map (·.1)) ∧ s.2.length ≤ s.1) (fun s => n + 1) (fun s => (n, .tok 1 s.2.length) :: H) (fun s => c.length - s.1) (0, []) (⟨by omega, ?_, ?_⟩) ?_
  · first | rfl | omega | (simp; done) | (simp; omega) | skip
  · first | rfl | omega | (simp; done) | (simp; omega) | skip
  rintro ⟨i, out⟩ ⟨hi1, hi2, hi3⟩ ih
  try dsimp only at hi1 hi2 hi3
  repeat' (first
    | ((with_reducible refine S.go ?_); first | refine S.seq ?_ | refine S.skip ?_ | refine S.block ?_ | refine S.inBlock ?_ | refine S.exit rfl ?_ | refine S.regN ?_ | refine S.reg ?_ | refine S.drw hk.mo (by kernel_rfl) ?_ | refine S.ag (ih ((i + 1, _)) ?_ ?_) | (refine S.cond rfl (fun hc => ?_) (fun hc => ?_) <;> try simp only [HC] at hc) | refine S.retH hr rfl ?_ | refine S.finH hr rfl ?_ | (refine S.retK hr ?_; refine TR ?_) | fail)
    | ((first | with_reducible refine Ns.go ?_ | with_reducible refine XOs.go ?_ | with_reducible refine XDs.go ?_ | with_reducible refine OK.go ?_); (first | refine TT ?_ | (apply Ns.sc ⟨rfl, rfl⟩ rfl; intro hg) | (refine OK.tr ?_; refine TT ?_)); (try simp only [HC] at hg))
    | with_reducible exact rfl | exact ⟨rfl, rfl, rfl⟩
    | ((with_reducible refine Gd.go ?_); refine Gd.on (fun hg => ?_) (fun hg => ?_) <;> refine TG ?_ <;> (try simp only [HC] at hg))
    | ((with_reducible refine Fin.go ?_); first | (refine Fin.p ?_; first | exact FT | (try refine TT ?_; try simp only [LF])) | refine Fin.a0 ?_ | refine Fin.a ?_ | refine Fin.ni ?_ | refine Fin.v ?_ ?_ | refine Fin.r ?_ ?_ | exact Fin.th | (refine Fin.t ?_; try simp only [AV.sl.injEq]))
    | (refine And.go ?_; refine AndI ?_)
    | fail)
  all_goals (try clear ih)
  all_goals (try dsimp only)
  all_goals (repeat' apply And.intro)
  all_goals first | omega | (simp only [ZL]; omega) | skip
  all_goals first | (rw [nzm (by omega), ← hi2]; clear hi2; simp_all; done) | (rw [hi2, List.take_of_length_le (by omega)]; rfl)
/-- spec.l6Out -/
def s_l6Out.x : XCode :=
  (.seq
    (.reg [⟨(some 1), .boxF, [.t 0], none⟩,
      ⟨(some 2), .mv, [.k (.str [])], none⟩] [1])
    (.seq
      (.reg [⟨(some 5), (.bsl 1 1), [], none⟩,
        ⟨(some 3), .mv, [.t 5], none⟩] [1, 3])
      (.seq
        (.seq
          (.reg [⟨(some 4), .mv, [.k (.int .i64 0)], none⟩] [1, 3, 4])
          (.block 0
            (.loop
              (.seq
                (.seq
                  (.reg [⟨(some 6), .mv, [.t 4], none⟩,
                    ⟨(some 7), (.fldA 0), [.t 1], none⟩,
                    ⟨(some 8), (.ld none), [.t 7], none⟩,
                    ⟨(some 9), .lenL, [.t 8], none⟩,
                    ⟨(some 10), (.bin .lss), [.t 6, .t 9], none⟩] [1, 3, 4, 10])
                  (.cond (.t 10)
                    .skip
                    (.exit 0)))
                (.seq
                  (.block 1
                    (.seq
                      (.reg [⟨(some 13), (.fldA 0), [.t 1], none⟩,
                        ⟨(some 14), (.ld none), [.t 13], none⟩,
                        ⟨(some 15), .mv, [.t 4], none⟩,
                        ⟨(some 16), (.idxA 2), [.t 14, .t 15], none⟩,
                        ⟨(some 17), (.fldA 1), [.t 16], none⟩,
                        ⟨(some 18), (.ld none), [.t 17], none⟩,
                        ⟨(some 19), (.bin .neq), [.t 18, .k (.int .u8 0)], none⟩] [1, 3, 4, 19])
                      (.cond (.t 19)
                        (.reg [⟨(some 20), .mv, [.t 3], none⟩,
                          ⟨(some 21), (.fldA 0), [.t 1], none⟩,
                          ⟨(some 22), (.ld none), [.t 21], none⟩,
                          ⟨(some 23), .mv, [.t 4], none⟩,
                          ⟨(some 24), (.idxA 2), [.t 22, .t 23], none⟩,
                          ⟨(some 25), (.fldA 1), [.t 24], none⟩,
                          ⟨(some 26), (.ld none), [.t 25], none⟩,
                          ⟨(some 27), (.bsl 0 1), [.t 26], none⟩,
                          ⟨(some 28), (.app 1 1), [.t 20, .t 27], none⟩,
                          ⟨(some 3), .mv, [.t 28], none⟩] [1, 3, 4])
                        .skip)))
                  (.reg [⟨(some 11), .mv, [.t 4], none⟩,
                    ⟨(some 12), (.bin .add), [.t 11, .k (.int .i64 1)], none⟩,
                    ⟨(some 4), .mv, [.t 12], none⟩] [1, 3, 4]))))))
        (.seq
          (.reg [⟨(some 29), .mv, [.t 3], none⟩,
            ⟨(some 30), .cvBS, [.t 29], none⟩,
            ⟨(some 2), .mv, [.t 30], none⟩] [2])
          .ret))))
def s_l6Out.F : Cfg := ⟨fun d => if d = 5 then 1 else 0, fun r => match r with | 0 => [1] | 1 => [1, 3] | 2 => [1, 3, 4] | 3 => [1, 3, 4, 10] | 4 => [1, 3, 4] | 5 => [1, 3, 4, 19] | 6 => [1, 3, 4] | 7 => [2] | _ => []⟩
def s_l6Out.X : FX := ⟨31, [.tmp 2], s_l6Out.F, s_l6Out.x⟩

theorem s_l6Out.ok {P : Program} {k : Nat} (hk : Has P k (s_l6Out.X)) : Cs outS P k := by
  intro c hl n H
  refine S.ofX hk rfl fun hB fn hr => ?_
  unfold s_l6Out.x
  repeat' (first
    | ((with_reducible refine S.go ?_); first | refine S.seq ?_ | refine S.skip ?_ | refine S.block ?_ | refine S.inBlock ?_ | refine S.exit rfl ?_ | refine S.regN ?_ | refine S.reg ?_ | refine S.drw hk.mo (by kernel_rfl) ?_ | (refine S.cond rfl (fun hc => ?_) (fun hc => ?_) <;> try simp only [HC] at hc) | refine S.retH hr rfl ?_ | refine S.finH hr rfl ?_ | (refine S.retK hr ?_; refine TR ?_) | fail)
    | ((first | with_reducible refine Ns.go ?_ | with_reducible refine XOs.go ?_ | with_reducible refine XDs.go ?_ | with_reducible refine OK.go ?_); (first | refine TT ?_ | (apply Ns.sc ⟨rfl, rfl⟩ rfl; intro hg) | (refine OK.tr ?_; refine TT ?_)); (try simp only [HC] at hg))
    | with_reducible exact rfl | exact ⟨rfl, rfl, rfl⟩
    | ((with_reducible refine Gd.go ?_); refine Gd.on (fun hg => ?_) (fun hg => ?_) <;> refine TG ?_ <;> (try simp only [HC] at hg))
    | ((with_reducible refine Fin.go ?_); first | (refine Fin.p ?_; first | exact FT | (try refine TT ?_; try simp only [LF])) | refine Fin.a0 ?_ | refine Fin.a ?_ | refine Fin.ni ?_ | refine Fin.v ?_ ?_ | refine Fin.r ?_ ?_ | exact Fin.th | (refine Fin.t ?_; try simp only [AV.sl.injEq]))
    | (refine And.go ?_; refine AndI ?_)
    | fail)
  refine S.loopV (σ := Nat × (List UInt8)) [1, 3, 4] (fun s => [(3, .acc n 1 (bts s.2)), (4, .int .i64 (s.1 : Int))]) (fun s => s.1 ≤ c.length ∧ s.2 = nz ((c.take s.1).map (·.2)) ∧ s.2.length ≤ s.1) (fun s => n + 1) (fun s => (n, .tok 1 s.2.length) :: H) (fun s => c.length - s.1) (0, []) (⟨by omega, ?_, ?_⟩) ?_
  · first | rfl | omega | (simp; done) | (simp; omega) | skip
  · first | rfl | omega | (simp; done) | (simp; omega) | skip
  rintro ⟨i, out⟩ ⟨hi1, hi2, hi3⟩ ih
  try dsimp only at hi1 hi2 hi3
  repeat' (first
    | ((with_reducible refine S.go ?_); first | refine S.seq ?_ | refine S.skip ?_ | refine S.block ?_ | refine S.inBlock ?_ | refine S.exit rfl ?_ | refine S.regN ?_ | refine S.reg ?_ | refine S.drw hk.mo (by kernel_rfl) ?_ | refine S.ag (ih ((i + 1, _)) ?_ ?_) | (refine S.cond rfl (fun hc => ?_) (fun hc => ?_) <;> try simp only [HC] at hc) | refine S.retH hr rfl ?_ | refine S.finH hr rfl ?_ | (refine S.retK hr ?_; refine TR ?_) | fail)
    | ((first | with_reducible refine Ns.go ?_ | with_reducible refine XOs.go ?_ | with_reducible refine XDs.go ?_ | with_reducible refine OK.go ?_); (first | refine TT ?_ | (apply Ns.sc ⟨rfl, rfl⟩ rfl; intro hg) | (refine OK.tr ?_; refine TT ?_)); (try simp only [HC] at hg))
    | with_reducible exact rfl | exact ⟨rfl, rfl, rfl⟩
    | ((with_reducible refine Gd.go ?_); refine Gd.on (fun hg => ?_) (fun hg => ?_) <;> refine TG ?_ <;> (try simp only [HC] at hg))
    | ((with_reducible refine Fin.go ?_); first | (refine Fin.p ?_; first | exact FT | (try refine TT ?_; try simp only [LF])) | refine Fin.a0 ?_ | refine Fin.a ?_ | refine Fin.ni ?_ | refine Fin.v ?_ ?_ | refine Fin.r ?_ ?_ | exact Fin.th | (refine Fin.t ?_; try simp only [AV.sl.injEq]))
    | (refine And.go ?_; refine AndI ?_)
    | fail)
  all_goals (try clear ih)
  all_goals (try dsimp only)
  all_goals (repeat' apply And.intro)
  all_goals first | omega | (simp only [ZL]; omega) | skip
  all_goals first | (rw [nzm (by omega), ← hi2]; clear hi2; simp_all; done) | (rw [hi2, List.take_of_length_le (by omega)]; rfl)
def sideS (b : Bool) (c : List Link) : List UInt8 := nz (c.map fun x => if b then x.2 else x.1)
theorem side_f (c : List Link) : sideS false c = insS c := rfl
theorem side_t (c : List Link) : sideS true c = outS c := rfl
def C_sounds (P : Program) (k : Nat) : Prop := ∀ (c : List Link) (b : Bool), c.length ≤ 4294967295 → RunsF P k [.agg [.sl (enc c)], .bool b] (.str (sideS b c))
/-- impl.sounds -/
def i_sounds.x : XCode :=
  (.seq
    (.reg [⟨(some 2), .boxF, [.t 0], none⟩,
      ⟨(some 4), .mv, [.k (.str [])], none⟩] [1, 2])
    (.seq
      (.reg [⟨(some 9), (.bsl 1 1), [], none⟩,
        ⟨(some 5), .mv, [.t 9], none⟩] [1, 2, 5])
      (.seq
        (.seq
          (.reg [⟨(some 10), (.fldA 0), [.t 2], none⟩,
            ⟨(some 11), (.ld none), [.t 10], none⟩,
            ⟨(some 12), .lenL, [.t 11], none⟩,
            ⟨(some 13), .mv, [.k (.int .i64 0)], none⟩] [1, 5, 11, 12, 13])
          (.block 0
            (.loop
              (.seq
                (.reg [⟨(some 14), (.bin .lss), [.t 13, .t 12], none⟩] [1, 5, 11, 12, 13, 14])
                (.seq
                  (.cond (.t 14)
                    .skip
                    (.exit 0))
                  (.seq
                    (.block 1
                      (.seq
                        (.reg [⟨(some 15), (.idxA 2), [.t 11, .t 13], none⟩,
                          ⟨(some 16), (.ld (some 2)), [.t 15], none⟩,
                          ⟨(some 7), (.alloc [.int .u8 0, .int .u8 0]), [], none⟩,
                          ⟨none, (.st (some 2)), [.t 7, .t 16], none⟩] [1, 5, 7, 11, 12, 13])
                        (.seq
                          (.reg [⟨(some 17), (.fldA 0), [.t 7], none⟩,
                            ⟨(some 18), (.ld none), [.t 17], none⟩,
                            ⟨(some 8), .mv, [.t 18], none⟩] [1, 5, 7, 8, 11, 12, 13])
                          (.seq
                            (.seq
                              (.reg [⟨(some 19), .mv, [.t 1], none⟩] [1, 5, 7, 8, 11, 12, 13, 19])
                              (.cond (.t 19)
                                (.reg [⟨(some 20), (.fldA 1), [.t 7], none⟩,
                                  ⟨(some 21), (.ld none), [.t 20], none⟩,
                                  ⟨(some 8), .mv, [.t 21], none⟩] [1, 5, 8, 11, 12, 13])
                                .skip))
                            (.seq
                              (.reg [⟨(some 22), .mv, [.t 8], none⟩,
                                ⟨(some 23), (.bin .neq), [.t 22, .k (.int .u8 0)], none⟩] [1, 5, 8, 11, 12, 13, 23])
                              (.cond (.t 23)
                                (.reg [⟨(some 24), .mv, [.t 5], none⟩,
                                  ⟨(some 25), .mv, [.t 8], none⟩,
                                  ⟨(some 26), (.bsl 0 1), [.t 25], none⟩,
                                  ⟨(some 27), (.app 1 1), [.t 24, .t 26], none⟩,
                                  ⟨(some 5), .mv, [.t 27], none⟩] [1, 5, 11, 12, 13])
                                .skip))))))
                    (.reg [⟨(some 28), (.bin .add), [.t 13, .k (.int .i64 1)], none⟩,
                      ⟨(some 13), .mv, [.t 28], none⟩] [1, 5, 11, 12, 13])))))))
        (.seq
          (.reg [⟨(some 29), .mv, [.t 5], none⟩,
            ⟨(some 30), .cvBS, [.t 29], none⟩,
            ⟨(some 4), .mv, [.t 30], none⟩] [4])
          .ret))))
def i_sounds.F : Cfg := ⟨fun d => if d = 9 then 1 else 0, fun r => match r with | 0 => [1, 2] | 1 => [1, 2, 5] | 2 => [1, 5, 11, 12, 13] | 3 => [1, 5, 11, 12, 13, 14] | 4 => [1, 5, 7, 11, 12, 13] | 5 => [1, 5, 7, 8, 11, 12, 13] | 6 => [1, 5, 7, 8, 11, 12, 13, 19] | 7 => [1, 5, 8, 11, 12, 13] | 8 => [1, 5, 8, 11, 12, 13, 23] | 9 => [1, 5, 11, 12, 13] | 10 => [1, 5, 11, 12, 13] | 11 => [4] | _ => []⟩
def i_sounds.X : FX := ⟨31, [.tmp 4], i_sounds.F, i_sounds.x⟩

theorem i_sounds.ok {P : Program} {k : Nat} (hk : Has P k (i_sounds.X)) : C_sounds P k := by
  intro c b hl n H
  refine S.ofX hk rfl fun hB fn hr => ?_
  unfold i_sounds.x
  repeat' (first
    | ((with_reducible refine S.go ?_); first | refine S.seq ?_ | refine S.skip ?_ | refine S.block ?_ | refine S.inBlock ?_ | refine S.exit rfl ?_ | refine S.regN ?_ | refine S.reg ?_ | refine S.drw hk.mo (by kernel_rfl) ?_ | (refine S.cond rfl (fun hc => ?_) (fun hc => ?_) <;> try simp only [HC] at hc) | refine S.retH hr rfl ?_ | refine S.finH hr rfl ?_ | (refine S.retK hr ?_; refine TR ?_) | fail)
    | ((first | with_reducible refine Ns.go ?_ | with_reducible refine XOs.go ?_ | with_reducible refine XDs.go ?_ | with_reducible refine OK.go ?_); (first | refine TT ?_ | (apply Ns.sc ⟨rfl, rfl⟩ rfl; intro hg) | (refine OK.tr ?_; refine TT ?_)); (try simp only [HC] at hg))
    | with_reducible exact rfl | exact ⟨rfl, rfl, rfl⟩
    | ((with_reducible refine Gd.go ?_); refine Gd.on (fun hg => ?_) (fun hg => ?_) <;> refine TG ?_ <;> (try simp only [HC] at hg))
    | ((with_reducible refine Fin.go ?_); first | (refine Fin.p ?_; first | exact FT | (try refine TT ?_; try simp only [LF])) | refine Fin.a0 ?_ | refine Fin.a ?_ | refine Fin.ni ?_ | refine Fin.v ?_ ?_ | refine Fin.r ?_ ?_ | exact Fin.th | (refine Fin.t ?_; try simp only [AV.sl.injEq]))
    | (refine And.go ?_; refine AndI ?_)
    | fail)
  refine S.loopV (σ := Nat × (List UInt8)) [1, 5, 11, 12, 13] (fun s => [(5, .acc n 1 (bts s.2)), (13, .int .i64 (s.1 : Int))]) (fun s => s.1 ≤ c.length ∧ s.2 = nz ((c.take s.1).map fun x => if b then x.2 else x.1) ∧ s.2.length ≤ s.1) (fun s => n + 1 + s.1) (fun s => (n, .tok 1 s.2.length) :: H) (fun s => c.length - s.1) (0, []) (⟨by omega, ?_, ?_⟩) ?_
  · first | rfl | omega | (simp; done) | (simp; omega) | skip
  · first | rfl | omega | (simp; done) | (simp; omega) | skip
  rintro ⟨i, out⟩ ⟨hi1, hi2, hi3⟩ ih
  try dsimp only at hi1 hi2 hi3
  repeat' (first
    | ((with_reducible refine S.go ?_); first | refine S.seq ?_ | refine S.skip ?_ | refine S.block ?_ | refine S.inBlock ?_ | refine S.exit rfl ?_ | refine S.regN ?_ | refine S.reg ?_ | refine S.drw hk.mo (by kernel_rfl) ?_ | refine S.ag (ih ((i + 1, _)) ?_ ?_) | (refine S.cond rfl (fun hc => ?_) (fun hc => ?_) <;> try simp only [HC] at hc) | refine S.retH hr rfl ?_ | refine S.finH hr rfl ?_ | (refine S.retK hr ?_; refine TR ?_) | fail)
    | ((first | with_reducible refine Ns.go ?_ | with_reducible refine XOs.go ?_ | with_reducible refine XDs.go ?_ | with_reducible refine OK.go ?_); (first | refine TT ?_ | (apply Ns.sc ⟨rfl, rfl⟩ rfl; intro hg) | (refine OK.tr ?_; refine TT ?_)); (try simp only [HC] at hg))
    | with_reducible exact rfl | exact ⟨rfl, rfl, rfl⟩
    | ((with_reducible refine Gd.go ?_); refine Gd.on (fun hg => ?_) (fun hg => ?_) <;> refine TG ?_ <;> (try simp only [HC] at hg))
    | ((with_reducible refine Fin.go ?_); first | (refine Fin.p ?_; first | exact FT | (try refine TT ?_; try simp only [LF])) | refine Fin.a0 ?_ | refine Fin.a ?_ | refine Fin.ni ?_ | refine Fin.v ?_ ?_ | refine Fin.r ?_ ?_ | exact Fin.th | (refine Fin.t ?_; try simp only [AV.sl.injEq]))
    | (refine And.go ?_; refine AndI ?_)
    | fail)
  all_goals (try clear ih)
  all_goals (try dsimp only)
  all_goals (repeat' apply And.intro)
  all_goals first | omega | (simp only [ZL]; omega) | skip
  all_goals first | (rw [nzm (by omega), ← hi2]; clear hi2; simp_all; done) | (rw [hi2, List.take_of_length_le (by omega)]; rfl)

theorem obs_snd {c : UInt8} (h : isObs c = true) : isSnd c = true := by
  simp only [isObs, Bool.or_eq_true, beq_iff_eq] at h
  obtain ((rfl | rfl) | rfl) | rfl := h <;> rfl
theorem swap_snd {c : UInt8} (h : isObs c = true) : isSnd (swapV c) = true := by
  simp only [isObs, Bool.or_eq_true, beq_iff_eq] at h
  obtain ((rfl | rfl) | rfl) | rfl := h <;> rfl
theorem snd0 : isSnd 0 = false := rfl
theorem cand_no {c : List Link} {i : Nat} (h : i < c.length) (hc : isLnk (c.getD i default) = false) : isCand c = false := by
  unfold isCand; rw [all_no h hc]; rfl
theorem cand_yes {c : List Link} {i : Nat} (h : c.length ≤ i) (ha : (c.take i).all isLnk = true) : isCand c = (decide (c.length ≤ 16) && (isForm (insS c) && isForm (outS c))) := by
  rw [List.take_of_length_le h] at ha
  unfold isCand; rw [ha]; rfl
theorem lnk_form (x : Link) : isLnk x = (!((x.1 != 0 && !isSnd x.1) || (x.2 != 0 && !isSnd x.2) || (x.1 == 0 && x.2 == 0)) && !(x.1 != 0 && (x.2 != 0 && (x.1 != x.2 && !(isObs x.1 && swapV x.1 == x.2))))) := by
  have h1 := @obs_snd x.1
  have h2 := @swap_snd x.1
  have h3 := snd0
  rw [Bool.eq_iff_iff]
  simp only [isLnk]
  split <;> simp only [Bool.and_eq_true, Bool.or_eq_true, Bool.not_eq_true', Bool.and_eq_false_iff, Bool.or_eq_false_iff, beq_iff_eq, bne_iff_ne, beq_eq_false_iff_ne, bne_eq_false_iff_eq, Bool.not_eq_false'] <;> grind
def C_IsCandidate (P : Program) (k : Nat) : Prop := ∀ c : List Link, c.length ≤ 4294967295 → RunsF P k [.agg [.sl (enc c)]] (.bool (isCand c))
/-- impl.IsCandidate -/
def i_IsCandidate.x (c_i_isLink c_i_sounds c_i_IsForm : Nat) : XCode :=
  (.seq
    (.reg [⟨(some 1), .boxF, [.t 0], none⟩,
      ⟨(some 2), .mv, [.k (.bool false)], none⟩] [1])
    (.seq
      (.seq
        (.reg [⟨(some 5), (.fldA 0), [.t 1], none⟩,
          ⟨(some 6), (.ld none), [.t 5], none⟩,
          ⟨(some 7), .lenL, [.t 6], none⟩,
          ⟨(some 8), .mv, [.k (.int .i64 0)], none⟩] [1, 6, 7, 8])
        (.block 0
          (.loop
            (.seq
              (.reg [⟨(some 9), (.bin .lss), [.t 8, .t 7], none⟩] [1, 6, 7, 8, 9])
              (.seq
                (.cond (.t 9)
                  .skip
                  (.exit 0))
                (.seq
                  (.block 1
                    (.seq
                      (.reg [⟨(some 10), (.idxA 2), [.t 6, .t 8], none⟩,
                        ⟨(some 11), (.ld (some 2)), [.t 10], none⟩,
                        ⟨(some 4), (.alloc [.int .u8 0, .int .u8 0]), [], none⟩,
                        ⟨none, (.st (some 2)), [.t 4, .t 11], none⟩] [1, 4, 6, 7, 8])
                      (.seq
                        (.reg [⟨(some 12), (.ld (some 2)), [.t 4], none⟩,
                          ⟨(some 13), .call, [.k (.fn c_i_isLink []), .t 12], none⟩,
                          ⟨(some 14), (.un .not), [.t 13], none⟩] [1, 6, 7, 8, 14])
                        (.cond (.t 14)
                          (.seq
                            (.reg [⟨(some 2), .mv, [.k (.bool false)], none⟩] [2])
                            .ret)
                          .skip))))
                  (.reg [⟨(some 15), (.bin .add), [.t 8, .k (.int .i64 1)], none⟩,
                    ⟨(some 8), .mv, [.t 15], none⟩] [1, 6, 7, 8])))))))
      (.seq
        (.reg (flatNs none (nl [.op (some 16) (.fldA 0) [.t 1], .op (some 17) (.ld none) [.t 16], .op (some 18) .lenL [.t 17], .op (some 19) (.bin .leq) [.t 18, .k (.int .i64 16)], .op (some 20) .mv [.t 19], .sc 20 true (nl [.op (some 21) (.ld (some 1)) [.t 1], .op (some 22) .call [.k (.fn c_i_sounds []), .t 21, .k (.bool false)], .op (some 23) .call [.k (.fn c_i_IsForm []), .t 22]]) (.t 23) (some 24), .op (some 25) .mv [.t 24], .sc 25 true (nl [.op (some 26) (.ld (some 1)) [.t 1], .op (some 27) .call [.k (.fn c_i_sounds []), .t 26, .k (.bool true)], .op (some 28) .call [.k (.fn c_i_IsForm []), .t 27]]) (.t 28) (some 29), .op (some 2) .mv [.t 29]])) [2])
        .ret)))
def i_IsCandidate.F : Cfg := ⟨fun _ => 0, fun r => match r with | 0 => [1] | 1 => [1, 6, 7, 8] | 2 => [1, 6, 7, 8, 9] | 3 => [1, 4, 6, 7, 8] | 4 => [1, 6, 7, 8, 14] | 5 => [2] | 6 => [1, 6, 7, 8] | 7 => [2] | _ => []⟩
def i_IsCandidate.X (c_i_isLink c_i_sounds c_i_IsForm : Nat) : FX := ⟨30, [.tmp 2], i_IsCandidate.F, i_IsCandidate.x c_i_isLink c_i_sounds c_i_IsForm⟩

theorem i_IsCandidate.ok {P : Program} {k c_i_isLink c_i_sounds c_i_IsForm : Nat} (hk : Has P k (i_IsCandidate.X c_i_isLink c_i_sounds c_i_IsForm)) (h1 : C_isLink P c_i_isLink) (h2 : C_sounds P c_i_sounds) (h3 : C_IsForm P c_i_IsForm) : C_IsCandidate P k := by
  intro c hl n H
  have hin := ins_len c
  have hout := outs_len c
  refine S.ofX hk rfl fun hB fn hr => ?_
  unfold i_IsCandidate.x
  repeat' (first
    | ((with_reducible refine S.go ?_); first | refine S.seq ?_ | refine S.skip ?_ | refine S.block ?_ | refine S.inBlock ?_ | refine S.exit rfl ?_ | refine S.regN ?_ | refine S.reg ?_ | refine S.drw hk.mo (by kernel_rfl) ?_ | (refine S.cond rfl (fun hc => ?_) (fun hc => ?_) <;> try simp only [HC] at hc) | refine S.retH hr rfl ?_ | refine S.finH hr rfl ?_ | (refine S.retK hr ?_; refine TR ?_) | fail)
    | ((first | with_reducible refine Ns.go ?_ | with_reducible refine XOs.go ?_ | with_reducible refine XDs.go ?_ | with_reducible refine OK.go ?_); (first | refine TT ?_ | (apply Ns.sc ⟨rfl, rfl⟩ rfl; intro hg) | (refine OK.tr ?_; refine TT ?_)); (try simp only [HC] at hg))
    | with_reducible exact rfl | exact ⟨rfl, rfl, rfl⟩
    | ((with_reducible refine Gd.go ?_); refine Gd.on (fun hg => ?_) (fun hg => ?_) <;> refine TG ?_ <;> (try simp only [HC] at hg))
    | ((with_reducible refine Fin.go ?_); first | (refine Fin.p ?_; first | exact FT | (try refine TT ?_; try simp only [LF])) | refine Fin.a0 ?_ | refine Fin.a ?_ | refine Fin.ni ?_ | refine Fin.v ?_ ?_ | refine Fin.r ?_ ?_ | exact Fin.th | (refine Fin.t ?_; try simp only [AV.sl.injEq]))
    | (refine And.go ?_; refine AndI ?_)
    | fail)
  refine S.loopV (σ := Nat) [1, 6, 7, 8] (fun s => [(8, .int .i64 (s : Int))]) (fun s => s ≤ c.length ∧ (c.take s).all isLnk = true) (fun s => n + s) (fun s => H) (fun s => c.length - s) (0) (⟨by omega, ?_⟩) ?_
  · first | rfl | omega | (simp; done) | (simp; omega) | skip
  rintro i ⟨hi1, hi2⟩ ih
  try dsimp only at hi1 hi2
  repeat' (first
    | ((with_reducible refine S.go ?_); first | refine S.seq ?_ | refine S.skip ?_ | refine S.block ?_ | refine S.inBlock ?_ | refine S.exit rfl ?_ | refine S.regN ?_ | refine S.reg ?_ | refine S.drw hk.mo (by kernel_rfl) ?_ | refine S.ag (ih (i + 1) ?_ ?_) | (refine S.cond rfl (fun hc => ?_) (fun hc => ?_) <;> try simp only [HC] at hc) | refine S.retH hr rfl ?_ | refine S.finH hr rfl ?_ | (refine S.retK hr ?_; refine TR ?_) | fail)
    | ((first | with_reducible refine Ns.go ?_ | with_reducible refine XOs.go ?_ | with_reducible refine XDs.go ?_ | with_reducible refine OK.go ?_); (first | refine TT ?_ | (apply Ns.sc ⟨rfl, rfl⟩ rfl; intro hg) | (refine OK.tr ?_; refine TT ?_)); (try simp only [HC] at hg))
    | with_reducible exact rfl | exact ⟨rfl, rfl, rfl⟩
    | ((with_reducible refine RunsT.go ?_); first | refine RunsF.apf (h1 _) rfl ?_ | refine RunsF.apf (h2 _ _ hl) rfl ?_ | refine RunsF.apf (h3 (sideS _ c) (by simp only [side_f, side_t]; omega)) rfl ?_ | fail)
    | ((with_reducible refine RunsD.go ?_); first | refine RunsF.apd (h1 _) rfl ?_ | refine RunsF.apd (h2 _ _ hl) rfl ?_ | refine RunsF.apd (h3 (sideS _ c) (by simp only [side_f, side_t]; omega)) rfl ?_ | fail)
    | ((with_reducible refine Gd.go ?_); refine Gd.on (fun hg => ?_) (fun hg => ?_) <;> refine TG ?_ <;> (try simp only [HC] at hg))
    | ((with_reducible refine Fin.go ?_); first | (refine Fin.p ?_; first | exact FT | (try refine TT ?_; try simp only [LF])) | refine Fin.a0 ?_ | refine Fin.a ?_ | refine Fin.ni ?_ | refine Fin.v ?_ ?_ | refine Fin.r ?_ ?_ | exact Fin.th | (refine Fin.t ?_; try simp only [AV.sl.injEq]))
    | (refine And.go ?_; refine AndI ?_)
    | fail)
  all_goals (try clear ih)
  all_goals (try dsimp only)
  all_goals (repeat' apply And.intro)
  all_goals first | omega | (simp only [ZL]; omega) | skip
  all_goals first | (exact (cand_no (i := i) (by omega) (by assumption)).symm) | (exact all_step (by omega) (by assumption) hi2) | skip
  all_goals (rw [cand_yes (by omega) hi2, ← side_f, ← side_t]; simp only [ZI])
/-- spec.IsCandidate -/
def s_IsCandidate.x (c_s_SwapVoice c_s_IsSound c_s_l6In c_s_IsForm c_s_l6Out : Nat) : XCode :=
  (.seq
    (.reg [⟨(some 1), .boxF, [.t 0], none⟩,
      ⟨(some 2), .mv, [.k (.bool false)], none⟩] [1])
    (.seq
      (.seq
        (.reg [⟨(some 3), .mv, [.k (.int .i64 0)], none⟩] [1, 3])
        (.block 0
          (.loop
            (.seq
              (.seq
                (.reg [⟨(some 7), .mv, [.t 3], none⟩,
                  ⟨(some 8), (.fldA 0), [.t 1], none⟩,
                  ⟨(some 9), (.ld none), [.t 8], none⟩,
                  ⟨(some 10), .lenL, [.t 9], none⟩,
                  ⟨(some 11), (.bin .lss), [.t 7, .t 10], none⟩] [1, 3, 11])
                (.cond (.t 11)
                  .skip
                  (.exit 0)))
              (.seq
                (.block 1
                  (.seq
                    (.reg [⟨(some 14), (.fldA 0), [.t 1], none⟩,
                      ⟨(some 15), (.ld none), [.t 14], none⟩,
                      ⟨(some 16), .mv, [.t 3], none⟩,
                      ⟨(some 17), (.idxA 2), [.t 15, .t 16], none⟩,
                      ⟨(some 18), (.ld (some 2)), [.t 17], none⟩,
                      ⟨(some 4), (.alloc [.int .u8 0, .int .u8 0]), [], none⟩,
                      ⟨none, (.st (some 2)), [.t 4, .t 18], none⟩] [1, 3, 4])
                    (.seq
                      (.reg [⟨(some 20), (.fldA 0), [.t 4], none⟩,
                        ⟨(some 21), (.ld none), [.t 20], none⟩,
                        ⟨(some 22), .call, [.k (.fn c_s_SwapVoice []), .t 21], none⟩,
                        ⟨(some 19), .mv, [.t 22], none⟩,
                        ⟨(some 23), (.ext 0), [.t 19], none⟩,
                        ⟨(some 24), (.ext 1), [.t 19], none⟩,
                        ⟨(some 5), .mv, [.t 23], none⟩,
                        ⟨(some 6), .mv, [.t 24], none⟩] [1, 3, 4, 5, 6])
                      (.seq
                        (.seq
                          (.reg (flatNs none (nl [.op (some 25) (.fldA 0) [.t 4], .op (some 26) (.ld none) [.t 25], .op (some 27) (.bin .neq) [.t 26, .k (.int .u8 0)], .op (some 28) .mv [.t 27], .sc 28 true (nl [.op (some 29) (.fldA 0) [.t 4], .op (some 30) (.ld none) [.t 29], .op (some 31) .call [.k (.fn c_s_IsSound []), .t 30], .op (some 32) (.un .not) [.t 31]]) (.t 32) (some 33), .op (some 34) .mv [.t 33], .sc 34 false (nl [.op (some 35) (.fldA 1) [.t 4], .op (some 36) (.ld none) [.t 35], .op (some 37) (.bin .neq) [.t 36, .k (.int .u8 0)], .op (some 38) .mv [.t 37], .sc 38 true (nl [.op (some 39) (.fldA 1) [.t 4], .op (some 40) (.ld none) [.t 39], .op (some 41) .call [.k (.fn c_s_IsSound []), .t 40], .op (some 42) (.un .not) [.t 41]]) (.t 42) (some 43)]) (.t 43) (some 44), .op (some 45) .mv [.t 44], .sc 45 false (nl [.op (some 46) (.fldA 0) [.t 4], .op (some 47) (.ld none) [.t 46], .op (some 48) (.bin .eql) [.t 47, .k (.int .u8 0)], .op (some 49) .mv [.t 48], .sc 49 true (nl [.op (some 50) (.fldA 1) [.t 4], .op (some 51) (.ld none) [.t 50], .op (some 52) (.bin .eql) [.t 51, .k (.int .u8 0)]]) (.t 52) (some 53)]) (.t 53) (some 54)])) [1, 3, 4, 5, 6, 54])
                          (.cond (.t 54)
                            (.seq
                              (.reg [⟨(some 2), .mv, [.k (.bool false)], none⟩] [2])
                              .ret)
                            .skip))
                        (.seq
                          (.reg (flatNs none (nl [.op (some 55) (.fldA 0) [.t 4], .op (some 56) (.ld none) [.t 55], .op (some 57) (.bin .neq) [.t 56, .k (.int .u8 0)], .op (some 58) .mv [.t 57], .sc 58 true (nl [.op (some 59) (.fldA 1) [.t 4], .op (some 60) (.ld none) [.t 59], .op (some 61) (.bin .neq) [.t 60, .k (.int .u8 0)]]) (.t 61) (some 62), .op (some 63) .mv [.t 62], .sc 63 true (nl [.op (some 64) (.fldA 0) [.t 4], .op (some 65) (.ld none) [.t 64], .op (some 66) (.fldA 1) [.t 4], .op (some 67) (.ld none) [.t 66], .op (some 68) (.bin .neq) [.t 65, .t 67]]) (.t 68) (some 69), .op (some 70) .mv [.t 69], .sc 70 true (nl [.op (some 71) .mv [.t 6], .op (some 72) .mv [.t 71], .sc 72 true (nl [.op (some 73) .mv [.t 5], .op (some 74) (.fldA 1) [.t 4], .op (some 75) (.ld none) [.t 74], .op (some 76) (.bin .eql) [.t 73, .t 75]]) (.t 76) (some 77), .op (some 78) (.un .not) [.t 77]]) (.t 78) (some 79)])) [1, 3, 79])
                          (.cond (.t 79)
                            (.seq
                              (.reg [⟨(some 2), .mv, [.k (.bool false)], none⟩] [2])
                              .ret)
                            .skip))))))
                (.reg [⟨(some 12), .mv, [.t 3], none⟩,
                  ⟨(some 13), (.bin .add), [.t 12, .k (.int .i64 1)], none⟩,
                  ⟨(some 3), .mv, [.t 13], none⟩] [1, 3]))))))
      (.seq
        (.reg (flatNs none (nl [.op (some 80) (.fldA 0) [.t 1], .op (some 81) (.ld none) [.t 80], .op (some 82) .lenL [.t 81], .op (some 83) (.bin .leq) [.t 82, .k (.int .i64 16)], .op (some 84) .mv [.t 83], .sc 84 true (nl [.op (some 85) (.ld (some 1)) [.t 1], .op (some 86) .call [.k (.fn c_s_l6In []), .t 85], .op (some 87) .call [.k (.fn c_s_IsForm []), .t 86]]) (.t 87) (some 88), .op (some 89) .mv [.t 88], .sc 89 true (nl [.op (some 90) (.ld (some 1)) [.t 1], .op (some 91) .call [.k (.fn c_s_l6Out []), .t 90], .op (some 92) .call [.k (.fn c_s_IsForm []), .t 91]]) (.t 92) (some 93), .op (some 2) .mv [.t 93]])) [2])
        .ret)))
def s_IsCandidate.F : Cfg := ⟨fun _ => 0, fun r => match r with | 0 => [1] | 1 => [1, 3] | 2 => [1, 3, 11] | 3 => [1, 3] | 4 => [1, 3, 4] | 5 => [1, 3, 4, 5, 6] | 6 => [1, 3, 4, 5, 6, 54] | 7 => [2] | 8 => [1, 3, 79] | 9 => [2] | 10 => [2] | _ => []⟩
def s_IsCandidate.X (c_s_SwapVoice c_s_IsSound c_s_l6In c_s_IsForm c_s_l6Out : Nat) : FX := ⟨94, [.tmp 2], s_IsCandidate.F, s_IsCandidate.x c_s_SwapVoice c_s_IsSound c_s_l6In c_s_IsForm c_s_l6Out⟩

set_option maxHeartbeats 2000000 in
theorem s_IsCandidate.ok {P : Program} {k c_s_SwapVoice c_s_IsSound c_s_l6In c_s_IsForm c_s_l6Out : Nat} (hk : Has P k (s_IsCandidate.X c_s_SwapVoice c_s_IsSound c_s_l6In c_s_IsForm c_s_l6Out)) (h0 : C_SwapVoice P c_s_SwapVoice) (h1 : C_IsSound P c_s_IsSound) (h2 : Cs insS P c_s_l6In) (h4 : Cs outS P c_s_l6Out) (h3 : C_IsForm P c_s_IsForm) : C_IsCandidate P k := by
  intro c hl n H
  have hin := ins_len c
  have hout := outs_len c
  refine S.ofX hk rfl fun hB fn hr => ?_
  unfold s_IsCandidate.x
  repeat' (first
    | ((with_reducible refine S.go ?_); first | refine S.seq ?_ | refine S.skip ?_ | refine S.block ?_ | refine S.inBlock ?_ | refine S.exit rfl ?_ | refine S.regN ?_ | refine S.reg ?_ | refine S.drw hk.mo (by kernel_rfl) ?_ | (refine S.cond rfl (fun hc => ?_) (fun hc => ?_) <;> try simp only [HC] at hc) | refine S.retH hr rfl ?_ | refine S.finH hr rfl ?_ | (refine S.retK hr ?_; refine TR ?_) | fail)
    | ((first | with_reducible refine Ns.go ?_ | with_reducible refine XOs.go ?_ | with_reducible refine XDs.go ?_ | with_reducible refine OK.go ?_); (first | refine TT ?_ | (apply Ns.sc ⟨rfl, rfl⟩ rfl; intro hg) | (refine OK.tr ?_; refine TT ?_)); (try simp only [HC] at hg))
    | with_reducible exact rfl | exact ⟨rfl, rfl, rfl⟩
    | ((with_reducible refine Gd.go ?_); refine Gd.on (fun hg => ?_) (fun hg => ?_) <;> refine TG ?_ <;> (try simp only [HC] at hg))
    | ((with_reducible refine Fin.go ?_); first | (refine Fin.p ?_; first | exact FT | (try refine TT ?_; try simp only [LF])) | refine Fin.a0 ?_ | refine Fin.a ?_ | refine Fin.ni ?_ | refine Fin.v ?_ ?_ | refine Fin.r ?_ ?_ | exact Fin.th | (refine Fin.t ?_; try simp only [AV.sl.injEq]))
    | (refine And.go ?_; refine AndI ?_)
    | fail)
  refine S.loopV (σ := Nat) [1, 3] (fun s => [(3, .int .i64 (s : Int))]) (fun s => s ≤ c.length ∧ (c.take s).all isLnk = true) (fun s => n + s) (fun s => H) (fun s => c.length - s) (0) (⟨by omega, ?_⟩) ?_
  · first | rfl | omega | (simp; done) | (simp; omega) | skip
  rintro i ⟨hi1, hi2⟩ ih
  try dsimp only at hi1 hi2
  repeat' (first
    | ((with_reducible refine S.go ?_); first | refine S.seq ?_ | refine S.skip ?_ | refine S.block ?_ | refine S.inBlock ?_ | refine S.exit rfl ?_ | refine S.regN ?_ | refine S.reg ?_ | refine S.drw hk.mo (by kernel_rfl) ?_ | refine S.ag (ih (i + 1) ?_ ?_) | (refine S.cond rfl (fun hc => ?_) (fun hc => ?_) <;> try simp only [HC] at hc) | refine S.retH hr rfl ?_ | refine S.finH hr rfl ?_ | (refine S.retK hr ?_; refine TR ?_) | fail)
    | ((first | with_reducible refine Ns.go ?_ | with_reducible refine XOs.go ?_ | with_reducible refine XDs.go ?_ | with_reducible refine OK.go ?_); (first | refine TT ?_ | (apply Ns.sc ⟨rfl, rfl⟩ rfl; intro hg) | (refine OK.tr ?_; refine TT ?_)); (try simp only [HC] at hg))
    | with_reducible exact rfl | exact ⟨rfl, rfl, rfl⟩
    | ((with_reducible refine RunsT.go ?_); first | refine RunsF.apf (h0 _) rfl ?_ | refine RunsF.apf (h1 _) rfl ?_ | refine RunsF.apf (h2 _ hl) rfl ?_ | refine RunsF.apf (h4 _ hl) rfl ?_ | refine RunsF.apf (h3 (insS c) (by omega)) rfl ?_ | refine RunsF.apf (h3 (outS c) (by omega)) rfl ?_ | fail)
    | ((with_reducible refine RunsD.go ?_); first | refine RunsF.apd (h0 _) rfl ?_ | refine RunsF.apd (h1 _) rfl ?_ | refine RunsF.apd (h2 _ hl) rfl ?_ | refine RunsF.apd (h4 _ hl) rfl ?_ | refine RunsF.apd (h3 (insS c) (by omega)) rfl ?_ | refine RunsF.apd (h3 (outS c) (by omega)) rfl ?_ | fail)
    | ((with_reducible refine Gd.go ?_); refine Gd.on (fun hg => ?_) (fun hg => ?_) <;> refine TG ?_ <;> (try simp only [HC] at hg))
    | ((with_reducible refine Fin.go ?_); first | (refine Fin.p ?_; first | exact FT | (try refine TT ?_; try simp only [LF])) | refine Fin.a0 ?_ | refine Fin.a ?_ | refine Fin.ni ?_ | refine Fin.v ?_ ?_ | refine Fin.r ?_ ?_ | exact Fin.th | (refine Fin.t ?_; try simp only [AV.sl.injEq]))
    | (refine And.go ?_; refine AndI ?_)
    | fail)
  all_goals (try clear ih)
  all_goals (try dsimp only)
  all_goals (repeat' apply And.intro)
  all_goals first | omega | (simp only [ZL]; omega) | skip
  all_goals first | (refine (cand_no (i := i) (by omega) ?_).symm; rw [lnk_form]; clear hi2 hin hout; grind) | (refine all_step (by omega) ?_ hi2; rw [lnk_form]; clear hi2 hin hout; grind) | (rw [cand_yes (by omega) hi2]; simp only [ZI])
end Go.M02
end
