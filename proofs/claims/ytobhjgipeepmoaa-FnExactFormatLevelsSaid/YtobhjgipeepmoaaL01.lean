/- The least functions: numbers in bounds, sounds, forms. Over any program. -/
import Derived.Test.YtobhjgipeepmoaaAbTac
import Derived.Lib.IndexAny
namespace Go.Lib01
open Go.Ab
set_option linter.unusedVariables false
set_option linter.unusedSimpArgs false
set_option maxRecDepth 2000

/-- impl.within -/
def i_within.x : XCode :=
  (.seq
    (.reg [⟨(some 6), .mv, [.k (.bool false)], none⟩] [0, 1, 2])
    (.seq
      (.reg (flatNs none (nl [.op (some 7) .mv [.t 1], .op (some 8) .mv [.t 0], .op (some 9) (.bin .leq) [.t 7, .t 8], .op (some 10) .mv [.t 9], .sc 10 true (nl [.op (some 11) .mv [.t 0], .op (some 12) .mv [.t 2], .op (some 13) (.bin .leq) [.t 11, .t 12]]) (.t 13) (some 14), .op (some 6) .mv [.t 14]])) [6])
      .ret))
def i_within.F : Cfg := ⟨fun _ => 0, fun r => match r with | 0 => [0, 1, 2] | 1 => [6] | _ => []⟩
def i_within.X : FX := ⟨15, [.tmp 6], i_within.F, i_within.x⟩

def C_within (P : Program) (k : Nat) : Prop := ∀ a l h : Int, RunsF P k [.int .i64 a, .int .i64 l, .int .i64 h] (.bool (decide (l ≤ a) && decide (a ≤ h)))
theorem i_within.ok {P : Program} {k : Nat} (hk : Has P k (i_within.X)) : C_within P k := by
  intro a l h n H
  refine S.ofX hk rfl fun hB fn hr => ?_
  unfold i_within.x
  repeat' (first
    | ((with_reducible refine S.go ?_); first | refine S.seq ?_ | refine S.skip ?_ | refine S.block ?_ | refine S.inBlock ?_ | refine S.exit rfl ?_ | refine S.regN ?_ | refine S.reg ?_ | refine S.drw hk.mo (by kernel_rfl) ?_ | (refine S.cond rfl (fun hc => ?_) (fun hc => ?_) <;> try simp only [HC] at hc) | refine S.retH hr rfl ?_ | refine S.finH hr rfl ?_ | (refine S.retK hr ?_; refine TR ?_) | fail)
    | ((first | with_reducible refine Ns.go ?_ | with_reducible refine XOs.go ?_ | with_reducible refine XDs.go ?_ | with_reducible refine OK.go ?_); (first | refine TT ?_ | (apply Ns.sc ⟨rfl, rfl⟩ rfl; intro hg) | (refine OK.tr ?_; refine TT ?_)); (try simp only [HC] at hg))
    | with_reducible exact rfl | exact ⟨rfl, rfl, rfl⟩
    | ((with_reducible refine Gd.go ?_); refine Gd.on (fun hg => ?_) (fun hg => ?_) <;> refine TG ?_ <;> (try simp only [HC] at hg))
    | ((with_reducible refine Fin.go ?_); first | (refine Fin.p ?_; first | exact FT | (try refine TT ?_; try simp only [LF])) | refine Fin.a0 ?_ | refine Fin.a ?_ | refine Fin.ni ?_ | refine Fin.v ?_ ?_ | refine Fin.r ?_ ?_ | exact Fin.th | (refine Fin.t ?_; try simp only [AV.sl.injEq]))
    | (refine And.go ?_; refine AndI ?_)
    | fail)
  all_goals (try clear ih); (try clear ih2); (try clear hr hk hB); (try dsimp only)
  all_goals first | rfl | omega | (simp_all; done) | (simp_all; omega) | (rw [Bool.eq_iff_iff]; simp_all; done) | (rw [Bool.eq_iff_iff]; simp_all; omega) | grind | (rw [Bool.eq_iff_iff]; grind)

/-- spec.l1In -/
def s_l1In.x : XCode :=
  (.seq
    (.reg [⟨(some 6), .mv, [.k (.bool false)], none⟩] [0, 1, 2])
    (.seq
      (.reg (flatNs none (nl [.op (some 7) .mv [.t 0], .op (some 8) .mv [.t 1], .op (some 9) (.bin .geq) [.t 7, .t 8], .op (some 10) .mv [.t 9], .sc 10 true (nl [.op (some 11) .mv [.t 0], .op (some 12) .mv [.t 2], .op (some 13) (.bin .leq) [.t 11, .t 12]]) (.t 13) (some 14), .op (some 6) .mv [.t 14]])) [6])
      .ret))
def s_l1In.F : Cfg := ⟨fun _ => 0, fun r => match r with | 0 => [0, 1, 2] | 1 => [6] | _ => []⟩
def s_l1In.X : FX := ⟨15, [.tmp 6], s_l1In.F, s_l1In.x⟩

theorem s_l1In.ok {P : Program} {k : Nat} (hk : Has P k (s_l1In.X)) : C_within P k := by
  intro a l h n H
  refine S.ofX hk rfl fun hB fn hr => ?_
  unfold s_l1In.x
  repeat' (first
    | ((with_reducible refine S.go ?_); first | refine S.seq ?_ | refine S.skip ?_ | refine S.block ?_ | refine S.inBlock ?_ | refine S.exit rfl ?_ | refine S.regN ?_ | refine S.reg ?_ | refine S.drw hk.mo (by kernel_rfl) ?_ | (refine S.cond rfl (fun hc => ?_) (fun hc => ?_) <;> try simp only [HC] at hc) | refine S.retH hr rfl ?_ | refine S.finH hr rfl ?_ | (refine S.retK hr ?_; refine TR ?_) | fail)
    | ((first | with_reducible refine Ns.go ?_ | with_reducible refine XOs.go ?_ | with_reducible refine XDs.go ?_ | with_reducible refine OK.go ?_); (first | refine TT ?_ | (apply Ns.sc ⟨rfl, rfl⟩ rfl; intro hg) | (refine OK.tr ?_; refine TT ?_)); (try simp only [HC] at hg))
    | with_reducible exact rfl | exact ⟨rfl, rfl, rfl⟩
    | ((with_reducible refine Gd.go ?_); refine Gd.on (fun hg => ?_) (fun hg => ?_) <;> refine TG ?_ <;> (try simp only [HC] at hg))
    | ((with_reducible refine Fin.go ?_); first | (refine Fin.p ?_; first | exact FT | (try refine TT ?_; try simp only [LF])) | refine Fin.a0 ?_ | refine Fin.a ?_ | refine Fin.ni ?_ | refine Fin.v ?_ ?_ | refine Fin.r ?_ ?_ | exact Fin.th | (refine Fin.t ?_; try simp only [AV.sl.injEq]))
    | (refine And.go ?_; refine AndI ?_)
    | fail)
  all_goals (try clear ih); (try clear ih2); (try clear hr hk hB); (try dsimp only)
  all_goals first | rfl | omega | (simp_all; done) | (simp_all; omega) | (rw [Bool.eq_iff_iff]; simp_all; done) | (rw [Bool.eq_iff_iff]; simp_all; omega) | grind | (rw [Bool.eq_iff_iff]; grind)

def C_indexByte (P : Program) (k : Nat) : Prop := ∀ (s : List UInt8) (c : UInt8), RunsF P k [.str s, .int .u8 (c.toNat : Int)] (.int .i64 (Lib.indexByte s c))
theorem indexByte_ok {P : Program} {f : FuncId} {fn : Func} (hf : P.funcs[f]? = some fn) (hb : fn.body.isNone = true) (hnm : (fn.name == "runtime.NumGoroutine") = false)
    (h1 : (Extern.findNext fn).isNone = true) (h2 : Extern.find fn = some Extern.BytealgIndexByte.indexByte) : C_indexByte P f := fun s c => by
  have h := Runs.indexByte hf hb hnm h1 h2 s (c.toNat : Int)
  rw [show ((c.toNat : Int).toNat.toUInt8) = c by simp] at h
  exact h

def sounds : List UInt8 := [112, 116, 98, 100, 110, 97, 105]
/-- A byte is a sound. -/
def isSnd (c : UInt8) : Bool := sounds.contains c
def C_IsSound (P : Program) (k : Nat) : Prop := ∀ c : UInt8, RunsF P k [.int .u8 (c.toNat : Int)] (.bool (isSnd c))


/-- Sounds only, at most 20. -/
def sndS (s : List UInt8) : Bool := s.all isSnd && decide (s.length ≤ 20)
def C_l2Sounds (P : Program) (k : Nat) : Prop := ∀ s : List UInt8, s.length ≤ 4294967296 → RunsF P k [.str s] (.bool (sndS s))

def C_areSounds (P : Program) (k : Nat) : Prop := ∀ s : List UInt8, s.length ≤ 4294967296 → RunsF P k [.str s] (.bool (sndS s && decide (0 < s.length)))

/-- A form: at most eight sounds. -/
def isForm (s : List UInt8) : Bool := s.all isSnd && decide (s.length ≤ 8)
def C_IsForm (P : Program) (k : Nat) : Prop := ∀ s : List UInt8, s.length ≤ 4294967296 → RunsF P k [.str s] (.bool (isForm s))

/-- A paradigm: alone and before. -/
def isPara (a b : List UInt8) : Bool := isForm a && isForm b && decide (a.length ≤ 3) && decide (1 ≤ b.length) && decide (b.length ≤ 4) && b.getD (b.length - 1) 0 == 97
def C_IsParadigm (P : Program) (k : Nat) : Prop := ∀ a b : List UInt8, a.length ≤ 4294967296 → b.length ≤ 4294967296 → RunsF P k [.agg [.str a, .str b]] (.bool (isPara a b))
def C_IsAlternating (P : Program) (k : Nat) : Prop := ∀ a b : List UInt8, a.length ≤ 4294967296 → b.length ≤ 4294967296 → RunsF P k [.agg [.str a, .str b]] (.bool (isPara a b && !(b == a ++ [97])))
end Go.Lib01
