/- Candidates; marks of steps, of ends, of paths. Over any program. -/
import Derived.Test.YtobhjgipeepmoaaM01
namespace Go.M02
open Go.Ab Go.Lib01 Go.Lib03 Go.M01
set_option linter.unusedVariables false
set_option linter.unusedSimpArgs false
set_option maxRecDepth 2000

abbrev Link := UInt8 × UInt8
theorem all_no {α : Type} [Inhabited α] {l : List α} {p : α → Bool} {i : Nat} (h : i < l.length) (hp : p (l.getD i default) = false) : l.all p = false := by
  rw [List.all_eq_false]
  refine ⟨l[i], List.getElem_mem h, ?_⟩
  rw [List.getD_eq_getElem?_getD, List.getElem?_eq_getElem h] at hp
  simpa using hp
theorem all_step {α : Type} [Inhabited α] {l : List α} {p : α → Bool} {i : Nat} (h : i < l.length) (hp : p (l.getD i default) = true) (ha : (l.take i).all p = true) : (l.take (i + 1)).all p = true := by
  rw [take_succ _ _ h, List.all_append, ha, List.all_cons, hp]; rfl

def nz (l : List UInt8) : List UInt8 := l.filter (· != 0)
def insS (c : List Link) : List UInt8 := nz (c.map (·.1))
def outS (c : List Link) : List UInt8 := nz (c.map (·.2))
def isCand (c : List Link) : Bool := c.all isLnk && (decide (c.length ≤ 16) && (isForm (insS c) && isForm (outS c)))
theorem nz_len (l : List UInt8) : (nz l).length ≤ l.length := List.length_filter_le _ _
theorem ins_len (c : List Link) : (insS c).length ≤ c.length := by unfold insS; exact Nat.le_trans (nz_len _) (by simp)
theorem outs_len (c : List Link) : (outS c).length ≤ c.length := by unfold outS; exact Nat.le_trans (nz_len _) (by simp)

theorem nz_snoc (l : List UInt8) (b : UInt8) : nz (l ++ [b]) = if b = 0 then nz l else nz l ++ [b] := by
  by_cases h : b = 0 <;> simp [nz, h]
theorem nzm {c : List Link} {f : Link → UInt8} {i : Nat} (h : i < c.length) : nz ((c.take (i + 1)).map f) = if f (c.getD i default) = 0 then nz ((c.take i).map f) else nz ((c.take i).map f) ++ [f (c.getD i default)] := by
  rw [take_succ _ _ h, List.map_append, List.map_cons, List.map_nil, nz_snoc]
def Cs (f : List Link → List UInt8) (P : Program) (k : Nat) : Prop := ∀ c : List Link, c.length ≤ 4294967295 → RunsF P k [.agg [.sl (enc c)]] (.str (f c))
def sideS (b : Bool) (c : List Link) : List UInt8 := nz (c.map fun x => if b then x.2 else x.1)
theorem side_f (c : List Link) : sideS false c = insS c := rfl
theorem side_t (c : List Link) : sideS true c = outS c := rfl
def C_sounds (P : Program) (k : Nat) : Prop := ∀ (c : List Link) (b : Bool), c.length ≤ 4294967295 → RunsF P k [.agg [.sl (enc c)], .bool b] (.str (sideS b c))

theorem obs_snd {c : UInt8} (h : isObs c = true) : isSnd c = true := by
  simp only [isObs, Bool.or_eq_true, beq_iff_eq] at h
  obtain ((rfl | rfl) | rfl) | rfl := h <;> rfl
theorem swap_snd {c : UInt8} (h : isObs c = true) : isSnd (swapV c) = true := by
  simp only [isObs, Bool.or_eq_true, beq_iff_eq] at h
  obtain ((rfl | rfl) | rfl) | rfl := h <;> rfl
theorem snd0 : isSnd 0 = false := rfl
theorem cand_no {c : List Link} {i : Nat} (h : i < c.length) (hc : isLnk (c.getD i default) = false) : isCand c = false := by
  unfold isCand; rw [all_no h hc]; rfl
theorem cand_yes {c : List Link} {i : Nat} (h : c.length ≤ i) (ha : (c.take i).all isLnk = true) : isCand c = (decide (c.length ≤ 16) && (isForm (insS c) && isForm (outS c))) := by
  rw [List.take_of_length_le h] at ha
  unfold isCand; rw [ha]; rfl
theorem lnk_form (x : Link) : isLnk x = (!((x.1 != 0 && !isSnd x.1) || (x.2 != 0 && !isSnd x.2) || (x.1 == 0 && x.2 == 0)) && !(x.1 != 0 && (x.2 != 0 && (x.1 != x.2 && !(isObs x.1 && swapV x.1 == x.2))))) := by
  have h1 := @obs_snd x.1
  have h2 := @swap_snd x.1
  have h3 := snd0
  rw [Bool.eq_iff_iff]
  simp only [isLnk]
  split <;> simp only [Bool.and_eq_true, Bool.or_eq_true, Bool.not_eq_true', Bool.and_eq_false_iff, Bool.or_eq_false_iff, beq_iff_eq, bne_iff_ne, beq_eq_false_iff_ne, bne_eq_false_iff_eq, Bool.not_eq_false'] <;> grind
def C_IsCandidate (P : Program) (k : Nat) : Prop := ∀ c : List Link, c.length ≤ 4294967295 → RunsF P k [.agg [.sl (enc c)]] (.bool (isCand c))
end Go.M02
