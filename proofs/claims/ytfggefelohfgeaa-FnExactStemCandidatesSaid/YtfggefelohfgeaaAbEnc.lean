/- How Go's slices of strings, numbers and so on are written as rows, what is frozen at a return, and stores into a new slice. Over any program. -/
import Derived.Test.YtfggefelohfgeaaAbHas
namespace Go.Ab
set_option linter.unusedVariables false
set_option linter.unusedSimpArgs false
set_option linter.defProp false

theorem map_getD {α β : Type} [Inhabited α] (f : α → β) (l : List α) (i : Nat) (d : β) (h : i < l.length) : (l.map f).getD i d = f (l.getD i default) := by
  simp [List.getD_eq_getElem?_getD, h]

def strs (l : List (List UInt8)) : List (List AV) := l.map fun s => [.str s]
theorem strs_len (l : List (List UInt8)) : (strs l).length = l.length := by simp [strs]
theorem strs_getD (l : List (List UInt8)) (i : Nat) (h : i < l.length) : (strs l).getD i [] = [.str (l.getD i default)] := map_getD _ l i [] h
theorem strs_ok (l : List (List UInt8)) : rowsOk 1 (strs l) = True := by simp [rowsOk, strs, flat]
theorem strs_take (l : List (List UInt8)) (i : Nat) : (strs l).take i = strs (l.take i) := by simp [strs]
theorem strs_drop (l : List (List UInt8)) (i : Nat) : (strs l).drop i = strs (l.drop i) := by simp [strs]
theorem strs_app (l m : List (List UInt8)) : strs l ++ strs m = strs (l ++ m) := by simp [strs]
theorem strs_app1 (l : List (List UInt8)) (s : List UInt8) : strs l ++ [[AV.str s]] = strs (l ++ [s]) := by simp [strs]

def ints (l : List Int) : List (List AV) := l.map fun s => [.int .i64 s]
theorem ints_len (l : List Int) : (ints l).length = l.length := by simp [ints]
theorem ints_getD (l : List Int) (i : Nat) (h : i < l.length) : (ints l).getD i [] = [.int .i64 (l.getD i default)] := map_getD _ l i [] h
theorem ints_ok (l : List Int) : rowsOk 1 (ints l) = True := by simp [rowsOk, ints, flat]
theorem ints_take (l : List Int) (i : Nat) : (ints l).take i = ints (l.take i) := by simp [ints]
theorem ints_drop (l : List Int) (i : Nat) : (ints l).drop i = ints (l.drop i) := by simp [ints]
theorem ints_app (l m : List Int) : ints l ++ ints m = ints (l ++ m) := by simp [ints]
theorem ints_app1 (l : List Int) (s : Int) : ints l ++ [[AV.int .i64 s]] = ints (l ++ [s]) := by simp [ints]

theorem lenMax_eq : lenMax = 4294967296 := rfl
theorem bytesRows_one (i : Int) : bytesRows [[AV.int .u8 i]] = some [UInt8.ofNat i.toNat] := rfl
def bts (l : List UInt8) : List (List AV) := l.map fun b => [.int .u8 (b.toNat : Int)]
theorem bytesRows_bts (l : List UInt8) : bytesRows (bts l) = some l := by
  induction l with
  | nil => rfl
  | cons b l ih =>
    show (bytesRows (bts l)).map (UInt8.ofNat (b.toNat : Int).toNat :: ·) = _
    rw [ih]
    simp
theorem tmod_lit (a k : Nat) : (a : Int).tmod (no_index (OfNat.ofNat k : Int)) = ((a % k : Nat) : Int) := by
  have : (OfNat.ofNat k : Int) = (k : Int) := rfl
  rw [this]; exact (Int.ofNat_tmod a k).symm
theorem tdiv_lit (a k : Nat) : (a : Int).tdiv (no_index (OfNat.ofNat k : Int)) = ((a / k : Nat) : Int) := by
  have : (OfNat.ofNat k : Int) = (k : Int) := rfl
  rw [this]; exact (Int.ofNat_tdiv a k).symm
theorem toNat_ladd (m k : Nat) : (no_index (OfNat.ofNat k : Int) + (m : Int)).toNat = k + m := by
  have : (OfNat.ofNat k : Int) = (k : Int) := rfl
  rw [this]; omega
theorem getD_n (d : Nat) : (none : Option Nat).getD d = d := rfl
theorem getD_s (a d : Nat) : (some a).getD d = a := rfl
theorem ldc_none (c : AV) (cs : List AV) : ldc none (c :: cs) = some c := rfl

def AE := And.intro @strs_len <| And.intro @strs_getD <| And.intro @strs_ok <| And.intro @strs_take <| And.intro @strs_drop <| And.intro @strs_app <| And.intro @strs_app1 <|
  And.intro @ints_len <| And.intro @ints_getD <| And.intro @ints_ok <| And.intro @ints_take <| And.intro @ints_drop <| And.intro @ints_app <| And.intro @ints_app1 <| And.intro @ldc_none <| And.intro @lenMax_eq <| And.intro @getD_n <| And.intro @getD_s <| And.intro @bytesRows_one <| And.intro @bytesRows_bts <| And.intro @tmod_lit <| And.intro @tdiv_lit <| And.intro @toNat_ladd True.intro

/-! ### Stores into a slice that was made -/
theorem setc_len (cells : List AV) (off : Nat) (x : List AV) (h : off + x.length ≤ cells.length) : (setCells cells off x).length = cells.length := by
  simp [setCells]; omega
theorem setc_take (cells : List AV) (off : Nat) (x : List AV) (h : off + x.length ≤ cells.length) : (setCells cells off x).take (off + x.length) = cells.take off ++ x := by
  unfold setCells
  rw [List.take_append_of_le_length (by simp; omega), List.take_of_length_le (by simp; omega)]

/-- The first i rows stand; the store of the next one. -/
theorem setc_next {cells x : List AV} {rows : List (List AV)} {i s : Nat} (h : cells.take (i * s) = rows.flatten) (hx : x.length = s) (hf : i * s + x.length ≤ cells.length) :
    (setCells cells (0 + i * s) x).take ((i + 1) * s) = (rows ++ [x]).flatten := by
  have e : (i + 1) * s = i * s + x.length := by rw [Nat.add_mul, Nat.one_mul, hx]
  rw [e, Nat.zero_add, setc_take _ _ _ hf, h]
  simp
theorem take_succ {α : Type} [Inhabited α] (l : List α) (i : Nat) (h : i < l.length) : l.take (i + 1) = l.take i ++ [l.getD i default] := by
  rw [List.take_add_one, List.getD_eq_getElem?_getD, List.getElem?_eq_getElem h]; rfl
theorem strs_fz (l : List (List UInt8)) : (strs l).flatten.map fz = (strs l).flatten := by
  induction l with
  | nil => rfl
  | cons s l ih => simp only [strs, List.map_cons, List.flatten_cons, List.map_append] at ih ⊢; rw [ih]; rfl
theorem ints_fz (l : List Int) : (ints l).flatten.map fz = (ints l).flatten := by
  induction l with
  | nil => rfl
  | cons s l ih => simp only [ints, List.map_cons, List.flatten_cons, List.map_append] at ih ⊢; rw [ih]; rfl

variable {g : Ghost} {n n0 : Nat} {w : World} {H H0 : Heap} {R : AV → Nat → Heap → Prop}

/-- A slice that the function made and owns is handed back by value. -/
theorem Fin.frz {id s len : Nat} {cells : List AV} {rows : List (List AV)} (hm : (id, HObj.own cells) ∈ H) (hid : n0 ≤ id) (hB : HB n0 H0) (hs : H0.Sublist H) (hr : rows.flatten = cells.map Ab.fz) (hl : rows.length = len)
    (hrow : rowsOk s rows) (h : R (.sl rows) n0 H0) : Fin n0 n H (.ref id s 0 len) R := by
  intro g w c hn hv hh
  cases hv with | ref _ _ _ _ cap hid' hk hc hroom =>
  obtain ⟨_, h1, h2, arr, el, vs, h3, h4, h5⟩ := hh.ent _ hm
  have hlen := h5.length
  have hflat : (cells.map Ab.fz).all flat = true := by
    rw [← hr, List.all_eq_true]
    intro a ha
    obtain ⟨r, hr', har⟩ := List.mem_flatten.mp ha
    exact List.all_eq_true.mp (hrow r hr').2 a har
  have hfl := flatten_length (fun r hr' => (hrow r hr').1)
  rw [hr, List.length_map] at hfl
  have hx : Ext n0 g w ⟨g.β, g.fr, upd g.φ (g.β id) cells.length⟩ w := by
    refine ⟨fun _ _ _ => rfl, fun b => ?_, fun _ _ => .inl ⟨rfl, rfl⟩, fun _ _ h => h⟩
    show g.φ b ≤ upd g.φ (g.β id) cells.length b
    by_cases hb : b = g.β id
    · subst hb; rw [h2]; exact Nat.zero_le _
    · rw [upd_ne _ _ hb]; exact Nat.le_refl _
  have hx0 : Ext 0 g w ⟨g.β, g.fr, upd g.φ (g.β id) cells.length⟩ w := hx.le (Nat.zero_le _)
  have hsz : vs.length ≤ arr.size := by
    rcases Nat.eq_zero_or_pos vs.length with h0 | h0
    · omega
    · have := h4 (vs.length - 1) _ (List.getElem?_eq_getElem (by omega))
      rcases Nat.lt_or_ge (vs.length - 1) arr.size with h6 | h6
      · omega
      · rw [Array.getElem?_eq_none h6] at this; cases this
  refine ⟨.sl rows, n0, H0, ⟨g.β, g.fr, upd g.φ (g.β id) cells.length⟩, h, Nat.le_refl _, ?_, ?_, ?_⟩
  · rw [← hl]
    refine .sl rows s _ (g.β id) 0 cap vs (fun _ => rfl) (by omega) (fun r hr' => (hrow r hr').1) (fun _ => ?_) ?_ ?_
    · show 0 + rows.length * s ≤ upd g.φ (g.β id) cells.length (g.β id)
      rw [upd_same]; omega
    · intro i v hi
      rw [Nat.zero_add]
      have := h4 i v hi
      simp only [World.cell?, h3, Option.isSome_none, Bool.false_eq_true, if_false]
      exact this
    · rw [hr]
      exact (h5.frz hflat).ext hx0 (Nat.le_refl _)
  · have hl0 := hh.lower hs hB
    have hne : ∀ p ∈ H0, g.β p.1 ≠ g.β id := fun p hp => apart_of hh (hs.subset hp) hm (by have := (hB p hp).1; omega)
    refine ⟨hl0.apart, fun p hp => ⟨(hl0.ent p hp).1, (hl0.ent p hp).2.ext hx (Nat.le_refl _) rfl rfl (upd_ne _ _ (hne p hp)) rfl⟩, fun b hb => ?_⟩
    by_cases hbb : b = g.β id
    · subst hbb
      refine ⟨arr, el, _, h3, ?_⟩
      show upd g.φ (g.β id) cells.length (g.β id) ≤ _
      rw [upd_same]; omega
    · have e : upd g.φ (g.β id) cells.length b = g.φ b := upd_ne _ _ hbb
      have hb' : 0 < upd g.φ (g.β id) cells.length b := hb
      show room w b (upd g.φ (g.β id) cells.length b)
      rw [e] at hb' ⊢
      exact hh.fsz b hb'
  · refine { hx with size := Nat.le_refl _, old := fun b hb hno => ⟨rfl, upd_ne _ _ (fun e => hno _ hm e.symm)⟩, owns := fun p hp => .inl ⟨p, hs.subset hp, rfl⟩, oth := Oth.refl w }
end Go.Ab
