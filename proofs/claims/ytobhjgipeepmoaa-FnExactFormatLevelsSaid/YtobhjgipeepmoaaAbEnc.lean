/- How Go's slices of strings, numbers and so on are written as rows, what is frozen at a return, and stores into a new slice. Over any program. -/
import Derived.Test.YtobhjgipeepmoaaAbHas
namespace Go.Ab
set_option linter.unusedVariables false
set_option linter.unusedSimpArgs false
set_option linter.defProp false

theorem map_getD {α β : Type} [Inhabited α] (f : α → β) (l : List α) (i : Nat) (d : β) (h : i < l.length) : (l.map f).getD i d = f (l.getD i default) := by
  simp [List.getD_eq_getElem?_getD, h]

/-- How data lies in cells. -/
class Dat (α : Type) where
  z : Nat
  row : α → List AV
  rl : ∀ a, (row a).length = z
  fl : ∀ a, (row a).all flat = true
  ff : ∀ a, (row a).map Ab.fz = row a
def enc {α : Type} [Dat α] (l : List α) : List (List AV) := l.map Dat.row
instance : Dat Int := ⟨1, fun i => [.int .i64 i], fun _ => rfl, fun _ => rfl, fun _ => rfl⟩
instance : Dat UInt8 := ⟨1, fun b => [.int .u8 (b.toNat : Int)], fun _ => rfl, fun _ => rfl, fun _ => rfl⟩
instance : Dat Bool := ⟨1, fun b => [.bool b], fun _ => rfl, fun _ => rfl, fun _ => rfl⟩
abbrev Str := List UInt8
instance (priority := high) : Dat (List UInt8) := ⟨1, fun s => [.str s], fun _ => rfl, fun _ => rfl, fun _ => rfl⟩
instance (priority := low) {α : Type} [Dat α] : Dat (List α) := ⟨1, fun l => [.sl (enc l)], fun _ => rfl, fun _ => rfl, fun _ => rfl⟩
instance {α β : Type} [Dat α] [Dat β] : Dat (α × β) := ⟨Dat.z α + Dat.z β, fun p => Dat.row p.1 ++ Dat.row p.2, fun p => by simp [Dat.rl], fun p => by rw [List.all_append, Dat.fl, Dat.fl]; rfl, fun p => by rw [List.map_append, Dat.ff, Dat.ff]⟩
section
variable {α β : Type} [Dat α] [Dat β]
theorem row_int (i : Int) : Dat.row i = [AV.int .i64 i] := rfl
theorem row_u8 (b : UInt8) : Dat.row b = [AV.int .u8 (b.toNat : Int)] := rfl
theorem row_bool (b : Bool) : Dat.row b = [AV.bool b] := rfl
theorem row_str (s : List UInt8) : Dat.row s = [AV.str s] := rfl
theorem row_pair (p : α × β) : Dat.row p = Dat.row p.1 ++ Dat.row p.2 := rfl
theorem row_ints (l : List Int) : Dat.row l = [AV.sl (enc l)] := rfl
theorem row_strs (l : List (List UInt8)) : Dat.row l = [AV.sl (enc l)] := rfl
theorem row_bools (l : List Bool) : Dat.row l = [AV.sl (enc l)] := rfl
theorem row_pairs (l : List (α × β)) : Dat.row l = [AV.sl (enc l)] := rfl
theorem row_lists (l : List (List α)) : @Dat.row (List (List α)) (@instDatList (List α) (@instDatList α _)) l = [AV.sl (enc l)] := rfl
theorem enc_nil : enc ([] : List α) = [] := rfl
theorem enc_cons (a : α) (l : List α) : enc (a :: l) = Dat.row a :: enc l := rfl
theorem enc_len (l : List α) : (enc l).length = l.length := by simp [enc]
theorem enc_getD [Inhabited α] (l : List α) (i : Nat) (h : i < l.length) : (enc l).getD i [] = Dat.row (l.getD i default) := map_getD _ l i [] h
theorem enc_ok {s : Nat} (l : List α) (h : s = Dat.z α) : rowsOk s (enc l) = True := by
  subst h
  simp only [rowsOk, enc, List.mem_map, forall_exists_index, and_imp, forall_apply_eq_imp_iff₂, eq_iff_iff, iff_true]
  exact fun a _ => ⟨Dat.rl a, Dat.fl a⟩
theorem enc_take (l : List α) (i : Nat) : (enc l).take i = enc (l.take i) := by simp [enc]
theorem enc_drop (l : List α) (i : Nat) : (enc l).drop i = enc (l.drop i) := by simp [enc]
theorem enc_app (l m : List α) : enc l ++ enc m = enc (l ++ m) := by simp [enc]
theorem enc_snoc (l : List α) (a : α) : enc (l ++ [a]) = enc l ++ [Dat.row a] := by simp [enc]
theorem enc_appI (l : List Int) (a : Int) : enc l ++ [[AV.int .i64 a]] = enc (l ++ [a]) := by rw [enc_snoc]; rfl
theorem enc_appS (l : List (List UInt8)) (a : List UInt8) : enc l ++ [[AV.str a]] = enc (l ++ [a]) := by rw [enc_snoc]; rfl
theorem enc_appB (l : List Bool) (a : Bool) : enc l ++ [[AV.bool a]] = enc (l ++ [a]) := by rw [enc_snoc]; rfl
theorem enc_flen (l : List α) : (enc l).flatten.length = l.length * Dat.z α := by
  rw [flatten_length (s := Dat.z α) (fun r hr => by obtain ⟨a, _, rfl⟩ := List.mem_map.mp hr; exact Dat.rl a), enc_len]
theorem enc_fz (l : List α) : (enc l).flatten.map Ab.fz = (enc l).flatten := by
  induction l with
  | nil => rfl
  | cons s l ih => rw [enc_cons, List.flatten_cons, List.map_append, Dat.ff, ih]
theorem enc_one (i : Int) : [[AV.int .i64 i]] = enc [i] := rfl
theorem enc_oneS (i : List UInt8) : [[AV.str i]] = enc [i] := rfl
end
abbrev strs (l : List (List UInt8)) : List (List AV) := enc l
abbrev ints (l : List Int) : List (List AV) := enc l
theorem strs_len (l : List (List UInt8)) : (strs l).length = l.length := enc_len l
theorem strs_getD (l : List (List UInt8)) (i : Nat) (h : i < l.length) : (strs l).getD i [] = [.str (l.getD i default)] := enc_getD l i h
theorem strs_ok (l : List (List UInt8)) : rowsOk 1 (strs l) = True := enc_ok l rfl
theorem strs_app1 (l : List (List UInt8)) (s : List UInt8) : strs l ++ [[AV.str s]] = strs (l ++ [s]) := enc_appS l s
theorem ints_len (l : List Int) : (ints l).length = l.length := enc_len l
theorem ints_getD (l : List Int) (i : Nat) (h : i < l.length) : (ints l).getD i [] = [.int .i64 (l.getD i default)] := enc_getD l i h
theorem ints_ok (l : List Int) : rowsOk 1 (ints l) = True := enc_ok l rfl
theorem ints_app1 (l : List Int) (s : Int) : ints l ++ [[AV.int .i64 s]] = ints (l ++ [s]) := enc_appI l s

theorem lenMax_eq : lenMax = 4294967296 := rfl
theorem bytesRows_one (i : Int) : bytesRows [[AV.int .u8 i]] = some [UInt8.ofNat i.toNat] := rfl
def bts (l : List UInt8) : List (List AV) := l.map fun b => [.int .u8 (b.toNat : Int)]
theorem bytesRows_bts (l : List UInt8) : bytesRows (bts l) = some l := by
  induction l with
  | nil => rfl
  | cons b l ih =>
    show (bytesRows (bts l)).map (UInt8.ofNat (b.toNat : Int).toNat :: ·) = _
    rw [ih]
    simp
theorem bts_len (l : List UInt8) : (bts l).length = l.length := by simp [bts]
theorem bts_app1 (l : List UInt8) (a : UInt8) : bts l ++ [[AV.int .u8 (a.toNat : Int)]] = bts (l ++ [a]) := by simp [bts]
theorem bts_ok (l : List UInt8) : rowsOk 1 (bts l) = True := by simp [rowsOk, bts, flat]
theorem tmod_lit (a k : Nat) : (a : Int).tmod (no_index (OfNat.ofNat k : Int)) = ((a % k : Nat) : Int) := by
  have : (OfNat.ofNat k : Int) = (k : Int) := rfl
  rw [this]; exact (Int.ofNat_tmod a k).symm
theorem tdiv_lit (a k : Nat) : (a : Int).tdiv (no_index (OfNat.ofNat k : Int)) = ((a / k : Nat) : Int) := by
  have : (OfNat.ofNat k : Int) = (k : Int) := rfl
  rw [this]; exact (Int.ofNat_tdiv a k).symm
theorem toNat_ladd (m k : Nat) : (no_index (OfNat.ofNat k : Int) + (m : Int)).toNat = k + m := by
  have : (OfNat.ofNat k : Int) = (k : Int) := rfl
  rw [this]; omega
theorem getD_n (d : Nat) : (none : Option Nat).getD d = d := rfl
theorem getD_s (a d : Nat) : (some a).getD d = a := rfl
theorem ldc_none (c : AV) (cs : List AV) : ldc none (c :: cs) = some c := rfl

theorem wrapU8 (k : Nat) : IntKind.u8.wrap (k : Int) = ((UInt8.ofNat k).toNat : Int) := by
  have e : IntKind.u8.wrap (k : Int) = (k : Int) % 256 := by simp [IntKind.wrap, IntKind.bits, IntKind.signed]
  rw [e, UInt8.toNat_ofNat']
  omega
def AE := And.intro @enc_len <| And.intro @enc_getD <| And.intro @enc_ok <| And.intro @enc_take <| And.intro @enc_drop <| And.intro @enc_app <| And.intro @enc_appI <| And.intro @enc_appS <| And.intro @enc_appB <|
  And.intro @row_int <| And.intro @row_u8 <| And.intro @row_bool <| And.intro @row_str <| And.intro @row_pair <| And.intro @row_ints <| And.intro @row_strs <| And.intro @row_bools <| And.intro @row_pairs <| And.intro @List.cons_append.{0} <| And.intro @List.nil_append.{0} <|
  And.intro @ldc_none <| And.intro @lenMax_eq <| And.intro @getD_n <| And.intro @getD_s <| And.intro @bytesRows_one <| And.intro @bytesRows_bts <| And.intro @bts_len <| And.intro @bts_app1 <| And.intro @bts_ok <| And.intro @tmod_lit <| And.intro @tdiv_lit <| And.intro @toNat_ladd True.intro

/-! ### Stores into a slice that was made -/
theorem setc_len (cells : List AV) (off : Nat) (x : List AV) (h : off + x.length ≤ cells.length) : (setCells cells off x).length = cells.length := by
  simp [setCells]; omega
theorem setc_take (cells : List AV) (off : Nat) (x : List AV) (h : off + x.length ≤ cells.length) : (setCells cells off x).take (off + x.length) = cells.take off ++ x := by
  unfold setCells
  rw [List.take_append_of_le_length (by simp; omega), List.take_of_length_le (by simp; omega)]

/-- The first i rows stand; the store of the next one. -/
theorem setc_next {cells x : List AV} {rows : List (List AV)} {i s : Nat} (h : cells.take (i * s) = rows.flatten) (hx : x.length = s) (hf : i * s + x.length ≤ cells.length) :
    (setCells cells (0 + i * s) x).take ((i + 1) * s) = (rows ++ [x]).flatten := by
  have e : (i + 1) * s = i * s + x.length := by rw [Nat.add_mul, Nat.one_mul, hx]
  rw [e, Nat.zero_add, setc_take _ _ _ hf, h]
  simp
theorem take_succ {α : Type} [Inhabited α] (l : List α) (i : Nat) (h : i < l.length) : l.take (i + 1) = l.take i ++ [l.getD i default] := by
  rw [List.take_add_one, List.getD_eq_getElem?_getD, List.getElem?_eq_getElem h]; rfl
theorem strs_fz (l : List (List UInt8)) : (strs l).flatten.map fz = (strs l).flatten := enc_fz l
theorem ints_fz (l : List Int) : (ints l).flatten.map fz = (ints l).flatten := enc_fz l

variable {g : Ghost} {n n0 : Nat} {w : World} {H H0 : Heap} {R : AV → Nat → Heap → Prop}

/-- A slice that the function made and owns is handed back by value. -/
theorem Fin.frz {id s len : Nat} {cells : List AV} {rows : List (List AV)} (hm : (id, HObj.own cells) ∈ H) (hid : n0 ≤ id) (hB : HB n0 H0) (hs : H0.Sublist H) (hr : rows.flatten = cells.map Ab.fz) (hl : rows.length = len)
    (hrow : rowsOk s rows) (h : R (.sl rows) n0 H0) : Fin n0 n H (.ref id s 0 len) R := by
  intro g w c hn hv hh
  cases hv with | ref _ _ _ _ cap hid' hk hc hroom =>
  obtain ⟨_, h1, h2, arr, el, vs, h3, h4, h5⟩ := hh.ent _ hm
  have hlen := h5.length
  have hflat : (cells.map Ab.fz).all flat = true := by
    rw [← hr, List.all_eq_true]
    intro a ha
    obtain ⟨r, hr', har⟩ := List.mem_flatten.mp ha
    exact List.all_eq_true.mp (hrow r hr').2 a har
  have hfl := flatten_length (fun r hr' => (hrow r hr').1)
  rw [hr, List.length_map] at hfl
  have hx : Ext n0 g w ⟨g.β, g.fr, upd g.φ (g.β id) cells.length⟩ w := by
    refine ⟨fun _ _ _ => rfl, fun b => ?_, fun _ _ => .inl ⟨rfl, rfl⟩, fun _ _ h => h⟩
    show g.φ b ≤ upd g.φ (g.β id) cells.length b
    by_cases hb : b = g.β id
    · subst hb; rw [h2]; exact Nat.zero_le _
    · rw [upd_ne _ _ hb]; exact Nat.le_refl _
  have hx0 : Ext 0 g w ⟨g.β, g.fr, upd g.φ (g.β id) cells.length⟩ w := hx.le (Nat.zero_le _)
  have hsz : vs.length ≤ arr.size := by
    rcases Nat.eq_zero_or_pos vs.length with h0 | h0
    · omega
    · have := h4 (vs.length - 1) _ (List.getElem?_eq_getElem (by omega))
      rcases Nat.lt_or_ge (vs.length - 1) arr.size with h6 | h6
      · omega
      · rw [Array.getElem?_eq_none h6] at this; cases this
  refine ⟨.sl rows, n0, H0, ⟨g.β, g.fr, upd g.φ (g.β id) cells.length⟩, h, Nat.le_refl _, ?_, ?_, ?_⟩
  · rw [← hl]
    refine .sl rows s _ (g.β id) 0 cap vs (fun _ => rfl) (by omega) (fun r hr' => (hrow r hr').1) (fun _ => ?_) ?_ ?_
    · show 0 + rows.length * s ≤ upd g.φ (g.β id) cells.length (g.β id)
      rw [upd_same]; omega
    · intro i v hi
      rw [Nat.zero_add]
      have := h4 i v hi
      simp only [World.cell?, h3, Option.isSome_none, Bool.false_eq_true, if_false]
      exact this
    · rw [hr]
      exact (h5.frz hflat).ext hx0 (Nat.le_refl _)
  · have hl0 := hh.lower hs hB
    have hne : ∀ p ∈ H0, g.β p.1 ≠ g.β id := fun p hp => apart_of hh (hs.subset hp) hm (by have := (hB p hp).1; omega)
    refine ⟨hl0.apart, fun p hp => ⟨(hl0.ent p hp).1, (hl0.ent p hp).2.ext hx (Nat.le_refl _) rfl rfl (upd_ne _ _ (hne p hp)) rfl⟩, fun b hb => ?_⟩
    by_cases hbb : b = g.β id
    · subst hbb
      refine ⟨arr, el, _, h3, ?_⟩
      show upd g.φ (g.β id) cells.length (g.β id) ≤ _
      rw [upd_same]; omega
    · have e : upd g.φ (g.β id) cells.length b = g.φ b := upd_ne _ _ hbb
      have hb' : 0 < upd g.φ (g.β id) cells.length b := hb
      show room w b (upd g.φ (g.β id) cells.length b)
      rw [e] at hb' ⊢
      exact hh.fsz b hb'
  · refine { hx with size := Nat.le_refl _, old := fun b hb hno => ⟨rfl, upd_ne _ _ (fun e => hno _ hm e.symm)⟩, owns := fun p hp => .inl ⟨p, hs.subset hp, rfl⟩, oth := Oth.refl w }
end Go.Ab
