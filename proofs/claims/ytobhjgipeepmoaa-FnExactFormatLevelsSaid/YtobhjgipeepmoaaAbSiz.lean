/- Sizes of data, and what they bound; copies and equality of data by value. Over any program. -/
import Derived.Test.YtobhjgipeepmoaaAbTac
import Derived.Test.YtobhjgipeepmoaaAbLaw3
namespace Go.Ab
set_option linter.unusedVariables false

/-- What is left of a size, and what is bounded by it. -/
class Siz (α : Type) where
  sz : α → Int → Int
  ok : Nat → α → Prop
  lo : ∀ x a, -1 ≤ a → -1 ≤ sz x a
  up : ∀ x a, -1 ≤ a → sz x a ≤ a
  neg : ∀ x, sz x (-1) = -1
  okk : ∀ m x a, ok m x → 0 ≤ sz x a → -1 ≤ a → ok a.toNat x
  mono : ∀ m m' x, m ≤ m' → ok m x → ok m' x
open Siz
/-- A datum whose size is nothing. -/
class Siz0 (α : Type) [Siz α] : Prop where
  z0 : ∀ (x : α) a, sz x a = a
/-- In Go's range. -/
def rng (i : Int) : Prop := -9223372036854775808 ≤ i ∧ i ≤ 9223372036854775807
instance : Siz Int := ⟨fun _ a => a, fun _ i => rng i, fun _ _ h => h, fun _ _ _ => Int.le_refl _, fun _ => rfl, fun _ _ _ h _ _ => h, fun _ _ _ _ h => h⟩
instance : Siz UInt8 := ⟨fun _ a => a, fun _ _ => True, fun _ _ h => h, fun _ _ _ => Int.le_refl _, fun _ => rfl, fun _ _ _ _ _ _ => trivial, fun _ _ _ _ _ => trivial⟩
instance : Siz Bool := ⟨fun _ a => a, fun _ _ => True, fun _ _ h => h, fun _ _ _ => Int.le_refl _, fun _ => rfl, fun _ _ _ _ _ _ => trivial, fun _ _ _ _ _ => trivial⟩
instance : Siz0 Int := ⟨fun _ _ => rfl⟩
instance : Siz0 UInt8 := ⟨fun _ _ => rfl⟩
instance : Siz0 Bool := ⟨fun _ _ => rfl⟩
def szLen (n : Nat) (a : Int) : Int := if a - n < 0 then -1 else a - n
theorem szLen_lo (n : Nat) (a : Int) : -1 ≤ szLen n a := by unfold szLen; split <;> omega
theorem szLen_up (n : Nat) (a : Int) (h : -1 ≤ a) : szLen n a ≤ a := by unfold szLen; split <;> omega
theorem szLen_ok {n : Nat} {a : Int} (h : 0 ≤ szLen n a) : (n : Int) ≤ a := by unfold szLen at h; split at h <;> omega
theorem szLen_neg (n : Nat) : szLen n (-1) = -1 := by unfold szLen; rw [if_pos (by omega)]
instance (priority := high) : Siz (List UInt8) := ⟨fun s a => szLen s.length a, fun m s => s.length ≤ m, fun s a _ => szLen_lo _ _, fun s a h => szLen_up _ _ h, fun s => szLen_neg _, fun _ s a _ h _ => by have := szLen_ok h; omega, fun m m' s h h2 => Nat.le_trans h2 h⟩
section
variable {α β : Type} [Siz α] [Siz β]
def szl : List α → Int → Int
  | [], a => a
  | x :: l, a => szl l (sz x a)
theorem szl_lo : ∀ (l : List α) (a : Int), -1 ≤ a → -1 ≤ szl l a
  | [], a, h => h
  | x :: l, a, h => szl_lo l _ (lo x a h)
theorem szl_up : ∀ (l : List α) (a : Int), -1 ≤ a → szl l a ≤ a
  | [], a, h => Int.le_refl _
  | x :: l, a, h => Int.le_trans (szl_up l _ (lo x a h)) (up x a h)
theorem szl_neg : ∀ (l : List α), szl l (-1) = -1
  | [] => rfl
  | x :: l => by unfold szl; rw [neg, szl_neg l]
theorem szl_ok {m : Nat} : ∀ (l : List α) (a : Int), (∀ x ∈ l, ok m x) → 0 ≤ szl l a → -1 ≤ a → ∀ x ∈ l, ok a.toNat x
  | [], a, _, h, _, x, hx => by cases hx
  | y :: l, a, h0, h, ha, x, hx => by
    unfold szl at h
    have h1 := szl_up l _ (lo y a ha)
    have h2 := up y a ha
    rw [List.mem_cons] at hx
    rcases hx with rfl | hx
    · exact okk m x a (h0 x (List.mem_cons_self ..)) (by omega) ha
    · exact mono _ _ x (by omega) (szl_ok l _ (fun z hz => h0 z (List.mem_cons_of_mem _ hz)) h (lo y a ha) x hx)
theorem szl_0 [Siz0 α] : ∀ (l : List α) (a : Int), szl l a = a
  | [], a => rfl
  | x :: l, a => by unfold szl; rw [Siz0.z0, szl_0 l]
instance (priority := low) : Siz (List α) := ⟨fun l a => szl l (szLen l.length a), fun m l => l.length ≤ m ∧ ∀ x ∈ l, ok m x, fun l a _ => szl_lo l _ (szLen_lo _ _), fun l a h => Int.le_trans (szl_up l _ (szLen_lo _ _)) (szLen_up _ _ h),
  fun l => by rw [szLen_neg, szl_neg], fun m l a h0 h ha => by
    have h1 := szl_up l _ (szLen_lo l.length a)
    have h2 := szLen_ok (n := l.length) (a := a) (by omega)
    have h3 := szLen_up l.length a ha
    exact ⟨by omega, fun x hx => mono _ _ x (by omega) (szl_ok l _ h0.2 h (szLen_lo _ _) x hx)⟩,
  fun m m' l h h2 => ⟨Nat.le_trans h2.1 h, fun x hx => mono _ _ x h (h2.2 x hx)⟩⟩
instance : Siz (α × β) := ⟨fun p a => sz p.2 (sz p.1 a), fun m p => ok m p.1 ∧ ok m p.2, fun p a h => lo _ _ (lo _ _ h), fun p a h => Int.le_trans (up _ _ (lo _ _ h)) (up _ _ h), fun p => by rw [neg, neg], fun m p a h0 h ha => by
    have h1 := up p.2 _ (lo p.1 a ha)
    have h2 := up p.1 a ha
    exact ⟨okk m _ _ h0.1 (by omega) ha, mono _ _ _ (by omega) (okk m p.2 _ h0.2 h (lo _ _ ha))⟩, fun m m' p h h2 => ⟨mono _ _ _ h h2.1, mono _ _ _ h h2.2⟩⟩
instance [Siz0 α] [Siz0 β] : Siz0 (α × β) := ⟨fun p a => by show sz p.2 (sz p.1 a) = a; rw [Siz0.z0, Siz0.z0]⟩
theorem sz_m1 {x : α} {a : Int} (h : sz x a < 0) (ha : -1 ≤ a) : sz x a = -1 := by have := lo x a ha; omega
theorem sz_pair (p : α × β) (a : Int) : sz p a = sz p.2 (sz p.1 a) := rfl
theorem szl_step [Inhabited α] {l : List α} {i : Nat} (h : i < l.length) (a : Int) : szl (l.drop i) a = szl (l.drop (i + 1)) (sz (l.getD i default) a) := by
  rw [List.drop_eq_getElem_cons h, List.getD_eq_getElem?_getD, List.getElem?_eq_getElem h]; rfl
theorem szl_end {l : List α} {i : Nat} (h : l.length ≤ i) (a : Int) : szl (l.drop i) a = a := by
  rw [List.drop_eq_nil_of_le h]; rfl
theorem ok_at {m : Nat} {l : List α} [Inhabited α] (h : ∀ x ∈ l, ok m x) {i : Nat} (hi : i < l.length) : ok m (l.getD i default) := by
  rw [List.getD_eq_getElem?_getD, List.getElem?_eq_getElem hi]; exact h _ (List.getElem_mem hi)
end
theorem szS_init {α : Type} [Siz α] {l : List α} {a : Int} (h : 0 ≤ a - (l.length : Int)) : szl (l.drop 0) (a - (l.length : Int)) = sz l a := by
  rw [List.drop_zero]
  show _ = szl l (szLen l.length a)
  rw [szLen, if_neg (by omega)]
theorem szS_neg {α : Type} [Siz α] {l : List α} {a : Int} (h : a - (l.length : Int) < 0) : sz l a = -1 := by
  show szl l (szLen l.length a) = -1
  rw [szLen, if_pos h, szl_neg]
theorem szS_0 {α : Type} [Siz α] [Siz0 α] {l : List α} {a : Int} (h : 0 ≤ a - (l.length : Int)) : sz l a = a - l.length := by
  show szl l (szLen l.length a) = _
  rw [szl_0, szLen, if_neg (by omega)]
theorem szS_stop {α : Type} [Siz α] [Inhabited α] {l : List α} {a b : Int} {i : Nat} (h : szl (l.drop i) b = sz l a) (hi : i < l.length) (hc : sz (l.getD i default) b < 0) (hb : -1 ≤ b) : sz l a = -1 := by
  rw [← h, szl_step hi, sz_m1 hc hb, szl_neg]
theorem szS_next {α : Type} [Siz α] [Inhabited α] {l : List α} {a b : Int} {i : Nat} (h : szl (l.drop i) b = sz l a) (hi : i < l.length) : szl (l.drop (i + 1)) (sz (l.getD i default) b) = sz l a := by
  rw [← h, szl_step hi]
theorem szS_end {α : Type} [Siz α] {l : List α} {a b : Int} {i : Nat} (h : szl (l.drop i) b = sz l a) (hi : l.length ≤ i) : b = sz l a := by
  rw [← h, szl_end hi]
theorem szStr_pos {s : List UInt8} {b : Int} (h : 0 ≤ b - (s.length : Int)) : sz s b = b - s.length := if_neg (by omega)
theorem szStr_neg {s : List UInt8} {b : Int} (h : b - (s.length : Int) < 0) : sz s b = -1 := if_pos h
theorem sz_str (s : List UInt8) (a : Int) : sz s a = szLen s.length a := rfl
theorem sz_list {α : Type} [Siz α] (l : List (List α)) (a : Int) : sz l a = szl l (szLen l.length a) := rfl
theorem sz_int (x : Int) (a : Int) : sz x a = a := rfl
theorem sz_bool (x : Bool) (a : Int) : sz x a = a := rfl
/-- A bound of what is left. -/
theorem UB {a : Int} (h : a ≤ 1048576 := by repeat (first | omega | refine Int.le_trans (up _ _ (by omega)) ?_)) : a ≤ 1048576 := h
def mxi : Nat := 9223372036854775807
def mxs : Nat := 4294967295

theorem set_nx {α : Type} [Inhabited α] {l out : List α} {i : Nat} (h : out.take i = l.take i) (ho : i < out.length) (hl : i < l.length) : (out.set i (l.getD i default)).take (i + 1) = l.take (i + 1) := by
  rw [take_succ _ _ (by rw [List.length_set]; exact ho), take_succ _ _ hl, List.take_set_of_le (Nat.le_refl _), h]
  simp [List.getD_eq_getElem?_getD, ho]
theorem set_all {α : Type} {l out : List α} {i : Nat} (h : out.take i = l.take i) (ho : out.length ≤ i) (hl : l.length ≤ i) : out = l := by
  rwa [List.take_of_length_le ho, List.take_of_length_le hl] at h
theorem Fin.fr {n n0 id z : Nat} {H H0 : Heap} {α : Type} [Dat α] {l l' : List α} {len : Nat} (he : l = l') (hl : len = l.length) (hB : HB n0 H0 := by assumption) (hH : ((id, HObj.own (enc l).flatten) :: H0).Sublist H := by exact Sub) (hid : n0 ≤ id := by (try dsimp only); omega) (hy : z = Dat.z α := by rfl) :
    Fin n0 n H (.ref id z 0 len) (fun v' n' H' => v' = .sl (enc l') ∧ n' = n0 ∧ H' = H0) := by
  subst he hl hy
  exact Fin.frz (rows := enc l) (hH.subset (List.mem_cons_self ..)) hid hB ((List.sublist_cons_self _ _).trans hH) (enc_fz l).symm (enc_len l) (by rw [enc_ok l rfl]; trivial) ⟨rfl, rfl, rfl⟩
theorem Fin.fc {n n0 id z i : Nat} {H H0 : Heap} {α : Type} [Dat α] {l : List α} {cells : List AV} (h : cells.take (i * z) = (enc (l.take i)).flatten) (hi : l.length ≤ i) (hl : cells.length = l.length * z) (hB : HB n0 H0 := by assumption) (hH : ((id, HObj.own cells) :: H0).Sublist H := by exact Sub) (hid : n0 ≤ id := by (try dsimp only); omega) (hy : z = Dat.z α := by rfl) :
    Fin n0 n H (.ref id z 0 l.length) (fun v' n' H' => v' = .sl (enc l) ∧ n' = n0 ∧ H' = H0) := by
  rw [List.take_of_length_le (l := l) hi, List.take_of_length_le (by rw [hl]; exact Nat.mul_le_mul_right z hi)] at h
  subst h
  exact Fin.fr rfl rfl hB hH hid hy
theorem fc_len {α : Type} [Dat α] {l : List α} {cells x : List AV} {i z : Nat} (hl : cells.length = l.length * z) (hi : i < l.length) (hx : x.length = z) : (setCells cells (0 + i * z) x).length = l.length * z := by
  rw [setc_len _ _ _ ?_, hl]
  rw [hl, hx, Nat.zero_add, ← Nat.succ_mul]
  exact Nat.mul_le_mul_right z hi
theorem fc_next {α : Type} [Dat α] [Inhabited α] {l : List α} {cells x : List AV} {i z : Nat} (h : cells.take (i * z) = (enc (l.take i)).flatten) (hl : cells.length = l.length * z) (hi : i < l.length) (hx : x = Dat.row (l.getD i default)) (hy : z = Dat.z α) : (setCells cells (0 + i * z) x).take ((i + 1) * z) = (enc (l.take (i + 1))).flatten := by
  subst hx hy
  rw [setc_next h (Dat.rl _) (by rw [hl, Dat.rl, ← Nat.succ_mul]; exact Nat.mul_le_mul_right _ hi), take_succ _ _ hi, enc_snoc]
theorem fc_0 {α : Type} [Dat α] {l : List α} {cells : List AV} {z : Nat} : cells.take (0 * z) = (enc (l.take 0)).flatten := by simp [enc]
section
set_option linter.unusedSectionVars false
variable {α : Type} [DecidableEq α] [Inhabited α] {l m : List α}
theorem decL (h : ¬ l.length = m.length) : decide (l = m) = false := decide_eq_false fun e => h (e ▸ rfl)
theorem decG {i : Nat} (h : ¬ l.getD i default = m.getD i default) : decide (l = m) = false := decide_eq_false fun e => h (e ▸ rfl)
theorem decA (h : l.length = m.length) (ha : ∀ j, j < l.length → l.getD j default = m.getD j default) : decide (l = m) = true := decide_eq_true (by
  apply List.ext_getElem h
  intro i h1 h2
  have := ha i h1
  simpa [List.getD_eq_getElem?_getD, h1, h2] using this)
theorem decN {i : Nat} (h : ∀ j, j < i → l.getD j default = m.getD j default) (hc : l.getD i default = m.getD i default) : ∀ j, j < i + 1 → l.getD j default = m.getD j default := fun j hj => by
  by_cases e : j = i
  · subst e; exact hc
  · exact h j (by omega)
end
abbrev Lnk := UInt8 × UInt8
abbrev Lvl := List (List UInt8) × List Int
abbrev Lrn := Int × List (List Int) × Int
abbrev Odr := Int × List (List Bool)
abbrev Par := List UInt8 × List UInt8
abbrev Lng := List (List UInt8) × Int × List Int
abbrev Shr := List UInt8 × Int
abbrev Syl := List UInt8 × List UInt8 × List UInt8
abbrev Fot := Int × Int × Int
abbrev Ftg := Int × List Fot × Int
abbrev Tab := List UInt8 × List (List UInt8) × List (List Lnk) × List (List Int)
instance decTab : DecidableEq Tab := by
  letI i1 : DecidableEq (List (List Lnk) × List (List Int)) := inferInstance
  letI i2 : DecidableEq (List (List UInt8) × List (List Lnk) × List (List Int)) := inferInstance
  exact inferInstance
abbrev Clm := Int × Tab × Int × List (List Int) × List Int × List Int × List (List UInt8)
instance decClm : DecidableEq Clm := by
  letI i1 : DecidableEq (List Int × List Int × List (List UInt8)) := inferInstance
  letI i2 : DecidableEq (Int × List (List Int) × List Int × List Int × List (List UInt8)) := inferInstance
  exact inferInstance
theorem row_ii (l : List (List Int)) : Dat.row l = [AV.sl (enc l)] := rfl
theorem row_ss (l : List (List (List UInt8))) : Dat.row l = [AV.sl (enc l)] := rfl
theorem row_ll (l : List (List Lnk)) : Dat.row l = [AV.sl (enc l)] := rfl
theorem row_bb (l : List (List Bool)) : Dat.row l = [AV.sl (enc l)] := rfl
theorem stc5 (a b c d e x y : AV) (l : List AV) : setCells (a :: b :: c :: d :: e :: y :: l) 5 [x] = a :: b :: c :: d :: e :: x :: l := by simp [setCells, Nat.add_comm 5]
theorem stc6 (a b c d e f x y : AV) (l : List AV) : setCells (a :: b :: c :: d :: e :: f :: y :: l) 6 [x] = a :: b :: c :: d :: e :: f :: x :: l := by simp [setCells, Nat.add_comm 6]
theorem stc7 (a b c d e f g x y : AV) (l : List AV) : setCells (a :: b :: c :: d :: e :: f :: g :: y :: l) 7 [x] = a :: b :: c :: d :: e :: f :: g :: x :: l := by simp [setCells, Nat.add_comm 7]
theorem stc8 (a b c d e f g h x y : AV) (l : List AV) : setCells (a :: b :: c :: d :: e :: f :: g :: h :: y :: l) 8 [x] = a :: b :: c :: d :: e :: f :: g :: h :: x :: l := by simp [setCells, Nat.add_comm 8]
theorem stc9 (a b c d e f g h i x y : AV) (l : List AV) : setCells (a :: b :: c :: d :: e :: f :: g :: h :: i :: y :: l) 9 [x] = a :: b :: c :: d :: e :: f :: g :: h :: i :: x :: l := by simp [setCells, Nat.add_comm 9]
theorem tkl5 (a b c d e : AV) : List.take 5 [a, b, c, d, e] = [a, b, c, d, e] := rfl
theorem tkl6 (a b c d e f : AV) : List.take 6 [a, b, c, d, e, f] = [a, b, c, d, e, f] := rfl
theorem tkl7 (a b c d e f g : AV) : List.take 7 [a, b, c, d, e, f, g] = [a, b, c, d, e, f, g] := rfl
theorem tkl8 (a b c d e f g h : AV) : List.take 8 [a, b, c, d, e, f, g, h] = [a, b, c, d, e, f, g, h] := rfl
theorem tkl9 (a b c d e f g h i : AV) : List.take 9 [a, b, c, d, e, f, g, h, i] = [a, b, c, d, e, f, g, h, i] := rfl
theorem tkl10 (a b c d e f g h i j : AV) : List.take 10 [a, b, c, d, e, f, g, h, i, j] = [a, b, c, d, e, f, g, h, i, j] := rfl
theorem eqLnk (a b : Lnk) : eqInts [AV.int .u8 (a.1.toNat : Int), AV.int .u8 (a.2.toNat : Int)] [AV.int .u8 (b.1.toNat : Int), AV.int .u8 (b.2.toNat : Int)] = some (decide (a = b)) := by
  obtain ⟨a1, a2⟩ := a
  obtain ⟨b1, b2⟩ := b
  have h : ∀ x y : UInt8, ((x.toNat : Int) = (y.toNat : Int)) = (x = y) := fun x y => by rw [Int.ofNat_inj, UInt8.toNat_inj]
  simp only [eqInts, h, Prod.mk.injEq]
  by_cases h1 : a1 = b1 <;> by_cases h2 : a2 = b2 <;> simp [h1, h2]
/-- A law's argument as a datum. -/
def HK (s : TS) (α : Type) [Dat α] [Siz α] : Prop := HD s α (ok mxi)
theorem HK.bool : HK .bool Bool := HD.bool
theorem HK.u8 : HK (.int .u8) UInt8 := HD.u8
theorem HK.int : HK (.int .i64) Int := fun cs h => by
  obtain ⟨i, e, hw⟩ := HD.int cs h
  refine ⟨i, e, ?_⟩
  simp [Lit.wf] at hw
  have e1 : IntKind.i64.min = -9223372036854775808 := rfl
  have e2 : IntKind.i64.max = 9223372036854775807 := rfl
  exact ⟨by omega, by omega⟩
theorem HK.str : HK .str (List UInt8) := HD.str
theorem HK.sl {s : TS} {α : Type} [Dat α] [Siz α] (h : HK s α) : HK (.sl (Dat.z α) s) (List α) := HD.sl h
def HKf (fs : TSs) (α : Type) [Dat α] [Siz α] : Prop := ∀ cs, HasS (.st fs) cs → ∃ a : α, cs = Dat.row a ∧ ok mxi a
theorem HK.one {s : TS} {α : Type} [Dat α] [Siz α] (h : HK s α) : HKf (.cons s .nil) α := HD.st1 h
theorem HK.cons {s : TS} {fs : TSs} {α β : Type} [Dat α] [Dat β] [Siz α] [Siz β] (h1 : HK s α) (h2 : HKf fs β) : HKf (.cons s fs) (α × β) := fun cs hs => by
  obtain ⟨xs, ys, rfl, h, hs⟩ := hs
  obtain ⟨a, rfl, ha⟩ := h1 _ h
  obtain ⟨z, rfl, hz⟩ := h2 ys hs
  exact ⟨(a, z), rfl, ha, hz⟩
theorem HK.st {fs : TSs} {α : Type} [Dat α] [Siz α] (h : HKf fs α) : HK (.st fs) α := h
/-- The copied or compared data. -/
def C_szS (α : Type) [Dat α] [Siz (List α)] (P : Program) (k : Nat) : Prop := ∀ (l : List α) (a : Int), ok mxi l → -1 ≤ a → a ≤ 1048576 → RunsF P k [.sl (enc l), .int .i64 a] (.int .i64 (sz l a))
def C_szT (α : Type) [Dat α] [Siz α] (P : Program) (k : Nat) : Prop := ∀ (x : α) (a : Int), ok mxi x → -1 ≤ a → a ≤ 1048576 → RunsF P k [.agg (Dat.row x), .int .i64 a] (.int .i64 (sz x a))
def C_toS (α : Type) [Dat α] [Siz (List α)] (P : Program) (k : Nat) : Prop := ∀ (l : List α), ok mxs l → RunsF P k [.sl (enc l)] (.sl (enc l))
def C_toT (α : Type) [Dat α] [Siz α] (P : Program) (k : Nat) : Prop := ∀ (x : α), ok mxs x → RunsF P k [.agg (Dat.row x)] (.agg (Dat.row x))
def C_eqS (α : Type) [Dat α] [Siz (List α)] [DecidableEq α] (P : Program) (k : Nat) : Prop := ∀ (l m : List α), ok mxs l → ok mxs m → RunsF P k [.sl (enc l), .sl (enc m)] (.bool (decide (l = m)))
def C_eqT (α : Type) [Dat α] [Siz α] [DecidableEq α] (P : Program) (k : Nat) : Prop := ∀ (x y : α), ok mxs x → ok mxs y → RunsF P k [.agg (Dat.row x), .agg (Dat.row y)] (.bool (decide (x = y)))
section
set_option linter.defProp false
theorem TTdt {A B : Prop} (hb : B) (h : B → A := by (intro hb; simp (disch := first | omega | decide | rfl) only [row_ii, row_ss, row_ll, row_bb, eqLnk, stc5, stc6, stc7, stc8, stc9, tkl5, tkl6, tkl7, tkl8, tkl9, tkl10, Z, ZH, List.set_cons_zero, List.set_cons_succ, ↓reduceIte, Nat.reduceEqDiff, Nat.reduceBEq, Nat.reduceAdd, reduceCtorEq, UInt8.reduceOfNat]; exact hb)) : A := h hb
theorem TRdt {A B : Prop} (hb : B) (h : B → A := by (intro hb; simp (disch := first | omega | decide | rfl) only [ZR, row_ii, row_ss, row_ll, row_bb, eqLnk, stc5, stc6, stc7, stc8, stc9, tkl5, tkl6, tkl7, tkl8, tkl9, tkl10, Z, ZH, List.set_cons_zero, List.set_cons_succ, ↓reduceIte, Nat.reduceEqDiff, Nat.reduceBEq, Nat.reduceAdd, reduceCtorEq, UInt8.reduceOfNat]; exact hb)) : A := h hb
theorem TGdt {A B : Prop} (hb : B) (h : B → A := by (intro hb; simp (disch := first | omega | decide | rfl) only [hg, row_ii, row_ss, row_ll, row_bb, eqLnk, stc5, stc6, stc7, stc8, stc9, tkl5, tkl6, tkl7, tkl8, tkl9, tkl10, Z, ZH, List.set_cons_zero, List.set_cons_succ, ↓reduceIte, Nat.reduceEqDiff, Nat.reduceBEq, Nat.reduceAdd, reduceCtorEq, UInt8.reduceOfNat]; exact hb)) : A := h hb
end
end Go.Ab
