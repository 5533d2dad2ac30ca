/- The abstract values of the walk: Go values by their content, and what it means that a world holds them. Over any program. What a running function body comes to, told by abstract values: one rule for each piece of code. Over any program. The operations, told by abstract values: what each comes to, as functions that simp can run. Over any program. What an allocation, a store and an append do to the relation between the abstract heap and the world. Over any program. Go code, as the loader has it, turned into the shorter form that the abstract run reads. Over any program. Each operation does in the world what the abstract run says: the operations that ask nothing of the heap. Over any program. Each operation does in the world what the abstract run says: moves, arithmetic, strings, addresses, loads. Over any program. Each operation does in the world what the abstract run says: comparisons, conversions, slicing, fields, indexes, lengths. Over any program. Each operation does in the world what the abstract run says: comparisons of structs, structs and slices that are built or made, stores, lengths. Over any program. Each operation does in the world what the abstract run says: stores, slices that are built or made, appends, lengths, calls. Over any program. Each operation does in the world what the abstract run says: slices that are built or made, lengths, calls, greatest and least, bytes to a string. Over any program. Each operation does in the world what the abstract run says: make, append, lengths, calls, greatest and least, bytes to a string. Over any program. No condition. -/
import Derived.Orders
import Derived.Laws.Sem
import Derived.Laws.World
import Derived.Laws.Cells
import Derived.Laws.Append
import Derived.WalkKit
section
namespace Go.Ab
set_option linter.unusedVariables false

inductive AV where
  | junk
  | bool (b : Bool)
  | int (k : IntKind) (n : Int)
  | str (s : List UInt8)
  | fn (f : FuncId) (cap : List AV)
  | agg (cs : List AV)
  | tup (vs : List AV)
  | nilsl
  | sl (rows : List (List AV))
  | acc (id s : Nat) (rows : List (List AV))
  | fptr (cs : List AV)
  | ptr (id off : Nat)
  | ref (id s off len : Nat)
  | vec (id ver s off len : Nat)
  | vptr (id ver off : Nat)
instance : Inhabited AV := ⟨.junk⟩

structure Ghost where
  β : Nat → Nat
  fr : Nat → Option Nat
  φ : Nat → Nat

/-- The cells of block b from off on hold vs. -/
def Run (w : World) (b off : Nat) (vs : List Value) : Prop := ∀ i v, vs[i]? = some v → w.cell? ⟨b, off + i, none⟩ = some v

def room (w : World) (b k : Nat) : Prop := ∃ c el fz, w.heap[b]? = some (.cells c el fz) ∧ k ≤ c.size

mutual
inductive VRel (g : Ghost) : Nat → World → AV → Value → Prop
  | junk {n : Nat} {w : World} (v : Value) : VRel g n w .junk v
  | bool {n : Nat} {w : World} (b : Bool) : VRel g n w (.bool b) (.bool b)
  | int {n : Nat} {w : World} (k : IntKind) (i : Int) : VRel g n w (.int k i) (.int k i)
  | str {n : Nat} {w : World} (s : List UInt8) : VRel g n w (.str s) (.string ⟨s.toArray⟩)
  | fn {n : Nat} {w : World} (f : FuncId) (cap : List AV) (vs : List Value) (h : VRels g n w cap vs) : VRel g n w (.fn f cap) (.func (.func f) #[] vs.toArray)
  | agg {n : Nat} {w : World} (cs : List AV) (vs : List Value) (h : VRels g n w cs vs) : VRel g n w (.agg cs) (.agg vs.toArray)
  | tup {n : Nat} {w : World} (cs : List AV) (vs : List Value) (h : VRels g n w cs vs) : VRel g n w (.tup cs) (.tuple vs.toArray)
  | nilsl {n : Nat} {w : World} : VRel g n w .nilsl (.slice none 0 0)
  | sl {n : Nat} {w : World} (rows : List (List AV)) (s : Nat) (a : Option Addr) (b off cap : Nat) (vs : List Value) (ha : rows ≠ [] → a = some ⟨b, off, none⟩) (hc : rows.length ≤ cap)
      (hs : ∀ r ∈ rows, r.length = s) (hf : rows ≠ [] → off + rows.length * s ≤ g.φ b) (hr : Run w b off vs) (hv : VRels g 0 w rows.flatten vs) :
      VRel g n w (.sl rows) (.slice a rows.length cap)
  | acc {n : Nat} {w : World} (id s : Nat) (rows : List (List AV)) (a : Option Addr) (b off cap : Nat) (vs : List Value) (ha : rows ≠ [] → a = some ⟨b, off, none⟩) (hc : rows.length ≤ cap)
      (hs : ∀ r ∈ rows, r.length = s) (hf : rows ≠ [] → off + rows.length * s ≤ g.φ b) (hr : Run w b off vs) (hv : VRels g 0 w rows.flatten vs) (hid : id < n)
      (hl : ∀ m, g.fr id = some m → rows.length * s ≤ m ∧ (rows.length * s = m → a = some ⟨g.β id, 0, none⟩ ∧ room w (g.β id) (cap * s))) :
      VRel g n w (.acc id s rows) (.slice a rows.length cap)
  | fptr {n : Nat} {w : World} (cs : List AV) (b off : Nat) (vs : List Value) (hf : off + cs.length ≤ g.φ b) (hr : Run w b off vs) (hv : VRels g 0 w cs vs) :
      VRel g n w (.fptr cs) (.pointer (some ⟨b, off, none⟩))
  | ptr {n : Nat} {w : World} (id off : Nat) (hid : id < n) (hk : g.fr id = none) : VRel g n w (.ptr id off) (.pointer (some ⟨g.β id, off, none⟩))
  | ref {n : Nat} {w : World} (id s off len cap : Nat) (hid : id < n) (hk : g.fr id = none) (hc : len ≤ cap) (hr : room w (g.β id) (off + cap * s)) :
      VRel g n w (.ref id s off len) (.slice (some ⟨g.β id, off, none⟩) len cap)
  | vec {n : Nat} {w : World} (id ver s off len : Nat) (a : Option Addr) (cap : Nat) (hid : id < n)
      (hl : ∀ m, g.fr id = some m → ver ≤ m ∧ (ver = m → a = some ⟨g.β id, off, none⟩ ∧ len ≤ cap ∧ room w (g.β id) (off + cap * s))) : VRel g n w (.vec id ver s off len) (.slice a len cap)
  | vptr {n : Nat} {w : World} (id ver off : Nat) (a : Option Addr) (hid : id < n)
      (hl : ∀ m, g.fr id = some m → ver ≤ m ∧ (ver = m → a = some ⟨g.β id, off, none⟩)) : VRel g n w (.vptr id ver off) (.pointer a)
inductive VRels (g : Ghost) : Nat → World → List AV → List Value → Prop
  | nil {n : Nat} {w : World} : VRels g n w [] []
  | cons {n : Nat} {w : World} (a : AV) (v : Value) (as : List AV) (vs : List Value) (h : VRel g n w a v) (t : VRels g n w as vs) : VRels g n w (a :: as) (v :: vs)
end

structure Ext (n : Nat) (g : Ghost) (w : World) (g' : Ghost) (w' : World) : Prop where
  cells : ∀ b i, i < g.φ b → w'.cell? ⟨b, i, none⟩ = w.cell? ⟨b, i, none⟩
  fro : ∀ b, g.φ b ≤ g'.φ b
  ids : ∀ id, id < n → (g'.β id = g.β id ∧ g'.fr id = g.fr id) ∨ ∃ m m', g.fr id = some m ∧ g'.fr id = some m' ∧ m < m'
  rooms : ∀ b k, room w b k → room w' b k

theorem Ext.refl (n : Nat) (g : Ghost) (w : World) : Ext n g w g w :=
  ⟨fun _ _ _ => rfl, fun _ => Nat.le_refl _, fun _ _ => .inl ⟨rfl, rfl⟩, fun _ _ h => h⟩

theorem Ext.le {n n' : Nat} {g g' : Ghost} {w w' : World} (h : Ext n' g w g' w') (hn : n ≤ n') : Ext n g w g' w' :=
  ⟨h.cells, h.fro, fun id hi => h.ids id (by omega), h.rooms⟩

theorem Ext.trans {n n' : Nat} {g g1 g2 : Ghost} {w w1 w2 : World} (h : Ext n g w g1 w1) (h' : Ext n' g1 w1 g2 w2) (hn : n ≤ n') : Ext n g w g2 w2 := by
  refine ⟨fun b i hi => ?_, fun b => Nat.le_trans (h.fro b) (h'.fro b), fun id hid => ?_, fun b k hk => h'.rooms b k (h.rooms b k hk)⟩
  · rw [h'.cells b i (Nat.lt_of_lt_of_le hi (h.fro b)), h.cells b i hi]
  · rcases h.ids id hid with ⟨a, b⟩ | ⟨m, m', hm, hm', hlt⟩
    · rcases h'.ids id (by omega) with ⟨c, d⟩ | ⟨p, p', hp, hp', hlt'⟩
      · exact .inl ⟨c.trans a, d.trans b⟩
      · exact .inr ⟨p, p', b ▸ hp, hp', hlt'⟩
    · rcases h'.ids id (by omega) with ⟨c, d⟩ | ⟨p, p', hp, hp', hlt'⟩
      · exact .inr ⟨m, m', hm, d ▸ hm', hlt⟩
      · rw [hm'] at hp; cases hp
        exact .inr ⟨m, p', hm, hp', by omega⟩

theorem VRels.length {g : Ghost} {n : Nat} {w : World} : ∀ {as : List AV} {vs : List Value}, VRels g n w as vs → as.length = vs.length
  | _, _, .nil => rfl
  | _, _, .cons _ _ _ _ _ t => by simp [VRels.length t]

theorem flatten_length {α : Type} {rows : List (List α)} {s : Nat} (hs : ∀ r ∈ rows, r.length = s) : rows.flatten.length = rows.length * s := by
  induction rows with
  | nil => simp
  | cons r rs ih =>
    simp only [List.flatten_cons, List.length_append, List.length_cons, ih (fun x hx => hs x (List.mem_cons_of_mem _ hx)), hs r (List.mem_cons_self ..)]
    rw [Nat.succ_mul, Nat.add_comm]

theorem Run.ext {n : Nat} {g g' : Ghost} {w w' : World} {b off : Nat} {vs : List Value} (h : Run w b off vs) (he : Ext n g w g' w') (hf : vs ≠ [] → off + vs.length ≤ g.φ b) : Run w' b off vs := by
  intro i v hi
  have hlt : i < vs.length := by
    rcases Nat.lt_or_ge i vs.length with h' | h'
    · exact h'
    · rw [List.getElem?_eq_none h'] at hi; cases hi
  have hne : vs ≠ [] := by intro e; subst e; simp at hlt
  rw [he.cells b (off + i) (by have := hf hne; omega)]
  exact h i v hi

mutual
theorem VRel.ext {g g' : Ghost} {w w' : World} : ∀ {n n' : Nat} {a : AV} {v : Value}, VRel g n w a v → Ext n g w g' w' → n ≤ n' → VRel g' n' w' a v
  | _, _, _, _, .junk v, he, hn => .junk v
  | _, _, _, _, .bool b, he, hn => .bool b
  | _, _, _, _, .int k i, he, hn => .int k i
  | _, _, _, _, .str s, he, hn => .str s
  | _, _, _, _, .fn f cap vs h, he, hn => .fn f cap vs (h.ext he hn)
  | _, _, _, _, .agg cs vs h, he, hn => .agg cs vs (h.ext he hn)
  | _, _, _, _, .tup cs vs h, he, hn => .tup cs vs (h.ext he hn)
  | _, _, _, _, .nilsl, he, hn => .nilsl
  | _, _, _, _, .sl rows s a b off cap vs ha hc hs hf hr hv, he, hn =>
    .sl rows s a b off cap vs ha hc hs (fun h => Nat.le_trans (hf h) (he.fro b))
      (hr.ext he (fun hne => by
        have hl := hv.length
        rw [flatten_length hs] at hl
        rw [← hl]
        apply hf
        rintro rfl
        simp at hl
        exact hne (List.eq_nil_of_length_eq_zero hl.symm))) (hv.ext (he.le (Nat.zero_le _)) (Nat.le_refl 0))
  | _, _, _, _, .acc id s rows a b off cap vs ha hc hs hf hr hv hid hl, he, hn =>
    .acc id s rows a b off cap vs ha hc hs (fun h => Nat.le_trans (hf h) (he.fro b))
      (hr.ext he (fun hne => by
        have hl := hv.length
        rw [flatten_length hs] at hl
        rw [← hl]
        apply hf
        rintro rfl
        simp at hl
        exact hne (List.eq_nil_of_length_eq_zero hl.symm))) (hv.ext (he.le (Nat.zero_le _)) (Nat.le_refl 0)) (Nat.lt_of_lt_of_le hid hn)
      (fun m hm => by
        rcases he.ids id hid with ⟨h1, h2⟩ | ⟨p, p', hp, hp', hlt⟩
        · obtain ⟨h3, h4⟩ := hl m (h2 ▸ hm)
          refine ⟨h3, fun e => ?_⟩
          obtain ⟨h5, h6⟩ := h4 e
          rw [h1]
          exact ⟨h5, he.rooms _ _ h6⟩
        · rw [hp'] at hm; cases hm
          have := (hl p hp).1
          exact ⟨by omega, fun e => by omega⟩)
  | _, _, _, _, .fptr cs b off vs hf hr hv, he, hn =>
    .fptr cs b off vs (Nat.le_trans hf (he.fro b)) (hr.ext he (fun _ => by rw [← hv.length]; exact hf)) (hv.ext (he.le (Nat.zero_le _)) (Nat.le_refl 0))
  | _, _, _, _, .ptr id off hid hk, he, hn => by
    have h : g'.β id = g.β id ∧ g'.fr id = g.fr id := (he.ids id hid).resolve_right (by rintro ⟨m, m', h1, _⟩; rw [hk] at h1; cases h1)
    rw [← h.1]
    exact .ptr id off (Nat.lt_of_lt_of_le hid hn) (h.2.trans hk)
  | _, _, _, _, .ref id s off len cap hid hk hc hr, he, hn => by
    have h : g'.β id = g.β id ∧ g'.fr id = g.fr id := (he.ids id hid).resolve_right (by rintro ⟨m, m', h1, _⟩; rw [hk] at h1; cases h1)
    rw [← h.1]
    exact .ref id s off len cap (Nat.lt_of_lt_of_le hid hn) (h.2.trans hk) hc (by rw [h.1]; exact he.rooms _ _ hr)
  | _, _, _, _, .vec id ver s off len a cap hid hl, he, hn =>
    .vec id ver s off len a cap (Nat.lt_of_lt_of_le hid hn) (fun m hm => by
      rcases he.ids id hid with ⟨h1, h2⟩ | ⟨p, p', hp, hp', hlt⟩
      · obtain ⟨h3, h4⟩ := hl m (h2 ▸ hm)
        refine ⟨h3, fun e => ?_⟩
        obtain ⟨h5, h6, h7⟩ := h4 e
        rw [h1]
        exact ⟨h5, h6, he.rooms _ _ h7⟩
      · rw [hp'] at hm; cases hm
        have := (hl p hp).1
        exact ⟨by omega, fun e => by omega⟩)
  | _, _, _, _, .vptr id ver off a hid hl, he, hn =>
    .vptr id ver off a (Nat.lt_of_lt_of_le hid hn) (fun m hm => by
      rcases he.ids id hid with ⟨h1, h2⟩ | ⟨p, p', hp, hp', hlt⟩
      · obtain ⟨h3, h4⟩ := hl m (h2 ▸ hm)
        refine ⟨h3, fun e => ?_⟩
        rw [h1]
        exact h4 e
      · rw [hp'] at hm; cases hm
        have := (hl p hp).1
        exact ⟨by omega, fun e => by omega⟩)
theorem VRels.ext {g g' : Ghost} {w w' : World} : ∀ {n n' : Nat} {as : List AV} {vs : List Value}, VRels g n w as vs → Ext n g w g' w' → n ≤ n' → VRels g' n' w' as vs
  | _, _, _, _, .nil, he, hn => .nil
  | _, _, _, _, .cons a v as vs h t, he, hn => .cons a v as vs (h.ext he hn) (t.ext he hn)
end

/-! ### The heap of what is owned -/
inductive HObj where
  | tok (s len : Nat)
  | own (cells : List AV)
  | vob (ver s : Nat) (cells : List AV)
abbrev Heap := List (Nat × HObj)
abbrev Env := List (Nat × AV)

def EntRel (g : Ghost) (n : Nat) (w : World) (id : Nat) : HObj → Prop
  | .tok s len => g.fr id = some (len * s) ∧ g.φ (g.β id) = len * s ∧ ∃ c el, w.heap[g.β id]? = some (.cells c el (0, 0)) ∧ len * s ≤ c.size
  | .own cells => g.fr id = none ∧ g.φ (g.β id) = 0 ∧ ∃ (c : Array Value) (el : TypeId) (vs : List Value), w.heap[g.β id]? = some (.cells c el (0, 0)) ∧ (∀ (i : Nat) (v : Value), vs[i]? = some v → c[i]? = some v) ∧ VRels g n w cells vs
  | .vob ver s cells => g.fr id = some ver ∧ g.φ (g.β id) = 0 ∧ ∃ (c : Array Value) (el : TypeId) (vs : List Value), w.heap[g.β id]? = some (.cells c el (0, 0)) ∧ (∀ (i : Nat) (v : Value), vs[i]? = some v → c[i]? = some v) ∧ VRels g n w cells vs

structure HRel (g : Ghost) (n : Nat) (H : Heap) (w : World) : Prop where
  apart : H.Pairwise fun p q => p.1 ≠ q.1 ∧ g.β p.1 ≠ g.β q.1
  ent : ∀ p ∈ H, p.1 < n ∧ EntRel g n w p.1 p.2
  fsz : ∀ b, 0 < g.φ b → room w b (g.φ b)

/-- What no step of ours turns. -/
structure Oth (w w' : World) : Prop where
  os : w'.os = w.os
  tape : w'.tape = w.tape
  out : w'.output = w.output

theorem Oth.refl (w : World) : Oth w w := ⟨rfl, rfl, rfl⟩
theorem Oth.trans {a b c : World} (h : Oth a b) (k : Oth b c) : Oth a c := ⟨k.os.trans h.os, k.tape.trans h.tape, k.out.trans h.out⟩

structure Grow (n : Nat) (g : Ghost) (w : World) (H : Heap) (g' : Ghost) (w' : World) (H' : Heap) : Prop extends Ext n g w g' w' where
  size : w.heap.size ≤ w'.heap.size
  old : ∀ b, b < w.heap.size → (∀ p ∈ H, g.β p.1 ≠ b) → w'.heap[b]? = w.heap[b]? ∧ g'.φ b = g.φ b
  owns : ∀ p ∈ H', (∃ q ∈ H, g.β q.1 = g'.β p.1) ∨ w.heap.size ≤ g'.β p.1
  oth : Oth w w'

theorem Grow.refl (n : Nat) (g : Ghost) (w : World) (H : Heap) : Grow n g w H g w H :=
  { Ext.refl n g w with size := Nat.le_refl _, old := fun _ _ _ => ⟨rfl, rfl⟩, owns := fun p hp => .inl ⟨p, hp, rfl⟩, oth := Oth.refl w }

theorem Grow.trans {n n' : Nat} {g g1 g2 : Ghost} {w w1 w2 : World} {H H1 H2 : Heap} (h : Grow n g w H g1 w1 H1) (h' : Grow n' g1 w1 H1 g2 w2 H2) (hn : n ≤ n') : Grow n g w H g2 w2 H2 :=
  { Ext.trans h.toExt h'.toExt hn with
    size := Nat.le_trans h.size h'.size
    old := fun b hb hno => by
      obtain ⟨e1, e2⟩ := h.old b hb hno
      have hno1 : ∀ p ∈ H1, g1.β p.1 ≠ b := fun p hp e => by
        rcases h.owns p hp with ⟨q, hq, hqe⟩ | hle
        · exact hno q hq (hqe.trans e)
        · omega
      obtain ⟨e3, e4⟩ := h'.old b (Nat.lt_of_lt_of_le hb h.size) hno1
      exact ⟨e3.trans e1, e4.trans e2⟩
    owns := fun p hp => by
      rcases h'.owns p hp with ⟨q, hq, hqe⟩ | hle
      · rcases h.owns q hq with ⟨r, hr, hre⟩ | hle
        · exact .inl ⟨r, hr, hre.trans hqe⟩
        · exact .inr (by omega)
      · exact .inr (Nat.le_trans h.size hle)
    oth := h.oth.trans h'.oth }

theorem EntRel.ext {n n' : Nat} {g g' : Ghost} {w w' : World} {id : Nat} {o : HObj} (h : EntRel g n w id o) (he : Ext n g w g' w') (hn : n ≤ n')
    (hb : g'.β id = g.β id) (hfr : g'.fr id = g.fr id) (hphi : g'.φ (g.β id) = g.φ (g.β id)) (hw : w'.heap[g.β id]? = w.heap[g.β id]?) : EntRel g' n' w' id o := by
  cases o with
  | tok s len =>
    obtain ⟨h1, h2, c, el, h3, h4⟩ := h
    exact ⟨hfr.trans h1, by rw [hb, hphi, h2], c, el, by rw [hb, hw, h3], h4⟩
  | own cells =>
    obtain ⟨h1, h2, c, el, vs, h3, h4, h5⟩ := h
    exact ⟨hfr.trans h1, by rw [hb, hphi, h2], c, el, vs, by rw [hb, hw, h3], h4, h5.ext he hn⟩
  | vob ver s cells =>
    obtain ⟨h1, h2, c, el, vs, h3, h4, h5⟩ := h
    exact ⟨hfr.trans h1, by rw [hb, hphi, h2], c, el, vs, by rw [hb, hw, h3], h4, h5.ext he hn⟩

/-- What E says of the temporaries. -/
def ERel (g : Ghost) (n : Nat) (w : World) (E : Env) (tmps : Array Value) : Prop := ∀ p ∈ E, VRel g n w p.2 (tmps.getD p.1 undef)

def val (E : Env) (i : Nat) : AV := ((E.find? fun p => p.1 == i).map (·.2)).getD .junk
def put (E : Env) (d : Option Nat) (v : AV) : Env := match d with
  | none => E
  | some d => (d, v) :: E.filter fun p => p.1 != d

theorem ERel.val {g : Ghost} {n : Nat} {w : World} {E : Env} {tmps : Array Value} (h : ERel g n w E tmps) (i : Nat) : VRel g n w (val E i) (tmps.getD i undef) := by
  unfold Ab.val
  cases hf : E.find? fun p => p.1 == i with
  | none => exact .junk _
  | some p =>
    have h1 := List.mem_of_find?_eq_some hf
    have h2 := List.find?_some hf
    simp only [beq_iff_eq] at h2
    have := h p h1
    rw [h2] at this
    exact this

theorem ERel.ext {n n' : Nat} {g g' : Ghost} {w w' : World} {E : Env} {tmps : Array Value} (h : ERel g n w E tmps) (he : Ext n g w g' w') (hn : n ≤ n') : ERel g' n' w' E tmps :=
  fun p hp => (h p hp).ext he hn

theorem ERel.put {g : Ghost} {n : Nat} {w : World} {E : Env} {a : Act} {v : AV} {c : Value} (h : ERel g n w E a.tmps) (hv : VRel g n w v c) (d : Option Nat)
    (hd : ∀ i, d = some i → i < a.tmps.size) : ERel g n w (put E d v) (a.put d c).tmps := by
  cases d with
  | none => exact h
  | some d =>
    have hd' := hd d rfl
    intro p hp
    simp only [Ab.put, List.mem_cons, List.mem_filter, bne_iff_ne, ne_eq] at hp
    rcases hp with rfl | ⟨hp, hne⟩
    · simpa [Act.put, Array.getD_eq_getD_getElem?, hd'] using hv
    · have := h p hp
      have e : (a.put (some d) c).tmps.getD p.1 undef = a.tmps.getD p.1 undef := by
        simp only [Act.put, Array.getD_eq_getD_getElem?]
        rw [Array.getElem?_setIfInBounds_ne (fun e => hne e.symm)]
      rw [e]
      exact this

theorem ERel.sub {g : Ghost} {n : Nat} {w : World} {E E' : Env} {tmps : Array Value} (h : ERel g n w E tmps) (hs : ∀ p ∈ E', p ∈ E) : ERel g n w E' tmps :=
  fun p hp => h p (hs p hp)

@[simp] theorem put_size (a : Act) (d : Option Nat) (v : Value) : (a.put d v).tmps.size = a.tmps.size := by cases d <;> simp [Act.put]
@[simp] theorem put_defers (a : Act) (d : Option Nat) (v : Value) : (a.put d v).defers = a.defers := by cases d <;> simp [Act.put]

end Go.Ab
end
section
namespace Go.Ab
set_option linter.unusedVariables false

variable {P : Program}

/-- What a function hands back: some result, number and heap of R's, and the world holds them. -/
def Out (g : Ghost) (n : Nat) (w : World) (H : Heap) (R : AV → Nat → Heap → Prop) (c : Value) (w' : World) : Prop :=
  ∃ v n' H' g', R v n' H' ∧ n ≤ n' ∧ VRel g' n' w' v c ∧ HRel g' n' H' w' ∧ Grow n g w H g' w' H'

theorem Out.mono {g : Ghost} {n : Nat} {w : World} {H : Heap} {R R' : AV → Nat → Heap → Prop} {c : Value} {w' : World} (h : Out g n w H R c w') (hr : ∀ v n' H', R v n' H' → R' v n' H') : Out g n w H R' c w' := by
  obtain ⟨v, n', H', g', r, rest⟩ := h
  exact ⟨v, n', H', g', hr _ _ _ r, rest⟩

/-- A call of function f at the abstract arguments comes to R. -/
def SimCalls (P : Program) (f : FuncId) (args : List AV) (n : Nat) (H : Heap) (R : AV → Nat → Heap → Prop) : Prop :=
  ∀ (g : Ghost) (w : World) (cs : List Value), VRels g n w args cs → HRel g n H w →
    Calls P f cs.toArray w fun e w' => ∃ c, e = .returned c ∧ Out g n w H R c w'

theorem SimCalls.mono {f : FuncId} {args : List AV} {n : Nat} {H : Heap} {R R' : AV → Nat → Heap → Prop} (h : SimCalls P f args n H R) (hr : ∀ v n' H', R v n' H' → R' v n' H') : SimCalls P f args n H R' :=
  fun g w cs hv hh => (h g w cs hv hh).mono fun e w' ⟨c, he, ho⟩ => ⟨c, he, ho.mono hr⟩

/-- A function of by-value arguments that leaves the heap alone. -/
def SimF (P : Program) (f : FuncId) (args : List AV) (r : AV) : Prop := ∀ n H, SimCalls P f args n H fun v n' H' => v = r ∧ n' = n ∧ H' = H

theorem SimF.use {f : FuncId} {args : List AV} {r : AV} (h : SimF P f args r) {n : Nat} {H : Heap} {R : AV → Nat → Heap → Prop} (hr : R r n H) : SimCalls P f args n H R :=
  (h n H).mono fun v n' H' ⟨h1, h2, h3⟩ => by subst h1 h2 h3; exact hr

structure Ctx where
  fn : Func
  f : FuncId
  n0 : Nat
  R : AV → Nat → Heap → Prop

/-- From here on (todo list k, what E, n, H tell) the function returns, as X.R says. -/
def SimK (P : Program) (X : Ctx) (k : List Item) (E : Env) (n : Nat) (H : Heap) : Prop :=
  X.n0 ≤ n → ∀ (g : Ghost) (w : World) (a : Act) (b : Frame) (cs : List Frame), a.tmps.size = X.fn.ntmps → a.defers = [] → ERel g n w E a.tmps → HRel g n H w →
    ∃ c w' a' todo, Steps P (lone (b.at a k) cs w) (lone { b.at a' todo with mode := .returning } cs w') ∧ a'.defers = [] ∧
      (results X.fn a'.tmps).run P w' = .ok c w' ∧ Out g X.n0 w H X.R c w'

variable {X : Ctx} {k : List Item} {E : Env} {n : Nat} {H : Heap}

theorem SimK.of_step {k' : List Item} (h : SimK P X k' E n H) (hs : ∀ (a : Act) (b : Frame) (cs : List Frame) (w : World), step P (lone (b.at a k) cs w) = .next (lone (b.at a k') cs w)) : SimK P X k E n H := by
  intro hn0 g w a b cs ha hd he hh
  obtain ⟨c, w', a', todo, st, rest⟩ := h hn0 g w a b cs ha hd he hh
  exact ⟨c, w', a', todo, .head (hs a b cs w) st, rest⟩

theorem SimK.skip (h : SimK P X k E n H) : SimK P X (.code .skip :: k) E n H := h.of_step fun _ _ _ _ => step_skip
theorem SimK.seq {x y : Code} (h : SimK P X (.code x :: .code y :: k) E n H) : SimK P X (.code (.seq x y) :: k) E n H := h.of_step fun _ _ _ _ => step_seq
theorem SimK.block {id : Nat} {c : Code} (h : SimK P X (.code c :: .inBlock id :: k) E n H) : SimK P X (.code (.block id c) :: k) E n H := h.of_step fun _ _ _ _ => step_block
theorem SimK.inBlock {id : Nat} (h : SimK P X k E n H) : SimK P X (.inBlock id :: k) E n H := h.of_step fun _ _ _ _ => step_inBlock
theorem SimK.loop {c : Code} (h : SimK P X (.inLoop c :: k) E n H) : SimK P X (.code (.loop c) :: k) E n H := by
  intro hn0 g w a b cs ha hd he hh
  obtain ⟨r, w', a', todo, ⟨N, st⟩, rest⟩ := h hn0 g w a b cs ha hd he hh
  refine ⟨r, w', a', todo, ?_, rest⟩
  -- both items step to the same machine
  cases N with
  | zero =>
    simp only [runN] at st
    injection st with st
    have := congrArg (fun m : Machine => (m.gs[0]?).map (·.frame.mode)) st
    simp [lone, Frame.at] at this
  | succ N =>
    simp only [runN, step_inLoop] at st
    exact ⟨N + 1, by simp only [runN, step_loop]; exact st⟩
theorem SimK.inLoop {c : Code} (h : SimK P X (.code c :: .inLoop c :: k) E n H) : SimK P X (.inLoop c :: k) E n H := h.of_step fun _ _ _ _ => step_inLoop
theorem SimK.exit {id : Nat} {k' : List Item} (hk : exitTo id k = some k') (h : SimK P X k' E n H) : SimK P X (.code (.exit id) :: k) E n H := h.of_step fun _ _ _ _ => step_exit hk
theorem SimK.regionEnd {ops : Array Oper} (h : SimK P X k E n H) : SimK P X (.inRegion ops [] :: k) E n H := h.of_step fun _ _ _ _ => step_region_end
theorem SimK.region {id : Nat} {ops : Array Oper} (h : SimK P X (.inRegion ops (List.range ops.size) :: k) E n H) : SimK P X (.code (.region id ops false) :: k) E n H :=
  h.of_step fun _ _ _ _ => step_region

theorem HRel.drew {g : Ghost} {w w' : World} (h : HRel g n H w) (hw : w'.heap = w.heap) (hx : Ext n g w g w') : HRel g n H w' :=
  ⟨h.apart, fun p hp => ⟨(h.ent p hp).1, (h.ent p hp).2.ext hx (Nat.le_refl _) rfl rfl rfl (by rw [hw])⟩, fun b hb => hx.rooms _ _ (h.fsz b hb)⟩

theorem Ext.same {g : Ghost} {w w' : World} (hw : w'.heap = w.heap) : Ext n g w g w' :=
  ⟨fun b i _ => by simp [World.cell?, hw], fun _ => Nat.le_refl _, fun _ _ => .inl ⟨rfl, rfl⟩, fun b k ⟨c, el, fz, h1, h2⟩ => ⟨c, el, fz, by rw [hw]; exact h1, h2⟩⟩

theorem Grow.same {g : Ghost} {w w' : World} (hw : w'.heap = w.heap) (ho : Oth w w') : Grow n g w H g w' H :=
  { Ext.same hw with size := by rw [hw]; exact Nat.le_refl _, old := fun b _ _ => ⟨by rw [hw], rfl⟩, owns := fun p hp => .inl ⟨p, hp, rfl⟩, oth := ho }

theorem Out.grow {g g1 : Ghost} {n1 : Nat} {w w1 w' : World} {H1 : Heap} {R : AV → Nat → Heap → Prop} {c : Value} (h : Out g1 n1 w1 H1 R c w') (hn : n ≤ n1) (hg : Grow n g w H g1 w1 H1) : Out g n w H R c w' := by
  obtain ⟨v, n', H', g', r, hle, hv, hh, hgr⟩ := h
  exact ⟨v, n', H', g', r, Nat.le_trans hn hle, hv, hh, hg.trans hgr hn⟩

theorem Grow.le {n n' : Nat} {g g' : Ghost} {w w' : World} {H H' : Heap} (h : Grow n' g w H g' w' H') (hn : n ≤ n') : Grow n g w H g' w' H' :=
  ⟨h.toExt.le hn, h.size, h.old, h.owns, h.oth⟩

theorem SimK.regionDraw {id : Nat} {ops : Array Oper} (h : ∀ t, SimK P X (.inRegion ops (Region.schedule (P.follows .mixedOrders) ops t) :: k) E n H) : SimK P X (.code (.region id ops true) :: k) E n H := by
  intro hn0 g w a b cs ha hd he hh
  have hw : ({ w with drawn := w.drawn + 1 } : World).heap = w.heap := rfl
  obtain ⟨c, w', a', todo, st, h1, h2, h3⟩ := h (w.tape w.drawn (.order b.fn id)) hn0 g { w with drawn := w.drawn + 1 } a b cs ha hd
    (he.ext (Ext.same hw) (Nat.le_refl _)) (hh.drew hw (Ext.same hw))
  exact ⟨c, w', a', todo, .head step_region_draw st, h1, h2, h3.grow (Nat.le_refl _) (Grow.same hw ⟨rfl, rfl, rfl⟩)⟩

theorem SimK.cond {c : Operand} {x y : Code} (hc : ∀ (g : Ghost) (w : World) (a : Act), ERel g n w E a.tmps → ∃ t, a.eval c = .bool t ∧ SimK P X (.code (if t then x else y) :: k) E n H) :
    SimK P X (.code (.cond c x y) :: k) E n H := by
  intro hn0 g w a b cs ha hd he hh
  obtain ⟨t, ht, h⟩ := hc g w a he
  obtain ⟨c, w', a', todo, st, rest⟩ := h hn0 g w a b cs ha hd he hh
  exact ⟨c, w', a', todo, .head (step_cond ht) st, rest⟩

/-- The end of the body, or a return: the results are read. -/
theorem SimK.ret (h : ∀ (g : Ghost) (w : World) (a : Act), a.tmps.size = X.fn.ntmps → ERel g n w E a.tmps → HRel g n H w → ∃ c, (results X.fn a.tmps).run P w = .ok c w ∧ Out g X.n0 w H X.R c w) :
    SimK P X (.code .ret :: k) E n H := by
  intro hn0 g w a b cs ha hd he hh
  obtain ⟨c, h1, h2⟩ := h g w a ha he hh
  exact ⟨c, w, a, _, .one step_ret, hd, h1, h2⟩
theorem SimK.fin (h : ∀ (g : Ghost) (w : World) (a : Act), a.tmps.size = X.fn.ntmps → ERel g n w E a.tmps → HRel g n H w → ∃ c, (results X.fn a.tmps).run P w = .ok c w ∧ Out g X.n0 w H X.R c w) :
    SimK P X [] E n H := by
  intro hn0 g w a b cs ha hd he hh
  obtain ⟨c, h1, h2⟩ := h g w a ha he hh
  exact ⟨c, w, a, _, .one step_end, hd, h1, h2⟩

/-- One operation of a region. -/
def OpR (P : Program) (o : Oper) (ρ : Operand → Value) (g : Ghost) (n : Nat) (w : World) (H : Heap) (R : AV → Nat → Heap → Prop) : Prop :=
  match (execOp ρ o).run P w with
  | .ok (.value c) w' => Out g n w H R c w'
  | .ok .skip w' => Out g n w H R undef w'
  | .ok (.enter f args) w1 => Calls P f args w1 fun e w' => ∃ c, e = .returned c ∧ Out g n w H R c w'
  | _ => False

theorem SimK.op {ops : Array Oper} {i : Nat} {rest : List Nat} {o : Oper} (ho : ops[i]? = some o) (hd : ∀ d, o.dst = some d → d < X.fn.ntmps) {R : AV → Nat → Heap → Prop}
    (hw : ∀ (g : Ghost) (w : World) (a : Act), ERel g n w E a.tmps → HRel g n H w → Region.wanted o (yielded ops a.tmps) = true ∧ OpR P o a.eval g n w H R)
    (h : ∀ v n' H', R v n' H' → SimK P X (.inRegion ops rest :: k) (put E o.dst v) n' H') : SimK P X (.inRegion ops (i :: rest) :: k) E n H := by
  intro hn0 g w a b cs ha hdf he hh
  obtain ⟨hwant, hop⟩ := hw g w a he hh
  have hg := stepG_op (P := P) (b := b) (a := a) (k := k) (cs := cs) (w := w) (rest := rest) ho hwant
  have hfin : ∀ v, (b.at a (.inRegion ops (i :: rest) :: k)).finish v = b.at (a.put o.dst v) (.inRegion ops rest :: k) := by
    intro v; rw [Frame.finish_at, ho]; rfl
  have key : ∀ c w', Out g n w H R c w' → Steps P (lone (b.at a (.inRegion ops (i :: rest) :: k)) cs w) (lone (b.at (a.put o.dst c) (.inRegion ops rest :: k)) cs w') →
      ∃ c w' a' todo, Steps P (lone (b.at a (.inRegion ops (i :: rest) :: k)) cs w) (lone { b.at a' todo with mode := .returning } cs w') ∧ a'.defers = [] ∧
      (results X.fn a'.tmps).run P w' = .ok c w' ∧ Out g X.n0 w H X.R c w' := by
    rintro c w' ⟨v, n', H', g', hr, hle, hv, hh', hgr⟩ hst
    have he' : ERel g' n' w' (put E o.dst v) (a.put o.dst c).tmps := (he.ext hgr.toExt hle).put hv o.dst (fun i hi => by rw [ha]; exact hd i hi)
    obtain ⟨c2, w2, a2, todo, st, h1, h2, h3⟩ := h v n' H' hr (Nat.le_trans hn0 hle) g' w' (a.put o.dst c) b cs (by simpa using ha) (by simpa using hdf) he' hh'
    exact ⟨c2, w2, a2, todo, hst.trans st, h1, h2, h3.grow (Nat.le_refl _) (hgr.le hn0)⟩
  unfold OpR at hop
  split at hop
  · rename_i c w' hr
    refine key c w' hop (.one (step_lone_go ?_))
    rw [hg, ← hfin]; simp [stepG.apply, hr]
  · rename_i w' hr
    refine key undef w' hop (.one (step_lone_go ?_))
    rw [hg, ← hfin]; simp [stepG.apply, hr]
  · rename_i f args w1 hr
    obtain ⟨e, w2, fr, ⟨c, he2, hout⟩, hcomes, _, hleave⟩ := hop (b.at a (.inRegion ops (i :: rest) :: k) :: cs)
    subst he2
    have henter : step P (lone (b.at a (.inRegion ops (i :: rest) :: k)) cs w) =
        .next (lone (Frame.enter P f args .normal) (b.at a (.inRegion ops (i :: rest) :: k) :: cs) w1) :=
      step_lone_go (by rw [hg]; simp [stepG.apply, hr, Frame.at])
    refine key c w2 hout (.head henter (Steps.trans hcomes (.one ?_)))
    rw [← hfin]; exact step_leave_returned hleave
  · exact hop.elim

/-- An operation whose guard says no. -/
theorem SimK.opSkip {ops : Array Oper} {i : Nat} {rest : List Nat} {o : Oper} (ho : ops[i]? = some o) (hd : ∀ d, o.dst = some d → d < X.fn.ntmps)
    (hw : ∀ (g : Ghost) (w : World) (a : Act), ERel g n w E a.tmps → Region.wanted o (yielded ops a.tmps) = false)
    (h : SimK P X (.inRegion ops rest :: k) (put E o.dst (.tup [])) n H) : SimK P X (.inRegion ops (i :: rest) :: k) E n H := by
  intro hn0 g w a b cs ha hdf he hh
  have hwant := hw g w a he
  have hs := step_op_skip (P := P) (b := b) (a := a) (k := k) (cs := cs) (w := w) (ops := ops) (i := i) (rest := rest) (by simp [ho, hwant])
  simp only [ho, Option.bind_some] at hs
  obtain ⟨c2, w2, a2, todo, st, rest⟩ := h hn0 g w (a.put o.dst undef) b cs (by simpa using ha) (by simpa using hdf) (he.put (.tup [] [] .nil) o.dst (fun i hi => by rw [ha]; exact hd i hi)) hh
  exact ⟨c2, w2, a2, todo, .head hs st, rest⟩

/-- Knowing less of the temporaries, or of the heap. -/
theorem SimK.sub {E' : Env} {H' : Heap} {n' : Nat} (h : SimK P X k E' n' H') (hE : ∀ p ∈ E', p ∈ E) (hH : H'.Sublist H) (hn : n ≤ n') : SimK P X k E n H := by
  intro hn0 g w a b cs ha hd he hh
  have hs : ∀ p ∈ H', p ∈ H := fun p hp => hH.subset hp
  obtain ⟨c2, w2, a2, todo, st, h1, h2, h3⟩ := h (Nat.le_trans hn0 hn) g w a b cs ha hd ((he.sub hE).ext (Ext.refl _ _ _) hn)
    ⟨hh.apart.sublist hH, fun p hp => ⟨Nat.lt_of_lt_of_le (hh.ent p (hs p hp)).1 hn, (hh.ent p (hs p hp)).2.ext (Ext.refl _ _ _) hn rfl rfl rfl rfl⟩, hh.fsz⟩
  refine ⟨c2, w2, a2, todo, st, h1, h2, h3.grow (Nat.le_refl _) ?_⟩
  exact { Ext.refl X.n0 g w with size := Nat.le_refl _, old := fun b hb hno => ⟨rfl, rfl⟩, owns := fun p hp => .inl ⟨p, hs p hp, rfl⟩, oth := Oth.refl w }

theorem SimK.subv {E' : Env} (h : SimK P X k E' n H) (hE : ∀ p ∈ E', p.2 = val E p.1) : SimK P X k E n H := by
  intro hn0 g w a b cs ha hd he hh
  exact h hn0 g w a b cs ha hd (fun p hp => by rw [hE p hp]; exact he.val p.1) hh

/-- A call, from its body. -/
theorem SimCalls.of_body {f : FuncId} {fn : Func} {c : Code} {args : List AV} {R : AV → Nat → Heap → Prop} (hf : P.funcs[f]? = some fn) (hb : fn.body = some c) (hn : args.length ≤ fn.ntmps)
    (h : SimK P ⟨fn, f, n, R⟩ [.code c] ((List.range args.length).zip args) n H) : SimCalls P f args n H R := by
  intro g w cs hv hh cs0
  let b : Frame := { (default : Frame) with fn := f, kind := .normal }
  have hlen := hv.length
  have henter : Frame.enter P f cs.toArray .normal =
      b.at { tmps := cs.toArray ++ Array.replicate (fn.ntmps - cs.toArray.size) undef, defers := [] } [.code c] := by
    simp [Frame.enter, Frame.at, hf, hb, b]
  have he : ERel g n w ((List.range args.length).zip args) (cs.toArray ++ Array.replicate (fn.ntmps - cs.toArray.size) undef) := by
    rintro ⟨i, v⟩ hp
    obtain ⟨j, hj⟩ := List.getElem?_of_mem hp
    rw [List.getElem?_zip_eq_some] at hj
    obtain ⟨h1, h2⟩ := hj
    have hj' : j < args.length := by
      rcases Nat.lt_or_ge j args.length with h' | h'
      · exact h'
      · rw [List.getElem?_eq_none h'] at h2; cases h2
    have hji : j = i := by simpa [hj'] using h1
    subst hji
    have hrel : ∀ {as : List AV} {vs : List Value}, VRels g n w as vs → ∀ (i : Nat) (v : AV), as[i]? = some v → VRel g n w v (vs.getD i undef) := by
      intro as vs hr
      induction as generalizing vs with
      | nil => intro i v hi; simp at hi
      | cons x xs ih =>
        cases hr with
        | cons _ y _ ys h t =>
          intro i v hi
          cases i with
          | zero => simp at hi; subst hi; simpa using h
          | succ i => simp at hi; simpa using ih t i v hi
    have := hrel hv j v h2
    have e : (cs.toArray ++ Array.replicate (fn.ntmps - cs.toArray.size) undef).getD j undef = cs.getD j undef := by
      simp only [Array.getD_eq_getD_getElem?, List.getD_eq_getElem?_getD]
      rw [Array.getElem?_append_left (by simp; omega)]
      simp
    simp only
    rw [e]
    exact this
  have hsz : (cs.toArray ++ Array.replicate (fn.ntmps - cs.toArray.size) undef).size = fn.ntmps := by simp; omega
  obtain ⟨r, w', a', todo, st, h1, h2, h3⟩ := h (Nat.le_refl _) g w { tmps := cs.toArray ++ Array.replicate (fn.ntmps - cs.toArray.size) undef, defers := [] } b cs0 hsz rfl he hh
  rw [← henter] at st
  exact ⟨.returned r, w', _, ⟨r, rfl, h3⟩, st, rfl, rfl, h1, rfl, fn, hf, h2⟩

end Go.Ab
end
section
namespace Go.Ab
set_option linter.unusedVariables false

/-! ### Operations as they are run on abstract values -/
inductive XO where
  | mv | pick
  | alloc (zero : List AV)
  | boxF | boxO
  | build (zero : List AV) (pl : List (Nat × Nat))
  | bsl (m size : Nat)
  | ld (s : Option Nat)
  | st (s : Option Nat)
  | bin (op : BinOp)
  | binB (neg : Bool)
  | eqNil
  | eqS (neg : Bool) (k : Nat)
  | un (op : UnOp)
  | cvI (k : IntKind) | cvIS | cvBS | cvSS
  | mkfn (f : FuncId)
  | mks (m size bytes : Nat) (zero : List AV)
  | slS (lo hi : Bool) | slL (size : Nat) (lo hi : Bool)
  | fldA (off : Nat) | fld (off : Nat) (s : Option Nat)
  | idxA (size : Nat) | idxS
  | ext (i : Nat)
  | call
  | lenS | lenL
  | app (size bytes : Nat)
  | mnx (mx : Bool)
  | appV (size bytes : Nat)
  | clr (size : Nat) (zero : List AV)
  | capL

def oK {α : Type} (o : Option α) (K : α → Prop) : Prop := match o with | some a => K a | none => False
@[simp] theorem oK_some {α : Type} (a : α) (K : α → Prop) : oK (some a) K = K a := rfl
@[simp] theorem oK_none {α : Type} (K : α → Prop) : oK (none : Option α) K = False := rfl
theorem oK_ite {α : Type} (c : Prop) [Decidable c] (o : Option α) (K : α → Prop) : oK (if c then o else none) K = (c ∧ oK o K) := by
  by_cases h : c <;> simp [h]
theorem oK_ite2 {α : Type} (c : Prop) [Decidable c] (o : Option α) (K : α → Prop) : oK (if c then none else o) K = (¬ c ∧ oK o K) := by
  by_cases h : c <;> simp [h]
theorem oK_elim {α : Type} {o : Option α} {K : α → Prop} (h : oK o K) : ∃ a, o = some a ∧ K a := by
  cases o with
  | none => exact h.elim
  | some a => exact ⟨a, rfl, h⟩

def cellsOf : AV → Option (List AV)
  | .agg cs => some cs
  | .junk => none
  | .tup _ => none
  | v => some [v]

/-- An accumulator's rows, read only. -/
def fz : AV → AV
  | .acc _ _ rows => .sl rows
  | .nilsl => .sl []
  | v => v
/-- One cell, without a name of the heap's in it. -/
def flat : AV → Bool
  | .bool _ | .int _ _ | .str _ | .nilsl | .sl _ | .fptr _ => true
  | .fn _ cap => cap.isEmpty
  | _ => false
def plain : AV → Bool
  | .junk | .agg _ | .tup _ => false
  | _ => true

def rowsOf : List AV → Option (List (List AV))
  | [] => some []
  | x :: xs => match cellsOf x, rowsOf xs with
    | some r, some rs => some (r.map fz :: rs)
    | _, _ => none

def rowsOk (s : Nat) (rows : List (List AV)) : Prop := ∀ r ∈ rows, r.length = s ∧ r.all flat = true
instance (s : Nat) (rows : List (List AV)) : Decidable (rowsOk s rows) := inferInstanceAs (Decidable (∀ r ∈ rows, r.length = s ∧ r.all flat = true))

/-- Cells as they are, names of the heap's among them. -/
def rawRows : List AV → Option (List (List AV))
  | [] => some []
  | x :: xs => match cellsOf x, rawRows xs with
    | some r, some rs => some (r :: rs)
    | _, _ => none
def rawOk (s : Nat) (rows : List (List AV)) : Prop := ∀ r ∈ rows, r.length = s ∧ r.all plain = true
instance (s : Nat) (rows : List (List AV)) : Decidable (rawOk s rows) := inferInstanceAs (Decidable (∀ r ∈ rows, r.length = s ∧ r.all plain = true))

def setCells (cells : List AV) (off : Nat) (xs : List AV) : List AV := cells.take off ++ xs ++ cells.drop (off + xs.length)

def buildC (zero : List AV) : List (Nat × Nat) → List AV → Option (List AV)
  | [], [] => some zero
  | (off, s) :: pl, x :: xs => match cellsOf x with
    | some cs => if cs.length = s ∧ off + s ≤ zero.length then buildC (setCells zero off cs) pl xs else none
    | none => none
  | _, _ => none

def ldc : Option Nat → List AV → Option AV
  | none, c :: _ => some c
  | none, [] => none
  | some s, cs => if s ≤ cs.length then some (.agg (cs.take s)) else none

def ibin (op : BinOp) (k : IntKind) (a b : Int) : Option AV :=
  match op with
  | .add => some (.int k (k.wrap (a + b)))
  | .sub => some (.int k (k.wrap (a - b)))
  | .mul => some (.int k (k.wrap (a * b)))
  | .quo => if b = 0 then none else some (.int k (k.wrap (a.tdiv b)))
  | .rem => if b = 0 then none else some (.int k (a.tmod b))
  | .eql => some (.bool (a == b))
  | .neq => some (.bool (a != b))
  | .lss => some (.bool (decide (a < b)))
  | .leq => some (.bool (decide (a ≤ b)))
  | .gtr => some (.bool (decide (a > b)))
  | .geq => some (.bool (decide (a ≥ b)))
  | .and => some (.int k (k.wrap (BitVec.ofInt k.bits a &&& BitVec.ofInt k.bits b).toNat))
  | .or => some (.int k (k.wrap (BitVec.ofInt k.bits a ||| BitVec.ofInt k.bits b).toNat))
  | _ => none

def ishift (op : BinOp) (k : IntKind) (a b : Int) : Option AV :=
  if b < 0 then none else
  match op with
  | .shl => some (.int k (k.wrap (a * 2 ^ min b.toNat k.bits)))
  | .shr => some (.int k (a.fdiv (2 ^ min b.toNat k.bits)))
  | _ => none

def sbin (op : BinOp) (a b : List UInt8) : Option AV :=
  match op with
  | .add => if (a.length + b.length : Nat) ≤ 9223372036854775807 then some (.str (a ++ b)) else none
  | .eql => some (.bool (a == b))
  | .neq => some (.bool !(a == b))
  | _ => none

def eqInts : List AV → List AV → Option Bool
  | [], [] => some true
  | .int k a :: xs, .int k' b :: ys => if k = k' then (if a = b then eqInts xs ys else some false) else none
  | _, _ => none

def sliceRows (rows : List (List AV)) (l h : Int) : Option AV :=
  if 0 ≤ l ∧ l ≤ h ∧ h ≤ rows.length then some (.sl ((rows.take h.toNat).drop l.toNat)) else none

def asI : AV → Option Int
  | .int _ i => some i
  | _ => none

/-- Low and high bound of a slice expression, of what comes behind the operand. -/
def bnds (lo hi : Bool) (len : Int) : List AV → Option (Int × Int)
  | [] => if lo || hi then none else some (0, len)
  | [.int _ a] => if lo && !hi then some (a, len) else if hi && !lo then some (0, a) else none
  | [.int _ a, .int _ b] => if lo && hi then some (a, b) else none
  | _ => none

def mnxGo (mx : Bool) (k : IntKind) : Int → List AV → Option Int
  | a, [] => some a
  | a, .int k' b :: xs => if k = k' then mnxGo mx k (if mx then (if b > a then b else a) else (if b < a then b else a)) xs else none
  | _, _ => none
def mnxI (mx : Bool) : List AV → Option AV
  | .int k a :: xs => (mnxGo mx k a xs).map (.int k ·)
  | _ => none

def bytesRows : List (List AV) → Option (List UInt8)
  | [] => some []
  | [.int .u8 i] :: rs => (bytesRows rs).map (UInt8.ofNat i.toNat :: ·)
  | _ => none

def frozenRows (size : Nat) (xs : List AV) : Option AV :=
  match rowsOf xs with
  | some rows => if rowsOk size rows then some (.sl rows) else none
  | none => none

/-- What asks nothing of the heap, and leaves it as it is. -/
def fop (o : XO) (vals : List AV) : Option AV :=
  match o, vals with
  | .mv, [x] => some x
  | .pick, [.bool c, a, b] => some (if c then a else b)
  | .boxF, [x] => match cellsOf x with
    | some cs => if (cs.map fz).all flat then some (.fptr (cs.map fz)) else none
    | none => none
  | .build zero pl, xs => (buildC zero pl xs).map .agg
  | .bsl 0 size, xs => frozenRows size xs
  | .ld s, [.fptr cs] => ldc s cs
  | .bin op, [.int k a, .int k' b] => match op with
    | .shl | .shr => ishift op k a b
    | _ => if k = k' then ibin op k a b else none
  | .bin op, [.str a, .str b] => sbin op a b
  | .binB neg, [.bool a, .bool b] => some (.bool (if neg then a != b else a == b))
  | .eqS neg k, [.agg xs, .agg ys] => if xs.length = k ∧ ys.length = k then (eqInts xs ys).map fun b => .bool (b != neg) else none
  | .un .not, [.bool b] => some (.bool !b)
  | .un .neg, [.int k i] => some (.int k (k.wrap (0 - i)))
  | .cvI k, [.int _ i] => some (.int k (k.wrap i))
  | .cvIS, [.int _ i] => some (.str (Utf8.encode i).data.toList)
  | .cvSS, [.str s] => some (.str s)
  | .cvBS, [.sl rows] => (bytesRows rows).map .str
  | .cvBS, [.acc _ _ rows] => (bytesRows rows).map .str
  | .cvBS, [.nilsl] => some (.str [])
  | .mkfn f, cap => some (.fn f cap)
  | .slS lo hi, .str s :: bs => match bnds lo hi s.length bs with
    | some (l, h) => if 0 ≤ l ∧ l ≤ h ∧ h ≤ s.length then some (.str ((s.take h.toNat).drop l.toNat)) else none
    | none => none
  | .slL size lo hi, .sl rows :: bs => match bnds lo hi rows.length bs with
    | some (l, h) => if rowsOk size rows then sliceRows rows l h else none
    | none => none
  | .slL size lo hi, .acc _ _ rows :: bs => match bnds lo hi rows.length bs with
    | some (l, h) => if rowsOk size rows then sliceRows rows l h else none
    | none => none
  | .fldA off, [.fptr cs] => if off ≤ cs.length then some (.fptr (cs.drop off)) else none
  | .fldA off, [.ptr id o] => some (.ptr id (o + off))
  | .fld off none, [.agg cs] => cs[off]?
  | .fld off (some s), [.agg cs] => if off + s ≤ cs.length then some (.agg ((cs.drop off).take s)) else none
  | .idxA size, [.sl rows, .int _ i] => if 0 ≤ i ∧ i < rows.length ∧ rowsOk size rows then some (.fptr (rows.getD i.toNat [])) else none
  | .idxA size, [.acc _ _ rows, .int _ i] => if 0 ≤ i ∧ i < rows.length ∧ rowsOk size rows then some (.fptr (rows.getD i.toNat [])) else none
  | .slL size lo hi, .ref id s off len :: bs => match bnds lo hi len bs with
    | some (l, h) => if 0 ≤ l ∧ l ≤ h ∧ h ≤ len ∧ (l = 0 ∨ l < len) ∧ s = size then some (.ref id s (off + l.toNat * s) (h - l).toNat) else none
    | none => none
  | .idxA size, [.ref id s off len, .int _ i] => if 0 ≤ i ∧ i < len ∧ s = size then some (.ptr id (off + i.toNat * s)) else none
  | .idxS, [.str s, .int _ i] => if 0 ≤ i ∧ i < s.length then some (.int .u8 ((s.getD i.toNat 0).toNat : Int)) else none
  | .ext i, [.tup vs] => vs[i]?
  | .lenL, [.sl rows] => some (.int .i64 rows.length)
  | .lenL, [.acc _ _ rows] => some (.int .i64 rows.length)
  | .lenL, [.ref _ _ _ l] => some (.int .i64 l)
  | .capL, [.nilsl] => some (.int .i64 0)
  | .lenL, [.vec _ _ _ _ l] => some (.int .i64 l)
  | .lenL, [.nilsl] => some (.int .i64 0)
  | .lenS, [.str s] => some (.int .i64 s.length)
  | .mnx mx, xs => mnxI mx xs
  | _, _ => none

def hget (H : Heap) (id : Nat) : Option HObj := (H.find? fun p => p.1 == id).map (·.2)
def hset : Heap → Nat → HObj → Heap
  | [], _, _ => []
  | p :: H, id, o => if p.1 = id then (id, o) :: H else p :: hset H id o
def hsetM (H : Heap) (id : Nat) (o : HObj) : Heap := H.map fun p => if p.1 = id then (id, o) else p
def hdel (H : Heap) (id : Nat) : Heap := H.filter fun p => p.1 != id

/-- A call, whether the callee has a body or not. -/
def Runs (P : Program) (f : FuncId) (args : List AV) (n : Nat) (H : Heap) (R : AV → Nat → Heap → Prop) : Prop :=
  ∀ (g : Ghost) (w : World) (cs : List Value), VRels g n w args cs → HRel g n H w →
    match (callFunc f cs.toArray).run P w with
    | .ok (.value c) w' => Out g n w H R c w'
    | .ok (.enter f' a') w1 => Calls P f' a' w1 fun e w' => ∃ c, e = .returned c ∧ Out g n w H R c w'
    | _ => False

theorem Runs.mono {P : Program} {f : FuncId} {args : List AV} {n : Nat} {H : Heap} {R R' : AV → Nat → Heap → Prop} (h : Runs P f args n H R) (hr : ∀ v n' H', R v n' H' → R' v n' H') : Runs P f args n H R' := by
  intro g w cs hv hh
  have := h g w cs hv hh
  split at this
  · exact this.mono hr
  · exact Calls.mono this fun e w' ⟨c, he, ho⟩ => ⟨c, he, ho.mono hr⟩
  · exact this.elim

theorem SimCalls.runs {P : Program} {f : FuncId} {fn : Func} {args : List AV} {n : Nat} {H : Heap} {R : AV → Nat → Heap → Prop} (h : SimCalls P f args n H R)
    (hf : P.funcs[f]? = some fn) (hb : fn.body.isNone = false) (hnm : (fn.name == "runtime.NumGoroutine") = false) : Runs P f args n H R := by
  intro g w cs hv hh
  have e : (callFunc f cs.toArray).run P w = .ok (.enter f cs.toArray) w := by
    simp only [callFunc, Sem.run_bind, run_program, Result.andThen_ok, hf, hb, hnm, Bool.false_eq_true, if_false, Sem.run_pure]
  rw [e]
  exact h g w cs hv hh

/-- A function of by-value arguments that leaves the heap alone. -/
def RunsF (P : Program) (f : FuncId) (args : List AV) (r : AV) : Prop := ∀ n H, Runs P f args n H fun v n' H' => v = r ∧ n' = n ∧ H' = H
theorem RunsF.use {P : Program} {f : FuncId} {args : List AV} {r : AV} (h : RunsF P f args r) {n : Nat} {H : Heap} {R : AV → Nat → Heap → Prop} (hr : R r n H) : Runs P f args n H R :=
  (h n H).mono fun v n' H' ⟨h1, h2, h3⟩ => by subst h1 h2 h3; exact hr

def rowsOfSl (H : Heap) : AV → Option (List (List AV))
  | .sl rows => some rows
  | .acc _ _ rows => some rows
  | .nilsl => some []
  | _ => none

def lenMax : Nat := 4294967296

def vget (H : Heap) (id ver : Nat) (K : Nat → List AV → Prop) : Prop := match hget H id with
  | some (.vob v s cells) => v = ver ∧ K s cells
  | _ => False
theorem vget_elim {H : Heap} {id ver : Nat} {K : Nat → List AV → Prop} (h : vget H id ver K) : ∃ s cells, hget H id = some (.vob ver s cells) ∧ K s cells := by
  unfold vget at h
  split at h
  · rename_i v s cells hg
    obtain ⟨rfl, hk⟩ := h
    exact ⟨s, cells, hg, hk⟩
  · exact h.elim
theorem vget_mono {H : Heap} {id ver : Nat} {K K' : Nat → List AV → Prop} (hk : ∀ s c, K s c → K' s c) (h : vget H id ver K) : vget H id ver K' := by
  unfold vget at h ⊢
  split at h
  · exact ⟨h.1, hk _ _ h.2⟩
  · exact h.elim

/-- How many elements, and which cells, a slice has that is read. -/
def srcV (H : Heap) (size : Nat) : AV → Option (Nat × List AV)
  | .sl rows => if rowsOk size rows then some (rows.length, rows.flatten) else none
  | .acc _ _ rows => if rowsOk size rows then some (rows.length, rows.flatten) else none
  | .nilsl => some (0, [])
  | .ref id s off len => match hget H id with
    | some (.own cells) => if s = size ∧ off + len * s ≤ cells.length then some (len, (cells.drop off).take (len * s)) else none
    | _ => none
  | .vec id ver s off len => match hget H id with
    | some (.vob v _ cells) => if v = ver ∧ s = size ∧ off + len * s ≤ cells.length then some (len, (cells.drop off).take (len * s)) else none
    | _ => none
  | _ => none

def xop (P : Program) (o : XO) (vals : List AV) (n : Nat) (H : Heap) (K : AV → Nat → Heap → Prop) : Prop :=
  match o, vals with
  | .alloc zero, [] => K (.ptr n 0) (n + 1) ((n, .own zero) :: H)
  | .boxO, [x] => oK (cellsOf x) fun cs => K (.ptr n 0) (n + 1) ((n, .own cs) :: H)
  | .bsl 1 size, xs => oK (rowsOf xs) fun rows => rowsOk size rows ∧ K (.acc n size rows) (n + 1) ((n, .tok size rows.length) :: H)
  | .bsl 2 size, xs => oK (rowsOf xs) fun rows => rowsOk size rows ∧ K (.ref n size 0 rows.length) (n + 1) ((n, .own rows.flatten) :: H)
  | .bsl 3 size, xs => oK (rawRows xs) fun rows => rawOk size rows ∧ K (.vec n 0 size 0 rows.length) (n + 1) ((n, .vob 0 size rows.flatten) :: H)
  | .bsl 4 size, xs => oK (rawRows xs) fun rows => rawOk size rows ∧ K (.ref n size 0 rows.length) (n + 1) ((n, .own rows.flatten) :: H)
  | .ld s, [.ptr id off] => match hget H id with
    | some (.own cells) => oK (ldc s (cells.drop off)) fun v => K v n H
    | _ => False
  | .st s, [.ptr id off, x] => match hget H id, cellsOf x with
    | some (.own cells), some xs => (xs.length = s.getD 1 ∧ off + xs.length ≤ cells.length ∧ xs.all plain = true) ∧ K .junk n (hset H id (.own (setCells cells off xs)))
    | _, _ => False
  | .eqNil, [.sl rows, .nilsl] => K (.bool false) n H ∧ (rows = [] → K (.bool true) n H)
  | .eqNil, [.acc _ _ rows, .nilsl] => K (.bool false) n H ∧ (rows = [] → K (.bool true) n H)
  | .eqNil, [.nilsl, .nilsl] => K (.bool true) n H
  | .mks m size bytes zero, [.int k l, .int k' c] =>
    (k = .i64 ∧ k' = .i64 ∧ 0 ≤ l ∧ l ≤ c ∧ c ≤ lenMax ∧ bytes ≤ 4096 ∧ zero.length = size) ∧
    match m with
    | 2 => l = c ∧ K (.ref n size 0 l.toNat) (n + 1) ((n, .own (List.replicate l.toNat zero).flatten) :: H)
    | 1 => K (.acc n size (List.replicate l.toNat zero)) (n + 1) ((n, .tok size l.toNat) :: H)
    | 0 => K (.sl (List.replicate l.toNat zero)) n H
    | 3 => K (.vec n 0 size 0 l.toNat) (n + 1) ((n, .vob 0 size (List.replicate l.toNat zero).flatten) :: H)
    | _ => False
  | .app size bytes, [x, y] => bytes ≤ 4096 ∧ oK (rowsOfSl H y) fun ys => rowsOk size ys ∧
    match x with
    | .nilsl => ys.length ≤ lenMax ∧ (ys = [] → K .nilsl n H) ∧ (ys ≠ [] → K (.acc n size ys) (n + 1) ((n, .tok size ys.length) :: H))
    | .acc id s rows => (rows.length + ys.length ≤ lenMax ∧ s = size ∧ hget H id = some (.tok s rows.length)) ∧ K (.acc id s (rows ++ ys)) n (hset H id (.tok s (rows.length + ys.length)))
    | _ => False
  | .ld s, [.vptr id ver off] => vget H id ver fun _ cells => oK (ldc s (cells.drop off)) fun v => K v n H
  | .st s, [.vptr id ver off, x] => vget H id ver fun z cells => oK (cellsOf x) fun xs => (xs.length = s.getD 1 ∧ off + xs.length ≤ cells.length ∧ xs.all plain = true) ∧ K .junk n (hset H id (.vob ver z (setCells cells off xs)))
  | .fldA off, [.vptr id ver o] => vget H id ver fun _ _ => K (.vptr id ver (o + off)) n H
  | .idxA size, [.vec id ver s off len, .int _ i] => vget H id ver fun _ _ => (0 ≤ i ∧ i < len ∧ s = size) ∧ K (.vptr id ver (off + i.toNat * s)) n H
  | .slL size lo hi, .vec id ver s off len :: bs => vget H id ver fun _ _ => oK (bnds lo hi len bs) fun q => (0 ≤ q.1 ∧ q.1 ≤ q.2 ∧ q.2 ≤ len ∧ (q.1 = 0 ∨ q.1 < len) ∧ s = size) ∧ K (.vec id ver s (off + q.1.toNat * s) (q.2 - q.1).toNat) n H
  | .appV size bytes, [x, y] => bytes ≤ 4096 ∧ oK (srcV H size y) fun q => q.2.all plain = true ∧
    match x with
    | .nilsl => q.1 ≤ lenMax ∧ (q.1 = 0 → K .nilsl n H) ∧ (q.1 ≠ 0 → K (.vec n 0 size 0 q.1) (n + 1) ((n, .vob 0 size q.2) :: H))
    | .vec id ver s off len => vget H id ver fun _ cells => (off = 0 ∧ s = size ∧ len * s ≤ cells.length ∧ len + q.1 ≤ lenMax) ∧ K (.vec id (ver + 1) s 0 (len + q.1)) n (hset H id (.vob (ver + 1) s (cells.take (len * s) ++ q.2)))
    | _ => False
  | .clr size zero, [.vec id ver s off len] => vget H id ver fun z cells => (s = size ∧ zero.length = size ∧ off + len * s ≤ cells.length ∧ zero.all plain = true) ∧ K (.tup []) n (hset H id (.vob ver z (setCells cells off (List.replicate len zero).flatten)))
  | .eqNil, [.vec id ver _ _ _, .nilsl] => vget H id ver fun _ _ => K (.bool false) n H
  | .call, .fn f cap :: args => Runs P f (args ++ cap) n H K
  | _, _ => oK (fop o vals) fun v => K v n H

end Go.Ab
end
section
namespace Go.Ab
set_option linter.unusedVariables false

variable {P : Program} {g : Ghost} {n : Nat} {w : World} {H : Heap}

def upd {α : Type} (f : Nat → α) (i : Nat) (v : α) : Nat → α := fun j => if j = i then v else f j
@[simp] theorem upd_same {α : Type} (f : Nat → α) (i : Nat) (v : α) : upd f i v i = v := by simp [upd]
theorem upd_ne {α : Type} (f : Nat → α) {i j : Nat} (v : α) (h : j ≠ i) : upd f i v j = f j := by simp [upd, h]

theorem room_lt {b k : Nat} (h : room w b k) : b < w.heap.size := by
  obtain ⟨c, el, fz, h1, _⟩ := h
  rcases Nat.lt_or_ge b w.heap.size with h' | h'
  · exact h'
  · rw [Array.getElem?_eq_none h'] at h1; cases h1

theorem EntRel.lt {id : Nat} {o : HObj} (h : EntRel g n w id o) : g.β id < w.heap.size := by
  cases o with
  | tok s len => obtain ⟨_, _, c, el, h1, h2⟩ := h; exact room_lt ⟨c, el, _, h1, Nat.zero_le _⟩
  | own cells => obtain ⟨_, _, c, el, vs, h1, h2⟩ := h; exact room_lt ⟨c, el, _, h1, Nat.zero_le _⟩
  | vob ver s cells => obtain ⟨_, _, c, el, vs, h1, h2⟩ := h; exact room_lt ⟨c, el, _, h1, Nat.zero_le _⟩

theorem HRel.phi0 (h : HRel g n H w) {b : Nat} (hb : w.heap.size ≤ b) : g.φ b = 0 := by
  rcases Nat.eq_zero_or_pos (g.φ b) with h0 | h0
  · exact h0
  · have := room_lt (h.fsz b h0); omega

theorem heap_alloc_lt {o : Obj} {b : Nat} (hb : b < w.heap.size) : (w.alloc o).heap[b]? = w.heap[b]? := by
  simp only [World.alloc]
  rw [Array.getElem?_push]
  simp [Nat.ne_of_lt hb]
theorem heap_alloc_new {o : Obj} : (w.alloc o).heap[w.heap.size]? = some o := by
  simp only [World.alloc, Array.getElem?_push, if_true]

theorem Run_alloc {vs : List Value} {el : TypeId} {rest : Array Value} : Run (w.alloc (.cells (vs.toArray ++ rest) el)) w.heap.size 0 vs := by
  intro i v hi
  rw [Nat.zero_add, World.cell?_alloc_new]
  rw [Array.getElem?_append_left (by
    rcases Nat.lt_or_ge i vs.length with h | h
    · simpa using h
    · rw [List.getElem?_eq_none h] at hi; cases hi)]
  simpa using hi

/-- A new block: k of its cells are frozen at once; number n is its name. -/
theorem grow_alloc (hH : HRel g n H w) (c : Array Value) (el : TypeId) (k : Nat) (hk : k ≤ c.size) (fr : Option Nat) :
    Grow n g w H ⟨upd g.β n w.heap.size, upd g.fr n fr, upd g.φ w.heap.size k⟩ (w.alloc (.cells c el)) H ∧
    HRel ⟨upd g.β n w.heap.size, upd g.fr n fr, upd g.φ w.heap.size k⟩ n H (w.alloc (.cells c el)) := by
  have hx : Ext n g w ⟨upd g.β n w.heap.size, upd g.fr n fr, upd g.φ w.heap.size k⟩ (w.alloc (.cells c el)) := by
    refine ⟨fun b i hi => ?_, fun b => ?_, fun id hid => ?_, fun b k' ⟨c', el', fz, h1, h2⟩ => ?_⟩
    · have hb : b < w.heap.size := room_lt (hH.fsz b (by omega))
      exact World.cell?_alloc_lt _ _ _ hb
    · by_cases hb : b = w.heap.size
      · subst hb; rw [hH.phi0 (Nat.le_refl _)]; exact Nat.zero_le _
      · show g.φ b ≤ upd g.φ w.heap.size k b
        rw [upd_ne _ _ hb]; exact Nat.le_refl _
    · left
      exact ⟨upd_ne _ _ (Nat.ne_of_lt hid), upd_ne _ _ (Nat.ne_of_lt hid)⟩
    · have hb : b < w.heap.size := room_lt ⟨c', el', fz, h1, h2⟩
      exact ⟨c', el', fz, by rw [heap_alloc_lt hb]; exact h1, h2⟩
  have hβ : ∀ p ∈ H, upd g.β n w.heap.size p.1 = g.β p.1 := fun p hp => upd_ne _ _ (Nat.ne_of_lt (hH.ent p hp).1)
  refine ⟨{ hx with size := by rw [World.size_alloc]; exact Nat.le_succ _, old := fun b hb _ => ⟨heap_alloc_lt hb, upd_ne _ _ (Nat.ne_of_lt hb)⟩, owns := fun p hp => .inl ⟨p, hp, (hβ p hp).symm⟩, oth := ⟨rfl, rfl, rfl⟩ }, ?_⟩
  refine ⟨?_, fun p hp => ⟨(hH.ent p hp).1, ?_⟩, fun b hb => ?_⟩
  · refine hH.apart.imp_of_mem ?_
    intro p q hp hq h
    refine ⟨h.1, ?_⟩
    show upd g.β n w.heap.size p.1 ≠ upd g.β n w.heap.size q.1
    rw [hβ p hp, hβ q hq]; exact h.2
  · have hlt := (hH.ent p hp).2.lt
    exact (hH.ent p hp).2.ext hx (Nat.le_refl _) (hβ p hp) (upd_ne _ _ (Nat.ne_of_lt (hH.ent p hp).1)) (upd_ne _ _ (Nat.ne_of_lt hlt)) (heap_alloc_lt hlt)
  · by_cases hbs : b = w.heap.size
    · subst hbs
      exact ⟨c, el, _, heap_alloc_new, by show upd g.φ w.heap.size k w.heap.size ≤ _; rw [upd_same]; exact hk⟩
    · have hb' : upd g.φ w.heap.size k b = g.φ b := upd_ne _ _ hbs
      have h1 : 0 < g.φ b := by have h2 : 0 < upd g.φ w.heap.size k b := hb; rwa [hb'] at h2
      show room _ b (upd g.φ w.heap.size k b)
      rw [hb']
      exact hx.rooms _ _ (hH.fsz b h1)

/-- A new block joins the heap under number n. -/
theorem HRel.add {g' : Ghost} {w' : World} (h : HRel g' n H w') (o : HObj) (hnew : ∀ p ∈ H, g'.β p.1 ≠ g'.β n) (ho : EntRel g' (n + 1) w' n o) : HRel g' (n + 1) ((n, o) :: H) w' := by
  refine ⟨?_, fun p hp => ?_, h.fsz⟩
  · rw [List.pairwise_cons]
    exact ⟨fun p hp => ⟨Nat.ne_of_gt (h.ent p hp).1, (hnew p hp).symm⟩, h.apart⟩
  · rw [List.mem_cons] at hp
    rcases hp with rfl | hp
    · exact ⟨Nat.lt_succ_self _, ho⟩
    · exact ⟨Nat.lt_succ_of_lt (h.ent p hp).1, (h.ent p hp).2.ext (Ext.refl _ _ _) (Nat.le_succ _) rfl rfl rfl rfl⟩

theorem Grow.add {g' : Ghost} {w' : World} (h : Grow n g w H g' w' H) (o : HObj) (hnew : w.heap.size ≤ g'.β n) : Grow n g w H g' w' ((n, o) :: H) := by
  refine ⟨h.toExt, h.size, h.old, fun p hp => ?_, h.oth⟩
  rw [List.mem_cons] at hp
  rcases hp with rfl | hp
  · exact .inr hnew
  · exact h.owns p hp

theorem hget_mem {id : Nat} {o : HObj} (h : hget H id = some o) : (id, o) ∈ H := by
  unfold hget at h
  cases hf : H.find? fun p => p.1 == id with
  | none => rw [hf] at h; cases h
  | some p =>
    rw [hf] at h
    simp only [Option.map_some, Option.some.injEq] at h
    have h1 := List.mem_of_find?_eq_some hf
    have h2 := List.find?_some hf
    simp only [beq_iff_eq] at h2
    rw [← h, ← h2]
    exact h1

theorem hset_eq {r : Nat × HObj → Nat × HObj → Prop} (id : Nat) (o : HObj) : ∀ {H : Heap}, (H.Pairwise fun p q => p.1 ≠ q.1 ∧ r p q) → hset H id o = hsetM H id o
  | [], _ => rfl
  | p :: H, h => by
    rw [List.pairwise_cons] at h
    unfold hset
    by_cases hp : p.1 = id
    · rw [if_pos hp]
      unfold hsetM
      rw [List.map_cons, if_pos hp]
      congr 1
      rw [List.map_congr_left (g := fun p => p) (fun q hq => by rw [if_neg (fun e => (h.1 q hq).1 (hp.trans e.symm))])]
      simp
    · rw [if_neg hp, hset_eq id o h.2]
      unfold hsetM
      rw [List.map_cons, if_neg hp]

theorem mem_hset {id : Nat} {o : HObj} {p : Nat × HObj} (h : p ∈ hsetM H id o) : (p = (id, o)) ∨ (p.1 ≠ id ∧ p ∈ H) := by
  unfold hsetM at h
  rw [List.mem_map] at h
  obtain ⟨q, hq, e⟩ := h
  by_cases hi : q.1 = id
  · rw [if_pos hi] at e; exact .inl e.symm
  · rw [if_neg hi] at e; subst e; exact .inr ⟨hi, hq⟩

/-- The named block changes (its cells, or what is known of it, or where it lies); the rest stays. -/
theorem HRel.set {g' : Ghost} {w' : World} {id : Nat} {o o' : HObj} (h : HRel g n H w) (hm : (id, o) ∈ H) (hx : Ext n g w g' w')
    (hkeep : ∀ p ∈ H, p.1 ≠ id → g'.β p.1 = g.β p.1 ∧ g'.fr p.1 = g.fr p.1 ∧ g'.φ (g.β p.1) = g.φ (g.β p.1) ∧ w'.heap[g.β p.1]? = w.heap[g.β p.1]?)
    (hnew : g'.β id = g.β id ∨ w.heap.size ≤ g'.β id) (ho : EntRel g' n w' id o') (hf : ∀ b, 0 < g'.φ b → room w' b (g'.φ b)) : HRel g' n (hsetM H id o') w' := by
  refine ⟨?_, fun p hp => ?_, hf⟩
  · unfold hsetM
    rw [List.pairwise_map]
    refine h.apart.imp_of_mem ?_
    intro p q hp hq hpq
    have aux : ∀ r ∈ H, r.1 ≠ id → g'.β r.1 ≠ g'.β id := fun r hr hri => by
      rw [(hkeep r hr hri).1]
      rcases hnew with e | e
      · rw [e]
        rcases pairwise_ne h.apart hr hm hri with h1
        exact h1
      · have := (h.ent r hr).2.lt; omega
    by_cases hpi : p.1 = id <;> by_cases hqi : q.1 = id
    · exact absurd (hpi.trans hqi.symm) hpq.1
    · rw [if_pos hpi, if_neg hqi]
      exact ⟨fun e => hqi e.symm, (aux q hq hqi).symm⟩
    · rw [if_neg hpi, if_pos hqi]
      exact ⟨hpi, aux p hp hpi⟩
    · rw [if_neg hpi, if_neg hqi]
      refine ⟨hpq.1, ?_⟩
      rw [(hkeep p hp hpi).1, (hkeep q hq hqi).1]
      exact hpq.2
  · rcases mem_hset hp with rfl | ⟨hi, hp⟩
    · exact ⟨(h.ent _ hm).1, ho⟩
    · obtain ⟨h1, h2, h3, h4⟩ := hkeep p hp hi
      exact ⟨(h.ent p hp).1, (h.ent p hp).2.ext hx (Nat.le_refl _) h1 h2 h3 h4⟩
where
  pairwise_ne {g : Ghost} {H : Heap} {r : Nat × HObj} {id : Nat} {o : HObj} (h : H.Pairwise fun p q => p.1 ≠ q.1 ∧ g.β p.1 ≠ g.β q.1) (hr : r ∈ H) (hm : (id, o) ∈ H) (hne : r.1 ≠ id) : g.β r.1 ≠ g.β id := by
    induction H with
    | nil => cases hr
    | cons x xs ih =>
      rw [List.pairwise_cons] at h
      rw [List.mem_cons] at hr hm
      rcases hr with rfl | hr
      · rcases hm with e | hm
        · subst e; exact absurd rfl hne
        · exact (h.1 _ hm).2
      · rcases hm with e | hm
        · subst e; exact fun e => (h.1 _ hr).2 e.symm
        · exact ih h.2 hr hm

theorem apart_of {r : Nat × HObj} {id : Nat} {o : HObj} (h : HRel g n H w) (hr : r ∈ H) (hm : (id, o) ∈ H) (hne : r.1 ≠ id) : g.β r.1 ≠ g.β id :=
  HRel.set.pairwise_ne h.apart hr hm hne

end Go.Ab
end
section
namespace Go.Ab
set_option linter.unusedVariables false

def avCell : Value → AV
  | .bool b => .bool b
  | .int k n => .int k n
  | .string s => .str s.data.toList
  | .slice none 0 0 => .nilsl
  | .func (.func f) first cap => if first.size = 0 ∧ cap.size = 0 then .fn f [] else .junk
  | _ => .junk
def avOf : Value → AV
  | .agg cs => .agg (cs.toList.map avCell)
  | v => avCell v

inductive Opd where
  | t (i : Nat)
  | k (v : AV)
def Opd.val (E : Env) : Opd → AV
  | .t i => Ab.val E i
  | .k v => v
def cOpd : Operand → Opd
  | .tmp t => .t t
  | .const v => .k (avOf v)
  | .func f => .k (.fn f [])
  | .global _ => .k .junk

def ldSize (P : Program) (t : TypeId) : Option (Option Nat) :=
  match P.underlying t with
  | some (.struct _) | some (.array _ _) => some (some (P.cellsOf t))
  | some _ => some none
  | none => none

def zeroCellsOf (P : Program) (t : TypeId) : Option (List AV) := ((P.info? t).bind (·.zero)).map fun z => z.cells.toList.map avCell

def fieldsOf (P : Program) (t : TypeId) : Option (Array Field) :=
  match P.underlying t with
  | some (.struct fs) => some fs
  | _ => none
def elemOfSl (P : Program) (t : TypeId) : Option TypeId :=
  match P.underlying t with
  | some (.slice e) => some e
  | _ => none

/-- A struct whose fields are all integers, at the places 0, 1, ..; nothing of the model's own stands in its way. -/
def intStruct (P : Program) (t : TypeId) : Option Nat :=
  match fieldsOf P t with
  | some fs => if (fs.toList.zipIdx.all fun (f, i) => f.name != "_" && f.offset == i && (match P.underlying f.type with | some (.int _) => true | _ => false)) && !P.stoodInHeld t && !P.eqGuardType P.depth t then some fs.size else none
  | none => none

def isLoHi (lo hi : Option Operand) : Bool × Bool := (lo.isSome, hi.isSome)

def cOp (P : Program) (m : Nat) (o : Op) : Option XO :=
  match o with
  | .move _ | .assign _ => some .mv
  | .pick _ _ _ => some .pick
  | .alloc e => (zeroCellsOf P e).map .alloc
  | .box _ _ => some (if m = 2 then .boxO else .boxF)
  | .build t parts => match fieldsOf P t, zeroCellsOf P t with
    | some fs, some z => if (parts.all fun p => p.1 < fs.size) && (fs.all fun f => (P.info? f.type).isSome) then some (.build z (parts.toList.map fun p => ((fs.getD p.1 default).offset, P.cellsOf (fs.getD p.1 default).type))) else none
    | _, _ => none
  | .buildSlice t len parts => match elemOfSl P t with
    | some e => match P.info? e with
      | some i => if i.zero.isSome ∧ (i.zero.map fun z => z.cells.size) = some i.size ∧ parts.toList.map (·.1) = List.range len ∧ len * i.size ≤ 16777216 ∧ m ≤ 4 then some (.bsl m i.size) else none
      | none => none
    | none => none
  | .load t _ => (ldSize P t).map .ld
  | .store t _ _ => match ldSize P t with
    | some s => if P.cellsOf t = s.getD 1 then some (.st s) else none
    | none => none
  | .binOp op t _ _ _ => match P.underlying t with
    | some (.int _) => some (.bin op)
    | some .string => some (.bin op)
    | some .bool => if op = .eql ∨ op = .neq then some (.binB (op == .neq)) else none
    | some (.slice _) => if op = .eql then some .eqNil else none
    | some (.struct _) => if op = .eql ∨ op = .neq then (intStruct P t).map (.eqS (op == .neq)) else none
    | _ => none
  | .unOp op _ _ => if op = .not ∨ op = .neg then some (.un op) else none
  | .convert src dst _ => match P.underlying src, P.underlying dst with
    | some (.int _), some (.int k) => some (.cvI k)
    | some (.int _), some .string => some .cvIS
    | some .string, some .string => some .cvSS
    | some (.slice e), some .string => match P.underlying e with
      | some (.int .u8) => some .cvBS
      | _ => none
    | _, _ => none
  | .makeFunc (.func f) first _ => if first.size = 0 then some (.mkfn f) else none
  | .makeSlice t _ _ => match elemOfSl P t with
    | some e => match P.info? e with
      | some i => match i.zero with
        | some z => if z.cells.size = i.size then some (.mks m i.size i.bytes (z.cells.toList.map avCell)) else none
        | none => none
      | none => none
    | none => none
  | .slice t _ lo hi none => match P.underlying t with
    | some .string => some (.slS lo.isSome hi.isSome)
    | some (.slice e) => (P.info? e).map fun i => .slL i.size lo.isSome hi.isSome
    | _ => none
  | .fieldAddr t _ f => match fieldsOf P t with
    | some fs => match fs[f]? with
      | some fd => if (P.info? fd.type).isSome ∧ P.cellsOf fd.type ≠ 0 then some (.fldA fd.offset) else none
      | none => none
    | none => none
  | .field t _ f => match fieldsOf P t with
    | some fs => match fs[f]? with
      | some fd => (ldSize P fd.type).map (.fld fd.offset)
      | none => none
    | none => none
  | .indexAddr t _ _ => match elemOfSl P t with
    | some e => (P.info? e).map fun i => .idxA i.size
    | none => none
  | .index t _ _ => match P.underlying t with
    | some .string => some .idxS
    | _ => none
  | .extract _ i => some (.ext i)
  | .call c => match c.callee with
    | .value _ => some .call
    | .builtin .len => match c.argTypes[0]? with
      | some t => match P.underlying t with
        | some .string => if c.args.size = 1 then some .lenS else none
        | some (.slice _) => if c.args.size = 1 then some .lenL else none
        | _ => none
      | none => none
    | .builtin .append => match c.argTypes.toList with
      | [t, u] => if t = u then match elemOfSl P t with
        | some e => match P.info? e with
          | some i => if i.zero.isSome ∧ (i.zero.map fun z => z.cells.size) = some i.size ∧ i.size ≠ 0 then some (if m = 3 then .appV i.size i.bytes else .app i.size i.bytes) else none
          | none => none
        | none => none else none
      | _ => none
    | .builtin .clear => match c.argTypes[0]? with
      | some t => match elemOfSl P t with
        | some e => match P.info? e with
          | some i => match i.zero with
            | some z => if z.cells.size = i.size ∧ c.args.size = 1 then some (.clr i.size (z.cells.toList.map avCell)) else none
            | none => none
          | none => none
        | none => none
      | none => none
    | .builtin .cap => match c.argTypes[0]? with
      | some t => if (elemOfSl P t).isSome ∧ c.args.size = 1 then some .capL else none
      | none => none
    | .builtin .max => some (.mnx true)
    | .builtin .min => some (.mnx false)
    | _ => none
  | _ => none

structure XOp where
  dst : Option Nat
  op : XO
  args : List Opd
  guard : Option (Nat × Bool)

def cOper (P : Program) (N : Nat) (md : Nat → Nat) (ops : Array Oper) (o : Oper) : Option XOp :=
  if (o.dst.all (· < N)) then
    match cOp P (md (o.dst.getD 0)) o.op, o.guard with
    | some x, none => some ⟨o.dst, x, o.op.operands.toList.map cOpd, none⟩
    | some x, some (j, want) => match (ops[j]?).bind (·.dst) with
      | some t => some ⟨o.dst, x, o.op.operands.toList.map cOpd, some (t, want)⟩
      | none => none
    | none, _ => none
  else none

inductive XCode where
  | skip
  | reg (ops : List XOp) (ks : List Nat)
  | drw (ops : List (XOp × List Nat)) (ks cl : List Nat)
  | seq (a b : XCode)
  | cond (c : Opd) (a b : XCode)
  | block (id : Nat) (c : XCode)
  | loop (c : XCode)
  | exit (id : Nat)
  | ret

def allSome {α : Type} : List (Option α) → Option (List α)
  | [] => some []
  | some a :: l => (allSome l).map (a :: ·)
  | none :: _ => none

def cCode (P : Program) (N : Nat) (md : Nat → Nat) (kp : Nat → List Nat) : Code → Option XCode
  | .skip => some .skip
  | .region id ops false => (allSome (ops.toList.map (cOper P N md ops))).map fun l => .reg l (kp id)
  | .region id ops true => (allSome (ops.toList.map (cOper P N md ops))).map fun l => .drw (l.zip (ops.toList.map fun o => (o.after.toList.filter (Region.binds .any)).map (·.on))) (kp id) (kp (id + 1000000))
  | .seq a b => match cCode P N md kp a, cCode P N md kp b with
    | some x, some y => some (.seq x y)
    | _, _ => none
  | .cond c a b => match cCode P N md kp a, cCode P N md kp b with
    | some x, some y => some (.cond (cOpd c) x y)
    | _, _ => none
  | .block id c => (cCode P N md kp c).map (.block id)
  | .loop c => (cCode P N md kp c).map .loop
  | .exit id => some (.exit id)
  | .ret => some .ret
  | _ => none

end Go.Ab
end
section
namespace Go.Ab
set_option linter.unusedVariables false
set_option linter.unusedSimpArgs false

variable {P : Program} {g : Ghost} {n : Nat} {w : World} {H : Heap}

theorem OpR.value {o : Oper} {ρ : Operand → Value} {K : AV → Nat → Heap → Prop} {c : Value} {v : AV} (hr : (execOp ρ o).run P w = .ok (.value c) w) (hv : VRel g n w v c) (hH : HRel g n H w) (hk : K v n H) : OpR P o ρ g n w H K := by
  unfold OpR; rw [hr]; exact ⟨v, n, H, g, hk, Nat.le_refl _, hv, hH, Grow.refl _ _ _ _⟩

theorem VRel.cellsOf {v : AV} {c : Value} {cs : List AV} (hv : VRel g n w v c) (h : Ab.cellsOf v = some cs) : VRels g n w cs c.cells.toList := by
  cases hv <;> simp only [Ab.cellsOf, Option.some.injEq, reduceCtorEq] at h <;> (try subst h) <;>
    first
    | (simp only [Value.cells]; assumption)
    | (simp only [Value.cells]; exact .cons _ _ _ _ (by constructor <;> assumption) .nil)
    | skip

theorem VRel.up {v : AV} {c : Value} (h : VRel g 0 w v c) : VRel g n w v c := h.ext (Ext.refl _ _ _) (Nat.zero_le _)
theorem VRels.up {v : List AV} {c : List Value} (h : VRels g 0 w v c) : VRels g n w v c := h.ext (Ext.refl _ _ _) (Nat.zero_le _)

theorem VRel.nil0 : VRel g n w (.sl []) (.slice none 0 0) :=
  .sl [] 0 none 0 0 0 [] (fun h => absurd rfl h) (Nat.le_refl _) (fun r hr => absurd hr (by simp)) (fun h => absurd rfl h) (fun i v hi => by simp at hi) .nil

/-- A cell without names, read only, holds whatever is allocated later. -/
theorem VRel.frz : ∀ {n : Nat} {v : AV} {c : Value}, VRel g n w v c → flat (fz v) = true → VRel g 0 w (fz v) c
  | _, _, _, .junk v, hfl => by simp [fz, flat] at hfl
  | _, _, _, .bool b, _ => .bool b
  | _, _, _, .int k i, _ => .int k i
  | _, _, _, .str s, _ => .str s
  | _, _, _, .fn f cap vs h, hfl => by
    have : cap = [] := by simpa [fz, flat] using hfl
    subst this
    cases h
    exact .fn f [] [] .nil
  | _, _, _, .agg cs vs h, hfl => by simp [fz, flat] at hfl
  | _, _, _, .tup cs vs h, hfl => by simp [fz, flat] at hfl
  | _, _, _, .nilsl, _ => VRel.nil0
  | _, _, _, .sl rows s a b off cap vs ha hc hs hf hr hv, _ => .sl rows s a b off cap vs ha hc hs hf hr hv
  | _, _, _, .acc id s rows a b off cap vs ha hc hs hf hr hv hid hl, _ => .sl rows s a b off cap vs ha hc hs hf hr hv
  | _, _, _, .fptr cs b off vs hf hr hv, _ => .fptr cs b off vs hf hr hv
  | _, _, _, .ptr id off hid hk, hfl => by simp [fz, flat] at hfl
  | _, _, _, .ref id s off len cap hid hk hc hr, hfl => by simp [fz, flat] at hfl
  | _, _, _, .vec id ver s off len a cap hid hl, hfl => by simp [fz, flat] at hfl
  | _, _, _, .vptr id ver off a hid hl, hfl => by simp [fz, flat] at hfl

theorem VRels.frz {as : List AV} {vs : List Value} (h : VRels g n w as vs) (hf : (as.map fz).all flat = true) : VRels g 0 w (as.map fz) vs := by
  induction as generalizing vs with
  | nil => cases h; exact .nil
  | cons a as ih => cases h with | cons _ v _ vs h t =>
    simp only [List.map_cons, List.all_cons, Bool.and_eq_true] at hf
    exact .cons _ _ _ _ (h.frz hf.1) (ih t hf.2)

theorem VRel.fzd : ∀ {n : Nat} {v : AV} {c : Value}, VRel g n w v c → VRel g n w (fz v) c
  | _, _, _, .junk v => .junk v
  | _, _, _, .bool b => .bool b
  | _, _, _, .int k i => .int k i
  | _, _, _, .str s => .str s
  | _, _, _, .fn f cap vs h => .fn f cap vs h
  | _, _, _, .agg cs vs h => .agg cs vs h
  | _, _, _, .tup cs vs h => .tup cs vs h
  | _, _, _, .nilsl => VRel.nil0
  | _, _, _, .sl rows s a b off cap vs ha hc hs hf hr hv => .sl rows s a b off cap vs ha hc hs hf hr hv
  | _, _, _, .acc id s rows a b off cap vs ha hc hs hf hr hv hid hl => .sl rows s a b off cap vs ha hc hs hf hr hv
  | _, _, _, .fptr cs b off vs hf hr hv => .fptr cs b off vs hf hr hv
  | _, _, _, .ptr id off hid hk => .ptr id off hid hk
  | _, _, _, .ref id s off len cap hid hk hc hr => .ref id s off len cap hid hk hc hr
  | _, _, _, .vec id ver s off len a cap hid hl => .vec id ver s off len a cap hid hl
  | _, _, _, .vptr id ver off a hid hl => .vptr id ver off a hid hl

theorem VRels.append {as bs : List AV} {vs us : List Value} (h : VRels g n w as vs) (h' : VRels g n w bs us) : VRels g n w (as ++ bs) (vs ++ us) := by
  induction as generalizing vs with
  | nil => cases h; simpa using h'
  | cons a as ih => cases h with | cons _ v _ vs h t => exact .cons _ _ _ _ h (ih t)

theorem VRels.take {as : List AV} {vs : List Value} (h : VRels g n w as vs) (k : Nat) : VRels g n w (as.take k) (vs.take k) := by
  induction as generalizing vs k with
  | nil => cases h; simpa using .nil
  | cons a as ih => cases h with | cons _ v _ vs h t => cases k with
    | zero => simpa using .nil
    | succ k => simpa using .cons _ _ _ _ h (ih t k)

theorem VRels.drop {as : List AV} {vs : List Value} (h : VRels g n w as vs) (k : Nat) : VRels g n w (as.drop k) (vs.drop k) := by
  induction as generalizing vs k with
  | nil => cases h; simpa using .nil
  | cons a as ih => cases h with | cons _ v _ vs h t => cases k with
    | zero => simpa using .cons _ _ _ _ h t
    | succ k => simpa using ih t k

theorem VRels.get {as : List AV} {vs : List Value} (h : VRels g n w as vs) : ∀ (i : Nat) (a : AV), as[i]? = some a → ∃ v, vs[i]? = some v ∧ VRel g n w a v := by
  induction as generalizing vs with
  | nil => intro i a hi; simp at hi
  | cons x as ih => cases h with | cons _ v _ vs h t =>
    intro i a hi
    cases i with
    | zero => simp at hi; subst hi; exact ⟨v, by simp, h⟩
    | succ i => simp at hi; simpa using ih t i a hi

theorem avCell_rel (v : Value) : VRel g n w (avCell v) v := by
  cases v <;> try exact .junk _
  case bool b => exact .bool b
  case int k n => exact .int k n
  case string s => exact .str s.data.toList
  case slice a l c => cases a with
    | none => cases l with
      | zero => cases c with
        | zero => exact .nilsl
        | succ c => exact .junk _
      | succ l => exact .junk _
    | some a => exact .junk _
  case func f a c => cases f with
    | func f =>
      simp only [avCell]
      by_cases h : a.size = 0 ∧ c.size = 0
      · rw [if_pos h]
        obtain ⟨h1, h2⟩ := h
        have e1 : a = #[] := Array.eq_empty_of_size_eq_zero h1
        have e2 : c = #[] := Array.eq_empty_of_size_eq_zero h2
        subst e1 e2
        exact .fn f [] [] .nil
      · rw [if_neg h]; exact .junk _
    | _ => exact .junk _

theorem avCells_rel (l : List Value) : VRels g n w (l.map avCell) l := by
  induction l with
  | nil => exact .nil
  | cons a l ih => exact .cons _ _ _ _ (avCell_rel a) ih

theorem avOf_rel (v : Value) : VRel g n w (avOf v) v := by
  match v with
  | .agg cs => exact .agg _ cs.toList (avCells_rel _)
  | .bool b => exact avCell_rel (.bool b)
  | .int k i => exact avCell_rel (.int k i)
  | .float k b => exact avCell_rel (.float k b)
  | .complex k a b => exact avCell_rel (.complex k a b)
  | .string s => exact avCell_rel (.string s)
  | .pointer a => exact avCell_rel (.pointer a)
  | .slice a b c => exact avCell_rel (.slice a b c)
  | .map r => exact avCell_rel (.map r)
  | .chan r => exact avCell_rel (.chan r)
  | .func f a b => exact avCell_rel (.func f a b)
  | .nilFunc => exact avCell_rel .nilFunc
  | .iface t v => exact avCell_rel (.iface t v)
  | .nilIface => exact avCell_rel .nilIface
  | .tuple vs => exact avCell_rel (.tuple vs)

theorem cOpd_rel {E : Env} {a : Act} (he : ERel g n w E a.tmps) (x : Operand) : VRel g n w ((cOpd x).val E) (a.eval x) := by
  cases x with
  | tmp t => exact he.val t
  | const v => exact avOf_rel v
  | global _ => exact .junk _
  | func f => exact .fn f [] [] .nil

theorem cOpds_rel {E : Env} {a : Act} (he : ERel g n w E a.tmps) (l : List Operand) : VRels g n w ((l.map cOpd).map (Opd.val E)) (l.map a.eval) := by
  induction l with
  | nil => exact .nil
  | cons x l ih => exact .cons _ _ _ _ (cOpd_rel he x) ih

theorem run_loadVar_agg {t : TypeId} {s : Nat} (hs : ldSize P t = some (some s)) {b off : Nat} {vs : List Value} (hr : Run w b off vs) (hl : s ≤ vs.length) :
    (loadVar t ⟨b, off, none⟩).run P w = .ok (.agg (vs.take s).toArray) w := by
  unfold ldSize at hs
  have hagg : (isAgg t).run P w = .ok true w ∧ P.cellsOf t = s := by
    cases hu : P.underlying t with
    | none => rw [hu] at hs; cases hs
    | some d => rw [hu] at hs; cases d <;> simp at hs <;> simp [isAgg, run_underlying hu, hs]
  have hinfo : ∃ i, P.info? t = some i := by
    cases hi : P.info? t with
    | some i => exact ⟨i, rfl⟩
    | none => cases hu : P.underlying t with
      | none => rw [hu] at hs; cases hs
      | some d => simp [Program.underlying, hi] at hu
  obtain ⟨i, hi⟩ := hinfo
  have hsz : i.size = s := by have := hagg.2; simpa [Program.cellsOf, hi] using this
  have hlc := run_loadCells_list (P := P) w ⟨b, off, none⟩ (vs.take s) (fun j v hj => by
    rw [Addr.add_lit]
    have hj' : vs[j]? = some v := by
      rw [List.getElem?_take] at hj
      by_cases h : j < s
      · rwa [if_pos h] at hj
      · rw [if_neg h] at hj; cases hj
    exact hr j v hj')
  have e : (vs.take s).length = s := by rw [List.length_take]; omega
  rw [e] at hlc
  simp [loadVar, hagg.1, sizeOf, typeInfo, hi, hsz, hlc]

theorem run_loadVar_one {t : TypeId} (hs : ldSize P t = some none) {b off : Nat} {v : Value} (hr : w.cell? ⟨b, off, none⟩ = some v) :
    (loadVar t ⟨b, off, none⟩).run P w = .ok v w := by
  unfold ldSize at hs
  have hagg : (isAgg t).run P w = .ok false w := by
    cases hu : P.underlying t with
    | none => rw [hu] at hs; cases hs
    | some d => rw [hu] at hs; cases d <;> simp at hs <;> simp [isAgg, run_underlying hu]
  simp [loadVar, hagg, hr]

/-- A load, wherever the cells lie. -/
theorem run_loadVar {t : TypeId} {s : Option Nat} (hs : ldSize P t = some s) {b off : Nat} {vs : List Value} (hr : Run w b off vs) {cs : List AV} (hv : VRels g n w cs vs) {v : AV} (hl : ldc s cs = some v) :
    ∃ c, (loadVar t ⟨b, off, none⟩).run P w = .ok c w ∧ VRel g n w v c := by
  cases s with
  | none =>
    cases cs with
    | nil => simp [ldc] at hl
    | cons a cs =>
      simp only [ldc, Option.some.injEq] at hl
      subst hl
      cases hv with | cons _ c _ vs h t =>
      exact ⟨c, run_loadVar_one hs (by simpa using hr 0 c (by simp)), h⟩
  | some s =>
    simp only [ldc] at hl
    split at hl
    · rename_i hle
      simp only [Option.some.injEq] at hl
      subst hl
      rw [hv.length] at hle
      exact ⟨_, run_loadVar_agg hs hr hle, .agg _ _ (hv.take s)⟩
    · cases hl

theorem Run.drop {b off : Nat} {vs : List Value} (h : Run w b off vs) (k : Nat) : Run w b (off + k) (vs.drop k) := by
  intro i v hi
  rw [List.getElem?_drop] at hi
  have := h (k + i) v hi
  rwa [show off + k + i = off + (k + i) by omega]

theorem Run.take {b off : Nat} {vs : List Value} (h : Run w b off vs) (k : Nat) : Run w b off (vs.take k) := by
  intro i v hi
  rw [List.getElem?_take] at hi
  split at hi
  · exact h i v hi
  · cases hi

theorem flatten_drop {α : Type} {s : Nat} : ∀ {rows : List (List α)} (_ : ∀ r ∈ rows, r.length = s) (k : Nat), rows.flatten.drop (k * s) = (rows.drop k).flatten
  | [], _, k => by simp
  | r :: rows, hs, 0 => by simp
  | r :: rows, hs, k + 1 => by
    have h1 := hs r (List.mem_cons_self ..)
    rw [List.flatten_cons, Nat.succ_mul, Nat.add_comm, List.drop_append, h1]
    rw [List.drop_eq_nil_of_le (by omega), List.nil_append]
    rw [show s + k * s - s = k * s by omega]
    rw [flatten_drop (fun x hx => hs x (List.mem_cons_of_mem _ hx)) k]
    simp

theorem flatten_take {α : Type} {s : Nat} : ∀ {rows : List (List α)} (_ : ∀ r ∈ rows, r.length = s) (k : Nat), rows.flatten.take (k * s) = (rows.take k).flatten
  | [], _, k => by simp
  | r :: rows, hs, 0 => by simp
  | r :: rows, hs, k + 1 => by
    have h1 := hs r (List.mem_cons_self ..)
    rw [List.flatten_cons, Nat.succ_mul, Nat.add_comm, List.take_append, h1]
    rw [List.take_of_length_le (by omega)]
    rw [show s + k * s - s = k * s by omega]
    rw [flatten_take (fun x hx => hs x (List.mem_cons_of_mem _ hx)) k]
    simp

theorem rowsOk_s {rows : List (List AV)} {s size : Nat} (h1 : ∀ r ∈ rows, r.length = s) (h2 : rowsOk size rows) (hne : rows ≠ []) : s = size := by
  cases rows with
  | nil => exact absurd rfl hne
  | cons r rs => rw [← h1 r (List.mem_cons_self ..), ← (h2 r (List.mem_cons_self ..)).1]

/-- Element number i of frozen rows: a pointer to its cells. -/
theorem row_ptr {rows : List (List AV)} {s size : Nat} {b off : Nat} {vs : List Value} (hs : ∀ r ∈ rows, r.length = s) (hok : rowsOk size rows)
    (hf : rows ≠ [] → off + rows.length * s ≤ g.φ b) (hr : Run w b off vs) (hv : VRels g 0 w rows.flatten vs) {i : Nat} (hi : i < rows.length) :
    VRel g n w (.fptr (rows.getD i [])) (.pointer (some ⟨b, off + i * size, none⟩)) := by
  have hne : rows ≠ [] := by intro e; subst e; simp at hi
  have e := rowsOk_s hs hok hne
  subst e
  have hrow : rows.getD i [] = (rows.drop i).flatten.take s := by
    rw [List.getD_eq_getElem?_getD, List.getElem?_eq_getElem hi, Option.getD_some]
    rw [List.drop_eq_getElem_cons hi, List.flatten_cons]
    rw [List.take_append_of_le_length (by rw [(hok _ (List.getElem_mem hi)).1]; exact Nat.le_refl _)]
    rw [List.take_of_length_le (by rw [(hok _ (List.getElem_mem hi)).1]; exact Nat.le_refl _)]
  have hlen : (rows.getD i []).length = s := by
    rw [List.getD_eq_getElem?_getD, List.getElem?_eq_getElem hi, Option.getD_some]
    exact (hok _ (List.getElem_mem hi)).1
  have hv2 : VRels g 0 w (rows.getD i []) ((vs.drop (i * s)).take s) := by
    rw [hrow, ← flatten_drop hs i]
    exact (hv.drop _).take _
  have hmul : (i + 1) * s ≤ rows.length * s := Nat.mul_le_mul_right s hi
  rw [Nat.succ_mul] at hmul
  refine .fptr _ b (off + i * s) _ ?_ ((hr.drop (i * s)).take s) hv2
  rw [hlen]
  have := hf hne
  omega

end Go.Ab
end
section
namespace Go.Ab
set_option linter.unusedVariables false
set_option linter.unusedSimpArgs false

variable {P : Program} {g : Ghost} {n : Nat} {w : World} {H : Heap} {ρ : Operand → Value} {K : AV → Nat → Heap → Prop}
  {dst : Option Tmp} {type : TypeId} {pos : String} {after : Array Edge} {guard : Option (Nat × Bool)}

theorem snd_mv {x : Operand} {a : AV} (hv : VRel g n w a (ρ x)) (hH : HRel g n H w) (hx : xop P .mv [a] n H K) : OpR P ⟨dst, .move x, type, pos, after, guard⟩ ρ g n w H K := by
  simp only [xop, fop, oK_some] at hx
  exact OpR.value (by simp [execOp]) hv hH hx
theorem snd_as {x : Operand} {a : AV} (hv : VRel g n w a (ρ x)) (hH : HRel g n H w) (hx : xop P .mv [a] n H K) : OpR P ⟨dst, .assign x, type, pos, after, guard⟩ ρ g n w H K := by
  simp only [xop, fop, oK_some] at hx
  exact OpR.value (by simp [execOp]) hv hH hx

theorem snd_pick {c x y : Operand} {k a b : AV} (hk : VRel g n w k (ρ c)) (ha : VRel g n w a (ρ x)) (hb : VRel g n w b (ρ y)) (hH : HRel g n H w) (hx : xop P .pick [k, a, b] n H K) :
    OpR P ⟨dst, .pick c x y, type, pos, after, guard⟩ ρ g n w H K := by
  cases k <;> simp only [xop, fop, oK_some, oK_none] at hx
  rename_i t
  generalize hc : ρ c = cv at hk
  cases hk
  refine OpR.value (c := if t then ρ x else ρ y) (by simp [execOp, hc, asBool]) ?_ hH hx
  cases t
  · simpa using hb
  · simpa using ha

theorem cellsV_of {v : AV} {c : Value} {cs : List AV} (hv : VRel g n w v c) (h : cellsOf v = some cs) : cs.length = c.cells.size := by
  have := (hv.cellsOf h).length
  simpa using this

theorem snd_boxF {x : Operand} {e : TypeId} {a : AV} (hv : VRel g n w a (ρ x)) (hH : HRel g n H w) (hx : xop P .boxF [a] n H K) : OpR P ⟨dst, .box e x, type, pos, after, guard⟩ ρ g n w H K := by
  simp only [xop, fop] at hx
  obtain ⟨v, hv1, hk⟩ := oK_elim hx
  split at hv1
  · rename_i cs hcs
    split at hv1
    · rename_i hflat
      simp only [Option.some.injEq] at hv1
      subst hv1
      have hrel := (hv.cellsOf hcs).frz hflat
      have hlen := hrel.length
      obtain ⟨hg, hH'⟩ := grow_alloc hH (ρ x).cells e (ρ x).cells.size (Nat.le_refl _) none
      unfold OpR
      have hrun : (execOp ρ ⟨dst, .box e x, type, pos, after, guard⟩).run P w = .ok (.value (.pointer (some ⟨w.heap.size, 0, none⟩))) (w.alloc (.cells (ρ x).cells e)) := by
        simp [execOp, Instr.box, newVar, newRow]
      rw [hrun]
      refine ⟨.fptr (cs.map fz), n, H, _, hk, Nat.le_refl _, ?_, hH', hg⟩
      refine .fptr (cs.map fz) w.heap.size 0 (ρ x).cells.toList ?_ ?_ (hrel.ext (hg.toExt.le (Nat.zero_le _)) (Nat.le_refl _))
      · show 0 + (cs.map fz).length ≤ upd g.φ w.heap.size (ρ x).cells.size w.heap.size
        rw [upd_same, hlen]; simp
      · have := Run_alloc (w := w) (vs := (ρ x).cells.toList) (el := e) (rest := #[])
        simpa using this
    · cases hv1
  · cases hv1

theorem snd_boxO {x : Operand} {e : TypeId} {a : AV} (hv : VRel g n w a (ρ x)) (hH : HRel g n H w) (hx : xop P .boxO [a] n H K) : OpR P ⟨dst, .box e x, type, pos, after, guard⟩ ρ g n w H K := by
  simp only [xop] at hx
  obtain ⟨cs, hcs, hk⟩ := oK_elim hx
  have hrel := hv.cellsOf hcs
  obtain ⟨hg, hH'⟩ := grow_alloc hH (ρ x).cells e 0 (Nat.zero_le _) none
  unfold OpR
  have hrun : (execOp ρ ⟨dst, .box e x, type, pos, after, guard⟩).run P w = .ok (.value (.pointer (some ⟨w.heap.size, 0, none⟩))) (w.alloc (.cells (ρ x).cells e)) := by
    simp [execOp, Instr.box, newVar, newRow]
  rw [hrun]
  have hnew : ∀ p ∈ H, upd g.β n w.heap.size p.1 ≠ upd g.β n w.heap.size n := fun p hp => by
    rw [upd_ne _ _ (Nat.ne_of_lt (hH.ent p hp).1), upd_same]; exact Nat.ne_of_lt (hH.ent p hp).2.lt
  refine ⟨.ptr n 0, n + 1, _, _, hk, Nat.le_succ _, ?_, hH'.add (.own cs) hnew ?_, hg.add _ (by show w.heap.size ≤ upd g.β n w.heap.size n; rw [upd_same]; exact Nat.le_refl _)⟩
  · have := VRel.ptr (g := ⟨upd g.β n w.heap.size, upd g.fr n none, upd g.φ w.heap.size 0⟩) (n := n + 1) (w := w.alloc (.cells (ρ x).cells e)) n 0 (Nat.lt_succ_self _) (upd_same _ _ _)
    rwa [show (Ghost.mk (upd g.β n w.heap.size) (upd g.fr n none) (upd g.φ w.heap.size 0)).β n = w.heap.size from upd_same _ _ _] at this
  · refine ⟨upd_same _ _ _, ?_, (ρ x).cells, e, (ρ x).cells.toList, ?_, fun i v hi => by simpa using hi, hrel.ext (hg.toExt) (Nat.le_succ _)⟩
    · show upd g.φ w.heap.size 0 (upd g.β n w.heap.size n) = 0
      rw [upd_same, upd_same]
    · show (w.alloc (.cells (ρ x).cells e)).heap[upd g.β n w.heap.size n]? = _
      rw [upd_same]; exact heap_alloc_new

theorem zeroCells_some {e : TypeId} {z : List AV} (hc : zeroCellsOf P e = some z) : ∃ i v, P.info? e = some i ∧ i.zero = some v ∧ z = v.cells.toList.map avCell := by
  unfold zeroCellsOf at hc
  cases hi : P.info? e with
  | none => rw [hi] at hc; cases hc
  | some i =>
    rw [hi] at hc
    cases hz : i.zero with
    | none => simp [hz] at hc
    | some v => simp [hz] at hc; exact ⟨i, v, rfl, hz, hc.symm⟩

theorem snd_alloc {e : TypeId} {z : List AV} (hc : zeroCellsOf P e = some z) (hH : HRel g n H w) (hx : xop P (.alloc z) [] n H K) : OpR P ⟨dst, .alloc e, type, pos, after, guard⟩ ρ g n w H K := by
  simp only [xop] at hx
  obtain ⟨i, v, hi, hz, rfl⟩ := zeroCells_some hc
  obtain ⟨hg, hH'⟩ := grow_alloc hH v.cells e 0 (Nat.zero_le _) none
  unfold OpR
  have hrun : (execOp ρ ⟨dst, .alloc e, type, pos, after, guard⟩).run P w = .ok (.value (.pointer (some ⟨w.heap.size, 0, none⟩))) (w.alloc (.cells v.cells e)) := by
    simp [execOp, Instr.alloc, zeroValue, typeInfo, hi, hz, newVar, newRow]
  rw [hrun]
  have hnew : ∀ p ∈ H, upd g.β n w.heap.size p.1 ≠ upd g.β n w.heap.size n := fun p hp => by
    rw [upd_ne _ _ (Nat.ne_of_lt (hH.ent p hp).1), upd_same]; exact Nat.ne_of_lt (hH.ent p hp).2.lt
  refine ⟨.ptr n 0, n + 1, _, _, hx, Nat.le_succ _, ?_, hH'.add (.own _) hnew ?_, hg.add _ (by show w.heap.size ≤ upd g.β n w.heap.size n; rw [upd_same]; exact Nat.le_refl _)⟩
  · have := VRel.ptr (g := ⟨upd g.β n w.heap.size, upd g.fr n none, upd g.φ w.heap.size 0⟩) (n := n + 1) (w := w.alloc (.cells v.cells e)) n 0 (Nat.lt_succ_self _) (upd_same _ _ _)
    rwa [show (Ghost.mk (upd g.β n w.heap.size) (upd g.fr n none) (upd g.φ w.heap.size 0)).β n = w.heap.size from upd_same _ _ _] at this
  · refine ⟨upd_same _ _ _, ?_, v.cells, e, v.cells.toList, ?_, fun i v hi => by simpa using hi, avCells_rel _⟩
    · show upd g.φ w.heap.size 0 (upd g.β n w.heap.size n) = 0
      rw [upd_same, upd_same]
    · show (w.alloc (.cells v.cells e)).heap[upd g.β n w.heap.size n]? = _
      rw [upd_same]; exact heap_alloc_new

/-- An owned block, where its pointer leads. -/
theorem own_run {id : Nat} {cells : List AV} (hH : HRel g n H w) (hg : hget H id = some (.own cells)) : ∃ vs, Run w (g.β id) 0 vs ∧ VRels g n w cells vs := by
  obtain ⟨_, h1, h2, c, el, vs, h3, h4, h5⟩ := hH.ent _ (hget_mem hg)
  refine ⟨vs, fun i v hi => ?_, h5⟩
  simp [World.cell?, h3, h4 i v hi]

theorem vob_run {id ver s : Nat} {cells : List AV} (hH : HRel g n H w) (hg : hget H id = some (.vob ver s cells)) : g.fr id = some ver ∧ ∃ vs, Run w (g.β id) 0 vs ∧ VRels g n w cells vs := by
  obtain ⟨_, h1, h2, c, el, vs, h3, h4, h5⟩ := hH.ent _ (hget_mem hg)
  refine ⟨h1, vs, fun i v hi => ?_, h5⟩
  simp [World.cell?, h3, h4 i v hi]

theorem snd_ld {t : TypeId} {x : Operand} {s : Option Nat} {a : AV} (hc : ldSize P t = some s) (hv : VRel g n w a (ρ x)) (hH : HRel g n H w) (hx : xop P (.ld s) [a] n H K) :
    OpR P ⟨dst, .load t x, type, pos, after, guard⟩ ρ g n w H K := by
  cases a <;> simp only [xop, fop, oK_none] at hx
  case fptr cs =>
    obtain ⟨v, hl, hk⟩ := oK_elim hx
    generalize hρ : ρ x = c at hv
    cases hv with | fptr _ b off vs hf hr hvs =>
    obtain ⟨c, hrun, hrel⟩ := run_loadVar hc hr hvs hl
    exact OpR.value (by simp [execOp, Instr.loadAt, hρ, Instr.sureAddr, hrun]) hrel.up hH hk
  case ptr id off =>
    split at hx
    · rename_i cells hg
      obtain ⟨v, hl, hk⟩ := oK_elim hx
      generalize hρ : ρ x = c at hv
      cases hv with | ptr _ _ hid hk' =>
      obtain ⟨vs, hr, hvs⟩ := own_run hH hg
      obtain ⟨c, hrun, hrel⟩ := run_loadVar hc (b := g.β id) (off := off) (vs := vs.drop off) (by have := hr.drop off; rwa [Nat.zero_add] at this) (hvs.drop off) hl
      exact OpR.value (by simp [execOp, Instr.loadAt, hρ, Instr.sureAddr, hrun]) hrel hH hk
    · exact hx.elim
  case vptr id ver off =>
    obtain ⟨sz, cells, hg, hx⟩ := vget_elim hx
    obtain ⟨v, hl, hk⟩ := oK_elim hx
    generalize hρ : ρ x = c at hv
    cases hv with | vptr _ _ _ a hid hloc =>
    obtain ⟨hfr, vs, hr, hvs⟩ := vob_run hH hg
    obtain ⟨_, hloc⟩ := hloc _ hfr
    have had := hloc rfl
    subst had
    obtain ⟨c, hrun, hrel⟩ := run_loadVar hc (b := g.β id) (off := off) (vs := vs.drop off) (by have := hr.drop off; rwa [Nat.zero_add] at this) (hvs.drop off) hl
    exact OpR.value (by simp [execOp, Instr.loadAt, hρ, Instr.sureAddr, hrun]) hrel hH hk

theorem info_of_underlying {t : TypeId} {d : TypeDesc} (h : P.underlying t = some d) : ∃ i, P.info? t = some i := by
  cases hi : P.info? t with
  | some i => exact ⟨i, rfl⟩
  | none => simp [Program.underlying, hi] at h

theorem run_intArith {op : BinOp} {k : IntKind} {a b : Int} {v : AV} (h : ibin op k a b = some v) (t : TypeId) (hs : op ≠ .shl ∧ op ≠ .shr) :
    ∃ c, (binOp op t (.int k a) (.int k b)).run P w = .ok c w ∧ VRel g n w v c := by
  cases op <;> simp only [ibin, Option.some.injEq, reduceCtorEq] at h <;> try (exact absurd rfl hs.1) <;> try (exact absurd rfl hs.2)
  case add => subst h; exact ⟨_, by simp [binOp, Op.intArith], .int _ _⟩
  case sub => subst h; exact ⟨_, by simp [binOp, Op.intArith], .int _ _⟩
  case mul => subst h; exact ⟨_, by simp [binOp, Op.intArith], .int _ _⟩
  case quo =>
    split at h
    · cases h
    · rename_i hb
      simp only [Option.some.injEq] at h; subst h; exact ⟨_, by simp [binOp, Op.intDiv, hb], .int _ _⟩
  case rem =>
    split at h
    · cases h
    · rename_i hb
      simp only [Option.some.injEq] at h; subst h; exact ⟨_, by simp [binOp, Op.intDiv, hb], .int _ _⟩
  case and => subst h; exact ⟨_, by simp [binOp, Op.intBits], .int _ _⟩
  case or => subst h; exact ⟨_, by simp [binOp, Op.intBits], .int _ _⟩
  case eql => subst h; exact ⟨_, by simp [binOp, Op.intCmp], .bool _⟩
  case neq => subst h; exact ⟨_, by simp [binOp, Op.intCmp], .bool _⟩
  case lss => subst h; exact ⟨_, by simp [binOp, Op.intCmp], .bool _⟩
  case leq => subst h; exact ⟨_, by simp [binOp, Op.intCmp], .bool _⟩
  case gtr => subst h; exact ⟨_, by simp [binOp, Op.intCmp], .bool _⟩
  case geq => subst h; exact ⟨_, by simp [binOp, Op.intCmp], .bool _⟩

theorem run_ishift {op : BinOp} {k k' : IntKind} {a b : Int} {v : AV} (h : ishift op k a b = some v) (t : TypeId) (hs : op = .shl ∨ op = .shr) :
    ∃ c, (binOp op t (.int k a) (.int k' b)).run P w = .ok c w ∧ VRel g n w v c := by
  unfold ishift at h
  split at h
  · cases h
  · rename_i hb
    rcases hs with rfl | rfl
    · simp only [Option.some.injEq] at h; subst h; exact ⟨_, by simp [binOp, Op.shift, hb], .int _ _⟩
    · simp only [Option.some.injEq] at h; subst h; exact ⟨_, by simp [binOp, Op.shift, hb], .int _ _⟩

theorem run_sbin {op : BinOp} {a b : List UInt8} {v : AV} (h : sbin op a b = some v) (t : TypeId) :
    ∃ c, (binOp op t (.string ⟨a.toArray⟩) (.string ⟨b.toArray⟩)).run P w = .ok c w ∧ VRel g n w v c := by
  cases op <;> simp only [sbin, Option.some.injEq, reduceCtorEq] at h
  case add =>
    split at h
    · rename_i hl
      simp only [Option.some.injEq] at h; subst h
      have e : (⟨a.toArray⟩ ++ ⟨b.toArray⟩ : ByteArray) = ⟨(a ++ b).toArray⟩ := by
        apply ByteArray.ext; simp [ByteArray.data_append]
      have hsz : ¬ ((((⟨a.toArray⟩ : ByteArray).size + (⟨b.toArray⟩ : ByteArray).size : Nat) : Int) > IntKind.i64.max) := by
        have e1 : (⟨a.toArray⟩ : ByteArray).size = a.length := by simp [ByteArray.size]
        have e2 : (⟨b.toArray⟩ : ByteArray).size = b.length := by simp [ByteArray.size]
        rw [e1, e2, IntKind.max_i64]
        omega
      refine ⟨.string ⟨(a ++ b).toArray⟩, ?_, .str _⟩
      simp only [binOp, Op.stringOp]
      rw [if_neg hsz, e]
      rfl
    · cases h
  case eql => subst h; exact ⟨_, by simp [binOp, Op.stringOp], .bool _⟩
  case neq => subst h; exact ⟨_, by simp [binOp, Op.stringOp], .bool _⟩

end Go.Ab
end
section
namespace Go.Ab
set_option linter.unusedVariables false
set_option linter.unusedSimpArgs false

variable {P : Program} {g : Ghost} {n : Nat} {w : World} {H : Heap} {ρ : Operand → Value} {K : AV → Nat → Heap → Prop}
  {dst : Option Tmp} {type : TypeId} {pos : String} {after : Array Edge} {guard : Option (Nat × Bool)}

theorem eqGuard_plain {op : BinOp} {t : TypeId} {x y : Operand} {a b : Value} (h1 : a ≠ .nilIface) (h2 : ∀ cs, a ≠ .agg cs) : eqGuard op t x y a b = pure () := by
  cases a with
  | bool b => exact eqGuard_at_bool ..
  | int k i => exact eqGuard_at_int ..
  | float k i => exact eqGuard_at_float ..
  | complex k i j => exact eqGuard_at_complex ..
  | string s => exact eqGuard_at_string ..
  | pointer a => exact eqGuard_at_pointer ..
  | slice a n m => exact eqGuard_at_slice ..
  | map r => exact eqGuard_at_map ..
  | chan r => exact eqGuard_at_chan ..
  | func f a c => exact eqGuard_at_func ..
  | nilFunc => exact eqGuard_at_nilFunc ..
  | iface d u => exact eqGuard_at_iface ..
  | nilIface => exact absurd rfl h1
  | agg cs => exact absurd rfl (h2 cs)
  | tuple a => exact eqGuard_at_tuple ..

theorem run_equalIn_slice_nil (d : Nat) (t e : TypeId) (a : Option Addr) (l c : Nat) (h : P.underlying t = some (.slice e)) : (Op.equalIn (d + 1) t (.slice a l c) (.slice none 0 0)).run P w = .ok a.isNone w := by
  cases a <;> simp [Op.equalIn, run_underlying h]
theorem run_equal_slice_nil (t e : TypeId) (a : Option Addr) (l c : Nat) (h : P.underlying t = some (.slice e)) : (Op.equal t (.slice a l c) (.slice none 0 0)).run P w = .ok a.isNone w := run_equalIn_slice_nil 9999 t e a l c h
theorem run_eql_slice_nil (t e : TypeId) (a : Option Addr) (l c : Nat) (h : P.underlying t = some (.slice e)) : (binOp .eql t (.slice a l c) (.slice none 0 0)).run P w = .ok (.bool a.isNone) w := by
  simp [binOp, run_equal_slice_nil t e a l c h]

/-- Integers and strings. -/
theorem snd_bin {op : BinOp} {t yt : TypeId} {x y : Operand} {a b : AV}
    (ha : VRel g n w a (ρ x)) (hb : VRel g n w b (ρ y)) (hH : HRel g n H w) (hx : xop P (.bin op) [a, b] n H K) : OpR P ⟨dst, .binOp op t x y yt, type, pos, after, guard⟩ ρ g n w H K := by
  have fin : ∀ {u v : Value} {r : AV}, ρ x = u → ρ y = v → u ≠ .nilIface → (∀ cs, u ≠ .agg cs) → (∃ c, (binOp op t u v).run P w = .ok c w ∧ VRel g n w r c) → K r n H →
      OpR P ⟨dst, .binOp op t x y yt, type, pos, after, guard⟩ ρ g n w H K := by
    rintro u v r e1 e2 h1 h2 ⟨c, hrun, hrel⟩ hk
    exact OpR.value (by simp [execOp, e1, e2, eqGuard_plain h1 h2, hrun]) hrel hH hk
  generalize hx1 : ρ x = u at ha
  generalize hx2 : ρ y = v at hb
  cases ha <;> cases hb <;> (try (simp only [xop, fop, oK_none] at hx; done))
  case int.int k i k' i' =>
    by_cases hsh : op = .shl ∨ op = .shr
    · have hx' : oK (ishift op k i i') fun v => K v n H := by
        rcases hsh with rfl | rfl <;> simpa only [xop, fop] using hx
      obtain ⟨r, hr, hk⟩ := oK_elim hx'
      exact fin hx1 hx2 (by simp) (by simp) (run_ishift hr t hsh) hk
    · have hns : op ≠ .shl ∧ op ≠ .shr := ⟨fun e => hsh (.inl e), fun e => hsh (.inr e)⟩
      have hx' : oK (if k = k' then ibin op k i i' else none) fun v => K v n H := by
        cases op <;> first | (exact absurd rfl hns.1) | (exact absurd rfl hns.2) | simpa only [xop, fop] using hx
      obtain ⟨r, hr, hk⟩ := oK_elim hx'
      split at hr
      · rename_i hkk; subst hkk
        exact fin hx1 hx2 (by simp) (by simp) (run_intArith hr t hns) hk
      · cases hr
  case str.str p q =>
    have hx' : oK (sbin op p q) fun v => K v n H := by simpa only [xop, fop] using hx
    obtain ⟨r, hr, hk⟩ := oK_elim hx'
    exact fin hx1 hx2 (by simp) (by simp) (run_sbin hr t) hk

/-- Bools. -/
theorem snd_binB {op : BinOp} {t yt : TypeId} {x y : Operand} {a b : AV} (ht : P.underlying t = some .bool) (hop : op = .eql ∨ op = .neq)
    (ha : VRel g n w a (ρ x)) (hb : VRel g n w b (ρ y)) (hH : HRel g n H w) (hx : xop P (.binB (op == .neq)) [a, b] n H K) : OpR P ⟨dst, .binOp op t x y yt, type, pos, after, guard⟩ ρ g n w H K := by
  generalize hx1 : ρ x = u at ha
  generalize hx2 : ρ y = v at hb
  cases ha <;> cases hb <;> simp only [xop, fop, oK_none, oK_some] at hx
  rename_i p q
  rcases hop with rfl | rfl
  · refine OpR.value (c := .bool (p == q)) (by simp only [execOp, hx1, hx2, eqGuard_at_bool, Sem.run_bind, Sem.run_pure, Result.andThen_ok, run_eql_bool w t p q ht]) (.bool _) hH ?_
    simpa using hx
  · refine OpR.value (c := .bool (!(p == q))) (by simp only [execOp, hx1, hx2, eqGuard_at_bool, Sem.run_bind, Sem.run_pure, Result.andThen_ok, run_neq_bool w t p q ht]) (.bool _) hH ?_
    have e : (!(p == q)) = (p != q) := rfl
    rw [e]
    simpa using hx

/-- A slice against nil. -/
theorem snd_eqNil {t yt e : TypeId} {x y : Operand} {a b : AV} (he : P.underlying t = some (.slice e))
    (ha : VRel g n w a (ρ x)) (hb : VRel g n w b (ρ y)) (hH : HRel g n H w) (hx : xop P .eqNil [a, b] n H K) : OpR P ⟨dst, .binOp .eql t x y yt, type, pos, after, guard⟩ ρ g n w H K := by
  have nilcase : ∀ {ad l c}, ρ x = .slice ad l c → ρ y = .slice none 0 0 → (∃ u : Bool, K (.bool u) n H ∧ u = ad.isNone) → OpR P ⟨dst, .binOp .eql t x y yt, type, pos, after, guard⟩ ρ g n w H K := by
    rintro ad l c e1 e2 ⟨u, hu, rfl⟩
    exact OpR.value (c := .bool ad.isNone) (by simp only [execOp, e1, e2, eqGuard_at_slice, Sem.run_bind, Sem.run_pure, Result.andThen_ok, run_eql_slice_nil t e ad l c he]) (.bool _) hH hu
  generalize hx1 : ρ x = u at ha
  generalize hx2 : ρ y = v at hb
  cases ha <;> cases hb <;> simp only [xop, fop, oK_none] at hx
  case nilsl.nilsl => exact nilcase hx1 hx2 ⟨true, hx, rfl⟩
  case sl.nilsl rows s ad b off cap vs hne hc hs hf hr hv =>
    refine nilcase hx1 hx2 ⟨ad.isNone, ?_, rfl⟩
    cases ad with
    | some _ => exact hx.1
    | none => exact hx.2 (Classical.byContradiction fun h => by have := hne h; cases this)
  case acc.nilsl id s rows ad b off cap vs hne hc hs hf hr hv hid hl =>
    refine nilcase hx1 hx2 ⟨ad.isNone, ?_, rfl⟩
    cases ad with
    | some _ => exact hx.1
    | none => exact hx.2 (Classical.byContradiction fun h => by have := hne h; cases this)
  case vec.nilsl id ver s off len ad cap hid hl =>
    obtain ⟨sz, cells, hg, hk⟩ := vget_elim hx
    obtain ⟨_, hloc⟩ := hl _ (vob_run hH hg).1
    obtain ⟨had, _⟩ := hloc rfl
    subst had
    exact nilcase hx1 hx2 ⟨false, hk, rfl⟩

theorem snd_un {op : UnOp} {t : TypeId} {x : Operand} {a : AV} (ha : VRel g n w a (ρ x)) (hH : HRel g n H w) (hx : xop P (.un op) [a] n H K) : OpR P ⟨dst, .unOp op t x, type, pos, after, guard⟩ ρ g n w H K := by
  generalize hx1 : ρ x = u at ha
  cases ha <;> cases op <;> simp only [xop, fop, oK_none, oK_some] at hx
  · exact OpR.value (by simp [execOp, hx1, Op.unary]) (.bool _) hH hx
  · exact OpR.value (by simp [execOp, hx1, Op.unary, Op.intArith]) (.int _ _) hH hx

theorem snd_cvI {src d : TypeId} {sk k : IntKind} {x : Operand} {a : AV} (hs : P.underlying src = some (.int sk)) (hd : P.underlying d = some (.int k)) (ha : VRel g n w a (ρ x)) (hH : HRel g n H w)
    (hx : xop P (.cvI k) [a] n H K) : OpR P ⟨dst, .convert src d x, type, pos, after, guard⟩ ρ g n w H K := by
  generalize hx1 : ρ x = u at ha
  cases ha <;> simp only [xop, fop, oK_none, oK_some] at hx
  exact OpR.value (by simp [execOp, hx1, convert, run_underlying hs, run_underlying hd, Conv.intToInt]) (.int _ _) hH hx

theorem snd_cvIS {src d : TypeId} {sk : IntKind} {x : Operand} {a : AV} (hs : P.underlying src = some (.int sk)) (hd : P.underlying d = some .string) (ha : VRel g n w a (ρ x)) (hH : HRel g n H w)
    (hx : xop P .cvIS [a] n H K) : OpR P ⟨dst, .convert src d x, type, pos, after, guard⟩ ρ g n w H K := by
  generalize hx1 : ρ x = u at ha
  cases ha <;> simp only [xop, fop, oK_none, oK_some] at hx
  rename_i i
  refine OpR.value (c := .string (Utf8.encode i)) (by simp [execOp, hx1, convert, run_underlying hs, run_underlying hd, Conv.intToString]) ?_ hH hx
  exact .str (Utf8.encode i).data.toList

theorem snd_cvSS {src d : TypeId} {x : Operand} {a : AV} (hs : P.underlying src = some .string) (hd : P.underlying d = some .string) (ha : VRel g n w a (ρ x)) (hH : HRel g n H w)
    (hx : xop P .cvSS [a] n H K) : OpR P ⟨dst, .convert src d x, type, pos, after, guard⟩ ρ g n w H K := by
  generalize hx1 : ρ x = u at ha
  cases ha <;> simp only [xop, fop, oK_none, oK_some] at hx
  exact OpR.value (by simp [execOp, hx1, convert, run_underlying hs, run_underlying hd]) (.str _) hH hx

theorem snd_mkfn {f : FuncId} {first cap : Array Operand} {as : List AV} (hf : first.size = 0) (ha : VRels g n w as ((first ++ cap).toList.map ρ)) (hH : HRel g n H w)
    (hx : xop P (.mkfn f) as n H K) : OpR P ⟨dst, .makeFunc (.func f) first cap, type, pos, after, guard⟩ ρ g n w H K := by
  simp only [xop, fop, oK_some] at hx
  have e1 : first = #[] := Array.eq_empty_of_size_eq_zero hf
  subst e1
  refine OpR.value (c := .func (.func f) #[] (cap.map ρ)) (by simp [execOp, Instr.makeFunc]) ?_ hH hx
  have := VRel.fn (g := g) (n := n) (w := w) f as (cap.toList.map ρ) (by simpa using ha)
  rwa [show (cap.toList.map ρ).toArray = cap.map ρ by apply Array.ext'; simp] at this

/-- The bounds of a slice expression as the model takes them. -/
theorem bnds_run {lo hi : Option Operand} {bs : List AV} {len l h : Int} (hb : bnds lo.isSome hi.isSome len bs = some (l, h)) (hv : VRels g n w bs ((lo.toList ++ hi.toList).map ρ)) :
    (match lo.map ρ with | none => l = 0 | some v => ∃ k, v = .int k l) ∧ (match hi.map ρ with | none => h = len | some v => ∃ k, v = .int k h) := by
  cases lo with
  | none => cases hi with
    | none =>
      cases hv
      simp [bnds] at hb
      exact ⟨hb.1.symm, hb.2.symm⟩
    | some hi =>
      simp only [Option.toList, List.nil_append, List.map_cons, List.map_nil] at hv
      generalize hc : ρ hi = u at hv
      cases hv with | cons a _ _ _ h1 t =>
      cases t
      cases h1 <;> simp [bnds] at hb
      obtain ⟨rfl, rfl⟩ := hb
      exact ⟨rfl, by simp [hc]⟩
  | some lo => cases hi with
    | none =>
      simp only [Option.toList, List.append_nil, List.map_cons, List.map_nil] at hv
      generalize hc : ρ lo = u at hv
      cases hv with | cons a _ _ _ h1 t =>
      cases t
      cases h1 <;> simp [bnds] at hb
      obtain ⟨rfl, rfl⟩ := hb
      exact ⟨by simp [hc], rfl⟩
    | some hi =>
      simp only [Option.toList, List.cons_append, List.nil_append, List.map_cons, List.map_nil] at hv
      generalize hc : ρ lo = u at hv
      generalize hc2 : ρ hi = u2 at hv
      cases hv with | cons a _ _ _ h1 t =>
      cases t with | cons a2 _ _ _ h2 t =>
      cases t
      cases h1 <;> cases h2 <;> simp [bnds] at hb
      obtain ⟨rfl, rfl⟩ := hb
      exact ⟨by simp [hc], by simp [hc2]⟩

theorem run_bounds {isSl : Bool} {lo hi : Option Value} {len cap : Nat} {l h : Int} (hl : match lo with | none => l = 0 | some v => ∃ k, v = .int k l) (hh : match hi with | none => h = (len : Int) | some v => ∃ k, v = .int k h)
    (h0 : 0 ≤ l) (h1 : l ≤ h) (h2 : h ≤ cap) : (Instr.sliceBounds isSl len cap lo hi none).run P w = .ok (l.toNat, h.toNat, cap) w := by
  have e0 : 0 ≤ h := by omega
  have eh : ((h.toNat : Nat) : Int) = h := Int.toNat_of_nonneg e0
  cases lo <;> cases hi <;> simp only at hl hh
  · subst hl hh; simp [Instr.sliceBounds]
  · obtain ⟨k, rfl⟩ := hh; subst hl
    simp [Instr.sliceBounds, run_sliceBound, h2, e0]
  · obtain ⟨k, rfl⟩ := hl; subst hh
    simp [Instr.sliceBounds, run_sliceBound, h0, h1]
  · obtain ⟨k, rfl⟩ := hl; obtain ⟨k', rfl⟩ := hh
    simp [Instr.sliceBounds, run_sliceBound, h0, h1, h2, e0, eh]

theorem snd_slS {t : TypeId} {x : Operand} {lo hi : Option Operand} {as : List AV} (ht : P.underlying t = some .string) (ha : VRels g n w as (ρ x :: (lo.toList ++ hi.toList).map ρ)) (hH : HRel g n H w)
    (hx : xop P (.slS lo.isSome hi.isSome) as n H K) : OpR P ⟨dst, .slice t x lo hi none, type, pos, after, guard⟩ ρ g n w H K := by
  generalize hx1 : ρ x = u at ha
  cases ha with | cons a _ bs _ h1 tl =>
  cases h1 <;> simp only [xop, fop, oK_none] at hx
  rename_i s
  obtain ⟨v, hv1, hk⟩ := oK_elim hx
  split at hv1
  · rename_i l h hb
    split at hv1
    · rename_i hle
      simp only [Option.some.injEq] at hv1; subst hv1
      obtain ⟨c1, c2⟩ := bnds_run hb tl
      have hsz : (⟨s.toArray⟩ : ByteArray).size = s.length := by simp [ByteArray.size]
      have hrun := run_bounds (P := P) (w := w) (isSl := false) (len := (⟨s.toArray⟩ : ByteArray).size) (cap := (⟨s.toArray⟩ : ByteArray).size) c1 (by rw [hsz]; exact c2) hle.1 hle.2.1 (by rw [hsz]; exact hle.2.2)
      refine OpR.value (c := .string ((⟨s.toArray⟩ : ByteArray).extract l.toNat h.toNat)) ?_ ?_ hH hk
      · simp [execOp, hx1, Instr.sliceAt, run_underlying ht, Instr.slice, hrun]
      · have e : (⟨s.toArray⟩ : ByteArray).extract l.toNat h.toNat = ⟨((s.take h.toNat).drop l.toNat).toArray⟩ := by
          apply ByteArray.ext
          simp [ByteArray.data_extract, List.extract_eq_take_drop, List.drop_take]
        rw [e]
        exact .str _
    · cases hv1
  · cases hv1

theorem VRel.sl_part {rows : List (List AV)} {s size : Nat} {ad : Option Addr} {b off cap : Nat} {vs : List Value} (hne : rows ≠ [] → ad = some ⟨b, off, none⟩) (hc : rows.length ≤ cap)
    (hs : ∀ r ∈ rows, r.length = s) (hf : rows ≠ [] → off + rows.length * s ≤ g.φ b) (hr : Run w b off vs) (hv : VRels g 0 w rows.flatten vs) (hok : rowsOk size rows) {l h : Nat} (h1 : l ≤ h) (h2 : h ≤ rows.length) :
    VRel g n w (.sl ((rows.take h).drop l)) (sliced ad l h cap size) := by
  have hlen : ((rows.take h).drop l).length = h - l := by simp; omega
  unfold sliced
  rw [← hlen]
  by_cases he : (rows.take h).drop l = []
  · rw [he]
    exact .sl [] s _ 0 0 _ [] (fun e => absurd rfl e) (Nat.zero_le _) (by simp) (fun e => absurd rfl e) (fun i v hi => by simp at hi) .nil
  · have hrows : rows ≠ [] := by intro e; subst e; simp at he
    have hpos : l < h := by
      rcases Nat.lt_or_ge l h with h' | h'
      · exact h'
      · exact absurd (List.eq_nil_of_length_eq_zero (by rw [hlen]; omega)) he
    have hss := rowsOk_s hs hok hrows
    subst hss
    have had := hne hrows
    subst had
    rw [if_neg (by omega)]
    simp only [Option.map_some, Addr.add_lit]
    have hfl : ((rows.take h).drop l).flatten = (rows.flatten.take (h * s)).drop (l * s) := by
      rw [flatten_take hs h, flatten_drop (fun r hr => hs r (List.mem_of_mem_take hr)) l]
    refine .sl _ s _ b (off + l * s) _ ((vs.take (h * s)).drop (l * s)) (fun _ => rfl) (by rw [hlen]; omega) (fun r hr => hs r (List.mem_of_mem_take (List.mem_of_mem_drop hr))) (fun _ => ?_) ((hr.take _).drop _) ?_
    · have h3 := hf hrows
      have h4 : l * s + (h - l) * s = h * s := by rw [← Nat.add_mul]; congr 1; omega
      have h5 : h * s ≤ rows.length * s := Nat.mul_le_mul_right s h2
      rw [hlen]; omega
    · rw [hfl]; exact (hv.take _).drop _

theorem sliced_own {b off len cap l h s : Nat} (h1 : l ≤ h) (h2 : h ≤ len) (hc : len ≤ cap) (h3 : l = 0 ∨ l < len) : sliced (some ⟨b, off, none⟩) l h cap s = .slice (some ⟨b, off + l * s, none⟩) (h - l) (cap - l) := by
  unfold sliced
  by_cases hcl : cap = l
  · have : l = 0 := by omega
    subst this
    rw [if_pos hcl]
    simp
  · rw [if_neg hcl]; simp [Addr.add_lit]
theorem room_part {b off cap l s : Nat} (hr : room w b (off + cap * s)) (h : l ≤ cap) : room w b (off + l * s + (cap - l) * s) := by
  obtain ⟨c, el, fz, h1, h2⟩ := hr
  refine ⟨c, el, fz, h1, ?_⟩
  rw [Nat.add_assoc, ← Nat.add_mul]
  rwa [show l + (cap - l) = cap by omega]

theorem snd_slL {t e : TypeId} {i : TypeInfo} {x : Operand} {lo hi : Option Operand} {as : List AV} (ht : P.underlying t = some (.slice e)) (hi' : P.info? e = some i) (ha : VRels g n w as (ρ x :: (lo.toList ++ hi.toList).map ρ)) (hH : HRel g n H w)
    (hx : xop P (.slL i.size lo.isSome hi.isSome) as n H K) : OpR P ⟨dst, .slice t x lo hi none, type, pos, after, guard⟩ ρ g n w H K := by
  generalize hx1 : ρ x = u at ha
  cases ha with | cons a _ bs _ h1 tl =>
  have key : ∀ {rows : List (List AV)} {ad : Option Addr} {cap : Nat} {r : AV}, ρ x = .slice ad rows.length cap → rows.length ≤ cap →
      (∀ {l h : Nat}, l ≤ h → h ≤ rows.length → rowsOk i.size rows → VRel g n w (.sl ((rows.take h).drop l)) (sliced ad l h cap i.size)) →
      (match bnds lo.isSome hi.isSome rows.length bs with | some (l, h) => if rowsOk i.size rows then sliceRows rows l h else none | none => none) = some r → K r n H →
      OpR P ⟨dst, .slice t x lo hi none, type, pos, after, guard⟩ ρ g n w H K := by
    intro rows ad cap r hx1 hcap hpart hv1 hk
    split at hv1
    · rename_i l h hb
      split at hv1
      · rename_i hok
        unfold sliceRows at hv1
        split at hv1
        · rename_i hle
          simp only [Option.some.injEq] at hv1; subst hv1
          obtain ⟨c1, c2⟩ := bnds_run hb tl
          have hrun := run_bounds (P := P) (w := w) (isSl := true) (len := rows.length) (cap := cap) c1 c2 hle.1 hle.2.1 (by omega)
          refine OpR.value (c := sliced ad l.toNat h.toNat cap i.size) ?_ (hpart (by omega) (by omega) hok) hH hk
          simp [execOp, hx1, Instr.sliceAt, run_underlying ht, Instr.slice, hrun, sizeOf, typeInfo, hi', sliced]
        · cases hv1
      · cases hv1
    · cases hv1
  cases h1 <;> simp only [xop, fop, oK_none] at hx
  case sl rows s ad b off cap vs hne hc hs hf hr hv =>
    obtain ⟨v, hv1, hk⟩ := oK_elim hx
    exact key hx1 hc (fun h1 h2 hok => VRel.sl_part hne hc hs hf hr hv hok h1 h2) hv1 hk
  case acc id s rows ad b off cap vs hne hc hs hf hid hr hv hl =>
    obtain ⟨v, hv1, hk⟩ := oK_elim hx
    exact key hx1 hc (fun h1 h2 hok => VRel.sl_part hne hc hs hf hr hv hok h1 h2) hv1 hk
  case ref id s off len cap hk' hc hid hr =>
    obtain ⟨v, hv1, hk⟩ := oK_elim hx
    split at hv1
    · rename_i l h hb
      split at hv1
      · rename_i hle
        simp only [Option.some.injEq] at hv1; subst hv1
        obtain ⟨h1, h2, h3, h4, rfl⟩ := hle
        obtain ⟨c1, c2⟩ := bnds_run hb tl
        have hrun := run_bounds (P := P) (w := w) (isSl := true) (len := len) (cap := cap) c1 c2 h1 h2 (by omega)
        refine OpR.value (c := sliced (some ⟨g.β id, off, none⟩) l.toNat h.toNat cap i.size) ?_ ?_ hH hk
        · simp [execOp, hx1, Instr.sliceAt, run_underlying ht, Instr.slice, hrun, sizeOf, typeInfo, hi', sliced]
        · rw [sliced_own (len := len) (by omega) (by omega) hc (by omega)]
          have e : (h - l).toNat = h.toNat - l.toNat := by omega
          rw [e]
          exact .ref id i.size _ _ _ hid hk' (by omega) (room_part hr (by omega))
      · cases hv1
    · cases hv1
  case vec id ver s off len ad cap hid hl =>
    obtain ⟨sz, cells, hg, hx⟩ := vget_elim hx
    obtain ⟨⟨l, h⟩, hb, ⟨h1, h2, h3, h4, rfl⟩, hk⟩ := oK_elim hx
    dsimp only at h1 h2 h3 h4 hk
    have hfr := (vob_run hH hg).1
    obtain ⟨_, hloc⟩ := hl _ hfr
    obtain ⟨had, hc, hr⟩ := hloc rfl
    subst had
    obtain ⟨c1, c2⟩ := bnds_run hb tl
    have hrun := run_bounds (P := P) (w := w) (isSl := true) (len := len) (cap := cap) c1 c2 h1 h2 (by omega)
    refine OpR.value (c := sliced (some ⟨g.β id, off, none⟩) l.toNat h.toNat cap i.size) ?_ ?_ hH hk
    · simp [execOp, hx1, Instr.sliceAt, run_underlying ht, Instr.slice, hrun, sizeOf, typeInfo, hi', sliced]
    · rw [sliced_own (len := len) (by omega) (by omega) hc (by omega)]
      have e : (h - l).toNat = h.toNat - l.toNat := by omega
      rw [e]
      refine .vec id ver i.size _ _ _ _ hid fun m hm => ?_
      rw [hfr] at hm; cases hm
      exact ⟨Nat.le_refl _, fun _ => ⟨rfl, by omega, room_part hr (by omega)⟩⟩

theorem snd_fldA {t : TypeId} {fs : Array Field} {fd : Field} {f : Nat} {x : Operand} {a : AV} (ht : fieldsOf P t = some fs) (hf : fs[f]? = some fd) (hi : (P.info? fd.type).isSome) (hz : P.cellsOf fd.type ≠ 0)
    (ha : VRel g n w a (ρ x)) (hH : HRel g n H w) (hx : xop P (.fldA fd.offset) [a] n H K) : OpR P ⟨dst, .fieldAddr t x f, type, pos, after, guard⟩ ρ g n w H K := by
  have hu : P.underlying t = some (.struct fs) := by
    unfold fieldsOf at ht
    split at ht
    · rename_i fs' h; simp only [Option.some.injEq] at ht; subst ht; exact h
    · cases ht
  obtain ⟨i, hi⟩ := Option.isSome_iff_exists.mp hi
  have hz' : i.size ≠ 0 := by simpa [Program.cellsOf, hi] using hz
  have run : ∀ b o, ρ x = .pointer (some ⟨b, o, none⟩) → (execOp ρ ⟨dst, .fieldAddr t x f, type, pos, after, guard⟩).run P w = .ok (.value (.pointer (some ⟨b, o + fd.offset, none⟩))) w := by
    intro b o e
    simp [execOp, e, Instr.fieldAt, run_underlying hu, hf, Instr.sureAddr, fieldPlace, sizeOf, typeInfo, hi, hz', Addr.add_lit]
  generalize hx1 : ρ x = u at ha
  cases ha <;> simp only [xop, fop, oK_none, oK_some] at hx
  case fptr cs b off vs hf' hr hv =>
    obtain ⟨v, hv1, hk⟩ := oK_elim hx
    split at hv1
    · rename_i hle
      simp only [Option.some.injEq] at hv1; subst hv1
      refine OpR.value (run _ _ hx1) ?_ hH hk
      refine .fptr _ b (off + fd.offset) (vs.drop fd.offset) ?_ (hr.drop _) (hv.drop _)
      rw [List.length_drop]; omega
    · cases hv1
  case ptr id off hk' hid =>
    exact OpR.value (run _ _ hx1) (.ptr _ _ hid hk') hH hx
  case vptr id ver off a hl hid =>
    obtain ⟨sz, cells, hg, hk⟩ := vget_elim hx
    have hfr := (vob_run hH hg).1
    obtain ⟨_, hloc⟩ := hl _ hfr
    have had := hloc rfl
    subst had
    refine OpR.value (run _ _ hx1) (.vptr _ _ _ _ hid fun m hm => ?_) hH hk
    rw [hfr] at hm; cases hm
    exact ⟨Nat.le_refl _, fun _ => rfl⟩

theorem run_isAgg_of {t : TypeId} {s : Option Nat} (hs : ldSize P t = some s) : (isAgg t).run P w = .ok s.isSome w ∧ (∀ k, s = some k → ∃ i, P.info? t = some i ∧ i.size = k) := by
  unfold ldSize at hs
  cases hu : P.underlying t with
  | none => rw [hu] at hs; cases hs
  | some d =>
    rw [hu] at hs
    obtain ⟨i, hi⟩ := info_of_underlying hu
    cases d <;> simp at hs <;> subst hs <;> refine ⟨by simp [isAgg, run_underlying hu], fun k hk => ?_⟩ <;> (try cases hk) <;> exact ⟨i, hi, by simp [Program.cellsOf, hi]⟩

theorem snd_fld {t : TypeId} {fs : Array Field} {fd : Field} {f : Nat} {x : Operand} {a : AV} {s : Option Nat} (ht : fieldsOf P t = some fs) (hf : fs[f]? = some fd) (hs : ldSize P fd.type = some s)
    (ha : VRel g n w a (ρ x)) (hH : HRel g n H w) (hx : xop P (.fld fd.offset s) [a] n H K) : OpR P ⟨dst, .field t x f, type, pos, after, guard⟩ ρ g n w H K := by
  have hu : P.underlying t = some (.struct fs) := by
    unfold fieldsOf at ht
    split at ht
    · rename_i fs' h; simp only [Option.some.injEq] at ht; subst ht; exact h
    · cases ht
  obtain ⟨h1, h2⟩ := run_isAgg_of (w := w) hs
  generalize hx1 : ρ x = u at ha
  cases ha <;> cases s <;> simp only [xop, fop, oK_none, oK_some] at hx
  case agg.none cs vs hv =>
    obtain ⟨v, hv1, hk⟩ := oK_elim hx
    obtain ⟨c, hc, hrel⟩ := hv.get _ _ hv1
    exact OpR.value (by simp [execOp, hx1, Instr.field, run_underlying hu, hf, asAgg, part, h1, hc]) hrel hH hk
  case agg.some cs vs hv s =>
    obtain ⟨v, hv1, hk⟩ := oK_elim hx
    split at hv1
    · rename_i hle
      simp only [Option.some.injEq] at hv1; subst hv1
      obtain ⟨i, hi, hsz⟩ := h2 s rfl
      refine OpR.value (c := .agg ((vs.drop fd.offset).take s).toArray) ?_ (.agg _ _ ((hv.drop _).take _)) hH hk
      simp [execOp, hx1, Instr.field, run_underlying hu, hf, asAgg, part, h1, sizeOf, typeInfo, hi, hsz, List.extract_eq_take_drop]
    · cases hv1

theorem snd_idxA {t e : TypeId} {i : TypeInfo} {x y : Operand} {a b : AV} (ht : P.underlying t = some (.slice e)) (hi : P.info? e = some i) (ha : VRel g n w a (ρ x)) (hb : VRel g n w b (ρ y)) (hH : HRel g n H w)
    (hx : xop P (.idxA i.size) [a, b] n H K) : OpR P ⟨dst, .indexAddr t x y, type, pos, after, guard⟩ ρ g n w H K := by
  have run : ∀ bl o len cap k (j : Int), ρ x = .slice (some ⟨bl, o, none⟩) len cap → ρ y = .int k j → 0 ≤ j → j < len →
      (execOp ρ ⟨dst, .indexAddr t x y, type, pos, after, guard⟩).run P w = .ok (.value (.pointer (some ⟨bl, o + j.toNat * i.size, none⟩))) w := by
    intro bl o len cap k j e1 e2 h0 h1
    simp [execOp, e1, e2, Instr.indexAt, run_underlying ht, asIntOf, h0, h1, sizeOf, typeInfo, hi, Addr.add_lit]
  generalize hx1 : ρ x = u at ha
  generalize hx2 : ρ y = v at hb
  cases ha <;> cases hb <;> simp only [xop, fop, oK_none, oK_some] at hx
  case sl.int rows s ad b off cap vs hne hc hs hf hr hv k j =>
    obtain ⟨v, hv1, hk⟩ := oK_elim hx
    split at hv1
    · rename_i hle
      simp only [Option.some.injEq] at hv1; subst hv1
      have hne' : rows ≠ [] := by intro e; subst e; simp at hle; omega
      have had := hne hne'
      subst had
      exact OpR.value (run _ _ _ _ _ _ hx1 hx2 hle.1 hle.2.1) (row_ptr hs hle.2.2 hf hr hv (by omega)) hH hk
    · cases hv1
  case acc.int id s rows ad b off cap vs hne hc hs hf hid hr hv hl k j =>
    obtain ⟨v, hv1, hk⟩ := oK_elim hx
    split at hv1
    · rename_i hle
      simp only [Option.some.injEq] at hv1; subst hv1
      have hne' : rows ≠ [] := by intro e; subst e; simp at hle; omega
      have had := hne hne'
      subst had
      exact OpR.value (run _ _ _ _ _ _ hx1 hx2 hle.1 hle.2.1) (row_ptr hs hle.2.2 hf hr hv (by omega)) hH hk
    · cases hv1
  case ref.int id s off len cap hk' hc hid hr k j =>
    obtain ⟨v, hv1, hk⟩ := oK_elim hx
    split at hv1
    · rename_i hle
      simp only [Option.some.injEq] at hv1; subst hv1
      obtain ⟨h0, h1, rfl⟩ := hle
      exact OpR.value (run _ _ _ _ _ _ hx1 hx2 h0 h1) (.ptr _ _ hid hk') hH hk
    · cases hv1
  case vec.int id ver s off len ad cap hid hl k j =>
    obtain ⟨sz, cells, hg, ⟨h0, h1, rfl⟩, hk⟩ := vget_elim hx
    have hfr := (vob_run hH hg).1
    obtain ⟨_, hloc⟩ := hl _ hfr
    obtain ⟨had, _⟩ := hloc rfl
    subst had
    refine OpR.value (run _ _ _ _ _ _ hx1 hx2 h0 h1) (.vptr _ _ _ _ hid fun m hm => ?_) hH hk
    rw [hfr] at hm; cases hm
    exact ⟨Nat.le_refl _, fun _ => rfl⟩

theorem snd_idxS {t : TypeId} {x y : Operand} {a b : AV} (ht : P.underlying t = some .string) (ha : VRel g n w a (ρ x)) (hb : VRel g n w b (ρ y)) (hH : HRel g n H w)
    (hx : xop P .idxS [a, b] n H K) : OpR P ⟨dst, .index t x y, type, pos, after, guard⟩ ρ g n w H K := by
  generalize hx1 : ρ x = u at ha
  generalize hx2 : ρ y = v at hb
  cases ha <;> cases hb <;> simp only [xop, fop, oK_none, oK_some] at hx
  rename_i s k j
  obtain ⟨v, hv1, hk⟩ := oK_elim hx
  split at hv1
  · rename_i hle
    simp only [Option.some.injEq] at hv1; subst hv1
    have hsz : (⟨s.toArray⟩ : ByteArray).size = s.length := by simp [ByteArray.size]
    have hlt : j.toNat < s.length := by omega
    refine OpR.value (c := .int .u8 ((s.getD j.toNat 0).toNat : Int)) ?_ (.int _ _) hH hk
    have := run_index_string (P := P) w t (⟨s.toArray⟩ : ByteArray) k j ht
    rw [dif_pos (by rw [hsz]; exact hle)] at this
    have e : (⟨s.toArray⟩ : ByteArray)[j.toNat]'(by rw [hsz]; exact hlt) = s[j.toNat] := by
      show s.toArray[j.toNat] = _
      simp
    rw [e] at this
    simp [execOp, hx1, hx2, this, List.getElem?_eq_getElem hlt]
  · cases hv1

theorem snd_ext {x : Operand} {i : Nat} {a : AV} (ha : VRel g n w a (ρ x)) (hH : HRel g n H w) (hx : xop P (.ext i) [a] n H K) : OpR P ⟨dst, .extract x i, type, pos, after, guard⟩ ρ g n w H K := by
  generalize hx1 : ρ x = u at ha
  cases ha <;> simp only [xop, fop, oK_none, oK_some] at hx
  rename_i cs vs hv
  obtain ⟨v, hv1, hk⟩ := oK_elim hx
  obtain ⟨c, hc, hrel⟩ := hv.get _ _ hv1
  exact OpR.value (by simp [execOp, hx1, Instr.extract, hc]) hrel hH hk

end Go.Ab
end
section
namespace Go.Ab
set_option linter.unusedVariables false
set_option linter.unusedSimpArgs false

variable {P : Program} {g : Ghost} {n : Nat} {w : World} {H : Heap} {ρ : Operand → Value} {K : AV → Nat → Heap → Prop}
  {dst : Option Tmp} {type : TypeId} {pos : String} {after : Array Edge} {guard : Option (Nat × Bool)}

theorem underlying_fields {t : TypeId} {fs : Array Field} (ht : fieldsOf P t = some fs) : P.underlying t = some (.struct fs) := by
  unfold fieldsOf at ht
  split at ht
  · rename_i fs' h; simp only [Option.some.injEq] at ht; subst ht; exact h
  · cases ht

theorem run_isAgg_int {t : TypeId} {k : IntKind} (h : P.underlying t = some (.int k)) : (isAgg t).run P w = .ok false w := by simp [isAgg, run_underlying h]

theorem eqFields_ints : ∀ (fs : List Field) (i0 : Nat) (us vs : List Value) (as bs : List AV) (r : Bool),
    (fs.zipIdx i0).all (fun (f, i) => f.name != "_" && f.offset == i && (match P.underlying f.type with | some (.int _) => true | _ => false)) = true →
    VRels g n w (as.drop i0) (us.drop i0) → VRels g n w (bs.drop i0) (vs.drop i0) → (as.drop i0).length = fs.length → eqInts (as.drop i0) (bs.drop i0) = some r →
    (Op.eqFields 9999 us.toArray vs.toArray fs).run P w = .ok r w
  | [], i0, us, vs, as, bs, r, _, ha, hb, hl, he => by
    have e1 : as.drop i0 = [] := List.eq_nil_of_length_eq_zero hl
    rw [e1] at he
    cases hbs : bs.drop i0 with
    | nil => rw [hbs] at he; simp [eqInts] at he; subst he; simp [Op.eqFields]
    | cons x xs => rw [hbs] at he; simp [eqInts] at he
  | f :: fs, i0, us, vs, as, bs, r, hall, ha, hb, hl, he => by
    rw [List.zipIdx_cons, List.all_cons, Bool.and_eq_true] at hall
    obtain ⟨hf, hrest⟩ := hall
    simp only [Bool.and_eq_true, bne_iff_ne, ne_eq, beq_iff_eq] at hf
    obtain ⟨⟨hname, hoff⟩, hty⟩ := hf
    obtain ⟨k0, hk⟩ : ∃ k0, P.underlying f.type = some (.int k0) := by
      split at hty
      · rename_i k h; exact ⟨k, h⟩
      · cases hty
    cases hda : as.drop i0 with
    | nil => rw [hda] at hl; simp at hl
    | cons a as' =>
      cases hdb : bs.drop i0 with
      | nil => rw [hda, hdb] at he; cases a <;> simp [eqInts] at he
      | cons b bs' =>
        have ha0 := ha; have hb0 := hb
        rw [hda] at ha; rw [hdb] at hb
        generalize hu : us.drop i0 = u at ha
        generalize hv : vs.drop i0 = v at hb
        cases ha with | cons _ c1 _ us' h1 t1 =>
        cases hb with | cons _ c2 _ vs' h2 t2 =>
        rw [hda, hdb] at he
        cases a <;> cases b <;> simp only [eqInts, reduceCtorEq] at he
        rename_i k i k' i'
        cases h1; cases h2
        have eu : us[i0]? = some (.int k i) := by
          have := congrArg (fun l => l[0]?) hu
          simpa [List.getElem?_drop] using this
        have ev : vs[i0]? = some (.int k' i') := by
          have := congrArg (fun l => l[0]?) hv
          simpa [List.getElem?_drop] using this
        have pu : (part f.type us.toArray f.offset).run P w = .ok (.int k i) w := by
          simp [part, run_isAgg_int hk, hoff, eu]
        have pv : (part f.type vs.toArray f.offset).run P w = .ok (.int k' i') w := by
          simp [part, run_isAgg_int hk, hoff, ev]
        have hdrop : ∀ {α : Type} (l : List α) (x : α) (xs : List α), l.drop i0 = x :: xs → l.drop (i0 + 1) = xs := fun l x xs e => by
          have := congrArg (List.drop 1) e
          simpa [List.drop_drop] using this
        split at he
        · rename_i hkk; subst hkk
          split at he
          · rename_i hii; subst hii
            have ih := eqFields_ints fs (i0 + 1) us vs as bs r hrest (by rw [hdrop _ _ _ hda, hdrop _ _ _ hu]; exact t1) (by rw [hdrop _ _ _ hdb, hdrop _ _ _ hv]; exact t2)
              (by rw [hdrop _ _ _ hda]; rw [hda] at hl; simpa using hl) (by rw [hdrop _ _ _ hda, hdrop _ _ _ hdb]; exact he)
            rw [Op.eqFields]
            simp only [if_pos hname, Sem.run_bind, pu, pv, Result.andThen_ok, run_equalIn_int w 9998 f.type k k0 i i hk, beq_self_eq_true]
            simpa using ih
          · rename_i hii
            simp only [Option.some.injEq] at he; subst he
            rw [Op.eqFields]
            have hne : (i == i') = false := by simpa using hii
            simp [if_pos hname, pu, pv, run_equalIn_int w 9998 f.type k k0 i i' hk, hne]
        · cases he

theorem snd_eqS {op : BinOp} {t yt : TypeId} {x y : Operand} {a b : AV} {k : Nat} (ht : intStruct P t = some k) (hop : op = .eql ∨ op = .neq)
    (ha : VRel g n w a (ρ x)) (hb : VRel g n w b (ρ y)) (hH : HRel g n H w) (hx : xop P (.eqS (op == .neq) k) [a, b] n H K) : OpR P ⟨dst, .binOp op t x y yt, type, pos, after, guard⟩ ρ g n w H K := by
  unfold intStruct at ht
  split at ht
  · rename_i fs hfs
    split at ht
    · rename_i hc
      simp only [Option.some.injEq] at ht; subst ht
      simp only [Bool.and_eq_true, Bool.not_eq_true'] at hc
      obtain ⟨⟨hall, hp⟩, hm⟩ := hc
      have hu := underlying_fields hfs
      generalize hx1 : ρ x = u at ha
      generalize hx2 : ρ y = v at hb
      cases ha <;> cases hb <;> simp only [xop, fop, oK_none] at hx
      rename_i as us hus bs vs hvs
      obtain ⟨r, hr, hk⟩ := oK_elim hx
      split at hr
      · rename_i hlen
        rw [Option.map_eq_some_iff] at hr
        obtain ⟨q, hq, rfl⟩ := hr
        have hf : P.fieldsOf t = fs := by simp [Program.fieldsOf, hu]
        have h1 := eqFields_ints (P := P) (g := g) (n := n) (w := w) fs.toList 0 us vs as bs q hall (by simpa using hus) (by simpa using hvs) (by simpa using hlen.1) (by simpa using hq)
        have h2 : (Op.equalIn 10000 t (.agg us.toArray) (.agg vs.toArray)).run P w = .ok q w := by
          rw [run_equalIn_struct (P := P) w 9999 t _ _ (by rw [hf]; exact hu) hp, hf]; exact h1
        rcases hop with rfl | rfl
        · refine OpR.value (c := .bool q) ?_ (by rw [show (q != (BinOp.eql == BinOp.neq)) = q by cases q <;> rfl]; exact .bool q) hH hk
          simp [execOp, hx1, hx2, run_eqGuard_agg (P := P) w .eql t x y us.toArray vs.toArray hm, run_eql_struct (P := P) w t, h2]
        · refine OpR.value (c := .bool (!q)) ?_ (by rw [show (q != (BinOp.neq == BinOp.neq)) = !q by cases q <;> rfl]; exact .bool _) hH hk
          simp [execOp, hx1, hx2, run_eqGuard_agg (P := P) w .neq t x y us.toArray vs.toArray hm, run_neq_struct (P := P) w t, h2]
      · cases hr
    · cases ht
  · cases ht

/-! ### Filling cells -/
theorem foldl_set (vs : List Value) : ∀ (i0 : Nat) (cells : List Value) (off : Nat), off + i0 + vs.length ≤ cells.length →
    ((vs.zipIdx i0).foldl (fun (cs : Array Value) (p : Value × Nat) => cs.setIfInBounds (off + p.2) p.1) cells.toArray) = (cells.take (off + i0) ++ vs ++ cells.drop (off + i0 + vs.length)).toArray := by
  induction vs with
  | nil => intro i0 cells off h; simp
  | cons v vs ih =>
    intro i0 cells off h
    simp only [List.length_cons] at h
    rw [List.zipIdx_cons, List.foldl_cons, List.setIfInBounds_toArray, ih (i0 + 1) _ off (by simp; omega)]
    congr 1
    have h1 : (cells.set (off + i0) v).take (off + (i0 + 1)) = cells.take (off + i0) ++ [v] := by
      rw [show off + (i0 + 1) = off + i0 + 1 by omega, List.take_succ_eq_append_getElem (by simp; omega)]
      simp [List.take_set_of_le]
    have h2 : (cells.set (off + i0) v).drop (off + (i0 + 1) + vs.length) = cells.drop (off + i0 + (v :: vs).length) := by
      rw [List.drop_set_of_lt (by omega)]
      congr 1
      simp only [List.length_cons]; omega
    rw [h1, h2]
    simp

theorem fill_step {place : Nat → Option (Nat × Nat)} {cells : List Value} {i off size : Nat} {v : Value} {rest : List (Nat × Value)} (hp : place i = some (off, size)) (h1 : v.cells.size = size) (h2 : off + size ≤ cells.length) :
    Instr.fill place cells.toArray ((i, v) :: rest) = Instr.fill place (cells.take off ++ v.cells.toList ++ cells.drop (off + size)).toArray rest := by
  rw [Instr.fill]
  simp only [hp]
  rw [if_neg (by simp; omega)]
  congr 1
  rw [← Array.foldl_toList]
  have hz : (v.cells.zipIdx).toList = v.cells.toList.zipIdx 0 := by simp
  rw [hz]
  have h := foldl_set v.cells.toList 0 cells off (by simp; omega)
  simp only [Nat.add_zero, Array.length_toList, h1] at h
  exact h

theorem buildC_run {fs : Array Field} : ∀ (parts : List (Nat × Operand)) (zs : List AV) (zv : List Value) (as : List AV) (r : List AV), (∀ p ∈ parts, p.1 < fs.size) → VRels g n w zs zv →
    VRels g n w as (parts.map fun p => ρ p.2) → buildC zs (parts.map fun p => ((fs.getD p.1 default).offset, P.cellsOf (fs.getD p.1 default).type)) as = some r →
    ∃ rv, Instr.fill (fun i => (fs[i]?).map fun f => (f.offset, P.cellsOf f.type)) zv.toArray (parts.map fun p => (p.1, ρ p.2)) = some rv ∧ VRels g n w r rv.toList
  | [], zs, zv, as, r, _, hz, ha, hb => by
    cases ha
    simp only [List.map_nil, buildC, Option.some.injEq] at hb
    subst hb
    exact ⟨zv.toArray, by simp [Instr.fill], by simpa using hz⟩
  | (i, x) :: parts, zs, zv, as, r, hlt, hz, ha, hb => by
    simp only [List.map_cons] at ha hb ⊢
    cases ha with | cons a _ as' _ h1 t1 =>
    simp only [buildC] at hb
    split at hb
    · rename_i cs hcs
      split at hb
      · rename_i hle
        have hi : i < fs.size := hlt (i, x) (List.mem_cons_self ..)
        have hget : fs[i]? = some (fs.getD i default) := by simp [Array.getD_eq_getD_getElem?, hi]
        have hcl := cellsV_of h1 hcs
        have hzl := hz.length
        rw [fill_step (off := (fs.getD i default).offset) (size := P.cellsOf (fs.getD i default).type) (by rw [hget]; rfl) (by rw [← hcl]; exact hle.1) (by omega)]
        refine buildC_run parts _ _ as' r (fun p hp => hlt p (List.mem_cons_of_mem _ hp)) ?_ t1 hb
        unfold setCells
        rw [hle.1]
        exact ((hz.take _).append (h1.cellsOf hcs)).append (hz.drop _)
      · cases hb
    · cases hb

theorem run_mapM_sizes : ∀ (l : List Field), (∀ f ∈ l, (P.info? f.type).isSome) → (l.mapM fun f => (do pure (f.offset, ← sizeOf f.type) : Sem (Nat × Nat))).run P w = .ok (l.map fun f => (f.offset, P.cellsOf f.type)) w
  | [], _ => by simp
  | f :: l, h => by
    obtain ⟨i, hi⟩ := Option.isSome_iff_exists.mp (h f (List.mem_cons_self ..))
    have ih := run_mapM_sizes l (fun x hx => h x (List.mem_cons_of_mem _ hx))
    have h1 : (do pure (f.offset, ← sizeOf f.type) : Sem (Nat × Nat)).run P w = .ok (f.offset, P.cellsOf f.type) w := by
      simp [sizeOf, typeInfo, hi, Program.cellsOf]
    rw [List.mapM_cons, Sem.run_bind, h1, Result.andThen_ok, Sem.run_bind, ih, Result.andThen_ok]
    rfl

theorem snd_build {t : TypeId} {fs : Array Field} {z : List AV} {parts : Array (Nat × Operand)} {as : List AV} (ht : fieldsOf P t = some fs) (hz : zeroCellsOf P t = some z) (hp : parts.all (fun p => p.1 < fs.size) = true)
    (hin : fs.all (fun f => (P.info? f.type).isSome) = true)
    (ha : VRels g n w as ((parts.toList.map (·.2)).map ρ)) (hH : HRel g n H w) (hx : xop P (.build z (parts.toList.map fun p => ((fs.getD p.1 default).offset, P.cellsOf (fs.getD p.1 default).type))) as n H K) :
    OpR P ⟨dst, .build t parts, type, pos, after, guard⟩ ρ g n w H K := by
  obtain ⟨i, v, hi, hzv, rfl⟩ := zeroCells_some hz
  have hx' : oK ((buildC (v.cells.toList.map avCell) (parts.toList.map fun p => ((fs.getD p.1 default).offset, P.cellsOf (fs.getD p.1 default).type)) as).map .agg) fun v => K v n H := by
    cases as <;> simpa only [xop, fop] using hx
  obtain ⟨r, hr, hk⟩ := oK_elim hx'
  rw [Option.map_eq_some_iff] at hr
  obtain ⟨cs, hcs, rfl⟩ := hr
  have hu := underlying_fields ht
  have hlt : ∀ p ∈ parts.toList, p.1 < fs.size := fun p hp' => by
    have := Array.all_eq_true'.mp hp p (by simpa using hp')
    simpa using this
  obtain ⟨rv, hrun, hrel⟩ := buildC_run (P := P) (fs := fs) parts.toList _ v.cells.toList as cs hlt (avCells_rel _) (by rw [List.map_map] at ha; exact ha) hcs
  have hplaces : (fs.mapM fun f => (do pure (f.offset, ← sizeOf f.type) : Sem (Nat × Nat))).run P w = .ok (fs.map fun f => (f.offset, P.cellsOf f.type)) w := by
    rw [Array.mapM_eq_mapM_toList, Sem.run_map, run_mapM_sizes fs.toList (fun f hf => Array.all_eq_true'.mp hin f (by simpa using hf)), Result.andThen_ok]
    congr 1
    apply Array.ext'
    simp
  refine OpR.value (c := .agg rv) ?_ (by have := VRel.agg (g := g) (n := n) (w := w) cs rv.toList hrel; simpa using this) hH hk
  have hfun : (fun (i : Nat) => (fs.map fun (f : Field) => (f.offset, P.cellsOf f.type))[i]?) = fun (i : Nat) => (fs[i]?).map fun (f : Field) => (f.offset, P.cellsOf f.type) := by funext i; simp
  have hparts : (parts.map fun (p : Nat × Operand) => (p.1, ρ p.2)).toList = parts.toList.map fun p => (p.1, ρ p.2) := by simp
  have hrun' : Instr.fill (fun (i : Nat) => (fs.map fun (f : Field) => (f.offset, P.cellsOf f.type))[i]?) v.cells (parts.map fun (p : Nat × Operand) => (p.1, ρ p.2)).toList = some rv := by
    rw [hfun, hparts]; simpa using hrun
  simp only [execOp, Instr.build, Sem.run_bind, zeroValue, typeInfo, run_program, Result.andThen_ok, hi, hzv, Sem.run_pure, run_underlying hu, hplaces, hrun']

end Go.Ab
end
section
namespace Go.Ab
set_option linter.unusedVariables false
set_option linter.unusedSimpArgs false

variable {P : Program} {g : Ghost} {n : Nat} {w : World} {H : Heap} {ρ : Operand → Value} {K : AV → Nat → Heap → Prop}
  {dst : Option Tmp} {type : TypeId} {pos : String} {after : Array Edge} {guard : Option (Nat × Bool)}

theorem plain_one {a : AV} {c : Value} (h : VRel g n w a c) (hp : plain a = true) : c.oneCell' = true := by
  cases h <;> first | rfl | (simp [plain] at hp)
theorem plain_all {as : List AV} {vs : List Value} (h : VRels g n w as vs) (hp : as.all plain = true) : ∀ v ∈ vs, v.oneCell' = true := by
  induction as generalizing vs with
  | nil => cases h; intro v hv; cases hv
  | cons a as ih => cases h with | cons _ c _ cs h t =>
    simp only [List.all_cons, Bool.and_eq_true] at hp
    intro v hv
    rw [List.mem_cons] at hv
    rcases hv with rfl | hv
    · exact plain_one h hp.1
    · exact ih t hp.2 v hv

theorem flat_all {as : List AV} {vs : List Value} {m : Nat} (h : VRels g m w as vs) (hp : as.all flat = true) : ∀ v ∈ vs, v.oneCell' = true :=
  plain_all h (by
    rw [List.all_eq_true] at hp ⊢
    intro a ha
    have := hp a ha
    cases a <;> simp_all [flat, plain])

theorem room_setRow {b k : Nat} {bl : Nat} {old cs : Array Value} {t : TypeId} {fr : Nat × Nat} (hg : w.heap[bl]? = some (.cells old t fr)) (hsz : cs.size = old.size) (h : room w b k) : room (w.setRow bl cs) b k := by
  obtain ⟨c, el, fz, h1, h2⟩ := h
  by_cases hb : b = bl
  · subst hb
    rw [hg] at h1
    cases h1
    exact ⟨cs, t, fr, setRow_heap w b old cs t fr hg, by omega⟩
  · exact ⟨c, el, fz, by rw [setRow_other w bl b cs hb]; exact h1, h2⟩

/-- A store into an owned block. -/
theorem snd_st {t : TypeId} {s : Option Nat} {x y : Operand} {a b : AV} (hc : ldSize P t = some s) (hsz : P.cellsOf t = s.getD 1) (ha : VRel g n w a (ρ x)) (hb : VRel g n w b (ρ y)) (hH : HRel g n H w)
    (hx : xop P (.st s) [a, b] n H K) : OpR P ⟨dst, .store t x y, type, pos, after, guard⟩ ρ g n w H K := by
  generalize hx1 : ρ x = u at ha
  cases ha <;> simp only [xop, fop, oK_none] at hx
  case ptr id off hk' hid =>
    split at hx
    · rename_i cells xs hg hxs
      obtain ⟨⟨hl, hle, hpl⟩, hk⟩ := hx
      rw [hset_eq id _ hH.apart] at hk
      obtain ⟨hlt, hfr, hphi, c, el, vs, hblk, hcv, hvs⟩ := hH.ent _ (hget_mem hg)
      have hrel := hb.cellsOf hxs
      have hlen := hrel.length
      have hone := plain_all hrel hpl
      have hvl := hvs.length
      have hcl : vs.length ≤ c.size := by
        rcases Nat.lt_or_ge c.size vs.length with h' | h'
        · have := hcv c.size vs[c.size] (by rw [List.getElem?_eq_getElem h'])
          simp at this
        · exact h'
      have hst := run_storeCells_at P (g.β id) off el (ρ y).cells.toList 0 c w hblk (by simp only [Nat.add_zero]; omega) hone
      simp only [Nat.add_zero] at hst
      generalize hcs : (c.toList.take off ++ (ρ y).cells.toList ++ c.toList.drop (off + (ρ y).cells.toList.length)).toArray = cs at hst
      have hcssz : cs.size = c.size := by subst hcs; simp; simp at hlen; omega
      obtain ⟨i, hi⟩ : ∃ i, P.info? t = some i := by
        unfold ldSize at hc
        cases hu : P.underlying t with
        | none => rw [hu] at hc; cases hc
        | some d => exact info_of_underlying hu
      have hisz : (ρ y).cells.size = i.size := by
        have e1 : P.cellsOf t = i.size := by simp [Program.cellsOf, hi]
        rw [← e1, hsz, ← hl, hlen]; simp
      have hrun : (execOp ρ ⟨dst, .store t x y, type, pos, after, guard⟩).run P w = .ok .skip (w.setRow (g.β id) cs) := by
        simp [execOp, hx1, Instr.storeAt, Instr.sureAddr, storeVar, sizeOf, typeInfo, hi, hisz, hst]
      have hcell0 : ∀ b i, i < g.φ b → (w.setRow (g.β id) cs).cell? ⟨b, i, none⟩ = w.cell? ⟨b, i, none⟩ := fun b i hi => by
        refine cell_setRow_other w (g.β id) cs ⟨b, i, none⟩ ?_
        rintro rfl
        rw [hphi] at hi; exact absurd hi (Nat.not_lt_zero _)
      have hext : Ext n g w g (w.setRow (g.β id) cs) :=
        ⟨hcell0, fun _ => Nat.le_refl _, fun _ _ => .inl ⟨rfl, rfl⟩, fun b k h => room_setRow hblk hcssz h⟩
      unfold OpR
      rw [hrun]
      refine ⟨.junk, n, _, g, hk, Nat.le_refl _, .junk _, ?_, { hext with size := by simp, old := fun b hb hno => ?_, owns := fun p hp => ?_, oth := ⟨rfl, rfl, rfl⟩ }⟩
      · refine hH.set (hget_mem hg) hext (fun p hp hpi => ⟨rfl, rfl, rfl, setRow_other w _ _ cs (apart_of hH hp (hget_mem hg) hpi)⟩) (.inl rfl) ?_ (fun b hb => room_setRow hblk hcssz (hH.fsz b hb))
        refine ⟨hfr, hphi, cs, el, vs.take off ++ (ρ y).cells.toList ++ vs.drop (off + (ρ y).cells.toList.length), setRow_heap w _ c cs el (0, 0) hblk, ?_, ?_⟩
        · intro j v hj
          subst hcs
          have e1 : (ρ y).cells.toList.length = xs.length := hlen.symm
          simp only [List.getElem?_toArray]
          rw [List.append_assoc] at hj ⊢
          rw [List.getElem?_append] at hj ⊢
          simp only [List.length_take, Array.length_toList] at hj ⊢
          by_cases h1 : j < off
          · rw [if_pos (by omega)] at hj ⊢
            rw [List.getElem?_take_of_lt h1] at hj ⊢
            have := hcv j v hj
            simpa using this
          · rw [if_neg (by omega)] at hj ⊢
            have e2 : min off vs.length = off := by omega
            have e3 : min off c.size = off := by omega
            rw [e2] at hj; rw [e3]
            rw [List.getElem?_append] at hj ⊢
            by_cases h2 : j - off < (ρ y).cells.toList.length
            · rw [if_pos h2] at hj ⊢; exact hj
            · rw [if_neg h2] at hj ⊢
              rw [List.getElem?_drop] at hj ⊢
              have := hcv _ v hj
              simpa using this
        · have := ((hvs.take off).append hrel).append (hvs.drop (off + (ρ y).cells.toList.length))
          unfold setCells
          rw [hlen]
          exact this.ext hext (Nat.le_refl _)
      · exact ⟨setRow_other w _ _ cs (fun e => hno _ (hget_mem hg) e.symm), rfl⟩
      · rcases mem_hset hp with rfl | ⟨_, hp⟩
        · exact .inl ⟨_, hget_mem hg, rfl⟩
        · exact .inl ⟨p, hp, rfl⟩
    · exact hx.elim
  case vptr id ver off a hl0 hid =>
    obtain ⟨sz, cells, hg, hx⟩ := vget_elim hx
    obtain ⟨xs, hxs, hx⟩ := oK_elim hx
    obtain ⟨_, hloc⟩ := hl0 _ (vob_run hH hg).1
    have had := hloc rfl
    subst had
    obtain ⟨⟨hl, hle, hpl⟩, hk⟩ := hx
    rw [hset_eq id _ hH.apart] at hk
    obtain ⟨hlt, hfr, hphi, c, el, vs, hblk, hcv, hvs⟩ := hH.ent _ (hget_mem hg)
    have hrel := hb.cellsOf hxs
    have hlen := hrel.length
    have hone := plain_all hrel hpl
    have hvl := hvs.length
    have hcl : vs.length ≤ c.size := by
      rcases Nat.lt_or_ge c.size vs.length with h' | h'
      · have := hcv c.size vs[c.size] (by rw [List.getElem?_eq_getElem h'])
        simp at this
      · exact h'
    have hst := run_storeCells_at P (g.β id) off el (ρ y).cells.toList 0 c w hblk (by simp only [Nat.add_zero]; omega) hone
    simp only [Nat.add_zero] at hst
    generalize hcs : (c.toList.take off ++ (ρ y).cells.toList ++ c.toList.drop (off + (ρ y).cells.toList.length)).toArray = cs at hst
    have hcssz : cs.size = c.size := by subst hcs; simp; simp at hlen; omega
    obtain ⟨i, hi⟩ : ∃ i, P.info? t = some i := by
      unfold ldSize at hc
      cases hu : P.underlying t with
      | none => rw [hu] at hc; cases hc
      | some d => exact info_of_underlying hu
    have hisz : (ρ y).cells.size = i.size := by
      have e1 : P.cellsOf t = i.size := by simp [Program.cellsOf, hi]
      rw [← e1, hsz, ← hl, hlen]; simp
    have hrun : (execOp ρ ⟨dst, .store t x y, type, pos, after, guard⟩).run P w = .ok .skip (w.setRow (g.β id) cs) := by
      simp [execOp, hx1, Instr.storeAt, Instr.sureAddr, storeVar, sizeOf, typeInfo, hi, hisz, hst]
    have hcell0 : ∀ b i, i < g.φ b → (w.setRow (g.β id) cs).cell? ⟨b, i, none⟩ = w.cell? ⟨b, i, none⟩ := fun b i hi => by
      refine cell_setRow_other w (g.β id) cs ⟨b, i, none⟩ ?_
      rintro rfl
      rw [hphi] at hi; exact absurd hi (Nat.not_lt_zero _)
    have hext : Ext n g w g (w.setRow (g.β id) cs) :=
      ⟨hcell0, fun _ => Nat.le_refl _, fun _ _ => .inl ⟨rfl, rfl⟩, fun b k h => room_setRow hblk hcssz h⟩
    unfold OpR
    rw [hrun]
    refine ⟨.junk, n, _, g, hk, Nat.le_refl _, .junk _, ?_, { hext with size := by simp, old := fun b hb hno => ?_, owns := fun p hp => ?_, oth := ⟨rfl, rfl, rfl⟩ }⟩
    · refine hH.set (hget_mem hg) hext (fun p hp hpi => ⟨rfl, rfl, rfl, setRow_other w _ _ cs (apart_of hH hp (hget_mem hg) hpi)⟩) (.inl rfl) ?_ (fun b hb => room_setRow hblk hcssz (hH.fsz b hb))
      refine ⟨hfr, hphi, cs, el, vs.take off ++ (ρ y).cells.toList ++ vs.drop (off + (ρ y).cells.toList.length), setRow_heap w _ c cs el (0, 0) hblk, ?_, ?_⟩
      · intro j v hj
        subst hcs
        have e1 : (ρ y).cells.toList.length = xs.length := hlen.symm
        simp only [List.getElem?_toArray]
        rw [List.append_assoc] at hj ⊢
        rw [List.getElem?_append] at hj ⊢
        simp only [List.length_take, Array.length_toList] at hj ⊢
        by_cases h1 : j < off
        · rw [if_pos (by omega)] at hj ⊢
          rw [List.getElem?_take_of_lt h1] at hj ⊢
          have := hcv j v hj
          simpa using this
        · rw [if_neg (by omega)] at hj ⊢
          have e2 : min off vs.length = off := by omega
          have e3 : min off c.size = off := by omega
          rw [e2] at hj; rw [e3]
          rw [List.getElem?_append] at hj ⊢
          by_cases h2 : j - off < (ρ y).cells.toList.length
          · rw [if_pos h2] at hj ⊢; exact hj
          · rw [if_neg h2] at hj ⊢
            rw [List.getElem?_drop] at hj ⊢
            have := hcv _ v hj
            simpa using this
      · have := ((hvs.take off).append hrel).append (hvs.drop (off + (ρ y).cells.toList.length))
        unfold setCells
        rw [hlen]
        exact this.ext hext (Nat.le_refl _)
    · exact ⟨setRow_other w _ _ cs (fun e => hno _ (hget_mem hg) e.symm), rfl⟩
    · rcases mem_hset hp with rfl | ⟨_, hp⟩
      · exact .inl ⟨_, hget_mem hg, rfl⟩
      · exact .inl ⟨p, hp, rfl⟩

end Go.Ab
end
section
namespace Go.Ab
set_option linter.unusedVariables false
set_option linter.unusedSimpArgs false

variable {P : Program} {g : Ghost} {n : Nat} {w : World} {H : Heap} {ρ : Operand → Value} {K : AV → Nat → Heap → Prop}
  {dst : Option Tmp} {type : TypeId} {pos : String} {after : Array Edge} {guard : Option (Nat × Bool)}

theorem fill_rows (size : Nat) : ∀ (l : List (Nat × Value)) (k : Nat) (pre rest : List Value), l.map (·.1) = List.range' k l.length → (∀ p ∈ l, p.2.cells.size = size) → pre.length = k * size → rest.length = l.length * size →
    Instr.fill (fun i => some (i * size, size)) (pre ++ rest).toArray l = some (pre ++ (l.map fun p => p.2.cells.toList).flatten).toArray
  | [], k, pre, rest, _, _, _, hr => by
    have : rest = [] := List.eq_nil_of_length_eq_zero (by simpa using hr)
    subst this; simp [Instr.fill]
  | (i, v) :: l, k, pre, rest, hi, hs, hp, hr => by
    simp only [List.map_cons, List.length_cons, List.range'_succ, List.cons.injEq] at hi
    obtain ⟨rfl, hi⟩ := hi
    have h1 := hs (i, v) (List.mem_cons_self ..)
    simp only [List.length_cons, Nat.succ_mul] at hr
    rw [fill_step (off := i * size) (size := size) rfl h1 (by simp; omega)]
    have e1 : (pre ++ rest).take (i * size) = pre := by rw [← hp]; simp
    have e2 : (pre ++ rest).drop (i * size + size) = rest.drop size := by
      rw [List.drop_append, hp, List.drop_eq_nil_of_le (by omega)]
      simp
    rw [e1, e2, fill_rows size l (i + 1) (pre ++ v.cells.toList) (rest.drop size) hi (fun p hp => hs p (List.mem_cons_of_mem _ hp)) (by simp [hp, h1, Nat.succ_mul]) (by simp; omega)]
    simp

theorem rowsOf_rel : ∀ {as : List AV} {rows : List (List AV)} {vs : List Value}, VRels g n w as vs → rowsOf as = some rows → rows.length = as.length ∧ (∀ k, rowsOk k rows → VRels g 0 w rows.flatten (vs.map fun v => v.cells.toList).flatten ∧ ∀ v ∈ vs, v.cells.size = k)
  | [], rows, vs, h, hr => by
    cases h
    simp only [rowsOf, Option.some.injEq] at hr
    subst hr
    exact ⟨rfl, fun k _ => ⟨.nil, fun v hv => by cases hv⟩⟩
  | a :: as, rows, vs, h, hr => by
    cases h with | cons _ c _ cs h t =>
    simp only [rowsOf] at hr
    split at hr
    · rename_i r rs h1 h2
      simp only [Option.some.injEq] at hr
      subst hr
      obtain ⟨i2, i3⟩ := rowsOf_rel t h2
      refine ⟨by simp [i2], fun k hk => ?_⟩
      obtain ⟨i4, i5⟩ := i3 k (fun x hx => hk x (List.mem_cons_of_mem _ hx))
      obtain ⟨hk1, hk2⟩ := hk (r.map fz) (List.mem_cons_self ..)
      refine ⟨?_, fun v hv => ?_⟩
      · simp only [List.flatten_cons, List.map_cons]
        exact ((h.cellsOf h1).frz hk2).append i4
      · rw [List.mem_cons] at hv
        rcases hv with rfl | hv
        · rw [← cellsV_of h h1]; simpa using hk1
        · exact i5 v hv
    · cases hr

/-- A new block whose first cells are known, as frozen rows, as an accumulator, as an owned row. -/
theorem new_frozen {rows : List (List AV)} {size : Nat} {vs : List Value} {el : TypeId} {rest : Array Value} {len : Nat} (hH : HRel g n H w) (hs : ∀ r ∈ rows, r.length = size) (hv : VRels g 0 w rows.flatten vs) (hl : rows.length ≤ len) (hk : K (.sl rows) n H) :
    Out g n w H K (.slice (some ⟨w.heap.size, 0, none⟩) rows.length len) (w.alloc (.cells (vs.toArray ++ rest) el)) := by
  have hlen := hv.length
  rw [flatten_length hs] at hlen
  obtain ⟨hg, hH'⟩ := grow_alloc hH (vs.toArray ++ rest) el vs.length (by simp) none
  refine ⟨.sl rows, n, H, _, hk, Nat.le_refl _, ?_, hH', hg⟩
  refine .sl rows size _ w.heap.size 0 len vs (fun _ => rfl) hl hs (fun _ => ?_) Run_alloc (hv.ext (hg.toExt.le (Nat.zero_le _)) (Nat.le_refl _))
  show 0 + rows.length * size ≤ upd g.φ w.heap.size vs.length w.heap.size
  rw [upd_same]; omega

theorem new_acc {rows : List (List AV)} {size : Nat} {vs : List Value} {el : TypeId} {rest : Array Value} {len : Nat} (hH : HRel g n H w) (hs : ∀ r ∈ rows, r.length = size) (hv : VRels g 0 w rows.flatten vs) (hl : rows.length ≤ len) (hroom : len * size ≤ vs.length + rest.size)
    (hk : K (.acc n size rows) (n + 1) ((n, .tok size rows.length) :: H)) :
    Out g n w H K (.slice (some ⟨w.heap.size, 0, none⟩) rows.length len) (w.alloc (.cells (vs.toArray ++ rest) el)) := by
  have hlen := hv.length
  rw [flatten_length hs] at hlen
  obtain ⟨hg, hH'⟩ := grow_alloc hH (vs.toArray ++ rest) el vs.length (by simp) (some (rows.length * size))
  have hnew : ∀ p ∈ H, upd g.β n w.heap.size p.1 ≠ upd g.β n w.heap.size n := fun p hp => by
    rw [upd_ne _ _ (Nat.ne_of_lt (hH.ent p hp).1), upd_same]; exact Nat.ne_of_lt (hH.ent p hp).2.lt
  refine ⟨.acc n size rows, n + 1, _, _, hk, Nat.le_succ _, ?_, hH'.add (.tok size rows.length) hnew ?_, hg.add _ (by show w.heap.size ≤ upd g.β n w.heap.size n; rw [upd_same]; exact Nat.le_refl _)⟩
  · refine .acc n size rows _ w.heap.size 0 len vs (fun _ => rfl) hl hs (fun _ => ?_) Run_alloc (hv.ext (hg.toExt.le (Nat.zero_le _)) (Nat.le_refl _)) (Nat.lt_succ_self _) (fun m hm => ?_)
    · show 0 + rows.length * size ≤ upd g.φ w.heap.size vs.length w.heap.size
      rw [upd_same]; omega
    · have hm' : upd g.fr n (some (rows.length * size)) n = some m := hm
      rw [upd_same] at hm'
      cases hm'
      refine ⟨Nat.le_refl _, fun _ => ?_⟩
      show some _ = some (Addr.mk (upd g.β n w.heap.size n) 0 none) ∧ room _ (upd g.β n w.heap.size n) _
      rw [upd_same]
      exact ⟨rfl, _, el, _, heap_alloc_new, by simp; omega⟩
  · refine ⟨upd_same _ _ _, ?_, vs.toArray ++ rest, el, ?_, by simp; omega⟩
    · show upd g.φ w.heap.size vs.length (upd g.β n w.heap.size n) = _
      rw [upd_same, upd_same]; omega
    · show (w.alloc (.cells (vs.toArray ++ rest) el)).heap[upd g.β n w.heap.size n]? = _
      rw [upd_same]; exact heap_alloc_new

theorem new_own {rows : List (List AV)} {size : Nat} {vs : List Value} {el : TypeId} {rest : Array Value} {len : Nat} (hH : HRel g n H w) (hv : VRels g n w rows.flatten vs) (hl : rows.length ≤ len) (hroom : len * size ≤ vs.length + rest.size)
    (hk : K (.ref n size 0 rows.length) (n + 1) ((n, .own rows.flatten) :: H)) :
    Out g n w H K (.slice (some ⟨w.heap.size, 0, none⟩) rows.length len) (w.alloc (.cells (vs.toArray ++ rest) el)) := by
  obtain ⟨hg, hH'⟩ := grow_alloc hH (vs.toArray ++ rest) el 0 (Nat.zero_le _) none
  have hnew : ∀ p ∈ H, upd g.β n w.heap.size p.1 ≠ upd g.β n w.heap.size n := fun p hp => by
    rw [upd_ne _ _ (Nat.ne_of_lt (hH.ent p hp).1), upd_same]; exact Nat.ne_of_lt (hH.ent p hp).2.lt
  refine ⟨.ref n size 0 rows.length, n + 1, _, _, hk, Nat.le_succ _, ?_, hH'.add (.own rows.flatten) hnew ?_, hg.add _ (by show w.heap.size ≤ upd g.β n w.heap.size n; rw [upd_same]; exact Nat.le_refl _)⟩
  · have := VRel.ref (g := ⟨upd g.β n w.heap.size, upd g.fr n none, upd g.φ w.heap.size 0⟩) (n := n + 1) (w := w.alloc (.cells (vs.toArray ++ rest) el)) n size 0 rows.length len (Nat.lt_succ_self _) (upd_same _ _ _) hl
      (by show room _ (upd g.β n w.heap.size n) _; rw [upd_same]; exact ⟨_, el, _, heap_alloc_new, by simp; omega⟩)
    rwa [show (Ghost.mk (upd g.β n w.heap.size) (upd g.fr n none) (upd g.φ w.heap.size 0)).β n = w.heap.size from upd_same _ _ _] at this
  · refine ⟨upd_same _ _ _, ?_, vs.toArray ++ rest, el, vs, ?_, fun i v hi => ?_, hv.ext hg.toExt (Nat.le_succ _)⟩
    · show upd g.φ w.heap.size 0 (upd g.β n w.heap.size n) = 0
      rw [upd_same, upd_same]
    · show (w.alloc (.cells (vs.toArray ++ rest) el)).heap[upd g.β n w.heap.size n]? = _
      rw [upd_same]; exact heap_alloc_new
    · rw [Array.getElem?_append_left (by
        rcases Nat.lt_or_ge i vs.length with h | h
        · simpa using h
        · rw [List.getElem?_eq_none h] at hi; cases hi)]
      simpa using hi

theorem new_vec {cells : List AV} {size k : Nat} {vs : List Value} {el : TypeId} {rest : Array Value} {len : Nat} (hH : HRel g n H w) (hv : VRels g n w cells vs) (hl : k ≤ len) (hroom : len * size ≤ vs.length + rest.size)
    (hk : K (.vec n 0 size 0 k) (n + 1) ((n, .vob 0 size cells) :: H)) :
    Out g n w H K (.slice (some ⟨w.heap.size, 0, none⟩) k len) (w.alloc (.cells (vs.toArray ++ rest) el)) := by
  obtain ⟨hg, hH'⟩ := grow_alloc hH (vs.toArray ++ rest) el 0 (Nat.zero_le _) (some 0)
  have hnew : ∀ p ∈ H, upd g.β n w.heap.size p.1 ≠ upd g.β n w.heap.size n := fun p hp => by
    rw [upd_ne _ _ (Nat.ne_of_lt (hH.ent p hp).1), upd_same]; exact Nat.ne_of_lt (hH.ent p hp).2.lt
  refine ⟨.vec n 0 size 0 k, n + 1, _, _, hk, Nat.le_succ _, ?_, hH'.add (.vob 0 size cells) hnew ?_, hg.add _ (by show w.heap.size ≤ upd g.β n w.heap.size n; rw [upd_same]; exact Nat.le_refl _)⟩
  · refine .vec n 0 size 0 k _ len (Nat.lt_succ_self _) fun m hm => ?_
    have hm' : upd g.fr n (some 0) n = some m := hm
    rw [upd_same] at hm'
    cases hm'
    refine ⟨Nat.le_refl _, fun _ => ?_⟩
    show some _ = some (Addr.mk (upd g.β n w.heap.size n) 0 none) ∧ k ≤ len ∧ room _ (upd g.β n w.heap.size n) _
    rw [upd_same]
    exact ⟨rfl, hl, _, el, _, heap_alloc_new, by simp; omega⟩
  · refine ⟨upd_same _ _ _, ?_, vs.toArray ++ rest, el, vs, ?_, fun i v hi => ?_, hv.ext hg.toExt (Nat.le_succ _)⟩
    · show upd g.φ w.heap.size 0 (upd g.β n w.heap.size n) = 0
      rw [upd_same, upd_same]
    · show (w.alloc (.cells (vs.toArray ++ rest) el)).heap[upd g.β n w.heap.size n]? = _
      rw [upd_same]; exact heap_alloc_new
    · rw [Array.getElem?_append_left (by
        rcases Nat.lt_or_ge i vs.length with h | h
        · simpa using h
        · rw [List.getElem?_eq_none h] at hi; cases hi)]
      simpa using hi

theorem rawRows_rel : ∀ {as : List AV} {rows : List (List AV)} {vs : List Value}, VRels g n w as vs → rawRows as = some rows → rows.length = as.length ∧ (∀ k, rawOk k rows → VRels g n w rows.flatten (vs.map fun v => v.cells.toList).flatten ∧ ∀ v ∈ vs, v.cells.size = k)
  | [], rows, vs, h, hr => by
    cases h
    simp only [rawRows, Option.some.injEq] at hr
    subst hr
    exact ⟨rfl, fun k _ => ⟨.nil, fun v hv => by cases hv⟩⟩
  | a :: as, rows, vs, h, hr => by
    cases h with | cons _ c _ cs h t =>
    simp only [rawRows] at hr
    split at hr
    · rename_i r rs h1 h2
      simp only [Option.some.injEq] at hr
      subst hr
      obtain ⟨i2, i3⟩ := rawRows_rel t h2
      refine ⟨by simp [i2], fun k hk => ?_⟩
      obtain ⟨i4, i5⟩ := i3 k (fun x hx => hk x (List.mem_cons_of_mem _ hx))
      obtain ⟨hk1, hk2⟩ := hk r (List.mem_cons_self ..)
      refine ⟨?_, fun v hv => ?_⟩
      · simp only [List.flatten_cons, List.map_cons]
        exact (h.cellsOf h1).append i4
      · rw [List.mem_cons] at hv
        rcases hv with rfl | hv
        · rw [← cellsV_of h h1]; exact hk1
        · exact i5 v hv
    · cases hr

theorem OpR.out {o : Oper} {c : Value} {w' : World} (hr : (execOp ρ o).run P w = .ok (.value c) w') (h : Out g n w H K c w') : OpR P o ρ g n w H K := by
  unfold OpR; rw [hr]; exact h

theorem snd_bsl {t e : TypeId} {i : TypeInfo} {m len : Nat} {parts : Array (Nat × Operand)} {as : List AV} (ht : P.underlying t = some (.slice e)) (hi : P.info? e = some i) (hz : i.zero.isSome)
    (hzs : (i.zero.map fun z => z.cells.size) = some i.size) (hp : parts.toList.map (·.1) = List.range len) (hsz : len * i.size ≤ 16777216) (hm : m ≤ 4)
    (ha : VRels g n w as ((parts.toList.map (·.2)).map ρ)) (hH : HRel g n H w) (hx : xop P (.bsl m i.size) as n H K) : OpR P ⟨dst, .buildSlice t len parts, type, pos, after, guard⟩ ρ g n w H K := by
  obtain ⟨z, hz⟩ := Option.isSome_iff_exists.mp hz
  have hzz : z.cells.size = i.size := by simpa [hz] using hzs
  have hplen : parts.toList.length = len := by
    have := congrArg List.length hp
    simpa using this
  have hrun : ∀ (hvs : ∀ v ∈ ((parts.toList.map (·.2)).map ρ), v.cells.size = i.size) (vs : List Value), (((parts.toList.map (·.2)).map ρ).map fun v => v.cells.toList).flatten = vs →
      (execOp ρ ⟨dst, .buildSlice t len parts, type, pos, after, guard⟩).run P w = .ok (.value (.slice (some ⟨w.heap.size, 0, none⟩) len len)) (w.alloc (.cells (vs.toArray ++ #[]) e)) := by
    intro hvs vs hvs'
    have hcells : ∀ zs : List Value, zs.length = len * i.size → Instr.fill (fun j => some (j * i.size, i.size)) zs.toArray (parts.map fun (p : Nat × Operand) => (p.1, ρ p.2)).toList = some vs.toArray := by
      intro zs hzs
      have e0 : (parts.map fun (p : Nat × Operand) => (p.1, ρ p.2)).toList = parts.toList.map fun p => (p.1, ρ p.2) := by simp
      rw [e0]
      have := fill_rows i.size (parts.toList.map fun p => (p.1, ρ p.2)) 0 [] zs (by
        rw [List.map_map, List.length_map]
        have e1 : ((fun x => x.fst) ∘ fun (p : Nat × Operand) => (p.fst, ρ p.snd)) = fun p => p.1 := rfl
        rw [e1, hp, hplen, List.range_eq_range']) (fun p hp' => by
          obtain ⟨q, hq, rfl⟩ := List.mem_map.mp hp'
          exact hvs (ρ q.2) (List.mem_map.mpr ⟨q.2, List.mem_map.mpr ⟨q, hq, rfl⟩, rfl⟩)) (by simp) (by simpa [hplen] using hzs)
      simp only [List.nil_append] at this
      rw [this, ← hvs']
      simp [List.map_map, Function.comp_def]
    have hf := hcells ((Array.range (len * i.size)).map (z.cells[· % z.cells.size]!)).toList (by simp)
    simp only [Array.toArray_toList] at hf
    by_cases h0 : len * i.size = 0
    · have hf0 := hcells [] (by simp [h0])
      have hf0' : Instr.fill (fun j => some (j * i.size, i.size)) (Array.map (fun x => (#[] : Array Value)[x % 0]!) (Array.range 0)) (parts.map fun (p : Nat × Operand) => (p.1, ρ p.2)).toList = some vs.toArray := by
        simpa [Array.range_zero'] using hf0
      simp only [execOp, Instr.buildSlice, Sem.run_bind, run_underlying ht, Result.andThen_ok, sizeOf, typeInfo, run_program, hi, Sem.run_pure, h0]
      simp only [if_neg (show ¬ (0 > 2 ^ 24) by omega), if_true, Sem.run_pure, Result.andThen_ok, Array.size_empty, hf0', newRow, Sem.run_bind, run_newObj]
      simp [Sem.run_pure, World.alloc_eq]
    · simp only [execOp, Instr.buildSlice, Sem.run_bind, run_underlying ht, Result.andThen_ok, sizeOf, typeInfo, run_program, hi, Sem.run_pure]
      simp only [if_neg (show ¬ (len * i.size > 2 ^ 24) by omega), if_neg h0, Sem.run_bind, zeroValue, typeInfo, run_program, hi, Sem.run_pure, Result.andThen_ok, hz, hf, newRow, run_newObj]
      simp [Sem.run_pure, World.alloc_eq]
  have hal : as.length = len := by rw [ha.length]; simpa using hplen
  by_cases hm2 : m ≤ 2
  · obtain ⟨rows, hrows, hok, hcase⟩ : ∃ rows, rowsOf as = some rows ∧ rowsOk i.size rows ∧ ((m = 0 ∧ K (.sl rows) n H) ∨ (m = 1 ∧ K (.acc n i.size rows) (n + 1) ((n, .tok i.size rows.length) :: H)) ∨ (m = 2 ∧ K (.ref n i.size 0 rows.length) (n + 1) ((n, .own rows.flatten) :: H))) := by
      have h3 : m = 0 ∨ m = 1 ∨ m = 2 := by omega
      rcases h3 with rfl | rfl | rfl
      · have hx' : oK (frozenRows i.size as) fun v => K v n H := by
          cases as <;> simpa only [xop, fop] using hx
        obtain ⟨v, hv, hk⟩ := oK_elim hx'
        unfold frozenRows at hv
        split at hv
        · rename_i rows hr
          split at hv
          · rename_i hok
            simp only [Option.some.injEq] at hv; subst hv
            exact ⟨rows, hr, hok, .inl ⟨rfl, hk⟩⟩
          · cases hv
        · cases hv
      · have hx' : oK (rowsOf as) fun rows => rowsOk i.size rows ∧ K (.acc n i.size rows) (n + 1) ((n, .tok i.size rows.length) :: H) := by
          cases as <;> simpa only [xop] using hx
        obtain ⟨rows, hr, hok, hk⟩ := oK_elim hx'
        exact ⟨rows, hr, hok, .inr (.inl ⟨rfl, hk⟩)⟩
      · have hx' : oK (rowsOf as) fun rows => rowsOk i.size rows ∧ K (.ref n i.size 0 rows.length) (n + 1) ((n, .own rows.flatten) :: H) := by
          cases as <;> simpa only [xop] using hx
        obtain ⟨rows, hr, hok, hk⟩ := oK_elim hx'
        exact ⟨rows, hr, hok, .inr (.inr ⟨rfl, hk⟩)⟩
    obtain ⟨hlen, hrest⟩ := rowsOf_rel ha hrows
    obtain ⟨hrel, hvs⟩ := hrest i.size hok
    have hs : ∀ r ∈ rows, r.length = i.size := fun r hr => (hok r hr).1
    have hrl : rows.length = len := by rw [hlen, hal]
    have hr := hrun hvs _ rfl
    generalize (((parts.toList.map (·.2)).map ρ).map fun v => v.cells.toList).flatten = vs at hrel hr
    have hvl := hrel.length
    rw [flatten_length hs, hrl] at hvl
    subst hrl
    rcases hcase with ⟨rfl, hk⟩ | ⟨rfl, hk⟩ | ⟨rfl, hk⟩
    · exact OpR.out hr (new_frozen hH hs hrel (Nat.le_refl _) hk)
    · exact OpR.out hr (new_acc hH hs hrel (Nat.le_refl _) (by rw [hvl]; simp) hk)
    · exact OpR.out hr (new_own hH hrel.up (Nat.le_refl _) (by rw [hvl]; simp) hk)
  · obtain ⟨rows, hrows, hok, hcase⟩ : ∃ rows, rawRows as = some rows ∧ rawOk i.size rows ∧ ((m = 3 ∧ K (.vec n 0 i.size 0 rows.length) (n + 1) ((n, .vob 0 i.size rows.flatten) :: H)) ∨ (m = 4 ∧ K (.ref n i.size 0 rows.length) (n + 1) ((n, .own rows.flatten) :: H))) := by
      have h3 : m = 3 ∨ m = 4 := by omega
      rcases h3 with rfl | rfl
      · have hx' : oK (rawRows as) fun rows => rawOk i.size rows ∧ K (.vec n 0 i.size 0 rows.length) (n + 1) ((n, .vob 0 i.size rows.flatten) :: H) := by
          cases as <;> simpa only [xop] using hx
        obtain ⟨rows, hr, hok, hk⟩ := oK_elim hx'
        exact ⟨rows, hr, hok, .inl ⟨rfl, hk⟩⟩
      · have hx' : oK (rawRows as) fun rows => rawOk i.size rows ∧ K (.ref n i.size 0 rows.length) (n + 1) ((n, .own rows.flatten) :: H) := by
          cases as <;> simpa only [xop] using hx
        obtain ⟨rows, hr, hok, hk⟩ := oK_elim hx'
        exact ⟨rows, hr, hok, .inr ⟨rfl, hk⟩⟩
    obtain ⟨hlen, hrest⟩ := rawRows_rel ha hrows
    obtain ⟨hrel, hvs⟩ := hrest i.size hok
    have hs : ∀ r ∈ rows, r.length = i.size := fun r hr => (hok r hr).1
    have hrl : rows.length = len := by rw [hlen, hal]
    have hr := hrun hvs _ rfl
    generalize (((parts.toList.map (·.2)).map ρ).map fun v => v.cells.toList).flatten = vs at hrel hr
    have hvl := hrel.length
    rw [flatten_length hs, hrl] at hvl
    subst hrl
    rcases hcase with ⟨rfl, hk⟩ | ⟨rfl, hk⟩
    · exact OpR.out hr (new_vec hH hrel (Nat.le_refl _) (by rw [hvl]; simp) hk)
    · exact OpR.out hr (new_own hH hrel (Nat.le_refl _) (by rw [hvl]; simp) hk)

end Go.Ab
end
section
namespace Go.Ab
set_option linter.unusedVariables false
set_option linter.unusedSimpArgs false

variable {P : Program} {g : Ghost} {n : Nat} {w : World} {H : Heap} {ρ : Operand → Value} {K : AV → Nat → Heap → Prop}
  {dst : Option Tmp} {type : TypeId} {pos : String} {after : Array Edge} {guard : Option (Nat × Bool)}

theorem madeCells_toList (z : Array Value) (size : Nat) (hz : z.size = size) : ∀ c : Nat, (madeCells z (c * size)).toList = (List.replicate c z.toList).flatten
  | 0 => by simp [madeCells]
  | c + 1 => by
    have ih := madeCells_toList z size hz c
    unfold madeCells at ih ⊢
    simp only [Array.toList_map, Array.toList_range] at ih ⊢
    rw [List.replicate_succ, List.flatten_cons, ← ih, Nat.succ_mul, Nat.add_comm (c * size) size, List.range_add, List.map_append, List.map_map]
    congr 1
    · apply List.ext_getElem
      · simp [hz]
      · intro i h1 h2
        simp only [List.length_map, List.length_range] at h1
        simp only [List.getElem_map, List.getElem_range]
        rw [hz, Nat.mod_eq_of_lt h1, getElem!_pos z i (by omega)]
        simp
    · apply List.map_congr_left
      intro i _
      simp only [Function.comp]
      rw [hz, Nat.add_mod_left]

theorem VRels.replicate {as : List AV} {vs : List Value} (h : VRels g n w as vs) : ∀ c : Nat, VRels g n w (List.replicate c as).flatten (List.replicate c vs).flatten
  | 0 => by simpa using .nil
  | c + 1 => by
    rw [List.replicate_succ, List.replicate_succ, List.flatten_cons, List.flatten_cons]
    exact h.append (VRels.replicate h c)

theorem snd_mks {t e : TypeId} {i : TypeInfo} {z : Value} {m : Nat} {x y : Operand} {a b : AV} (ht : P.underlying t = some (.slice e)) (hi : P.info? e = some i) (hz : i.zero = some z) (hzs : z.cells.size = i.size)
    (ha : VRel g n w a (ρ x)) (hb : VRel g n w b (ρ y)) (hH : HRel g n H w) (hx : xop P (.mks m i.size i.bytes (z.cells.toList.map avCell)) [a, b] n H K) : OpR P ⟨dst, .makeSlice t x y, type, pos, after, guard⟩ ρ g n w H K := by
  generalize hx1 : ρ x = u at ha
  generalize hx2 : ρ y = v at hb
  cases ha <;> cases hb <;> simp only [xop, fop, oK_none] at hx
  rename_i k l k' c
  obtain ⟨⟨rfl, rfl, h0, h1, h2, h3, h4⟩, hcase⟩ := hx
  have hlm : lenMax = 4294967296 := rfl
  have hbytes : (i.bytes : Int) * c ≤ 281474976710656 := by
    have h5 : (i.bytes : Int) ≤ 4096 := by omega
    have h6 : c ≤ 4294967296 := by rw [hlm] at h2; omega
    calc (i.bytes : Int) * c ≤ 4096 * c := Int.mul_le_mul_of_nonneg_right h5 (by omega)
      _ ≤ 281474976710656 := by omega
  have hrun := run_make (P := P) w t e i z ht hi hz .i64 .i64 l c h0 h1 hbytes (by rw [hlm] at h2; omega)
  have hcells : (madeCells z.cells (c.toNat * i.size)) = (List.replicate c.toNat z.cells.toList).flatten.toArray ++ #[] := by
    apply Array.ext'
    rw [Array.append_empty, List.toList_toArray]
    exact madeCells_toList z.cells i.size hzs _
  have hfull : VRels g n w (List.replicate c.toNat (z.cells.toList.map avCell)).flatten (List.replicate c.toNat z.cells.toList).flatten := (avCells_rel _).replicate _
  have hexec : (execOp ρ ⟨dst, .makeSlice t x y, type, pos, after, guard⟩).run P w = .ok (.value (.slice (some ⟨w.heap.size, 0, none⟩) l.toNat c.toNat)) (w.alloc (.cells (madeCells z.cells (c.toNat * i.size)) e)) := by
    simp [execOp, hx1, hx2, hrun]
  have hzs' : z.cells.toList.length = i.size := by rw [Array.length_toList]; exact hzs
  have hsz : ∀ k, ((List.replicate k z.cells.toList).flatten).length = k * i.size := fun k => by
    rw [flatten_length (s := i.size) (fun r hr => by rw [List.eq_of_mem_replicate hr]; exact hzs'), List.length_replicate]
  split at hcase
  · obtain ⟨rfl, hk⟩ := hcase
    refine OpR.out hexec ?_
    rw [hcells]
    have := new_own (g := g) (n := n) (w := w) (H := H) (K := K) (rows := List.replicate l.toNat (z.cells.toList.map avCell)) (size := i.size) (vs := (List.replicate l.toNat z.cells.toList).flatten) (el := e) (rest := #[]) (len := l.toNat) hH hfull (by simp) (by rw [hsz]; simp) (by simpa using hk)
    simpa using this
  · refine OpR.out hexec ?_
    have hsplit : (madeCells z.cells (c.toNat * i.size)) = (List.replicate l.toNat z.cells.toList).flatten.toArray ++ (List.replicate (c.toNat - l.toNat) z.cells.toList).flatten.toArray := by
      rw [hcells]
      apply Array.ext'
      simp only [Array.append_empty, Array.toList_append, List.toList_toArray, ← List.flatten_append, List.replicate_append_replicate]
      congr 3
      omega
    rw [hsplit]
    have hl : l.toNat ≤ c.toNat := by omega
    have := new_acc (g := g) (n := n) (w := w) (H := H) (K := K) (rows := List.replicate l.toNat (z.cells.toList.map avCell)) (size := i.size) (vs := (List.replicate l.toNat z.cells.toList).flatten) (el := e) (rest := (List.replicate (c.toNat - l.toNat) z.cells.toList).flatten.toArray) (len := c.toNat) hH
      (fun r hr => by rw [List.eq_of_mem_replicate hr, List.length_map]; exact hzs') ((avCells_rel _).replicate _) (by simpa using hl) (by
        rw [hsz, List.size_toArray, hsz, ← Nat.add_mul]
        exact Nat.le_of_eq (by congr 1; omega)) (by simpa using hcase)
    simpa using this
  · refine OpR.out hexec ?_
    have hsplit : (madeCells z.cells (c.toNat * i.size)) = (List.replicate l.toNat z.cells.toList).flatten.toArray ++ (List.replicate (c.toNat - l.toNat) z.cells.toList).flatten.toArray := by
      rw [hcells]
      apply Array.ext'
      simp only [Array.append_empty, Array.toList_append, List.toList_toArray, ← List.flatten_append, List.replicate_append_replicate]
      congr 3
      omega
    rw [hsplit]
    have hl : l.toNat ≤ c.toNat := by omega
    have := new_frozen (g := g) (n := n) (w := w) (H := H) (K := K) (rows := List.replicate l.toNat (z.cells.toList.map avCell)) (size := i.size) (vs := (List.replicate l.toNat z.cells.toList).flatten) (el := e) (rest := (List.replicate (c.toNat - l.toNat) z.cells.toList).flatten.toArray) (len := c.toNat) hH
      (fun r hr => by rw [List.eq_of_mem_replicate hr, List.length_map]; exact hzs') ((avCells_rel _).replicate _) (by simpa using hl) (by simpa using hcase)
    simpa using this
  · refine OpR.out hexec ?_
    have hsplit : (madeCells z.cells (c.toNat * i.size)) = (List.replicate l.toNat z.cells.toList).flatten.toArray ++ (List.replicate (c.toNat - l.toNat) z.cells.toList).flatten.toArray := by
      rw [hcells]
      apply Array.ext'
      simp only [Array.append_empty, Array.toList_append, List.toList_toArray, ← List.flatten_append, List.replicate_append_replicate]
      congr 3
      omega
    rw [hsplit]
    have hl : l.toNat ≤ c.toNat := by omega
    have := new_vec (g := g) (n := n) (w := w) (H := H) (K := K) (cells := (List.replicate l.toNat (z.cells.toList.map avCell)).flatten) (size := i.size) (k := l.toNat) (vs := (List.replicate l.toNat z.cells.toList).flatten) (el := e) (rest := (List.replicate (c.toNat - l.toNat) z.cells.toList).flatten.toArray) (len := c.toNat) hH
      ((avCells_rel _).replicate _) hl (by
        rw [hsz, List.size_toArray, hsz, ← Nat.add_mul]
        exact Nat.le_of_eq (by congr 1; omega)) hcase
    simpa using this
  · exact hcase.elim

theorem run_builtin_len {ats : Array TypeId} {x : Operand} {k : Int} (hk : (Builtin.len_ ats type #[ρ x]).run P w = .ok (goInt k) w) :
    (execOp ρ ⟨dst, .call { callee := .builtin .len, args := #[x], argTypes := ats }, type, pos, after, guard⟩).run P w = .ok (.value (.int .i64 k)) w := by
  rw [BigFrame.execOp_builtin, BigFrame.builtin_len]
  simp [hk, goInt]

theorem one_arg {args : Array Operand} (hs : args.size = 1) : ∃ x, args = #[x] := by
  obtain ⟨l⟩ := args
  cases l with
  | nil => simp at hs
  | cons a l => cases l with
    | nil => exact ⟨a, rfl⟩
    | cons _ _ => simp at hs

theorem snd_lenS {t : TypeId} {args : Array Operand} {ats : Array TypeId} {as : List AV} (hat : ats[0]? = some t) (ht : P.underlying t = some .string) (hs : args.size = 1)
    (ha : VRels g n w as (args.toList.map ρ)) (hH : HRel g n H w) (hx : xop P .lenS as n H K) : OpR P ⟨dst, .call { callee := .builtin .len, args, argTypes := ats }, type, pos, after, guard⟩ ρ g n w H K := by
  obtain ⟨x, rfl⟩ := one_arg hs
  simp only [List.map_cons, List.map_nil] at ha
  generalize hx1 : ρ x = u at ha
  cases ha with | cons a _ _ _ h1 t1 =>
  cases t1
  cases h1 <;> simp only [xop, fop, oK_none, oK_some] at hx
  rename_i s
  refine OpR.value (run_builtin_len (k := s.length) ?_) (.int _ _) hH hx
  have : (⟨s.toArray⟩ : ByteArray).size = s.length := by simp [ByteArray.size]
  rw [hx1, ← this]
  simp [Builtin.len_, hat, run_underlying ht]

theorem snd_lenL {t e : TypeId} {args : Array Operand} {ats : Array TypeId} {as : List AV} (hat : ats[0]? = some t) (ht : P.underlying t = some (.slice e)) (hs : args.size = 1)
    (ha : VRels g n w as (args.toList.map ρ)) (hH : HRel g n H w) (hx : xop P .lenL as n H K) : OpR P ⟨dst, .call { callee := .builtin .len, args, argTypes := ats }, type, pos, after, guard⟩ ρ g n w H K := by
  obtain ⟨x, rfl⟩ := one_arg hs
  simp only [List.map_cons, List.map_nil] at ha
  generalize hx1 : ρ x = u at ha
  cases ha with | cons a _ _ _ h1 t1 =>
  cases t1
  cases h1 <;> simp only [xop, fop, oK_none, oK_some] at hx
  all_goals
    refine OpR.value (run_builtin_len (k := _) ?_) (.int _ _) hH hx
    rw [hx1]
    simp [Builtin.len_, hat, run_underlying ht]

/-! ### Calls -/
theorem snd_call {f : Operand} {args : Array Operand} {ats : Array TypeId} {as : List AV} (ha : VRels g n w as (ρ f :: args.toList.map ρ)) (hH : HRel g n H w) (hx : xop P .call as n H K) :
    OpR P ⟨dst, .call { callee := .value f, args, argTypes := ats }, type, pos, after, guard⟩ ρ g n w H K := by
  generalize hf : ρ f = u at ha
  cases ha with | cons a _ bs _ h1 t1 =>
  cases h1 <;> simp only [xop, fop, oK_none] at hx
  rename_i fn cap vs hc
  have := hx g w (args.toList.map ρ ++ vs) (t1.append hc) hH
  have hrun : (execOp ρ ⟨dst, .call { callee := .value f, args, argTypes := ats }, type, pos, after, guard⟩).run P w = (callFunc fn (args.toList.map ρ ++ vs).toArray).run P w := by
    have e1 : (args.toList.map ρ ++ vs).toArray = (#[] ++ args.map ρ) ++ vs.toArray := by
      apply Array.ext'; simp
    rw [e1]
    simp only [execOp, resolve, hf, Deferred.ofValue, Sem.run_bind, Sem.run_pure, Result.andThen_ok, invoke]
  unfold OpR
  rw [hrun]
  split at this
  · rename_i e; rw [e]; exact this
  · rename_i e; rw [e]; exact this
  · exact this.elim

/-! ### The greatest and the least -/
theorem run_mnx {k : IntKind} {mx : Bool} : ∀ (as : List AV) (vs : List Value) (a r : Int), VRels g n w as vs → mnxGo mx k a as = some r →
    (vs.foldlM (if mx then Builtin.max2 else Builtin.min2) (.int k a)).run P w = .ok (.int k r) w
  | [], vs, a, r, h, hr => by
    cases h
    simp only [mnxGo, Option.some.injEq] at hr
    subst hr
    simp
  | x :: as, vs, a, r, h, hr => by
    cases h with | cons _ c _ cs h t =>
    cases x <;> simp only [mnxGo, reduceCtorEq] at hr
    cases h
    rename_i k' b
    split at hr
    · rename_i hk; subst hk
      rw [List.foldlM_cons]
      have ih := run_mnx as cs _ r t hr
      cases mx
      · simp only [Bool.false_eq_true, if_false] at ih ⊢
        simp only [Builtin.min2, pure_bind]
        exact ih
      · simp only [if_true] at ih ⊢
        simp only [Builtin.max2, pure_bind]
        exact ih
    · cases hr

theorem snd_mnx {mx : Bool} {args : Array Operand} {ats : Array TypeId} {as : List AV} (ha : VRels g n w as (args.toList.map ρ)) (hH : HRel g n H w) (hx : xop P (.mnx mx) as n H K) :
    OpR P ⟨dst, .call { callee := .builtin (if mx then .max else .min), args, argTypes := ats }, type, pos, after, guard⟩ ρ g n w H K := by
  have hx' : oK (mnxI mx as) fun v => K v n H := by cases as <;> simpa only [xop, fop] using hx
  obtain ⟨v, hv, hk⟩ := oK_elim hx'
  cases as with
  | nil => simp [mnxI] at hv
  | cons a as =>
    generalize hl : args.toList.map ρ = l at ha
    cases ha with | cons _ c _ cs h t =>
    cases h <;> simp only [mnxI, reduceCtorEq] at hv
    rename_i k i
    rw [Option.map_eq_some_iff] at hv
    obtain ⟨r, hr, rfl⟩ := hv
    have hrun := run_mnx (P := P) as cs i r t hr
    refine OpR.value (c := .int k r) ?_ (.int _ _) hH hk
    have hl' : (args.map ρ).toList = .int k i :: cs := by simpa using hl
    cases mx
    · simp only [Bool.false_eq_true, if_false] at hrun ⊢
      rw [BigFrame.execOp_builtin, BigFrame.builtin_min]
      simp only [Builtin.min_, hl', Sem.run_bind, hrun, Result.andThen_ok, Sem.run_pure]
    · simp only [if_true] at hrun ⊢
      rw [BigFrame.execOp_builtin, BigFrame.builtin_max]
      simp only [Builtin.max_, hl', Sem.run_bind, hrun, Result.andThen_ok, Sem.run_pure]

end Go.Ab
end
