/- The abstract values of the walk: Go values by their content, and what it means that a world holds them. Over any program. -/
import Derived.Orders
import Derived.Laws.Sem
import Derived.Laws.World
import Derived.Laws.Cells
namespace Go.Ab
set_option linter.unusedVariables false

inductive AV where
  | junk
  | bool (b : Bool)
  | int (k : IntKind) (n : Int)
  | str (s : List UInt8)
  | fn (f : FuncId) (cap : List AV)
  | agg (cs : List AV)
  | tup (vs : List AV)
  | nilsl
  | sl (rows : List (List AV))
  | acc (id s : Nat) (rows : List (List AV))
  | fptr (cs : List AV)
  | ptr (id off : Nat)
  | ref (id s off len : Nat)
  | vec (id ver s off len : Nat)
  | vptr (id ver off : Nat)
instance : Inhabited AV := ⟨.junk⟩

structure Ghost where
  β : Nat → Nat
  fr : Nat → Option Nat
  φ : Nat → Nat

/-- The cells of block b from off on hold vs. -/
def Run (w : World) (b off : Nat) (vs : List Value) : Prop := ∀ i v, vs[i]? = some v → w.cell? ⟨b, off + i, none⟩ = some v

def room (w : World) (b k : Nat) : Prop := ∃ c el fz, w.heap[b]? = some (.cells c el fz) ∧ k ≤ c.size

mutual
inductive VRel (g : Ghost) : Nat → World → AV → Value → Prop
  | junk {n : Nat} {w : World} (v : Value) : VRel g n w .junk v
  | bool {n : Nat} {w : World} (b : Bool) : VRel g n w (.bool b) (.bool b)
  | int {n : Nat} {w : World} (k : IntKind) (i : Int) : VRel g n w (.int k i) (.int k i)
  | str {n : Nat} {w : World} (s : List UInt8) : VRel g n w (.str s) (.string ⟨s.toArray⟩)
  | fn {n : Nat} {w : World} (f : FuncId) (cap : List AV) (vs : List Value) (h : VRels g n w cap vs) : VRel g n w (.fn f cap) (.func (.func f) #[] vs.toArray)
  | agg {n : Nat} {w : World} (cs : List AV) (vs : List Value) (h : VRels g n w cs vs) : VRel g n w (.agg cs) (.agg vs.toArray)
  | tup {n : Nat} {w : World} (cs : List AV) (vs : List Value) (h : VRels g n w cs vs) : VRel g n w (.tup cs) (.tuple vs.toArray)
  | nilsl {n : Nat} {w : World} : VRel g n w .nilsl (.slice none 0 0)
  | sl {n : Nat} {w : World} (rows : List (List AV)) (s : Nat) (a : Option Addr) (b off cap : Nat) (vs : List Value) (ha : rows ≠ [] → a = some ⟨b, off, none⟩) (hc : rows.length ≤ cap)
      (hs : ∀ r ∈ rows, r.length = s) (hf : rows ≠ [] → off + rows.length * s ≤ g.φ b) (hr : Run w b off vs) (hv : VRels g 0 w rows.flatten vs) :
      VRel g n w (.sl rows) (.slice a rows.length cap)
  | acc {n : Nat} {w : World} (id s : Nat) (rows : List (List AV)) (a : Option Addr) (b off cap : Nat) (vs : List Value) (ha : rows ≠ [] → a = some ⟨b, off, none⟩) (hc : rows.length ≤ cap)
      (hs : ∀ r ∈ rows, r.length = s) (hf : rows ≠ [] → off + rows.length * s ≤ g.φ b) (hr : Run w b off vs) (hv : VRels g 0 w rows.flatten vs) (hid : id < n)
      (hl : ∀ m, g.fr id = some m → rows.length * s ≤ m ∧ (rows.length * s = m → a = some ⟨g.β id, 0, none⟩ ∧ room w (g.β id) (cap * s))) :
      VRel g n w (.acc id s rows) (.slice a rows.length cap)
  | fptr {n : Nat} {w : World} (cs : List AV) (b off : Nat) (vs : List Value) (hf : off + cs.length ≤ g.φ b) (hr : Run w b off vs) (hv : VRels g 0 w cs vs) :
      VRel g n w (.fptr cs) (.pointer (some ⟨b, off, none⟩))
  | ptr {n : Nat} {w : World} (id off : Nat) (hid : id < n) (hk : g.fr id = none) : VRel g n w (.ptr id off) (.pointer (some ⟨g.β id, off, none⟩))
  | ref {n : Nat} {w : World} (id s off len cap : Nat) (hid : id < n) (hk : g.fr id = none) (hc : len ≤ cap) (hr : room w (g.β id) (off + cap * s)) :
      VRel g n w (.ref id s off len) (.slice (some ⟨g.β id, off, none⟩) len cap)
  | vec {n : Nat} {w : World} (id ver s off len : Nat) (a : Option Addr) (cap : Nat) (hid : id < n)
      (hl : ∀ m, g.fr id = some m → ver ≤ m ∧ (ver = m → a = some ⟨g.β id, off, none⟩ ∧ len ≤ cap ∧ room w (g.β id) (off + cap * s))) : VRel g n w (.vec id ver s off len) (.slice a len cap)
  | vptr {n : Nat} {w : World} (id ver off : Nat) (a : Option Addr) (hid : id < n)
      (hl : ∀ m, g.fr id = some m → ver ≤ m ∧ (ver = m → a = some ⟨g.β id, off, none⟩)) : VRel g n w (.vptr id ver off) (.pointer a)
inductive VRels (g : Ghost) : Nat → World → List AV → List Value → Prop
  | nil {n : Nat} {w : World} : VRels g n w [] []
  | cons {n : Nat} {w : World} (a : AV) (v : Value) (as : List AV) (vs : List Value) (h : VRel g n w a v) (t : VRels g n w as vs) : VRels g n w (a :: as) (v :: vs)
end

structure Ext (n : Nat) (g : Ghost) (w : World) (g' : Ghost) (w' : World) : Prop where
  cells : ∀ b i, i < g.φ b → w'.cell? ⟨b, i, none⟩ = w.cell? ⟨b, i, none⟩
  fro : ∀ b, g.φ b ≤ g'.φ b
  ids : ∀ id, id < n → (g'.β id = g.β id ∧ g'.fr id = g.fr id) ∨ ∃ m m', g.fr id = some m ∧ g'.fr id = some m' ∧ m < m'
  rooms : ∀ b k, room w b k → room w' b k

theorem Ext.refl (n : Nat) (g : Ghost) (w : World) : Ext n g w g w :=
  ⟨fun _ _ _ => rfl, fun _ => Nat.le_refl _, fun _ _ => .inl ⟨rfl, rfl⟩, fun _ _ h => h⟩

theorem Ext.le {n n' : Nat} {g g' : Ghost} {w w' : World} (h : Ext n' g w g' w') (hn : n ≤ n') : Ext n g w g' w' :=
  ⟨h.cells, h.fro, fun id hi => h.ids id (by omega), h.rooms⟩

theorem Ext.trans {n n' : Nat} {g g1 g2 : Ghost} {w w1 w2 : World} (h : Ext n g w g1 w1) (h' : Ext n' g1 w1 g2 w2) (hn : n ≤ n') : Ext n g w g2 w2 := by
  refine ⟨fun b i hi => ?_, fun b => Nat.le_trans (h.fro b) (h'.fro b), fun id hid => ?_, fun b k hk => h'.rooms b k (h.rooms b k hk)⟩
  · rw [h'.cells b i (Nat.lt_of_lt_of_le hi (h.fro b)), h.cells b i hi]
  · rcases h.ids id hid with ⟨a, b⟩ | ⟨m, m', hm, hm', hlt⟩
    · rcases h'.ids id (by omega) with ⟨c, d⟩ | ⟨p, p', hp, hp', hlt'⟩
      · exact .inl ⟨c.trans a, d.trans b⟩
      · exact .inr ⟨p, p', b ▸ hp, hp', hlt'⟩
    · rcases h'.ids id (by omega) with ⟨c, d⟩ | ⟨p, p', hp, hp', hlt'⟩
      · exact .inr ⟨m, m', hm, d ▸ hm', hlt⟩
      · rw [hm'] at hp; cases hp
        exact .inr ⟨m, p', hm, hp', by omega⟩

theorem VRels.length {g : Ghost} {n : Nat} {w : World} : ∀ {as : List AV} {vs : List Value}, VRels g n w as vs → as.length = vs.length
  | _, _, .nil => rfl
  | _, _, .cons _ _ _ _ _ t => by simp [VRels.length t]

theorem flatten_length {α : Type} {rows : List (List α)} {s : Nat} (hs : ∀ r ∈ rows, r.length = s) : rows.flatten.length = rows.length * s := by
  induction rows with
  | nil => simp
  | cons r rs ih =>
    simp only [List.flatten_cons, List.length_append, List.length_cons, ih (fun x hx => hs x (List.mem_cons_of_mem _ hx)), hs r (List.mem_cons_self ..)]
    rw [Nat.succ_mul, Nat.add_comm]

theorem Run.ext {n : Nat} {g g' : Ghost} {w w' : World} {b off : Nat} {vs : List Value} (h : Run w b off vs) (he : Ext n g w g' w') (hf : vs ≠ [] → off + vs.length ≤ g.φ b) : Run w' b off vs := by
  intro i v hi
  have hlt : i < vs.length := by
    rcases Nat.lt_or_ge i vs.length with h' | h'
    · exact h'
    · rw [List.getElem?_eq_none h'] at hi; cases hi
  have hne : vs ≠ [] := by intro e; subst e; simp at hlt
  rw [he.cells b (off + i) (by have := hf hne; omega)]
  exact h i v hi

mutual
theorem VRel.ext {g g' : Ghost} {w w' : World} : ∀ {n n' : Nat} {a : AV} {v : Value}, VRel g n w a v → Ext n g w g' w' → n ≤ n' → VRel g' n' w' a v
  | _, _, _, _, .junk v, he, hn => .junk v
  | _, _, _, _, .bool b, he, hn => .bool b
  | _, _, _, _, .int k i, he, hn => .int k i
  | _, _, _, _, .str s, he, hn => .str s
  | _, _, _, _, .fn f cap vs h, he, hn => .fn f cap vs (h.ext he hn)
  | _, _, _, _, .agg cs vs h, he, hn => .agg cs vs (h.ext he hn)
  | _, _, _, _, .tup cs vs h, he, hn => .tup cs vs (h.ext he hn)
  | _, _, _, _, .nilsl, he, hn => .nilsl
  | _, _, _, _, .sl rows s a b off cap vs ha hc hs hf hr hv, he, hn =>
    .sl rows s a b off cap vs ha hc hs (fun h => Nat.le_trans (hf h) (he.fro b))
      (hr.ext he (fun hne => by
        have hl := hv.length
        rw [flatten_length hs] at hl
        rw [← hl]
        apply hf
        rintro rfl
        simp at hl
        exact hne (List.eq_nil_of_length_eq_zero hl.symm))) (hv.ext (he.le (Nat.zero_le _)) (Nat.le_refl 0))
  | _, _, _, _, .acc id s rows a b off cap vs ha hc hs hf hr hv hid hl, he, hn =>
    .acc id s rows a b off cap vs ha hc hs (fun h => Nat.le_trans (hf h) (he.fro b))
      (hr.ext he (fun hne => by
        have hl := hv.length
        rw [flatten_length hs] at hl
        rw [← hl]
        apply hf
        rintro rfl
        simp at hl
        exact hne (List.eq_nil_of_length_eq_zero hl.symm))) (hv.ext (he.le (Nat.zero_le _)) (Nat.le_refl 0)) (Nat.lt_of_lt_of_le hid hn)
      (fun m hm => by
        rcases he.ids id hid with ⟨h1, h2⟩ | ⟨p, p', hp, hp', hlt⟩
        · obtain ⟨h3, h4⟩ := hl m (h2 ▸ hm)
          refine ⟨h3, fun e => ?_⟩
          obtain ⟨h5, h6⟩ := h4 e
          rw [h1]
          exact ⟨h5, he.rooms _ _ h6⟩
        · rw [hp'] at hm; cases hm
          have := (hl p hp).1
          exact ⟨by omega, fun e => by omega⟩)
  | _, _, _, _, .fptr cs b off vs hf hr hv, he, hn =>
    .fptr cs b off vs (Nat.le_trans hf (he.fro b)) (hr.ext he (fun _ => by rw [← hv.length]; exact hf)) (hv.ext (he.le (Nat.zero_le _)) (Nat.le_refl 0))
  | _, _, _, _, .ptr id off hid hk, he, hn => by
    have h : g'.β id = g.β id ∧ g'.fr id = g.fr id := (he.ids id hid).resolve_right (by rintro ⟨m, m', h1, _⟩; rw [hk] at h1; cases h1)
    rw [← h.1]
    exact .ptr id off (Nat.lt_of_lt_of_le hid hn) (h.2.trans hk)
  | _, _, _, _, .ref id s off len cap hid hk hc hr, he, hn => by
    have h : g'.β id = g.β id ∧ g'.fr id = g.fr id := (he.ids id hid).resolve_right (by rintro ⟨m, m', h1, _⟩; rw [hk] at h1; cases h1)
    rw [← h.1]
    exact .ref id s off len cap (Nat.lt_of_lt_of_le hid hn) (h.2.trans hk) hc (by rw [h.1]; exact he.rooms _ _ hr)
  | _, _, _, _, .vec id ver s off len a cap hid hl, he, hn =>
    .vec id ver s off len a cap (Nat.lt_of_lt_of_le hid hn) (fun m hm => by
      rcases he.ids id hid with ⟨h1, h2⟩ | ⟨p, p', hp, hp', hlt⟩
      · obtain ⟨h3, h4⟩ := hl m (h2 ▸ hm)
        refine ⟨h3, fun e => ?_⟩
        obtain ⟨h5, h6, h7⟩ := h4 e
        rw [h1]
        exact ⟨h5, h6, he.rooms _ _ h7⟩
      · rw [hp'] at hm; cases hm
        have := (hl p hp).1
        exact ⟨by omega, fun e => by omega⟩)
  | _, _, _, _, .vptr id ver off a hid hl, he, hn =>
    .vptr id ver off a (Nat.lt_of_lt_of_le hid hn) (fun m hm => by
      rcases he.ids id hid with ⟨h1, h2⟩ | ⟨p, p', hp, hp', hlt⟩
      · obtain ⟨h3, h4⟩ := hl m (h2 ▸ hm)
        refine ⟨h3, fun e => ?_⟩
        rw [h1]
        exact h4 e
      · rw [hp'] at hm; cases hm
        have := (hl p hp).1
        exact ⟨by omega, fun e => by omega⟩)
theorem VRels.ext {g g' : Ghost} {w w' : World} : ∀ {n n' : Nat} {as : List AV} {vs : List Value}, VRels g n w as vs → Ext n g w g' w' → n ≤ n' → VRels g' n' w' as vs
  | _, _, _, _, .nil, he, hn => .nil
  | _, _, _, _, .cons a v as vs h t, he, hn => .cons a v as vs (h.ext he hn) (t.ext he hn)
end

/-! ### The heap of what is owned -/
inductive HObj where
  | tok (s len : Nat)
  | own (cells : List AV)
  | vob (ver s : Nat) (cells : List AV)
abbrev Heap := List (Nat × HObj)
abbrev Env := List (Nat × AV)

def EntRel (g : Ghost) (n : Nat) (w : World) (id : Nat) : HObj → Prop
  | .tok s len => g.fr id = some (len * s) ∧ g.φ (g.β id) = len * s ∧ ∃ c el, w.heap[g.β id]? = some (.cells c el (0, 0)) ∧ len * s ≤ c.size
  | .own cells => g.fr id = none ∧ g.φ (g.β id) = 0 ∧ ∃ (c : Array Value) (el : TypeId) (vs : List Value), w.heap[g.β id]? = some (.cells c el (0, 0)) ∧ (∀ (i : Nat) (v : Value), vs[i]? = some v → c[i]? = some v) ∧ VRels g n w cells vs
  | .vob ver s cells => g.fr id = some ver ∧ g.φ (g.β id) = 0 ∧ ∃ (c : Array Value) (el : TypeId) (vs : List Value), w.heap[g.β id]? = some (.cells c el (0, 0)) ∧ (∀ (i : Nat) (v : Value), vs[i]? = some v → c[i]? = some v) ∧ VRels g n w cells vs

structure HRel (g : Ghost) (n : Nat) (H : Heap) (w : World) : Prop where
  apart : H.Pairwise fun p q => p.1 ≠ q.1 ∧ g.β p.1 ≠ g.β q.1
  ent : ∀ p ∈ H, p.1 < n ∧ EntRel g n w p.1 p.2
  fsz : ∀ b, 0 < g.φ b → room w b (g.φ b)

/-- What no step of ours turns. -/
structure Oth (w w' : World) : Prop where
  os : w'.os = w.os
  tape : w'.tape = w.tape
  out : w'.output = w.output

theorem Oth.refl (w : World) : Oth w w := ⟨rfl, rfl, rfl⟩
theorem Oth.trans {a b c : World} (h : Oth a b) (k : Oth b c) : Oth a c := ⟨k.os.trans h.os, k.tape.trans h.tape, k.out.trans h.out⟩

structure Grow (n : Nat) (g : Ghost) (w : World) (H : Heap) (g' : Ghost) (w' : World) (H' : Heap) : Prop extends Ext n g w g' w' where
  size : w.heap.size ≤ w'.heap.size
  old : ∀ b, b < w.heap.size → (∀ p ∈ H, g.β p.1 ≠ b) → w'.heap[b]? = w.heap[b]? ∧ g'.φ b = g.φ b
  owns : ∀ p ∈ H', (∃ q ∈ H, g.β q.1 = g'.β p.1) ∨ w.heap.size ≤ g'.β p.1
  oth : Oth w w'

theorem Grow.refl (n : Nat) (g : Ghost) (w : World) (H : Heap) : Grow n g w H g w H :=
  { Ext.refl n g w with size := Nat.le_refl _, old := fun _ _ _ => ⟨rfl, rfl⟩, owns := fun p hp => .inl ⟨p, hp, rfl⟩, oth := Oth.refl w }

theorem Grow.trans {n n' : Nat} {g g1 g2 : Ghost} {w w1 w2 : World} {H H1 H2 : Heap} (h : Grow n g w H g1 w1 H1) (h' : Grow n' g1 w1 H1 g2 w2 H2) (hn : n ≤ n') : Grow n g w H g2 w2 H2 :=
  { Ext.trans h.toExt h'.toExt hn with
    size := Nat.le_trans h.size h'.size
    old := fun b hb hno => by
      obtain ⟨e1, e2⟩ := h.old b hb hno
      have hno1 : ∀ p ∈ H1, g1.β p.1 ≠ b := fun p hp e => by
        rcases h.owns p hp with ⟨q, hq, hqe⟩ | hle
        · exact hno q hq (hqe.trans e)
        · omega
      obtain ⟨e3, e4⟩ := h'.old b (Nat.lt_of_lt_of_le hb h.size) hno1
      exact ⟨e3.trans e1, e4.trans e2⟩
    owns := fun p hp => by
      rcases h'.owns p hp with ⟨q, hq, hqe⟩ | hle
      · rcases h.owns q hq with ⟨r, hr, hre⟩ | hle
        · exact .inl ⟨r, hr, hre.trans hqe⟩
        · exact .inr (by omega)
      · exact .inr (Nat.le_trans h.size hle)
    oth := h.oth.trans h'.oth }

theorem EntRel.ext {n n' : Nat} {g g' : Ghost} {w w' : World} {id : Nat} {o : HObj} (h : EntRel g n w id o) (he : Ext n g w g' w') (hn : n ≤ n')
    (hb : g'.β id = g.β id) (hfr : g'.fr id = g.fr id) (hphi : g'.φ (g.β id) = g.φ (g.β id)) (hw : w'.heap[g.β id]? = w.heap[g.β id]?) : EntRel g' n' w' id o := by
  cases o with
  | tok s len =>
    obtain ⟨h1, h2, c, el, h3, h4⟩ := h
    exact ⟨hfr.trans h1, by rw [hb, hphi, h2], c, el, by rw [hb, hw, h3], h4⟩
  | own cells =>
    obtain ⟨h1, h2, c, el, vs, h3, h4, h5⟩ := h
    exact ⟨hfr.trans h1, by rw [hb, hphi, h2], c, el, vs, by rw [hb, hw, h3], h4, h5.ext he hn⟩
  | vob ver s cells =>
    obtain ⟨h1, h2, c, el, vs, h3, h4, h5⟩ := h
    exact ⟨hfr.trans h1, by rw [hb, hphi, h2], c, el, vs, by rw [hb, hw, h3], h4, h5.ext he hn⟩

/-- What E says of the temporaries. -/
def ERel (g : Ghost) (n : Nat) (w : World) (E : Env) (tmps : Array Value) : Prop := ∀ p ∈ E, VRel g n w p.2 (tmps.getD p.1 undef)

def val (E : Env) (i : Nat) : AV := ((E.find? fun p => p.1 == i).map (·.2)).getD .junk
def put (E : Env) (d : Option Nat) (v : AV) : Env := match d with
  | none => E
  | some d => (d, v) :: E.filter fun p => p.1 != d

theorem ERel.val {g : Ghost} {n : Nat} {w : World} {E : Env} {tmps : Array Value} (h : ERel g n w E tmps) (i : Nat) : VRel g n w (val E i) (tmps.getD i undef) := by
  unfold Ab.val
  cases hf : E.find? fun p => p.1 == i with
  | none => exact .junk _
  | some p =>
    have h1 := List.mem_of_find?_eq_some hf
    have h2 := List.find?_some hf
    simp only [beq_iff_eq] at h2
    have := h p h1
    rw [h2] at this
    exact this

theorem ERel.ext {n n' : Nat} {g g' : Ghost} {w w' : World} {E : Env} {tmps : Array Value} (h : ERel g n w E tmps) (he : Ext n g w g' w') (hn : n ≤ n') : ERel g' n' w' E tmps :=
  fun p hp => (h p hp).ext he hn

theorem ERel.put {g : Ghost} {n : Nat} {w : World} {E : Env} {a : Act} {v : AV} {c : Value} (h : ERel g n w E a.tmps) (hv : VRel g n w v c) (d : Option Nat)
    (hd : ∀ i, d = some i → i < a.tmps.size) : ERel g n w (put E d v) (a.put d c).tmps := by
  cases d with
  | none => exact h
  | some d =>
    have hd' := hd d rfl
    intro p hp
    simp only [Ab.put, List.mem_cons, List.mem_filter, bne_iff_ne, ne_eq] at hp
    rcases hp with rfl | ⟨hp, hne⟩
    · simpa [Act.put, Array.getD_eq_getD_getElem?, hd'] using hv
    · have := h p hp
      have e : (a.put (some d) c).tmps.getD p.1 undef = a.tmps.getD p.1 undef := by
        simp only [Act.put, Array.getD_eq_getD_getElem?]
        rw [Array.getElem?_setIfInBounds_ne (fun e => hne e.symm)]
      rw [e]
      exact this

theorem ERel.sub {g : Ghost} {n : Nat} {w : World} {E E' : Env} {tmps : Array Value} (h : ERel g n w E tmps) (hs : ∀ p ∈ E', p ∈ E) : ERel g n w E' tmps :=
  fun p hp => h p (hs p hp)

@[simp] theorem put_size (a : Act) (d : Option Nat) (v : Value) : (a.put d v).tmps.size = a.tmps.size := by cases d <;> simp [Act.put]
@[simp] theorem put_defers (a : Act) (d : Option Nat) (v : Value) : (a.put d v).defers = a.defers := by cases d <;> simp [Act.put]

end Go.Ab
