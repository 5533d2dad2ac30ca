/- What an allocation, a store and an append do to the relation between the abstract heap and the world. Over any program. -/
import Derived.Test.YtobhjgipeepmoaaAbOps
import Derived.Laws.Append
namespace Go.Ab
set_option linter.unusedVariables false

variable {P : Program} {g : Ghost} {n : Nat} {w : World} {H : Heap}

def upd {α : Type} (f : Nat → α) (i : Nat) (v : α) : Nat → α := fun j => if j = i then v else f j
@[simp] theorem upd_same {α : Type} (f : Nat → α) (i : Nat) (v : α) : upd f i v i = v := by simp [upd]
theorem upd_ne {α : Type} (f : Nat → α) {i j : Nat} (v : α) (h : j ≠ i) : upd f i v j = f j := by simp [upd, h]

theorem room_lt {b k : Nat} (h : room w b k) : b < w.heap.size := by
  obtain ⟨c, el, fz, h1, _⟩ := h
  rcases Nat.lt_or_ge b w.heap.size with h' | h'
  · exact h'
  · rw [Array.getElem?_eq_none h'] at h1; cases h1

theorem EntRel.lt {id : Nat} {o : HObj} (h : EntRel g n w id o) : g.β id < w.heap.size := by
  cases o with
  | tok s len => obtain ⟨_, _, c, el, h1, h2⟩ := h; exact room_lt ⟨c, el, _, h1, Nat.zero_le _⟩
  | own cells => obtain ⟨_, _, c, el, vs, h1, h2⟩ := h; exact room_lt ⟨c, el, _, h1, Nat.zero_le _⟩
  | vob ver s cells => obtain ⟨_, _, c, el, vs, h1, h2⟩ := h; exact room_lt ⟨c, el, _, h1, Nat.zero_le _⟩

theorem HRel.phi0 (h : HRel g n H w) {b : Nat} (hb : w.heap.size ≤ b) : g.φ b = 0 := by
  rcases Nat.eq_zero_or_pos (g.φ b) with h0 | h0
  · exact h0
  · have := room_lt (h.fsz b h0); omega

theorem heap_alloc_lt {o : Obj} {b : Nat} (hb : b < w.heap.size) : (w.alloc o).heap[b]? = w.heap[b]? := by
  simp only [World.alloc]
  rw [Array.getElem?_push]
  simp [Nat.ne_of_lt hb]
theorem heap_alloc_new {o : Obj} : (w.alloc o).heap[w.heap.size]? = some o := by
  simp only [World.alloc, Array.getElem?_push, if_true]

theorem Run_alloc {vs : List Value} {el : TypeId} {rest : Array Value} : Run (w.alloc (.cells (vs.toArray ++ rest) el)) w.heap.size 0 vs := by
  intro i v hi
  rw [Nat.zero_add, World.cell?_alloc_new]
  rw [Array.getElem?_append_left (by
    rcases Nat.lt_or_ge i vs.length with h | h
    · simpa using h
    · rw [List.getElem?_eq_none h] at hi; cases hi)]
  simpa using hi

/-- A new block: k of its cells are frozen at once; number n is its name. -/
theorem grow_alloc (hH : HRel g n H w) (c : Array Value) (el : TypeId) (k : Nat) (hk : k ≤ c.size) (fr : Option Nat) :
    Grow n g w H ⟨upd g.β n w.heap.size, upd g.fr n fr, upd g.φ w.heap.size k⟩ (w.alloc (.cells c el)) H ∧
    HRel ⟨upd g.β n w.heap.size, upd g.fr n fr, upd g.φ w.heap.size k⟩ n H (w.alloc (.cells c el)) := by
  have hx : Ext n g w ⟨upd g.β n w.heap.size, upd g.fr n fr, upd g.φ w.heap.size k⟩ (w.alloc (.cells c el)) := by
    refine ⟨fun b i hi => ?_, fun b => ?_, fun id hid => ?_, fun b k' ⟨c', el', fz, h1, h2⟩ => ?_⟩
    · have hb : b < w.heap.size := room_lt (hH.fsz b (by omega))
      exact World.cell?_alloc_lt _ _ _ hb
    · by_cases hb : b = w.heap.size
      · subst hb; rw [hH.phi0 (Nat.le_refl _)]; exact Nat.zero_le _
      · show g.φ b ≤ upd g.φ w.heap.size k b
        rw [upd_ne _ _ hb]; exact Nat.le_refl _
    · left
      exact ⟨upd_ne _ _ (Nat.ne_of_lt hid), upd_ne _ _ (Nat.ne_of_lt hid)⟩
    · have hb : b < w.heap.size := room_lt ⟨c', el', fz, h1, h2⟩
      exact ⟨c', el', fz, by rw [heap_alloc_lt hb]; exact h1, h2⟩
  have hβ : ∀ p ∈ H, upd g.β n w.heap.size p.1 = g.β p.1 := fun p hp => upd_ne _ _ (Nat.ne_of_lt (hH.ent p hp).1)
  refine ⟨{ hx with size := by rw [World.size_alloc]; exact Nat.le_succ _, old := fun b hb _ => ⟨heap_alloc_lt hb, upd_ne _ _ (Nat.ne_of_lt hb)⟩, owns := fun p hp => .inl ⟨p, hp, (hβ p hp).symm⟩, oth := ⟨rfl, rfl, rfl⟩ }, ?_⟩
  refine ⟨?_, fun p hp => ⟨(hH.ent p hp).1, ?_⟩, fun b hb => ?_⟩
  · refine hH.apart.imp_of_mem ?_
    intro p q hp hq h
    refine ⟨h.1, ?_⟩
    show upd g.β n w.heap.size p.1 ≠ upd g.β n w.heap.size q.1
    rw [hβ p hp, hβ q hq]; exact h.2
  · have hlt := (hH.ent p hp).2.lt
    exact (hH.ent p hp).2.ext hx (Nat.le_refl _) (hβ p hp) (upd_ne _ _ (Nat.ne_of_lt (hH.ent p hp).1)) (upd_ne _ _ (Nat.ne_of_lt hlt)) (heap_alloc_lt hlt)
  · by_cases hbs : b = w.heap.size
    · subst hbs
      exact ⟨c, el, _, heap_alloc_new, by show upd g.φ w.heap.size k w.heap.size ≤ _; rw [upd_same]; exact hk⟩
    · have hb' : upd g.φ w.heap.size k b = g.φ b := upd_ne _ _ hbs
      have h1 : 0 < g.φ b := by have h2 : 0 < upd g.φ w.heap.size k b := hb; rwa [hb'] at h2
      show room _ b (upd g.φ w.heap.size k b)
      rw [hb']
      exact hx.rooms _ _ (hH.fsz b h1)

/-- A new block joins the heap under number n. -/
theorem HRel.add {g' : Ghost} {w' : World} (h : HRel g' n H w') (o : HObj) (hnew : ∀ p ∈ H, g'.β p.1 ≠ g'.β n) (ho : EntRel g' (n + 1) w' n o) : HRel g' (n + 1) ((n, o) :: H) w' := by
  refine ⟨?_, fun p hp => ?_, h.fsz⟩
  · rw [List.pairwise_cons]
    exact ⟨fun p hp => ⟨Nat.ne_of_gt (h.ent p hp).1, (hnew p hp).symm⟩, h.apart⟩
  · rw [List.mem_cons] at hp
    rcases hp with rfl | hp
    · exact ⟨Nat.lt_succ_self _, ho⟩
    · exact ⟨Nat.lt_succ_of_lt (h.ent p hp).1, (h.ent p hp).2.ext (Ext.refl _ _ _) (Nat.le_succ _) rfl rfl rfl rfl⟩

theorem Grow.add {g' : Ghost} {w' : World} (h : Grow n g w H g' w' H) (o : HObj) (hnew : w.heap.size ≤ g'.β n) : Grow n g w H g' w' ((n, o) :: H) := by
  refine ⟨h.toExt, h.size, h.old, fun p hp => ?_, h.oth⟩
  rw [List.mem_cons] at hp
  rcases hp with rfl | hp
  · exact .inr hnew
  · exact h.owns p hp

theorem hget_mem {id : Nat} {o : HObj} (h : hget H id = some o) : (id, o) ∈ H := by
  unfold hget at h
  cases hf : H.find? fun p => p.1 == id with
  | none => rw [hf] at h; cases h
  | some p =>
    rw [hf] at h
    simp only [Option.map_some, Option.some.injEq] at h
    have h1 := List.mem_of_find?_eq_some hf
    have h2 := List.find?_some hf
    simp only [beq_iff_eq] at h2
    rw [← h, ← h2]
    exact h1

theorem hset_eq {r : Nat × HObj → Nat × HObj → Prop} (id : Nat) (o : HObj) : ∀ {H : Heap}, (H.Pairwise fun p q => p.1 ≠ q.1 ∧ r p q) → hset H id o = hsetM H id o
  | [], _ => rfl
  | p :: H, h => by
    rw [List.pairwise_cons] at h
    unfold hset
    by_cases hp : p.1 = id
    · rw [if_pos hp]
      unfold hsetM
      rw [List.map_cons, if_pos hp]
      congr 1
      rw [List.map_congr_left (g := fun p => p) (fun q hq => by rw [if_neg (fun e => (h.1 q hq).1 (hp.trans e.symm))])]
      simp
    · rw [if_neg hp, hset_eq id o h.2]
      unfold hsetM
      rw [List.map_cons, if_neg hp]

theorem mem_hset {id : Nat} {o : HObj} {p : Nat × HObj} (h : p ∈ hsetM H id o) : (p = (id, o)) ∨ (p.1 ≠ id ∧ p ∈ H) := by
  unfold hsetM at h
  rw [List.mem_map] at h
  obtain ⟨q, hq, e⟩ := h
  by_cases hi : q.1 = id
  · rw [if_pos hi] at e; exact .inl e.symm
  · rw [if_neg hi] at e; subst e; exact .inr ⟨hi, hq⟩

/-- The named block changes (its cells, or what is known of it, or where it lies); the rest stays. -/
theorem HRel.set {g' : Ghost} {w' : World} {id : Nat} {o o' : HObj} (h : HRel g n H w) (hm : (id, o) ∈ H) (hx : Ext n g w g' w')
    (hkeep : ∀ p ∈ H, p.1 ≠ id → g'.β p.1 = g.β p.1 ∧ g'.fr p.1 = g.fr p.1 ∧ g'.φ (g.β p.1) = g.φ (g.β p.1) ∧ w'.heap[g.β p.1]? = w.heap[g.β p.1]?)
    (hnew : g'.β id = g.β id ∨ w.heap.size ≤ g'.β id) (ho : EntRel g' n w' id o') (hf : ∀ b, 0 < g'.φ b → room w' b (g'.φ b)) : HRel g' n (hsetM H id o') w' := by
  refine ⟨?_, fun p hp => ?_, hf⟩
  · unfold hsetM
    rw [List.pairwise_map]
    refine h.apart.imp_of_mem ?_
    intro p q hp hq hpq
    have aux : ∀ r ∈ H, r.1 ≠ id → g'.β r.1 ≠ g'.β id := fun r hr hri => by
      rw [(hkeep r hr hri).1]
      rcases hnew with e | e
      · rw [e]
        rcases pairwise_ne h.apart hr hm hri with h1
        exact h1
      · have := (h.ent r hr).2.lt; omega
    by_cases hpi : p.1 = id <;> by_cases hqi : q.1 = id
    · exact absurd (hpi.trans hqi.symm) hpq.1
    · rw [if_pos hpi, if_neg hqi]
      exact ⟨fun e => hqi e.symm, (aux q hq hqi).symm⟩
    · rw [if_neg hpi, if_pos hqi]
      exact ⟨hpi, aux p hp hpi⟩
    · rw [if_neg hpi, if_neg hqi]
      refine ⟨hpq.1, ?_⟩
      rw [(hkeep p hp hpi).1, (hkeep q hq hqi).1]
      exact hpq.2
  · rcases mem_hset hp with rfl | ⟨hi, hp⟩
    · exact ⟨(h.ent _ hm).1, ho⟩
    · obtain ⟨h1, h2, h3, h4⟩ := hkeep p hp hi
      exact ⟨(h.ent p hp).1, (h.ent p hp).2.ext hx (Nat.le_refl _) h1 h2 h3 h4⟩
where
  pairwise_ne {g : Ghost} {H : Heap} {r : Nat × HObj} {id : Nat} {o : HObj} (h : H.Pairwise fun p q => p.1 ≠ q.1 ∧ g.β p.1 ≠ g.β q.1) (hr : r ∈ H) (hm : (id, o) ∈ H) (hne : r.1 ≠ id) : g.β r.1 ≠ g.β id := by
    induction H with
    | nil => cases hr
    | cons x xs ih =>
      rw [List.pairwise_cons] at h
      rw [List.mem_cons] at hr hm
      rcases hr with rfl | hr
      · rcases hm with e | hm
        · subst e; exact absurd rfl hne
        · exact (h.1 _ hm).2
      · rcases hm with e | hm
        · subst e; exact fun e => (h.1 _ hr).2 e.symm
        · exact ih h.2 hr hm

theorem apart_of {r : Nat × HObj} {id : Nat} {o : HObj} (h : HRel g n H w) (hr : r ∈ H) (hm : (id, o) ∈ H) (hne : r.1 ≠ id) : g.β r.1 ≠ g.β id :=
  HRel.set.pairwise_ne h.apart hr hm hne

end Go.Ab
