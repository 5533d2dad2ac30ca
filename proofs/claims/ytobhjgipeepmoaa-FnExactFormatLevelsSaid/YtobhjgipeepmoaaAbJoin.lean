/- strings.Join, told by abstract values. Over any program. -/
import Derived.Shelf.Strings.OnBuilder
import Derived.Test.YtobhjgipeepmoaaAbSiz
namespace Go.Ab
open Go.Proofs Go.Shelf Go.RowKit
set_option linter.unusedVariables false
variable {P : Program}

theorem out_below {g : Ghost} {n : Nat} {w w' : World} {H : Heap} {R : AV → Nat → Heap → Prop} {v : AV} {c : Value} (hh : HRel g n H w) (hb : Below w.heap.size w w') (hr : R v n H) (hv : VRel g n w' v c) : Out g n w H R c w' := by
  have hold : ∀ b, b < w.heap.size → w'.heap[b]? = w.heap[b]? := fun b h => hb.block b h
  obtain ⟨hx', hh'⟩ := stands hh hb.size hold
  exact ⟨v, n, H, g, hr, Nat.le_refl _, hv, hh', { hx' with size := hb.size, old := fun b h _ => ⟨hold b h, rfl⟩, owns := fun p hp => .inl ⟨p, hp, rfl⟩, oth := ⟨hb.os, hb.tape, hb.output⟩ }⟩
theorem vrels_strs {g : Ghost} {n : Nat} {w : World} : ∀ {l : List (List UInt8)} {vs : List Value}, VRels g n w (enc l).flatten vs → vs = l.map fun s => Value.string ⟨s.toArray⟩
  | [], vs, h => by cases h; rfl
  | x :: l, vs, h => by
    rw [enc_cons, List.flatten_cons] at h
    cases h with | cons _ v _ us h t =>
    cases h
    rw [vrels_strs t]; rfl
theorem run_lt' {w : World} {b off : Nat} {vs : List Value} (h : Run w b off vs) {j : Nat} (hj : j < vs.length) : b < w.heap.size := by
  have := h j _ (List.getElem?_eq_getElem hj)
  unfold World.cell? at this
  rcases Nat.lt_or_ge b w.heap.size with h' | h'
  · exact h'
  · rw [show w.heap[(⟨b, off + j, none⟩ : Addr).block]? = none from Array.getElem?_eq_none h'] at this; cases this

def C_joinB (P : Program) (k : Nat) : Prop := ∃ ρ : Ren, ρ.f 156 = k ∧ Lays.n156 P ρ ∧ Builder.Extra P ρ
def C_join (P : Program) (k : Nat) : Prop := ∀ (l : List (List UInt8)) (sep : List UInt8), l.length ≤ 4294967296 → (Lib.join l sep).length ≤ 140737488355328 → RunsF P k [.sl (enc l), .str sep] (.str (Lib.join l sep))
theorem join_runs {k : Nat} (hJ : C_joinB P k) : C_join P k := by
  obtain ⟨ρ, rfl, L, X⟩ := hJ
  intro l sep hl hlen n H g w cs hv hh
  cases hv with | cons _ _ _ _ h1 t =>
  cases t with | cons _ _ _ _ h2 t =>
  cases t
  cases h2
  cases h1 with | sl _ s sa b1 off1 cap xs ha hc hs hf1 hr1 hx =>
  have hxs := vrels_strs hx
  subst hxs
  have hle : (enc l).length = l.length := enc_len l
  have e : ∀ args, (callFunc (ρ.f 156) args).run P w = .ok (.enter (ρ.f 156) args) w := fun args => enters_of L.f156 (by kernel_rfl) rfl args w
  rw [e]
  have hmap : (l.map fun s => (⟨s.toArray⟩ : ByteArray)).map (fun b => b.data.toList) = l := by
    rw [List.map_map]; exact (List.map_congr_left fun s _ => rfl).trans (List.map_id l)
  by_cases hl0 : l = []
  · subst hl0
    refine Calls.mono (Any.strings_Join_none L X sa cap ⟨sep.toArray⟩ w) ?_
    rintro e2 w' ⟨rfl, rfl⟩
    exact ⟨_, rfl, out_below hh (Below.refl _ _) ⟨rfl, rfl, rfl⟩ (.str [])⟩
  have hne : enc l ≠ [] := fun h => hl0 (List.eq_nil_of_length_eq_zero (by rw [← hle, h]; rfl))
  have hpos : 0 < l.length := List.length_pos_iff.mpr hl0
  rw [ha hne, hle]
  have key := Any.strings_Join L X b1 off1 cap (l.map fun s => (⟨s.toArray⟩ : ByteArray)) ⟨sep.toArray⟩ w (fun j x hj => by
    obtain ⟨s, hs1, rfl⟩ : ∃ s, l[j]? = some s ∧ x = ⟨s.toArray⟩ := by
      rw [List.getElem?_map] at hj
      obtain ⟨s, h1, h2⟩ := Option.map_eq_some_iff.mp hj
      exact ⟨s, h1, h2.symm⟩
    exact hr1 j _ (by rw [List.getElem?_map, hs1]; rfl)) (run_lt' hr1 (j := 0) (by simpa using hpos)) (by rw [List.length_map]; omega) (by rw [List.length_map]; omega) (by rw [hmap]; exact hlen)
  rw [List.length_map, hmap] at key
  refine Calls.mono key ?_
  rintro e2 w' ⟨rfl, hb⟩
  exact ⟨_, rfl, out_below hh hb ⟨rfl, rfl, rfl⟩ (.str _)⟩
end Go.Ab
