/- A law's arguments as lists of strings, numbers and so on. Over any program. -/
import Derived.Test.YtobhjgipeepmoaaAbLaw
import Derived.Test.YtobhjgipeepmoaaAbEnc
namespace Go.Ab
theorem rows_of {α : Type} (f : α → List AV) (p : α → Prop) : ∀ {rows : List (List AV)}, (∀ r ∈ rows, ∃ x, r = f x ∧ p x) → ∃ l : List α, rows = l.map f ∧ l.length = rows.length ∧ ∀ x ∈ l, p x
  | [], _ => ⟨[], rfl, rfl, fun x hx => by cases hx⟩
  | r :: rows, h => by
    obtain ⟨x, rfl, hx⟩ := h r (List.mem_cons_self ..)
    obtain ⟨l, rfl, hlen, hl⟩ := rows_of f p (fun r hr => h r (List.mem_cons_of_mem _ hr))
    exact ⟨x :: l, rfl, by simp, fun y hy => by
      rw [List.mem_cons] at hy
      rcases hy with rfl | hy
      · exact hx
      · exact hl y hy⟩
theorem getD_mem {α : Type} [Inhabited α] {l : List α} {i : Nat} (h : i < l.length) : l.getD i default ∈ l := by
  rw [List.getD_eq_getElem?_getD, List.getElem?_eq_getElem h]; exact List.getElem_mem h
theorem has_strs {cs : List AV} (h : HasS (.sl 1 .str) cs) : ∃ l : List (List UInt8), cs = [.sl (strs l)] ∧ l.length ≤ maxLen ∧ ∀ s ∈ l, s.length ≤ maxLen := by
  obtain ⟨rows, rfl, hl, hr⟩ := h
  obtain ⟨l, rfl, hlen, hs⟩ := rows_of (fun s : List UInt8 => [AV.str s]) (fun s => s.length ≤ maxLen) (fun r hr' => (hr r hr').2)
  exact ⟨l, rfl, by omega, hs⟩
theorem has_ints {cs : List AV} (h : HasS (.sl 1 (.int .i64)) cs) : ∃ l : List Int, cs = [.sl (ints l)] ∧ l.length ≤ maxLen ∧ ∀ i ∈ l, (Lit.int .i64 i).wf = true := by
  obtain ⟨rows, rfl, hl, hr⟩ := h
  obtain ⟨l, rfl, hlen, hs⟩ := rows_of (fun i : Int => [AV.int .i64 i]) (fun i => (Lit.int .i64 i).wf = true) (fun r hr' => (hr r hr').2)
  exact ⟨l, rfl, by omega, hs⟩
end Go.Ab
