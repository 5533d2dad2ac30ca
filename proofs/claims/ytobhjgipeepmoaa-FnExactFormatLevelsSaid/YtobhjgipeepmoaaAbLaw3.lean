/- A law's arguments as data. Over any program. -/
import Derived.Test.YtobhjgipeepmoaaAbLaw2
namespace Go.Ab
set_option linter.unusedVariables false
def HD (s : TS) (α : Type) [Dat α] (p : α → Prop) : Prop := ∀ cs, HasS s cs → ∃ a : α, cs = Dat.row a ∧ p a
variable {α β γ δ ε ζ : Type} [Dat α] [Dat β] [Dat γ] [Dat δ] [Dat ε] [Dat ζ] {p : α → Prop} {q : β → Prop} {r : γ → Prop} {u : δ → Prop} {v : ε → Prop} {x : ζ → Prop} {s1 s2 s3 s4 s5 s6 : TS}
theorem HD.bool : HD .bool Bool (fun _ => True) := fun cs ⟨b, h⟩ => ⟨b, h, trivial⟩
theorem HD.int : HD (.int .i64) Int (fun i => (Lit.int .i64 i).wf = true) := fun cs ⟨i, h, hw⟩ => ⟨i, h, hw⟩
theorem HD.u8 : HD (.int .u8) UInt8 (fun _ => True) := fun cs ⟨i, h, hw⟩ => by
  have hw' : 0 ≤ i ∧ i < 256 := by
    simp [Lit.wf] at hw
    have e1 : IntKind.u8.min = 0 := rfl
    have e2 : IntKind.u8.max = 255 := rfl
    omega
  refine ⟨UInt8.ofNat i.toNat, ?_, trivial⟩
  rw [h]
  show [AV.int .u8 i] = [AV.int .u8 ((UInt8.ofNat i.toNat).toNat : Int)]
  congr 2
  rw [UInt8.toNat_ofNat']
  omega
theorem HD.str : HD .str (List UInt8) (fun s => s.length ≤ maxLen) := fun cs ⟨s, h, hl⟩ => ⟨s, h, hl⟩
theorem HD.sl (h : HD s1 α p) : HD (.sl (Dat.z α) s1) (List α) (fun l => l.length ≤ maxLen ∧ ∀ a ∈ l, p a) := fun cs hs => by
  obtain ⟨rows, rfl, hl, hr⟩ := hs
  obtain ⟨l, rfl, hlen, hs⟩ := rows_of (fun a : α => Dat.row a) p (fun r hr' => h r (hr r hr').2)
  exact ⟨l, rfl, by omega, hs⟩
theorem HD.st1 (h1 : HD s1 α p) : HD (.st (.cons s1 .nil)) α p := fun cs hs => by
  obtain ⟨xs, ys, rfl, h, rfl⟩ := hs
  obtain ⟨a, rfl, ha⟩ := h1 _ h
  exact ⟨a, by simp, ha⟩
theorem HD.st2 (h1 : HD s1 α p) (h2 : HD s2 β q) : HD (.st (.cons s1 (.cons s2 .nil))) (α × β) (fun z => p z.1 ∧ q z.2) := fun cs hs => by
  obtain ⟨xs, ys, rfl, h, xs', ys', rfl, h', rfl⟩ := hs
  obtain ⟨a, rfl, ha⟩ := h1 _ h
  obtain ⟨b, rfl, hb⟩ := h2 _ h'
  exact ⟨(a, b), by rw [row_pair]; simp, ha, hb⟩
theorem HD.st3 (h1 : HD s1 α p) (h2 : HD s2 β q) (h3 : HD s3 γ r) : HD (.st (.cons s1 (.cons s2 (.cons s3 .nil)))) (α × β × γ) (fun z => p z.1 ∧ q z.2.1 ∧ r z.2.2) := fun cs hs => by
  obtain ⟨xs, ys, rfl, h, hs⟩ := hs
  obtain ⟨a, rfl, ha⟩ := h1 _ h
  obtain ⟨z, rfl, hz⟩ := HD.st2 h2 h3 ys hs
  exact ⟨(a, z), rfl, ha, hz⟩
theorem HD.st4 (h1 : HD s1 α p) (h2 : HD s2 β q) (h3 : HD s3 γ r) (h4 : HD s4 δ u) : HD (.st (.cons s1 (.cons s2 (.cons s3 (.cons s4 .nil))))) (α × β × γ × δ) (fun z => p z.1 ∧ q z.2.1 ∧ r z.2.2.1 ∧ u z.2.2.2) := fun cs hs => by
  obtain ⟨xs, ys, rfl, h, hs⟩ := hs
  obtain ⟨a, rfl, ha⟩ := h1 _ h
  obtain ⟨z, rfl, hz⟩ := HD.st3 h2 h3 h4 ys hs
  exact ⟨(a, z), rfl, ha, hz⟩
theorem HD.st5 (h1 : HD s1 α p) (h2 : HD s2 β q) (h3 : HD s3 γ r) (h4 : HD s4 δ u) (h5 : HD s5 ε v) : HD (.st (.cons s1 (.cons s2 (.cons s3 (.cons s4 (.cons s5 .nil)))))) (α × β × γ × δ × ε) (fun z => p z.1 ∧ q z.2.1 ∧ r z.2.2.1 ∧ u z.2.2.2.1 ∧ v z.2.2.2.2) := fun cs hs => by
  obtain ⟨xs, ys, rfl, h, hs⟩ := hs
  obtain ⟨a, rfl, ha⟩ := h1 _ h
  obtain ⟨z, rfl, hz⟩ := HD.st4 h2 h3 h4 h5 ys hs
  exact ⟨(a, z), rfl, ha, hz⟩
end Go.Ab
