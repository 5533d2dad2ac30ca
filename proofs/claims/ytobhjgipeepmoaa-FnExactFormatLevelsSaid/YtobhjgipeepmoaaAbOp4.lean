/- Each operation does in the world what the abstract run says: stores, slices that are built or made, appends, lengths, calls. Over any program. -/
import Derived.Test.YtobhjgipeepmoaaAbOp3
namespace Go.Ab
set_option linter.unusedVariables false
set_option linter.unusedSimpArgs false

variable {P : Program} {g : Ghost} {n : Nat} {w : World} {H : Heap} {ρ : Operand → Value} {K : AV → Nat → Heap → Prop}
  {dst : Option Tmp} {type : TypeId} {pos : String} {after : Array Edge} {guard : Option (Nat × Bool)}

theorem plain_one {a : AV} {c : Value} (h : VRel g n w a c) (hp : plain a = true) : c.oneCell' = true := by
  cases h <;> first | rfl | (simp [plain] at hp)
theorem plain_all {as : List AV} {vs : List Value} (h : VRels g n w as vs) (hp : as.all plain = true) : ∀ v ∈ vs, v.oneCell' = true := by
  induction as generalizing vs with
  | nil => cases h; intro v hv; cases hv
  | cons a as ih => cases h with | cons _ c _ cs h t =>
    simp only [List.all_cons, Bool.and_eq_true] at hp
    intro v hv
    rw [List.mem_cons] at hv
    rcases hv with rfl | hv
    · exact plain_one h hp.1
    · exact ih t hp.2 v hv

theorem flat_all {as : List AV} {vs : List Value} {m : Nat} (h : VRels g m w as vs) (hp : as.all flat = true) : ∀ v ∈ vs, v.oneCell' = true :=
  plain_all h (by
    rw [List.all_eq_true] at hp ⊢
    intro a ha
    have := hp a ha
    cases a <;> simp_all [flat, plain])

theorem room_setRow {b k : Nat} {bl : Nat} {old cs : Array Value} {t : TypeId} {fr : Nat × Nat} (hg : w.heap[bl]? = some (.cells old t fr)) (hsz : cs.size = old.size) (h : room w b k) : room (w.setRow bl cs) b k := by
  obtain ⟨c, el, fz, h1, h2⟩ := h
  by_cases hb : b = bl
  · subst hb
    rw [hg] at h1
    cases h1
    exact ⟨cs, t, fr, setRow_heap w b old cs t fr hg, by omega⟩
  · exact ⟨c, el, fz, by rw [setRow_other w bl b cs hb]; exact h1, h2⟩

/-- A store into an owned block. -/
theorem snd_st {t : TypeId} {s : Option Nat} {x y : Operand} {a b : AV} (hc : ldSize P t = some s) (hsz : P.cellsOf t = s.getD 1) (ha : VRel g n w a (ρ x)) (hb : VRel g n w b (ρ y)) (hH : HRel g n H w)
    (hx : xop P (.st s) [a, b] n H K) : OpR P ⟨dst, .store t x y, type, pos, after, guard⟩ ρ g n w H K := by
  generalize hx1 : ρ x = u at ha
  cases ha <;> simp only [xop, fop, oK_none] at hx
  case ptr id off hk' hid =>
    split at hx
    · rename_i cells xs hg hxs
      obtain ⟨⟨hl, hle, hpl⟩, hk⟩ := hx
      rw [hset_eq id _ hH.apart] at hk
      obtain ⟨hlt, hfr, hphi, c, el, vs, hblk, hcv, hvs⟩ := hH.ent _ (hget_mem hg)
      have hrel := hb.cellsOf hxs
      have hlen := hrel.length
      have hone := plain_all hrel hpl
      have hvl := hvs.length
      have hcl : vs.length ≤ c.size := by
        rcases Nat.lt_or_ge c.size vs.length with h' | h'
        · have := hcv c.size vs[c.size] (by rw [List.getElem?_eq_getElem h'])
          simp at this
        · exact h'
      have hst := run_storeCells_at P (g.β id) off el (ρ y).cells.toList 0 c w hblk (by simp only [Nat.add_zero]; omega) hone
      simp only [Nat.add_zero] at hst
      generalize hcs : (c.toList.take off ++ (ρ y).cells.toList ++ c.toList.drop (off + (ρ y).cells.toList.length)).toArray = cs at hst
      have hcssz : cs.size = c.size := by subst hcs; simp; simp at hlen; omega
      obtain ⟨i, hi⟩ : ∃ i, P.info? t = some i := by
        unfold ldSize at hc
        cases hu : P.underlying t with
        | none => rw [hu] at hc; cases hc
        | some d => exact info_of_underlying hu
      have hisz : (ρ y).cells.size = i.size := by
        have e1 : P.cellsOf t = i.size := by simp [Program.cellsOf, hi]
        rw [← e1, hsz, ← hl, hlen]; simp
      have hrun : (execOp ρ ⟨dst, .store t x y, type, pos, after, guard⟩).run P w = .ok .skip (w.setRow (g.β id) cs) := by
        simp [execOp, hx1, Instr.storeAt, Instr.sureAddr, storeVar, sizeOf, typeInfo, hi, hisz, hst]
      have hcell0 : ∀ b i, i < g.φ b → (w.setRow (g.β id) cs).cell? ⟨b, i, none⟩ = w.cell? ⟨b, i, none⟩ := fun b i hi => by
        refine cell_setRow_other w (g.β id) cs ⟨b, i, none⟩ ?_
        rintro rfl
        rw [hphi] at hi; exact absurd hi (Nat.not_lt_zero _)
      have hext : Ext n g w g (w.setRow (g.β id) cs) :=
        ⟨hcell0, fun _ => Nat.le_refl _, fun _ _ => .inl ⟨rfl, rfl⟩, fun b k h => room_setRow hblk hcssz h⟩
      unfold OpR
      rw [hrun]
      refine ⟨.junk, n, _, g, hk, Nat.le_refl _, .junk _, ?_, { hext with size := by simp, old := fun b hb hno => ?_, owns := fun p hp => ?_, oth := ⟨rfl, rfl, rfl⟩ }⟩
      · refine hH.set (hget_mem hg) hext (fun p hp hpi => ⟨rfl, rfl, rfl, setRow_other w _ _ cs (apart_of hH hp (hget_mem hg) hpi)⟩) (.inl rfl) ?_ (fun b hb => room_setRow hblk hcssz (hH.fsz b hb))
        refine ⟨hfr, hphi, cs, el, vs.take off ++ (ρ y).cells.toList ++ vs.drop (off + (ρ y).cells.toList.length), setRow_heap w _ c cs el (0, 0) hblk, ?_, ?_⟩
        · intro j v hj
          subst hcs
          have e1 : (ρ y).cells.toList.length = xs.length := hlen.symm
          simp only [List.getElem?_toArray]
          rw [List.append_assoc] at hj ⊢
          rw [List.getElem?_append] at hj ⊢
          simp only [List.length_take, Array.length_toList] at hj ⊢
          by_cases h1 : j < off
          · rw [if_pos (by omega)] at hj ⊢
            rw [List.getElem?_take_of_lt h1] at hj ⊢
            have := hcv j v hj
            simpa using this
          · rw [if_neg (by omega)] at hj ⊢
            have e2 : min off vs.length = off := by omega
            have e3 : min off c.size = off := by omega
            rw [e2] at hj; rw [e3]
            rw [List.getElem?_append] at hj ⊢
            by_cases h2 : j - off < (ρ y).cells.toList.length
            · rw [if_pos h2] at hj ⊢; exact hj
            · rw [if_neg h2] at hj ⊢
              rw [List.getElem?_drop] at hj ⊢
              have := hcv _ v hj
              simpa using this
        · have := ((hvs.take off).append hrel).append (hvs.drop (off + (ρ y).cells.toList.length))
          unfold setCells
          rw [hlen]
          exact this.ext hext (Nat.le_refl _)
      · exact ⟨setRow_other w _ _ cs (fun e => hno _ (hget_mem hg) e.symm), rfl⟩
      · rcases mem_hset hp with rfl | ⟨_, hp⟩
        · exact .inl ⟨_, hget_mem hg, rfl⟩
        · exact .inl ⟨p, hp, rfl⟩
    · exact hx.elim
  case vptr id ver off a hl0 hid =>
    obtain ⟨sz, cells, hg, hx⟩ := vget_elim hx
    obtain ⟨xs, hxs, hx⟩ := oK_elim hx
    obtain ⟨_, hloc⟩ := hl0 _ (vob_run hH hg).1
    have had := hloc rfl
    subst had
    obtain ⟨⟨hl, hle, hpl⟩, hk⟩ := hx
    rw [hset_eq id _ hH.apart] at hk
    obtain ⟨hlt, hfr, hphi, c, el, vs, hblk, hcv, hvs⟩ := hH.ent _ (hget_mem hg)
    have hrel := hb.cellsOf hxs
    have hlen := hrel.length
    have hone := plain_all hrel hpl
    have hvl := hvs.length
    have hcl : vs.length ≤ c.size := by
      rcases Nat.lt_or_ge c.size vs.length with h' | h'
      · have := hcv c.size vs[c.size] (by rw [List.getElem?_eq_getElem h'])
        simp at this
      · exact h'
    have hst := run_storeCells_at P (g.β id) off el (ρ y).cells.toList 0 c w hblk (by simp only [Nat.add_zero]; omega) hone
    simp only [Nat.add_zero] at hst
    generalize hcs : (c.toList.take off ++ (ρ y).cells.toList ++ c.toList.drop (off + (ρ y).cells.toList.length)).toArray = cs at hst
    have hcssz : cs.size = c.size := by subst hcs; simp; simp at hlen; omega
    obtain ⟨i, hi⟩ : ∃ i, P.info? t = some i := by
      unfold ldSize at hc
      cases hu : P.underlying t with
      | none => rw [hu] at hc; cases hc
      | some d => exact info_of_underlying hu
    have hisz : (ρ y).cells.size = i.size := by
      have e1 : P.cellsOf t = i.size := by simp [Program.cellsOf, hi]
      rw [← e1, hsz, ← hl, hlen]; simp
    have hrun : (execOp ρ ⟨dst, .store t x y, type, pos, after, guard⟩).run P w = .ok .skip (w.setRow (g.β id) cs) := by
      simp [execOp, hx1, Instr.storeAt, Instr.sureAddr, storeVar, sizeOf, typeInfo, hi, hisz, hst]
    have hcell0 : ∀ b i, i < g.φ b → (w.setRow (g.β id) cs).cell? ⟨b, i, none⟩ = w.cell? ⟨b, i, none⟩ := fun b i hi => by
      refine cell_setRow_other w (g.β id) cs ⟨b, i, none⟩ ?_
      rintro rfl
      rw [hphi] at hi; exact absurd hi (Nat.not_lt_zero _)
    have hext : Ext n g w g (w.setRow (g.β id) cs) :=
      ⟨hcell0, fun _ => Nat.le_refl _, fun _ _ => .inl ⟨rfl, rfl⟩, fun b k h => room_setRow hblk hcssz h⟩
    unfold OpR
    rw [hrun]
    refine ⟨.junk, n, _, g, hk, Nat.le_refl _, .junk _, ?_, { hext with size := by simp, old := fun b hb hno => ?_, owns := fun p hp => ?_, oth := ⟨rfl, rfl, rfl⟩ }⟩
    · refine hH.set (hget_mem hg) hext (fun p hp hpi => ⟨rfl, rfl, rfl, setRow_other w _ _ cs (apart_of hH hp (hget_mem hg) hpi)⟩) (.inl rfl) ?_ (fun b hb => room_setRow hblk hcssz (hH.fsz b hb))
      refine ⟨hfr, hphi, cs, el, vs.take off ++ (ρ y).cells.toList ++ vs.drop (off + (ρ y).cells.toList.length), setRow_heap w _ c cs el (0, 0) hblk, ?_, ?_⟩
      · intro j v hj
        subst hcs
        have e1 : (ρ y).cells.toList.length = xs.length := hlen.symm
        simp only [List.getElem?_toArray]
        rw [List.append_assoc] at hj ⊢
        rw [List.getElem?_append] at hj ⊢
        simp only [List.length_take, Array.length_toList] at hj ⊢
        by_cases h1 : j < off
        · rw [if_pos (by omega)] at hj ⊢
          rw [List.getElem?_take_of_lt h1] at hj ⊢
          have := hcv j v hj
          simpa using this
        · rw [if_neg (by omega)] at hj ⊢
          have e2 : min off vs.length = off := by omega
          have e3 : min off c.size = off := by omega
          rw [e2] at hj; rw [e3]
          rw [List.getElem?_append] at hj ⊢
          by_cases h2 : j - off < (ρ y).cells.toList.length
          · rw [if_pos h2] at hj ⊢; exact hj
          · rw [if_neg h2] at hj ⊢
            rw [List.getElem?_drop] at hj ⊢
            have := hcv _ v hj
            simpa using this
      · have := ((hvs.take off).append hrel).append (hvs.drop (off + (ρ y).cells.toList.length))
        unfold setCells
        rw [hlen]
        exact this.ext hext (Nat.le_refl _)
    · exact ⟨setRow_other w _ _ cs (fun e => hno _ (hget_mem hg) e.symm), rfl⟩
    · rcases mem_hset hp with rfl | ⟨_, hp⟩
      · exact .inl ⟨_, hget_mem hg, rfl⟩
      · exact .inl ⟨p, hp, rfl⟩

end Go.Ab
