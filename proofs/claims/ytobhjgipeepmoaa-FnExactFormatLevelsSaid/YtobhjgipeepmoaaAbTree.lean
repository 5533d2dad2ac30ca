/- Owned trees: what a call hands back and nobody else holds; freezing it, lending it, taking it over. Over any program. -/
import Derived.Test.YtobhjgipeepmoaaAbOwn
namespace Go.Ab
set_option linter.unusedVariables false
set_option linter.unusedSimpArgs false

mutual
/-- v names, by the entries N of the heap, what t says by content. -/
inductive Tree (b : Bool) : Heap → AV → AV → Prop
  | leaf (v : AV) (h : simple v = true) : Tree b [] v v
  | nil : Tree b [] (.sl []) .nilsl
  | emp : Tree b [] (.sl []) (.sl [])
  | acc {id s : Nat} {rows : List (List AV)} (hb : b = true) (hs : rows.flatten.all simple = true) : Tree b [(id, .tok s rows.length)] (.sl rows) (.acc id s rows)
  | ref {id s : Nat} {rows : List (List AV)} {cells : List AV} {N : Heap} (hr : ∀ r ∈ rows, r.length = s) (t : Trees b N rows.flatten cells) : Tree b ((id, .own cells) :: N) (.sl rows) (.ref id s 0 rows.length)
  | vec {id ver s z : Nat} {rows : List (List AV)} {cells : List AV} {N : Heap} (hb : b = true) (hr : ∀ r ∈ rows, r.length = s) (t : Trees b N rows.flatten (cells.take (rows.length * s))) :
      Tree b ((id, .vob ver z cells) :: N) (.sl rows) (.vec id ver s 0 rows.length)
  | agg {N : Heap} {as cs : List AV} (t : Trees b N as cs) : Tree b N (.agg as) (.agg cs)
  | tup {N : Heap} {as cs : List AV} (t : Trees b N as cs) : Tree b N (.tup as) (.tup cs)
inductive Trees (b : Bool) : Heap → List AV → List AV → Prop
  | nil : Trees b [] [] []
  | cons {N M : Heap} {a c : AV} {as cs : List AV} (h : Tree b N a c) (t : Trees b M as cs) : Trees b (N ++ M) (a :: as) (c :: cs)
end

theorem Trees.leaves {b : Bool} : ∀ {l : List AV}, l.all simple = true → Trees b [] l l
  | [], _ => .nil
  | a :: l, h => by
    simp only [List.all_cons, Bool.and_eq_true] at h
    exact .cons (N := []) (M := []) (.leaf a h.1) (Trees.leaves h.2)
theorem Trees.length {b : Bool} {N : Heap} {as cs : List AV} (h : Trees b N as cs) : as.length = cs.length := by
  induction as generalizing N cs with
  | nil => cases h; rfl
  | cons a as ih => cases h with | cons _ t => simp [ih t]
theorem Trees.append {b : Bool} : ∀ {N M : Heap} {as cs bs ds : List AV}, Trees b N as cs → Trees b M bs ds → Trees b (N ++ M) (as ++ bs) (cs ++ ds)
  | _, _, _, _, _, _, .nil, h => h
  | _, _, _, _, _, _, .cons (N := N) (M := M) h t, h' => by
    rw [List.append_assoc]
    exact .cons h (t.append h')

theorem own_le {n : Nat} {g : Ghost} {w : World} {c : Array Value} {vs : List Value} (h4 : ∀ (i : Nat) (v : Value), vs[i]? = some v → c[i]? = some v) : vs.length ≤ c.size := by
  rcases Nat.lt_or_ge c.size vs.length with h' | h'
  · have := h4 c.size vs[c.size] (by rw [List.getElem?_eq_getElem h'])
    simp at this
  · exact h'

theorem run_of {w : World} {b : Nat} {c : Array Value} {el : TypeId} {vs : List Value} (h3 : w.heap[b]? = some (.cells c el (0, 0))) (h4 : ∀ (i : Nat) (v : Value), vs[i]? = some v → c[i]? = some v) : Run w b 0 vs := by
  intro i v hi
  rw [Nat.zero_add]
  have := h4 i v hi
  simpa [World.cell?, h3] using this

theorem phi_of {w : World} {b : Nat} {c : Array Value} {el : TypeId} (h3 : w.heap[b]? = some (.cells c el (0, 0))) : phi0 w b = c.size := by unfold phi0; rw [h3]

mutual
/-- Frozen, it reads as it says. -/
theorem Tree.frz {b : Bool} {G g : Ghost} {n : Nat} {w : World} : ∀ {N : Heap} {t v : AV} {c : Value}, Tree b N t v → VRel g n w v c → (∀ p ∈ N, EntRel g n w p.1 p.2 ∧ phi0 w (g.β p.1) ≤ G.φ (g.β p.1)) → VRel G 0 w t c
  | _, _, _, _, .leaf v h, hv, _ => hv.simp h
  | _, _, _, _, .nil, hv, _ => by cases hv; exact VRel.nil0
  | _, _, _, _, .emp, hv, _ => by
    cases hv with | sl _ s a b off cap vs ha hc hs hf hr hv =>
    cases hv
    exact .sl [] 0 _ 0 0 _ [] (fun h => absurd rfl h) hc (fun r hr => absurd hr (by simp)) (fun h => absurd rfl h) (fun i v hi => by simp at hi) .nil
  | _, _, _, _, .acc (id := id) (s := s) (rows := rows) hb hs, hv, hN => by
    obtain ⟨⟨hfr, hphi, c, el, h3, h4⟩, hG⟩ := hN _ (List.mem_singleton.mpr rfl)
    cases hv with | acc _ _ _ a b off cap vs ha hc hs' hf hr hvs hid hl =>
    obtain ⟨rfl, hroom⟩ := (hl _ hfr).2 rfl
    refine .sl rows s _ b off cap vs ha hc hs' (fun hne => ?_) hr (hvs.simp hs)
    have := ha hne
    simp only [Option.some.injEq, Addr.mk.injEq] at this
    obtain ⟨rfl, rfl, _⟩ := this
    rw [phi_of h3] at hG
    dsimp only at *
    omega
  | _, _, _, _, .ref (id := id) (s := s) (rows := rows) (cells := cells) (N := N) hr t, hv, hN => by
    obtain ⟨⟨hfr, hphi, c, el, vs, h3, h4, h5⟩, hG⟩ := hN _ (List.mem_cons_self ..)
    cases hv with | ref _ _ _ _ cap hid hk hc hroom =>
    have hvs := t.frz h5 (fun p hp => hN p (List.mem_cons_of_mem _ hp))
    have hl := hvs.length
    rw [flatten_length hr] at hl
    have hle := own_le (n := n) (g := g) (w := w) h4
    rw [phi_of h3] at hG
    dsimp only at *
    exact .sl rows s _ (g.β id) 0 cap vs (fun _ => rfl) hc hr (fun _ => by omega) (run_of h3 h4) hvs
  | _, _, _, _, .vec (id := id) (ver := ver) (s := s) (rows := rows) (cells := cells) (N := N) hb hr t, hv, hN => by
    obtain ⟨⟨hfr, hphi, c, el, vs, h3, h4, h5⟩, hG⟩ := hN _ (List.mem_cons_self ..)
    cases hv with | vec _ _ _ _ _ a cap hid hl =>
    obtain ⟨rfl, hc, hroom⟩ := (hl _ hfr).2 rfl
    have hvs := t.frz (h5.take (rows.length * s)) (fun p hp => hN p (List.mem_cons_of_mem _ hp))
    have hl := hvs.length
    rw [flatten_length hr] at hl
    have hle := own_le (n := n) (g := g) (w := w) h4
    rw [phi_of h3] at hG
    dsimp only at *
    have hl2 : (vs.take (rows.length * s)).length ≤ vs.length := by rw [List.length_take]; omega
    exact .sl rows s _ (g.β id) 0 cap _ (fun _ => rfl) hc hr (fun _ => by omega) ((run_of h3 h4).take _) hvs
  | _, _, _, _, .agg t, hv, hN => by cases hv with | agg _ vs h => exact .agg _ _ (t.frz h hN)
  | _, _, _, _, .tup t, hv, hN => by cases hv with | tup _ vs h => exact .tup _ _ (t.frz h hN)
theorem Trees.frz {b : Bool} {G g : Ghost} {n : Nat} {w : World} : ∀ {N : Heap} {ts vs : List AV} {cs : List Value}, Trees b N ts vs → VRels g n w vs cs → (∀ p ∈ N, EntRel g n w p.1 p.2 ∧ phi0 w (g.β p.1) ≤ G.φ (g.β p.1)) → VRels G 0 w ts cs
  | _, _, _, _, .nil, hv, _ => by cases hv; exact .nil
  | _, _, _, _, .cons h t, hv, hN => by
    cases hv with | cons _ c _ cs hv tv =>
    exact .cons _ _ _ _ (h.frz hv fun p hp => hN p (List.mem_append_left _ hp)) (t.frz tv fun p hp => hN p (List.mem_append_right _ hp))
end

mutual
/-- Taken over under new numbers: each block an owned one. -/
theorem Tree.take {b : Bool} {G g : Ghost} {n k : Nat} {w : World} (hG : ∀ j, G.β (k + j) = g.β j ∧ G.fr (k + j) = none) : ∀ {N : Heap} {t v : AV} {c : Value}, Tree b N t v → VRel g n w v c →
    (∀ p ∈ N, EntRel g n w p.1 p.2 ∧ G.φ (g.β p.1) = 0) → ∃ N' v', Tree false N' t v' ∧ VRel G (k + n) w v' c ∧ (∀ p ∈ N', EntRel G (k + n) w p.1 p.2) ∧ N'.map Prod.fst = N.map fun p => k + p.1
  | _, _, _, _, .leaf v h, hv, _ => ⟨[], v, .leaf v h, hv.simp h, (fun p hp => by cases hp), rfl⟩
  | _, _, _, _, .nil, hv, _ => by cases hv; exact ⟨[], .nilsl, .nil, .nilsl, (fun p hp => by cases hp), rfl⟩
  | _, _, _, _, .emp, hv, _ => by
    cases hv with | sl _ s a b off cap vs ha hc hs hf hr hv =>
    cases hv
    exact ⟨[], .sl [], .emp, .sl [] 0 _ 0 0 _ [] (fun h => absurd rfl h) hc (fun r hr => absurd hr (by simp)) (fun h => absurd rfl h) (fun i v hi => by simp at hi) .nil, (fun p hp => by cases hp), rfl⟩
  | _, _, _, _, .acc (id := id) (s := s) (rows := rows) hb hs, hv, hN => by
    obtain ⟨⟨hfr, hphi, c, el, h3, h4⟩, hG0⟩ := hN _ (List.mem_singleton.mpr rfl)
    cases hv with | acc _ _ _ a b off cap vs ha hc hs' hf hr hvs hid hl =>
    obtain ⟨rfl, hroom⟩ := (hl _ hfr).2 rfl
    obtain ⟨e1, e2⟩ := hG id
    refine ⟨[(k + id, .own rows.flatten)], .ref (k + id) s 0 rows.length, .ref hs' (Trees.leaves hs), ?_, ?_, rfl⟩
    · have := VRel.ref (g := G) (n := k + n) (w := w) (k + id) s 0 rows.length cap (by omega) e2 hc (by rw [e1, Nat.zero_add]; exact hroom)
      rwa [e1] at this
    · intro p hp
      rw [List.mem_singleton] at hp
      subst hp
      refine ⟨e2, by rw [e1]; exact hG0, c, el, vs, by rw [e1]; exact h3, ?_, hvs.simp hs⟩
      intro i v hi
      have hvl := hvs.length
      have hne : rows ≠ [] := by
        rintro rfl
        have : vs = [] := List.eq_nil_of_length_eq_zero (by rw [← hvl]; rfl)
        subst this
        simp at hi
      have he := ha hne
      simp only [Option.some.injEq, Addr.mk.injEq, and_true] at he
      obtain ⟨rfl, rfl⟩ := he
      have := hr i v hi
      rw [Nat.zero_add] at this
      simpa [World.cell?, h3] using this
  | _, _, _, _, .ref (id := id) (s := s) (rows := rows) (cells := cells) (N := N) hr t, hv, hN => by
    obtain ⟨⟨hfr, hphi, c, el, vs, h3, h4, h5⟩, hG0⟩ := hN _ (List.mem_cons_self ..)
    cases hv with | ref _ _ _ _ cap hid hk hc hroom =>
    obtain ⟨e1, e2⟩ := hG id
    obtain ⟨N', cells', q1, q2, q3, q4⟩ := t.take hG h5 (fun p hp => hN p (List.mem_cons_of_mem _ hp))
    refine ⟨(k + id, .own cells') :: N', .ref (k + id) s 0 rows.length, .ref hr q1, ?_, ?_, by simp [q4]⟩
    · have := VRel.ref (g := G) (n := k + n) (w := w) (k + id) s 0 rows.length cap (by omega) e2 hc (by rw [e1]; exact hroom)
      rwa [e1] at this
    · intro p hp
      rw [List.mem_cons] at hp
      rcases hp with rfl | hp
      · exact ⟨e2, by rw [e1]; exact hG0, c, el, vs, by rw [e1]; exact h3, h4, q2⟩
      · exact q3 p hp
  | _, _, _, _, .vec (id := id) (ver := ver) (s := s) (rows := rows) (cells := cells) (N := N) hb hr t, hv, hN => by
    obtain ⟨⟨hfr, hphi, c, el, vs, h3, h4, h5⟩, hG0⟩ := hN _ (List.mem_cons_self ..)
    cases hv with | vec _ _ _ _ _ a cap hid hl =>
    obtain ⟨rfl, hc, hroom⟩ := (hl _ hfr).2 rfl
    obtain ⟨e1, e2⟩ := hG id
    obtain ⟨N', cells', q1, q2, q3, q4⟩ := t.take hG (h5.take (rows.length * s)) (fun p hp => hN p (List.mem_cons_of_mem _ hp))
    refine ⟨(k + id, .own cells') :: N', .ref (k + id) s 0 rows.length, .ref hr q1, ?_, ?_, by simp [q4]⟩
    · have := VRel.ref (g := G) (n := k + n) (w := w) (k + id) s 0 rows.length cap (by omega) e2 hc (by rw [e1]; exact hroom)
      rwa [e1] at this
    · intro p hp
      rw [List.mem_cons] at hp
      rcases hp with rfl | hp
      · refine ⟨e2, by rw [e1]; exact hG0, c, el, _, by rw [e1]; exact h3, fun i v hi => ?_, q2⟩
        rw [List.getElem?_take] at hi
        split at hi
        · exact h4 i v hi
        · cases hi
      · exact q3 p hp
  | _, _, _, _, .agg t, hv, hN => by
    cases hv with | agg _ vs h =>
    obtain ⟨N', cs', q1, q2, q3, q4⟩ := t.take hG h hN
    exact ⟨N', .agg cs', .agg q1, .agg _ _ q2, q3, q4⟩
  | _, _, _, _, .tup t, hv, hN => by
    cases hv with | tup _ vs h =>
    obtain ⟨N', cs', q1, q2, q3, q4⟩ := t.take hG h hN
    exact ⟨N', .tup cs', .tup q1, .tup _ _ q2, q3, q4⟩
theorem Trees.take {b : Bool} {G g : Ghost} {n k : Nat} {w : World} (hG : ∀ j, G.β (k + j) = g.β j ∧ G.fr (k + j) = none) : ∀ {N : Heap} {ts vs : List AV} {cs : List Value}, Trees b N ts vs → VRels g n w vs cs →
    (∀ p ∈ N, EntRel g n w p.1 p.2 ∧ G.φ (g.β p.1) = 0) → ∃ N' vs', Trees false N' ts vs' ∧ VRels G (k + n) w vs' cs ∧ (∀ p ∈ N', EntRel G (k + n) w p.1 p.2) ∧ N'.map Prod.fst = N.map fun p => k + p.1
  | _, _, _, _, .nil, hv, _ => by cases hv; exact ⟨[], [], .nil, .nil, (fun p hp => by cases hp), rfl⟩
  | _, _, _, _, .cons (N := N) (M := M) h t, hv, hN => by
    cases hv with | cons _ c _ cs hv tv =>
    obtain ⟨N1, v1, a1, a2, a3, a4⟩ := h.take hG hv fun p hp => hN p (List.mem_append_left _ hp)
    obtain ⟨N2, v2, b1, b2, b3, b4⟩ := t.take hG tv fun p hp => hN p (List.mem_append_right _ hp)
    refine ⟨N1 ++ N2, v1 :: v2, .cons a1 b1, .cons _ _ _ _ a2 b2, fun p hp => ?_, by simp [a4, b4]⟩
    rw [List.mem_append] at hp
    rcases hp with hp | hp
    · exact a3 p hp
    · exact b3 p hp
end

variable {P : Program} {n : Nat} {H : Heap}

/-- New entries on top of the heap hold what is handed back. -/
def OwnR (b : Bool) (n : Nat) (H : Heap) (t : AV) (v : AV) (n' : Nat) (H' : Heap) : Prop := ∃ N, H' = N ++ H ∧ Tree b N t v ∧ ∀ p ∈ N, n ≤ p.1

/-- A call that hands back what nobody else holds. -/
def RunsO (P : Program) (f : FuncId) (args : List AV) (t : AV) : Prop := ∀ n H, Runs P f args n H (OwnR true n H t)

theorem Runs.frzR {b : Bool} {f : FuncId} {args : List AV} {t : AV} (h : Runs P f args n H (OwnR b n H t)) : Runs P f args n H fun v n' H' => v = t ∧ n' = n ∧ H' = H := by
  refine Runs.map h fun g w cs hv hh => ⟨g, hv, hh, ?_⟩
  rintro c w' ⟨v, n', H', g', ⟨N, rfl, ht, hN⟩, hle, hv', hh', hg⟩
  have hmem : ∀ p ∈ N, p ∈ N ++ H := fun p hp => List.mem_append_left _ hp
  let φ' : Nat → Nat := fun b => if N.any (fun p => g'.β p.1 == b) then phi0 w' b else g'.φ b
  have hφN : ∀ p ∈ N, φ' (g'.β p.1) = phi0 w' (g'.β p.1) := fun p hp => if_pos (List.any_eq_true.mpr ⟨p, hp, by simp⟩)
  have hφ : ∀ b, (∀ p ∈ N, g'.β p.1 ≠ b) → φ' b = g'.φ b := fun b hb => if_neg (by
    intro h
    obtain ⟨p, hp, e⟩ := List.any_eq_true.mp h
    exact hb p hp (by simpa using e))
  have hapart : ∀ p ∈ H, ∀ q ∈ N, g'.β q.1 ≠ g'.β p.1 := fun p hp q hq => by
    have := List.pairwise_append.mp hh'.apart
    exact (this.2.2 q hq p hp).2
  have hx : Ext n g' w' ⟨g'.β, g'.fr, φ'⟩ w' := by
    refine ⟨fun _ _ _ => rfl, fun b => ?_, fun _ _ => .inl ⟨rfl, rfl⟩, fun _ _ h => h⟩
    show g'.φ b ≤ φ' b
    by_cases hb : ∃ p ∈ N, g'.β p.1 = b
    · obtain ⟨p, hp, rfl⟩ := hb
      rw [hφN p hp]
      rcases Nat.eq_zero_or_pos (g'.φ (g'.β p.1)) with h0 | h0
      · omega
      · exact room_phi (hh'.fsz _ h0)
    · rw [hφ b (fun p hp e => hb ⟨p, hp, e⟩)]; exact Nat.le_refl _
  have hs : H.Sublist (N ++ H) := List.sublist_append_right _ _
  have hlow := hh'.lower hs hh.hb
  refine ⟨t, n, H, ⟨g'.β, g'.fr, φ'⟩, ⟨rfl, rfl, rfl⟩, Nat.le_refl _, ?_, ?_, ?_⟩
  · exact (ht.frz (G := ⟨g'.β, g'.fr, φ'⟩) hv' fun p hp => ⟨(hh'.ent p (hmem p hp)).2, by show _ ≤ φ' _; rw [hφN p hp]; exact Nat.le_refl _⟩).up
  · refine ⟨hlow.apart, fun p hp => ⟨(hlow.ent p hp).1, (hlow.ent p hp).2.ext hx (Nat.le_refl _) rfl rfl (hφ _ fun q hq => hapart p hp q hq) rfl⟩, fun b hb => ?_⟩
    have hb' : 0 < φ' b := hb
    show room w' b (φ' b)
    by_cases hbN : ∃ p ∈ N, g'.β p.1 = b
    · obtain ⟨p, hp, rfl⟩ := hbN
      rw [hφN p hp] at hb' ⊢
      exact phi_room hb'
    · have e := hφ b (fun p hp e => hbN ⟨p, hp, e⟩)
      rw [e] at hb' ⊢
      exact hh'.fsz b hb'
  · refine { hg.toExt.trans hx (Nat.le_refl _) with size := hg.size, old := fun b hb hno => ?_, owns := fun p hp => hg.owns p (List.mem_append_right _ hp), oth := hg.oth }
    obtain ⟨e1, e2⟩ := hg.old b hb hno
    refine ⟨e1, (hφ b fun p hp e => ?_).trans e2⟩
    rcases hg.owns p (hmem p hp) with ⟨q, hq, hqe⟩ | hle
    · exact hno q hq (hqe.trans e)
    · omega

theorem RunsO.f {f : FuncId} {args : List AV} {t : AV} (h : RunsO P f args t) : RunsF P f args t := fun n H => (h n H).frzR

/-! ### Lending -/
inductive Len (H : Heap) : AV → AV → Prop
  | same (v : AV) : Len H v v
  | fz (v : AV) : Len H v (fzt v)
  | tree {b : Bool} {N : Heap} {t v : AV} (ht : Tree b N t v) (hN : ∀ p ∈ N, p ∈ H) : Len H v t
inductive Lens (H : Heap) : List AV → List AV → Prop
  | nil : Lens H [] []
  | cons {a b : AV} {as bs : List AV} (h : Len H a b) (t : Lens H as bs) : Lens H (a :: as) (b :: bs)

theorem Len.rel {g : Ghost} {w : World} (hh : HRel g n H w) {a b : AV} {c : Value} (h : Len H a b) (hv : VRel g n w a c) : VRel (g1 g w) n w b c := by
  cases h with
  | same => exact hv.ext (g1_ext hh) (Nat.le_refl _)
  | fz => exact hv.fztd.ext (g1_ext hh) (Nat.le_refl _)
  | tree ht hN => exact (ht.frz (G := g1 g w) hv fun p hp => ⟨(hh.ent p (hN p hp)).2, Nat.le_refl _⟩).up
theorem Lens.rel {g : Ghost} {w : World} (hh : HRel g n H w) : ∀ {as bs : List AV} {cs : List Value}, Lens H as bs → VRels g n w as cs → VRels (g1 g w) n w bs cs
  | _, _, _, .nil, .nil => .nil
  | _, _, _, .cons h t, .cons _ _ _ _ hv tv => .cons _ _ _ _ (h.rel hh hv) (t.rel hh tv)

/-- What is owned is read by a call whose result names nothing. -/
theorem RunsF.len {f : FuncId} {args args' : List AV} {r : AV} {K : AV → Nat → Heap → Prop} {t : Tag K} (h : RunsF P f args' r) (hs : simple r = true) (hb : Lens H args args') (hk : K r n H) : RunsT P f args n H K t := by
  refine Runs.map (n := n) (H := H) (h n []) fun g w cs hv hh => ⟨g1 g w, hb.rel hh hv, g1_rel g w n, ?_⟩
  rintro c w' ⟨v, n', H', g2, ⟨rfl, rfl, rfl⟩, _, hv2, _, hg⟩
  have hold : ∀ b, b < w.heap.size → w'.heap[b]? = w.heap[b]? := fun b hb => (hg.old b hb (fun p hp => absurd hp (by simp))).1
  obtain ⟨hx, hh'⟩ := stands hh hg.size hold
  exact ⟨v, n', H, g, hk, Nat.le_refl _, hv2.simp hs, hh', { hx with size := hg.size, old := fun b hb _ => ⟨hold b hb, rfl⟩, owns := fun p hp => .inl ⟨p, hp, rfl⟩, oth := hg.oth }⟩

/-- What is owned is read by a call that makes a tree of its own; the tree is taken over. -/
theorem RunsO.close {f : FuncId} {args args' : List AV} {t : AV} (h : RunsO P f args' t) (hb : Lens H args args') (hz : belows 0 args' = true) : Runs P f args n H (OwnR false n H t) := by
  refine Runs.map (h 0 []) fun g w cs hv hh => ⟨g0 w, ?_, g0_rel w, ?_⟩
  · have h1 := (hb.rel hh hv).lower hz
    exact h1.ext (g' := g0 w) (w' := w) (n' := 0) ⟨fun _ _ _ => rfl, fun _ => Nat.le_refl _, fun id hid => absurd hid (Nat.not_lt_zero _), fun _ _ h => h⟩ (Nat.le_refl _)
  · rintro c w' ⟨v, n2, H2, g2, ⟨N, rfl, ht, _⟩, _, hv2, hh2, hg⟩
    rw [List.append_nil] at hh2 hg
    have hold : ∀ b, b < w.heap.size → w'.heap[b]? = w.heap[b]? := fun b hb => (hg.old b hb (fun p hp => absurd hp (by simp))).1
    obtain ⟨hx, hh'⟩ := stands hh hg.size hold
    have hnew : ∀ p ∈ N, w.heap.size ≤ g2.β p.1 := fun p hp => by
      rcases hg.owns p hp with ⟨q, hq, _⟩ | hle
      · cases hq
      · exact hle
    let G : Ghost := ⟨fun j => if j < n then g.β j else g2.β (j - n), fun j => if j < n then g.fr j else none, g.φ⟩
    have hGn : ∀ j, G.β (n + j) = g2.β j ∧ G.fr (n + j) = none := fun j =>
      ⟨by show (if n + j < n then _ else _) = _; rw [if_neg (by omega)]; congr 1; omega, by show (if n + j < n then _ else _) = _; rw [if_neg (by omega)]⟩
    have hGo : ∀ j, j < n → G.β j = g.β j ∧ G.fr j = g.fr j := fun j hj => ⟨if_pos hj, if_pos hj⟩
    obtain ⟨N', v', q1, q2, q3, q4⟩ := ht.take (G := G) (k := n) hGn hv2 fun p hp => ⟨(hh2.ent p hp).2, hh.phi0 (hnew p hp)⟩
    have hN' : ∀ p ∈ N', ∃ q ∈ N, p.1 = n + q.1 := fun p hp => by
      have : p.1 ∈ N'.map Prod.fst := List.mem_map.mpr ⟨p, hp, rfl⟩
      rw [q4] at this
      obtain ⟨q, hq, e⟩ := List.mem_map.mp this
      exact ⟨q, hq, e.symm⟩
    have hx' : Ext n g w G w' := ⟨hx.cells, fun _ => Nat.le_refl _, fun i hi => .inl (hGo i hi), hx.rooms⟩
    have hlt : ∀ p ∈ H, g.β p.1 < w.heap.size := fun p hp => (hh.ent p hp).2.lt
    refine ⟨v', n + n2, N' ++ H, G, ⟨N', rfl, q1, fun p hp => by obtain ⟨q, _, e⟩ := hN' p hp; omega⟩, Nat.le_add_right _ _, q2, ⟨?_, fun p hp => ?_, ?_⟩, ?_⟩
    · rw [List.pairwise_append]
      refine ⟨?_, ?_, ?_⟩
      · have e1 : (N'.map Prod.fst).Pairwise fun a b => a ≠ b ∧ G.β a ≠ G.β b := by
          rw [q4, List.pairwise_map]
          refine hh2.apart.imp fun {p q} hpq => ⟨by have := hpq.1; omega, ?_⟩
          rw [(hGn p.1).1, (hGn q.1).1]; exact hpq.2
        rwa [List.pairwise_map] at e1
      · refine hh.apart.imp_of_mem fun {p q} hp hq hpq => ⟨hpq.1, ?_⟩
        rw [(hGo p.1 (hh.ent p hp).1).1, (hGo q.1 (hh.ent q hq).1).1]; exact hpq.2
      · intro p hp q hq
        obtain ⟨r, hr, e⟩ := hN' p hp
        have hqn := (hh.ent q hq).1
        refine ⟨by omega, ?_⟩
        rw [e, (hGn r.1).1, (hGo q.1 hqn).1]
        have := hnew r hr
        have := hlt q hq
        omega
    · rw [List.mem_append] at hp
      rcases hp with hp | hp
      · obtain ⟨q, hq, e⟩ := hN' p hp
        have := (hh2.ent q hq).1
        exact ⟨by omega, q3 p hp⟩
      · have hpn := (hh.ent p hp).1
        exact ⟨by omega, (hh.ent p hp).2.ext hx' (Nat.le_add_right _ _) (hGo _ hpn).1 (hGo _ hpn).2 rfl (hold _ (hlt p hp))⟩
    · exact hh'.fsz
    · refine { hx' with size := hg.size, old := fun b hb _ => ⟨hold b hb, rfl⟩, owns := fun p hp => ?_, oth := hg.oth }
      rw [List.mem_append] at hp
      rcases hp with hp | hp
      · obtain ⟨q, hq, e⟩ := hN' p hp
        right
        rw [e, (hGn q.1).1]; exact hnew q hq
      · exact .inl ⟨p, hp, ((hGo p.1 (hh.ent p hp).1).1).symm⟩

/-- By value. -/
theorem RunsO.lenF {f : FuncId} {args args' : List AV} {r : AV} {K : AV → Nat → Heap → Prop} {t : Tag K} (h : RunsO P f args' r) (hb : Lens H args args') (hz : belows 0 args' = true) (hk : K r n H) : RunsT P f args n H K t :=
  (h.close hb hz).frzR.mono fun _ _ _ ⟨e1, e2, e3⟩ => by subst e1 e2 e3; exact hk
/-- Owned. -/
theorem RunsO.lenO {f : FuncId} {args args' : List AV} {r : AV} {K : AV → Nat → Heap → Prop} {t : Tag K} (h : RunsO P f args' r) (hb : Lens H args args') (hz : belows 0 args' = true)
    (hk : ∀ v n' N, Tree false N r v → (∀ p ∈ N, n ≤ p.1 ∧ p.1 < n') → n ≤ n' → K v n' (N ++ H)) : RunsT P f args n H K t := by
  intro g w cs hv hh
  have := h.close (H := H) hb hz g w cs hv hh
  split at this
  · obtain ⟨v, n', H', g', ⟨N, rfl, h1, h2⟩, hle, hv', hh', hg⟩ := this
    exact ⟨v, n', _, g', hk v n' N h1 (fun p hp => ⟨h2 p hp, (hh'.ent p (List.mem_append_left _ hp)).1⟩) hle, hle, hv', hh', hg⟩
  · refine Calls.mono this fun e w' ⟨c, he, ho⟩ => ⟨c, he, ?_⟩
    obtain ⟨v, n', H', g', ⟨N, rfl, h1, h2⟩, hle, hv', hh', hg⟩ := ho
    exact ⟨v, n', _, g', hk v n' N h1 (fun p hp => ⟨h2 p hp, (hh'.ent p (List.mem_append_left _ hp)).1⟩) hle, hle, hv', hh', hg⟩
  · exact this.elim

/-- An owned tree of the function's own is handed back. -/
theorem HRel.pick {g : Ghost} {w : World} {H' : Heap} (h : HRel g n H w) (hs : ∀ p ∈ H', p ∈ H) (hnd : (H'.map Prod.fst).Nodup) : HRel g n H' w := by
  refine ⟨?_, fun p hp => h.ent p (hs p hp), h.fsz⟩
  have : H'.Pairwise fun p q => p.1 ≠ q.1 := by rwa [List.Nodup, List.pairwise_map] at hnd
  exact this.imp_of_mem fun {p q} hp hq hpq => ⟨hpq, apart_of h (hs p hp) (o := q.2) (hs q hq) hpq⟩
theorem HB.fresh {n0 : Nat} {H0 : Heap} (hB : HB n0 H0) : ∀ p ∈ H0, p.1 < n0 := fun p hp => (hB p hp).1

theorem Fin.own {n0 : Nat} {v : AV} {R : AV → Nat → Heap → Prop} {H0 N : Heap} (hB : HB n0 H0) (hs : H0.Sublist H) (hN : ∀ p ∈ N, p ∈ H ∧ n0 ≤ p.1) (hnd : (N.map Prod.fst).Nodup) (h : R v n (N ++ H0)) : Fin n0 n H v R := by
  intro g w c hn hv hh
  have hnd0 : (H0.map Prod.fst).Nodup := by
    have := hh.apart.sublist hs
    rw [List.Nodup, List.pairwise_map]
    exact this.imp fun h => h.1
  have hmem : ∀ p ∈ N ++ H0, p ∈ H := fun p hp => by
    rw [List.mem_append] at hp
    rcases hp with hp | hp
    · exact (hN p hp).1
    · exact hs.subset hp
  have hnd' : ((N ++ H0).map Prod.fst).Nodup := by
    rw [List.map_append, List.nodup_append]
    refine ⟨hnd, hnd0, ?_⟩
    intro a ha b hb e
    obtain ⟨p, hp, rfl⟩ := List.mem_map.mp ha
    obtain ⟨q, hq, rfl⟩ := List.mem_map.mp hb
    have := (hN p hp).2
    have := (hB q hq).1
    omega
  exact ⟨v, n, N ++ H0, g, h, hn, hv, hh.pick hmem hnd', { Ext.refl n0 g w with size := Nat.le_refl _, old := fun _ _ _ => ⟨rfl, rfl⟩, owns := fun p hp => .inl ⟨p, hmem p hp, rfl⟩, oth := Oth.refl w }⟩
theorem Fin.tree {n0 : Nat} {v t : AV} {H0 N : Heap} (hB : HB n0 H0) (hs : H0.Sublist H) (hN : ∀ p ∈ N, p ∈ H ∧ n0 ≤ p.1) (hnd : (N.map Prod.fst).Nodup) (ht : Tree true N t v) : Fin n0 n H v (OwnR true n0 H0 t) :=
  Fin.own hB hs hN hnd ⟨N, rfl, ht, fun p hp => (hN p hp).2⟩
theorem Fin.treeL {n0 : Nat} {v t : AV} {H0 N : Heap} (hB : HB n0 H0) (hs : (N ++ H0).Sublist H) (hN : ∀ p ∈ N, n0 ≤ p.1) (ht : Tree true N t v) : Fin n0 n H v (OwnR true n0 H0 t) := by
  intro g w c hn hv hh
  have hnd : (N.map Prod.fst).Nodup := by
    have := hh.apart.sublist ((List.sublist_append_left N H0).trans hs)
    rw [List.Nodup, List.pairwise_map]
    exact this.imp fun h => h.1
  exact Fin.tree (t := t) hB ((List.sublist_append_right N H0).trans hs) (fun p hp => ⟨hs.subset (List.mem_append_left _ hp), hN p hp⟩) hnd ht g w c hn hv hh
theorem Fin.treeE {n0 : Nat} {v t t' : AV} {H0 N : Heap} (hB : HB n0 H0) (hs : (N ++ H0).Sublist H) (hN : ∀ p ∈ N, n0 ≤ p.1) (ht : Tree true N t v) (he : t = t') : Fin n0 n H v (OwnR true n0 H0 t') := by
  subst he; exact Fin.treeL hB hs hN ht
mutual
theorem Tree.up {N : Heap} {t v : AV} : Tree false N t v → Tree true N t v
  | .leaf v h => .leaf v h
  | .nil => .nil
  | .emp => .emp
  | .ref hr t => .ref hr t.up
  | .agg t => .agg t.up
  | .tup t => .tup t.up
theorem Trees.up {N : Heap} {t v : List AV} : Trees false N t v → Trees true N t v
  | .nil => .nil
  | .cons h t => .cons h.up t.up
end
theorem RunsO.apT {f : FuncId} {args args' : List AV} {r : AV} {K : AV → Nat → Heap → Prop} {t : Tag K} (h : RunsO P f args' r) (ha : args.map fzt = args') (hk : ∀ v n' N, Tree true N r v → (∀ p ∈ N, n ≤ p.1) → K v n' (N ++ H)) : RunsT P f args n H K t :=
  (Runs.fzt (by rw [ha]; exact h n H) : Runs P f args n H (OwnR true n H r)).mono fun v n' H' ⟨N, e, h1, h2⟩ => by subst e; exact hk v n' N h1 h2
/-- A flat slice that is taken over. -/
theorem RunsO.flat {f : FuncId} {args args' : List AV} {rows : List (List AV)} {K : AV → Nat → Heap → Prop} {t : Tag K} (h : RunsO P f args' (.sl rows)) (hsc : rows.flatten.all simple = true) (hb : Lens H args args') (hz : belows 0 args' = true)
    (hk1 : ∀ s id n', n ≤ id → (∀ r ∈ rows, r.length = s) → K (.ref id s 0 rows.length) n' ((id, .own rows.flatten) :: H)) (hk2 : rows = [] → ∀ n', K .nilsl n' H ∧ K (.sl []) n' H) : RunsT P f args n H K t := by
  refine RunsO.lenO h hb hz fun v n' N ht hN hle => ?_
  have hleaf : ∀ {N : Heap} {as cs : List AV}, Trees false N as cs → as.all simple = true → N = [] ∧ as = cs := by
    intro N as
    induction as generalizing N with
    | nil => intro cs h _; cases h; exact ⟨rfl, rfl⟩
    | cons a as ih =>
      intro cs h hs
      simp only [List.all_cons, Bool.and_eq_true] at hs
      cases h with | cons h t =>
      obtain ⟨rfl, rfl⟩ := ih t hs.2
      cases h <;> first | exact ⟨rfl, rfl⟩ | (simp [simple] at hs; done)
  cases ht with
  | nil => exact (hk2 rfl n').1
  | emp => exact (hk2 rfl n').2
  | leaf _ h => simp [simple] at h
  | acc hb _ => cases hb
  | vec hb _ _ => cases hb
  | ref hr t =>
    obtain ⟨rfl, rfl⟩ := hleaf t hsc
    exact hk1 _ _ _ (hN _ (List.mem_cons_self ..)).1 hr

/-- A call that writes into an owned tree, all of it, and into nothing else. -/
def MarkT (P : Program) (f : FuncId) (t : AV) (t' : Int → AV) (c : Nat) : Prop := ∀ (k : Int) (N : Heap) (v : AV) (n : Nat) (H : Heap), 0 ≤ k → k ≤ 4294967296 → Tree false N t v → (∀ p ∈ N, p ∈ H) → (N.map Prod.fst).Nodup →
  Runs P f [v, .int .i64 k] n H fun r n' H' => r = .int .i64 (k + c) ∧ n' = n ∧ ∃ N', Tree false N' (t' k) v ∧ (∀ p ∈ N', p ∈ H') ∧ N'.map Prod.fst = N.map Prod.fst ∧ ∀ p ∈ H, p.1 ∉ N.map Prod.fst → p ∈ H'
theorem MarkT.ap {f : FuncId} {t : AV} {t' : Int → AV} {c : Nat} {k : Int} {N : Heap} {v : AV} {K : AV → Nat → Heap → Prop} {tg : Tag K} (h : MarkT P f t t' c) (hk0 : 0 ≤ k) (hk1 : k ≤ 4294967296) (ht : Tree false N t v) (hN : ∀ p ∈ N, p ∈ H) (hnd : (N.map Prod.fst).Nodup)
    (hk : ∀ N' H', Tree false N' (t' k) v → (∀ p ∈ N', p ∈ H') → N'.map Prod.fst = N.map Prod.fst → (∀ p ∈ H, p.1 ∉ N.map Prod.fst → p ∈ H') → K (.int .i64 (k + c)) n H') : RunsT P f [v, .int .i64 k] n H K tg :=
  (h k N v n H hk0 hk1 ht hN hnd).mono fun r n' H' ⟨h1, h2, N', h3, h4, h5, h6⟩ => by subst h1 h2; exact hk N' H' h3 h4 h5 h6
theorem hget_of_mem {g : Ghost} {w : World} {id : Nat} {o : HObj} (hh : HRel g n H w) (h : (id, o) ∈ H) : hget H id = some o := by
  have hp := hh.apart
  clear hh
  induction H with
  | nil => cases h
  | cons p H ih =>
    rw [List.pairwise_cons] at hp
    rw [List.mem_cons] at h
    rw [show p = (p.1, p.2) from rfl, hget_cons]
    rcases h with rfl | h
    · rw [if_pos rfl]
    · rw [if_neg (hp.1 _ h).1]
      exact ih h hp.2
/-- What a heap says may be looked up. -/
theorem Runs.look {f : FuncId} {args : List AV} {R : AV → Nat → Heap → Prop} {id : Nat} {o : HObj} (hm : (id, o) ∈ H) (h : hget H id = some o → Runs P f args n H R) : Runs P f args n H R := by
  intro g w cs hv hh
  exact h (hget_of_mem hh hm) g w cs hv hh
theorem mem_hset_self {id : Nat} {o o' : HObj} (h : hget H id = some o) : (id, o') ∈ hset H id o' := hget_mem (hget_hset h o')
theorem mem_hset_other {id : Nat} {o : HObj} {p : Nat × HObj} (h : p ∈ H) (hne : p.1 ≠ id) : p ∈ hset H id o := by
  induction H with
  | nil => cases h
  | cons q H ih =>
    unfold hset
    rw [List.mem_cons] at h
    by_cases hq : q.1 = id
    · rw [if_pos hq]
      rcases h with rfl | h
      · exact absurd hq hne
      · exact List.mem_cons_of_mem _ h
    · rw [if_neg hq]
      rcases h with rfl | h
      · exact List.mem_cons_self ..
      · exact List.mem_cons_of_mem _ (ih h)
end Go.Ab
