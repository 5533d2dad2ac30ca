/- Marks in trees, part by part; structs of trees. Over any program. -/
import Derived.Test.YtobhjgipeepmoaaAbLst
namespace Go.Ab
set_option linter.unusedVariables false
set_option linter.unusedSimpArgs false
variable {P : Program} {n : Nat}

/-- As MarkT, the rest of the heap told. -/
def MarkS (P : Program) (f : FuncId) (t : AV) (t' : Int → AV) (c : Nat) : Prop := ∀ (k : Int) (N : Heap) (v : AV) (n : Nat) (R : Heap), 0 ≤ k → k ≤ 4294967296 → Tree false N t v →
  Runs P f [v, .int .i64 k] n (N ++ R) fun r n' H' => r = .int .i64 (k + c) ∧ n' = n ∧ ∃ N', Tree false N' (t' k) v ∧ N'.map Prod.fst = N.map Prod.fst ∧ H' = N' ++ R
theorem MarkS.t {f : FuncId} {t : AV} {t' : Int → AV} {c : Nat} (h : MarkS P f t t' c) : MarkT P f t t' c := by
  intro k N v n H hk0 hk1 ht hN hnd
  let R : Heap := H.filter fun p => decide (p.1 ∉ N.map Prod.fst)
  have hR : ∀ p ∈ R, p ∈ H ∧ p.1 ∉ N.map Prod.fst := fun p hp => by
    have := List.mem_filter.mp hp
    exact ⟨this.1, by simpa using this.2⟩
  have hmem : ∀ p ∈ N ++ R, p ∈ H := fun p hp => by
    rw [List.mem_append] at hp
    exact hp.elim (hN p) fun h => (hR p h).1
  refine Runs.map (h k N v n R hk0 hk1 ht) fun g w cs hv hh => ⟨g, hv, hh.pick hmem ?_, ?_⟩
  · have hndH : (H.map Prod.fst).Nodup := by rw [List.Nodup, List.pairwise_map]; exact hh.apart.imp fun h => h.1
    rw [List.map_append, List.nodup_append]
    refine ⟨hnd, hndH.sublist (List.filter_sublist.map _), ?_⟩
    intro a ha b hb e
    obtain ⟨p, hp, rfl⟩ := List.mem_map.mp hb
    exact (hR p hp).2 (e ▸ ha)
  · rintro c w' ⟨r, n', H', g', ⟨rfl, rfl, N', h1, h2, rfl⟩, hle, hv', hh', hg⟩
    refine ⟨_, _, _, g', ⟨rfl, rfl, N', h1, fun p hp => List.mem_append_left _ hp, h2, fun p hp hne => List.mem_append_right _ (List.mem_filter.mpr ⟨hp, by simpa using hne⟩)⟩, hle, hv', hh', { hg with old := fun b hb hno => hg.old b hb fun p hp => hno p (hmem p hp), owns := fun p hp => (hg.owns p hp).imp (fun ⟨q, hq, e⟩ => ⟨q, hmem q hq, e⟩) id }⟩

theorem simple_below {n : Nat} {v : AV} (h : simple v = true) : below n v = true := by cases v <;> first | rfl | (simp [simple] at h; done)
mutual
theorem Tree.bel {n : Nat} : ∀ {N : Heap} {t v : AV}, Tree false N t v → (∀ p ∈ N, p.1 < n) → below n v = true ∧ ∀ p ∈ N, belowO n p.2 = true
  | _, _, _, .leaf v h, _ => ⟨simple_below h, fun p hp => by cases hp⟩
  | _, _, _, .nil, _ => ⟨rfl, fun p hp => by cases hp⟩
  | _, _, _, .emp, _ => ⟨rfl, fun p hp => by cases hp⟩
  | _, _, _, .ref (id := id) (cells := cells) hr t, hN => by
    obtain ⟨h1, h2⟩ := t.bel fun p hp => hN p (List.mem_cons_of_mem _ hp)
    refine ⟨decide_eq_true (hN _ (List.mem_cons_self ..)), fun p hp => ?_⟩
    rw [List.mem_cons] at hp
    rcases hp with rfl | hp
    · exact h1
    · exact h2 p hp
  | _, _, _, .agg t, hN => t.bel hN
  | _, _, _, .tup t, hN => t.bel hN
theorem Trees.bel {n : Nat} : ∀ {N : Heap} {t v : List AV}, Trees false N t v → (∀ p ∈ N, p.1 < n) → belows n v = true ∧ ∀ p ∈ N, belowO n p.2 = true
  | _, _, _, .nil, _ => ⟨rfl, fun p hp => by cases hp⟩
  | _, _, _, .cons h t, hN => by
    obtain ⟨a1, a2⟩ := h.bel fun p hp => hN p (List.mem_append_left _ hp)
    obtain ⟨b1, b2⟩ := t.bel fun p hp => hN p (List.mem_append_right _ hp)
    refine ⟨by simp [belows, a1, b1], fun p hp => ?_⟩
    rw [List.mem_append] at hp
    exact hp.elim (a2 p) (b2 p)
end
/-- The end of a function that marks. -/
theorem Fin.mark {n0 : Nat} {N N' R H : Heap} {t v r : AV} {K : AV → Nat → Heap → Prop} (hB : HB n0 (N ++ R)) (ht : Tree false N' t v) (hnm : N'.map Prod.fst = N.map Prod.fst) (hs : (N' ++ R).Sublist H) (hr : below n0 r = true) (h : K r n0 (N' ++ R)) : Fin n0 n H r K := by
  have hlt : ∀ p ∈ N', p.1 < n0 := fun p hp => by
    have : p.1 ∈ N'.map Prod.fst := List.mem_map.mpr ⟨p, hp, rfl⟩
    rw [hnm] at this
    obtain ⟨q, hq, e⟩ := List.mem_map.mp this
    rw [← e]; exact (hB q (List.mem_append_left _ hq)).1
  refine Fin.low hr (fun p hp => ?_) hs h
  rw [List.mem_append] at hp
  rcases hp with hp | hp
  · exact ⟨hlt p hp, (ht.bel hlt).2 p hp⟩
  · exact hB p (List.mem_append_right _ hp)
theorem Tree.in1 {N : Heap} {a v : AV} (h : Tree false N (.agg [a]) v) : ∃ c, v = .agg [c] ∧ Tree false N a c := by
  cases h with
  | leaf _ h => simp [simple] at h
  | agg t => cases t with | cons h t => cases t; exact ⟨_, rfl, by rw [List.append_nil]; exact h⟩
theorem Tree.mk1 {b : Bool} {N : Heap} {a c : AV} (h : Tree b N a c) : Tree b N (.agg [a]) (.agg [c]) := by
  have := Tree.agg (Trees.cons h .nil)
  rwa [List.append_nil] at this
theorem Tree.in2 {N : Heap} {a1 a2 v : AV} (h : Tree false N (.agg [a1, a2]) v) : ∃ c1 c2 N1 N2, v = .agg [c1, c2] ∧ N = N1 ++ N2 ∧ Tree false N1 a1 c1 ∧ Tree false N2 a2 c2 := by
  cases h with
  | leaf _ h => simp [simple] at h
  | agg t => cases t with | cons h t => cases t with | cons h2 t => cases t; exact ⟨_, _, _, _, rfl, by rw [List.append_nil], h, h2⟩
theorem Tree.mk2 {b : Bool} {N1 N2 : Heap} {a1 c1 a2 c2 : AV} (h1 : Tree b N1 a1 c1) (h2 : Tree b N2 a2 c2) : Tree b (N1 ++ N2) (.agg [a1, a2]) (.agg [c1, c2]) := by
  have := Tree.agg (Trees.cons h1 (Trees.cons h2 .nil))
  rwa [List.append_nil] at this
theorem hp1 (H : Heap) : H = hp [] [H] := by simp [hp]
theorem hp2 (N R : Heap) : N ++ R = hp [] [N, R] := by simp [hp]
theorem hp3 (N M R : Heap) : (N ++ M) ++ R = hp [] [N, M, R] := by simp [hp]
theorem S.ofP {f : FuncId} {nt : Nat} {rs : List RV} {F : Cfg} {x : XCode} {args : List AV} {H H' : Heap} {R : AV → Nat → Heap → Prop} (hk : Has P f ⟨nt, rs, F, x⟩) (hn : Nat.ble args.length nt = true) (e : H = H')
    (h : HB n H → ∀ fn, XR P fn rs → S P ⟨fn, f, n, R⟩ F [.code x] Tag.mk (env0 0 args) n H') : Runs P f args n H R := S.ofX hk hn fun hB fn hr => by rw [e]; exact h (e ▸ hB) fn hr
theorem Tree.plain {b : Bool} {N : Heap} {rows : List (List AV)} {v : AV} (h : Tree b N (.sl rows) v) : Ab.plain v = true := by
  cases h <;> first | rfl | (rename_i h; simp [simple] at h; done)
theorem Tree.plain1 {b : Bool} {N : Heap} {rows : List (List AV)} {v : AV} (h : Tree b N (.agg [.sl rows]) (.agg [v])) : Ab.plain v = true := by
  cases h with
  | leaf _ h => simp [simple] at h
  | agg t => cases t with | cons h _ => exact h.plain
/-- What is owned is read in a region whose order is drawn. -/
theorem RunsF.lenD {f : FuncId} {args args' : List AV} {r : AV} {H : Heap} {K : AV → Nat → Heap → Prop} {t : Tag K} (h : RunsF P f args' r) (hs : simple r = true) (hb : Lens H args args') (hk : K r n H) : RunsD P 2 f args n H K t :=
  ⟨r, n, H, RunsF.len (t := Tag.mk) (K := fun v1 n1 H1 => v1 = r ∧ n1 = n ∧ H1 = H) h hs hb ⟨rfl, rfl, rfl⟩, hk⟩
theorem OK.tree {b : Bool} {N : Heap} {rows : List (List AV)} {v : AV} {K : List AV → Prop} {t : Tag K} (ht : Tree b N (.sl rows) v) (h : K [v]) : OK (cellsOf v) K t := by
  show oK (cellsOf v) K
  cases ht <;> first | exact h | (rename_i h; simp [simple] at h; done)
theorem MarkT.atn {f : FuncId} {B : Heap} {L : List Heap} (i : Nat) {t : AV} {t' : Int → AV} {c : Nat} {k : Int} {N : Heap} {v : AV} {K : AV → Nat → Heap → Prop} {tg : Tag K} (h : MarkT P f t t' c) (hk0 : 0 ≤ k) (hk1 : k ≤ 4294967296) (hi : L[i]? = some N) (ht : Tree false N t v)
    (hk : ∀ N', N'.map Prod.fst = N.map Prod.fst → Tree false N' (t' k) v → K (.int .i64 (k + c)) n (hp B (L.set i N'))) : RunsT P f [v, .int .i64 k] n (hp B L) K tg := by
  have hL : L = L.take i ++ N :: L.drop (i + 1) := by
    obtain ⟨hlt, he⟩ := List.getElem?_eq_some_iff.mp hi
    rw [← he, List.getElem_cons_drop, List.take_append_drop]
  have hS : ∀ N', L.set i N' = L.take i ++ N' :: L.drop (i + 1) := fun N' => by
    obtain ⟨hlt, he⟩ := List.getElem?_eq_some_iff.mp hi
    rw [List.set_eq_take_append_cons_drop, if_pos hlt]
  generalize L.take i = A at *
  generalize L.drop (i + 1) = C at *
  subst hL
  simp only [hS] at hk
  have hsub : ∀ M, hp B (A ++ M :: C) = hp B A ++ (M ++ C.flatten) := fun M => by simp [hp]
  have hm : Runs P f [v, .int .i64 k] n (hp B (A ++ N :: C)) (fun r n' H' => K r n' H') := by
    intro g w cs hv hh
    have hap : (hp B A ++ (N ++ C.flatten)).Pairwise fun p q => p.1 ≠ q.1 := by
      rw [← hsub]; exact hh.apart.imp fun h => h.1
    have hap2 := List.pairwise_append.mp hap
    have hap3 := List.pairwise_append.mp hap2.2.1
    have hnd : (N.map Prod.fst).Nodup := by rw [List.Nodup, List.pairwise_map]; exact hap3.1
    have hmem : ∀ p ∈ N, p ∈ hp B (A ++ N :: C) := fun p hp => by rw [hsub]; simp [hp]
    refine Runs.map (R := fun r n' H' => K r n' H') (h k N v n (hp B (A ++ N :: C)) hk0 hk1 ht hmem hnd) (fun g w cs hv hh => ⟨g, hv, hh, ?_⟩) g w cs hv hh
    rintro c w' ⟨r, n', H', g', ⟨rfl, rfl, N', h3, h4, h5, h6⟩, hle, hv', hh', hg⟩
    have hne : ∀ p, p ∈ hp B A ∨ p ∈ C.flatten → p.1 ∉ N.map Prod.fst := fun p hp hm => by
      obtain ⟨q, hq, e⟩ := List.mem_map.mp hm
      rcases hp with hp | hp
      · exact hap2.2.2 p hp q (List.mem_append_left _ hq) e.symm
      · exact hap3.2.2 q hq p hp e
    have hpick : ∀ p ∈ hp B (A ++ N' :: C), p ∈ H' := fun p hm => by
      rw [hsub, List.mem_append, List.mem_append] at hm
      rcases hm with hp | hp | hp
      · exact h6 p (by rw [hsub]; exact List.mem_append_left _ hp) (hne p (.inl hp))
      · exact h4 p hp
      · exact h6 p (by rw [hsub]; exact List.mem_append_right _ (List.mem_append_right _ hp)) (hne p (.inr hp))
    have hnd' : ((hp B (A ++ N' :: C)).map Prod.fst).Nodup := by
      have e : (hp B (A ++ N' :: C)).map Prod.fst = (hp B (A ++ N :: C)).map Prod.fst := by simp [hp, h5]
      rw [e, List.Nodup, List.pairwise_map, hsub]; exact hap
    exact ⟨_, n', _, g', hk N' h5 h3, hle, hv', hh'.pick hpick hnd', { hg with owns := fun p hp => hg.owns p (hpick p hp) }⟩
  exact hm
theorem Fin.treeH {n0 : Nat} {v t : AV} {H0 N H : Heap} (hB : HB n0 H0) (hs : (N ++ H0).Sublist H) (hN : ∀ p ∈ N, n0 ≤ p.1) (ht : Tree false N t v) : Fin n0 n H v (OwnR true n0 H0 t) := Fin.treeL hB hs hN ht.up
end Go.Ab
