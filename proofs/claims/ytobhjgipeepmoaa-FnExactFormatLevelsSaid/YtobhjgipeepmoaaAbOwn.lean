/- Lending what is owned to a call that only reads it, and taking over the slice that a call has made. Over any program. -/
import Derived.Test.YtobhjgipeepmoaaAbLaw2
namespace Go.Ab
set_option linter.unusedVariables false
set_option linter.unusedSimpArgs false

variable {P : Program} {n : Nat} {H : Heap}

theorem Runs.map {f : FuncId} {args args' : List AV} {n1 : Nat} {H1 : Heap} {R1 R : AV → Nat → Heap → Prop} (h : Runs P f args' n1 H1 R1)
    (conv : ∀ (g : Ghost) (w : World) (cs : List Value), VRels g n w args cs → HRel g n H w → ∃ g1, VRels g1 n1 w args' cs ∧ HRel g1 n1 H1 w ∧ ∀ c w', Out g1 n1 w H1 R1 c w' → Out g n w H R c w') : Runs P f args n H R := by
  intro g w cs hv hh
  obtain ⟨g1, hv1, hh1, hc⟩ := conv g w cs hv hh
  have := h g1 w cs hv1 hh1
  split at this
  · exact hc _ _ this
  · exact (Calls.mono this fun e w' ⟨c, he, ho⟩ => ⟨c, he, hc _ _ ho⟩)
  · exact this.elim

def simple : AV → Bool
  | .bool _ | .int _ _ | .str _ => true
  | _ => false

theorem VRel.simp {g g' : Ghost} {n n' : Nat} {w w' : World} {v : AV} {c : Value} (hs : simple v = true) (h : VRel g n w v c) : VRel g' n' w' v c := by
  cases h <;> first | (simp [simple] at hs; done) | constructor
theorem VRels.simp {g g' : Ghost} {n n' : Nat} {w w' : World} {vs : List AV} {cs : List Value} (hs : vs.all simple = true) (h : VRels g n w vs cs) : VRels g' n' w' vs cs := by
  induction vs generalizing cs with
  | nil => cases h; exact .nil
  | cons a vs ih => cases h with | cons _ v _ us h t =>
    simp only [List.all_cons, Bool.and_eq_true] at hs
    exact .cons _ _ _ _ (h.simp hs.1) (ih hs.2 t)

/-- What is owned, seen by value. -/
inductive Bor (H : Heap) : AV → AV → Prop
  | same (v : AV) : Bor H v v
  | ref {id s len : Nat} {cells : List AV} {rows : List (List AV)} (hm : hget H id = some (.own cells)) (hr : rows.flatten = cells) (hl : rows.length = len) (hrow : ∀ r ∈ rows, r.length = s) (hs : cells.all simple = true) : Bor H (.ref id s 0 len) (.sl rows)
inductive Bors (H : Heap) : List AV → List AV → Prop
  | nil : Bors H [] []
  | cons {a b : AV} {as bs : List AV} (h : Bor H a b) (t : Bors H as bs) : Bors H (a :: as) (b :: bs)

def g1 (g : Ghost) (w : World) : Ghost := ⟨g.β, g.fr, phi0 w⟩

theorem room_phi {w : World} {b k : Nat} (h : room w b k) : k ≤ phi0 w b := by
  obtain ⟨c, el, fz, h1, h2⟩ := h
  unfold phi0
  rw [h1]; exact h2
theorem phi_room {w : World} {b : Nat} (h : 0 < phi0 w b) : room w b (phi0 w b) := (g0_rel w).fsz b h

theorem g1_ext {g : Ghost} {w : World} (hh : HRel g n H w) : Ext n g w (g1 g w) w := by
  refine ⟨fun _ _ _ => rfl, fun b => ?_, fun _ _ => .inl ⟨rfl, rfl⟩, fun _ _ h => h⟩
  show g.φ b ≤ phi0 w b
  rcases Nat.eq_zero_or_pos (g.φ b) with h | h
  · omega
  · exact room_phi (hh.fsz b h)
theorem g1_rel (g : Ghost) (w : World) (n : Nat) : HRel (g1 g w) n [] w := ⟨.nil, fun p hp => absurd hp (by simp), fun b hb => phi_room hb⟩

theorem Bor.rel {g : Ghost} {w : World} (hh : HRel g n H w) {a b : AV} {c : Value} (h : Bor H a b) (hv : VRel g n w a c) : VRel (g1 g w) n w b c := by
  cases h with
  | same => exact hv.ext (g1_ext hh) (Nat.le_refl _)
  | ref hm hr hl hrow hs =>
    rename_i id s len cells rows
    cases hv with | ref _ _ _ _ cap hid hk hc hroom =>
    obtain ⟨_, h1, h2, arr, el, vs, h3, h4, h5⟩ := hh.ent _ (hget_mem hm)
    have hlen := h5.length
    have hfl := flatten_length hrow
    rw [hr] at hfl
    rw [← hl]
    refine .sl rows s _ (g.β id) 0 cap vs (fun _ => rfl) (by omega) hrow (fun hne => ?_) ?_ ?_
    · show 0 + rows.length * s ≤ phi0 w (g.β id)
      rcases Nat.eq_zero_or_pos vs.length with h0 | h0
      · omega
      · have := h4 (vs.length - 1) _ (List.getElem?_eq_getElem (by omega))
        have hlt : vs.length - 1 < arr.size := by
          rcases Nat.lt_or_ge (vs.length - 1) arr.size with h6 | h6
          · exact h6
          · rw [Array.getElem?_eq_none h6] at this; cases this
        have : arr.size ≤ phi0 w (g.β id) := by unfold phi0; rw [h3]; exact Nat.le_refl _
        omega
    · intro i v hi
      rw [Nat.zero_add]
      have := h4 i v hi
      simp only [World.cell?, h3, Option.isSome_none, Bool.false_eq_true, if_false]
      exact this
    · rw [hr]; exact h5.simp hs
theorem Bors.rel {g : Ghost} {w : World} (hh : HRel g n H w) : ∀ {as bs : List AV} {cs : List Value}, Bors H as bs → VRels g n w as cs → VRels (g1 g w) n w bs cs
  | _, _, _, .nil, .nil => .nil
  | _, _, _, .cons h t, .cons _ _ _ _ hv tv => .cons _ _ _ _ (h.rel hh hv) (t.rel hh tv)

/-- Old blocks did not turn: everything stands as it did. -/
theorem stands {g : Ghost} {w w' : World} (hh : HRel g n H w) (hsz : w.heap.size ≤ w'.heap.size) (hold : ∀ b, b < w.heap.size → w'.heap[b]? = w.heap[b]?) : Ext n g w g w' ∧ HRel g n H w' := by
  have hx : Ext n g w g w' := by
    refine ⟨fun b i hi => ?_, fun _ => Nat.le_refl _, fun _ _ => .inl ⟨rfl, rfl⟩, fun b k ⟨c, el, fz, h1, h2⟩ => ?_⟩
    · have hb : b < w.heap.size := room_lt (hh.fsz b (by omega))
      simp only [World.cell?, hold b hb]
    · exact ⟨c, el, fz, by rw [hold b (room_lt (w := w) ⟨c, el, fz, h1, h2⟩)]; exact h1, h2⟩
  exact ⟨hx, hh.apart, fun p hp => ⟨(hh.ent p hp).1, (hh.ent p hp).2.ext hx (Nat.le_refl _) rfl rfl rfl (hold _ (hh.ent p hp).2.lt)⟩, fun b hb => hx.rooms _ _ (hh.fsz b hb)⟩

theorem RunsF.bor {f : FuncId} {args args' : List AV} {r : AV} {K : AV → Nat → Heap → Prop} {t : Tag K} (h : RunsF P f args' r) (hs : simple r = true) (hb : Bors H args args') (hk : K r n H) : RunsT P f args n H K t := by
  refine Runs.map (n := n) (H := H) (h n []) fun g w cs hv hh => ⟨g1 g w, hb.rel hh hv, g1_rel g w n, ?_⟩
  rintro c w' ⟨v, n', H', g2, ⟨rfl, rfl, rfl⟩, _, hv2, _, hg⟩
  have hold : ∀ b, b < w.heap.size → w'.heap[b]? = w.heap[b]? := fun b hb => (hg.old b hb (fun p hp => absurd hp (by simp))).1
  obtain ⟨hx, hh'⟩ := stands hh hg.size hold
  exact ⟨v, n', H, g, hk, Nat.le_refl _, hv2.simp hs, hh', { hx with size := hg.size, old := fun b hb _ => ⟨hold b hb, rfl⟩, owns := fun p hp => .inl ⟨p, hp, rfl⟩, oth := hg.oth }⟩

theorem Runs.ownFlat {f : FuncId} {args args' : List AV} {s : Nat} {rows : List (List AV)} {K : AV → Nat → Heap → Prop}
    (h : Runs P f args' 0 [] (fun v n' H' => (∃ id, v = .acc id s rows ∧ (id, HObj.tok s rows.length) ∈ H') ∨ (rows = [] ∧ v = .sl [])))
    (hsc : rows.flatten.all simple = true) (hb : Bors H args args') (hz : belows 0 args' = true) (hk1 : K (.ref n s 0 rows.length) (n + 1) ((n, .own rows.flatten) :: H)) (hk2 : rows = [] → K (.sl []) n H) : Runs P f args n H K := by
  refine Runs.map h fun g w cs hv hh => ⟨g0 w, ?_, g0_rel w, ?_⟩
  · have h1 := (hb.rel hh hv).lower hz
    exact h1.ext (g' := g0 w) (w' := w) (n' := 0) ⟨fun _ _ _ => rfl, fun _ => Nat.le_refl _, fun id hid => absurd hid (Nat.not_lt_zero _), fun _ _ h => h⟩ (Nat.le_refl _)
  · rintro c w' ⟨v, n2, H2, g2, hr, _, hv2, hh2, hg⟩
    have hold : ∀ b, b < w.heap.size → w'.heap[b]? = w.heap[b]? := fun b hb => (hg.old b hb (fun p hp => absurd hp (by simp))).1
    obtain ⟨hx, hh'⟩ := stands hh hg.size hold
    rcases hr with ⟨id, rfl, hm⟩ | ⟨hne, rfl⟩
    · obtain ⟨_, hfr, hphi, arr, el, harr, hsz⟩ := hh2.ent _ hm
      have hnew : w.heap.size ≤ g2.β id := by
        rcases hg.owns _ hm with ⟨q, hq, _⟩ | hle
        · cases hq
        · exact hle
      cases hv2 with | acc _ _ _ a b off cap vs ha hc hs hf hrun hvs hid hl =>
      obtain ⟨_, hloc⟩ := hl _ hfr
      obtain ⟨rfl, hroom⟩ := hloc rfl
      have hfl := flatten_length hs
      have hvl := hvs.length
      have hcell : ∀ (i : Nat) (v : Value), vs[i]? = some v → arr[i]? = some v := by
        intro i v hi
        have hne : rows ≠ [] := by
          rintro rfl
          have : vs = [] := List.eq_nil_of_length_eq_zero (by rw [← hvl]; rfl)
          subst this
          simp at hi
        have he := ha hne
        simp only [Option.some.injEq, Addr.mk.injEq, and_true] at he
        obtain ⟨rfl, rfl⟩ := he
        have := hrun i v hi
        rw [Nat.zero_add] at this
        simpa [World.cell?, harr] using this
      have hx' : Ext n g w ⟨upd g.β n (g2.β id), upd g.fr n none, g.φ⟩ w' :=
        ⟨hx.cells, fun _ => Nat.le_refl _, fun i hi => .inl ⟨upd_ne _ _ (Nat.ne_of_lt hi), upd_ne _ _ (Nat.ne_of_lt hi)⟩, hx.rooms⟩
      have hβ : ∀ p ∈ H, upd g.β n (g2.β id) p.1 = g.β p.1 := fun p hp => upd_ne _ _ (Nat.ne_of_lt (hh.ent p hp).1)
      have hlt : ∀ p ∈ H, g.β p.1 < w.heap.size := fun p hp => (hh.ent p hp).2.lt
      have hH : HRel ⟨upd g.β n (g2.β id), upd g.fr n none, g.φ⟩ n H w' := by
        refine ⟨hh.apart.imp_of_mem ?_, fun p hp => ⟨(hh.ent p hp).1, (hh.ent p hp).2.ext hx' (Nat.le_refl _) (hβ p hp) (upd_ne _ _ (Nat.ne_of_lt (hh.ent p hp).1)) rfl (hold _ (hlt p hp))⟩, hh'.fsz⟩
        intro p q hp hq hpq
        refine ⟨hpq.1, ?_⟩
        show upd g.β n (g2.β id) p.1 ≠ upd g.β n (g2.β id) q.1
        rw [hβ p hp, hβ q hq]; exact hpq.2
      have e1 : (⟨upd g.β n (g2.β id), upd g.fr n none, g.φ⟩ : Ghost).β n = g2.β id := upd_same _ _ _
      refine ⟨_, _, _, ⟨upd g.β n (g2.β id), upd g.fr n none, g.φ⟩, hk1, Nat.le_succ _, ?_, hH.add _ (fun p hp => ?_) ?_, ?_⟩
      · have := VRel.ref (g := ⟨upd g.β n (g2.β id), upd g.fr n none, g.φ⟩) (n := n + 1) (w := w') n s 0 rows.length cap (Nat.lt_succ_self _) (upd_same _ _ _) hc (by rw [e1, Nat.zero_add]; exact hroom)
        rw [e1] at this
        exact this
      · rw [e1]
        show upd g.β n (g2.β id) p.1 ≠ _
        rw [hβ p hp]
        have := hlt p hp
        omega
      · refine ⟨upd_same _ _ _, ?_, arr, el, vs, by rw [e1]; exact harr, hcell, hvs.simp hsc⟩
        rw [e1]
        exact hh.phi0 hnew
      · refine { hx' with size := hg.size, old := fun b hb _ => ⟨hold b hb, rfl⟩, owns := fun p hp => ?_, oth := hg.oth }
        rw [List.mem_cons] at hp
        rcases hp with rfl | hp
        · exact .inr (by rw [e1]; exact hnew)
        · exact .inl ⟨p, hp, (hβ p hp).symm⟩
    · subst hne
      refine ⟨_, n, H, g, hk2 rfl, Nat.le_refl _, ?_, hh', { hx with size := hg.size, old := fun b hb _ => ⟨hold b hb, rfl⟩, owns := fun p hp => .inl ⟨p, hp, rfl⟩, oth := hg.oth }⟩
      cases hv2 with | sl _ s a b off cap vs ha hc hs hf hrun hvs =>
      cases hvs
      exact .sl [] 0 _ 0 0 _ [] (fun h => absurd rfl h) hc (fun r hr => absurd hr (by simp)) (fun h => absurd rfl h) (fun i v hi => by simp at hi) .nil

theorem strs_simple0 (l : List (List UInt8)) : (Ab.strs l).flatten.all simple = true := by
  induction l with
  | nil => rfl
  | cons s l ih => rw [Ab.strs, enc_cons, List.flatten_cons, List.all_append]; exact Bool.and_eq_true_iff.mpr ⟨rfl, ih⟩
theorem ints_simple0 (l : List Int) : (Ab.ints l).flatten.all simple = true := by
  induction l with
  | nil => rfl
  | cons s l ih => rw [Ab.ints, enc_cons, List.flatten_cons, List.all_append]; exact Bool.and_eq_true_iff.mpr ⟨rfl, ih⟩
theorem Bor.strs {id : Nat} {l : List (List UInt8)} {len : Nat} (hl : l.length = len) (hm : hget H id = some (.own (Ab.strs l).flatten)) : Bor H (.ref id 1 0 len) (.sl (Ab.strs l)) :=
  .ref hm rfl (by rw [strs_len]; exact hl) (fun r hr => by obtain ⟨s, _, rfl⟩ := List.mem_map.mp hr; rfl) (strs_simple0 _)
theorem Bor.ints {id : Nat} {l : List Int} {len : Nat} (hl : l.length = len) (hm : hget H id = some (.own (Ab.ints l).flatten)) : Bor H (.ref id 1 0 len) (.sl (Ab.ints l)) :=
  .ref hm rfl (by rw [ints_len]; exact hl) (fun r hr => by obtain ⟨s, _, rfl⟩ := List.mem_map.mp hr; rfl) (ints_simple0 _)
theorem strs_simple (l : List (List UInt8)) : (strs l).flatten.all simple = true := strs_simple0 l
theorem ints_simple (l : List Int) : (ints l).flatten.all simple = true := ints_simple0 l

theorem hget_hset {H : Heap} {id : Nat} {x : HObj} (h : hget H id = some x) (o : HObj) : hget (hset H id o) id = some o := by
  induction H with
  | nil => simp [hget] at h
  | cons p H ih =>
    unfold hset
    by_cases hp : p.1 = id
    · rw [if_pos hp]; simp [hget]
    · rw [if_neg hp]
      have hf : (p.1 == id) = false := by simpa using hp
      simp only [hget, List.find?_cons, hf] at h ⊢
      exact ih h
theorem hset_cons2 (p : Nat × HObj) (H : Heap) (id : Nat) (o : HObj) : hset (p :: H) id o = if p.1 = id then (id, o) :: H else p :: hset H id o := rfl
theorem hset_hset (H : Heap) (id : Nat) (a b : HObj) : hset (hset H id a) id b = hset H id b := by
  induction H with
  | nil => rfl
  | cons p H ih =>
    rw [hset_cons2 p H id a, hset_cons2 p H id b]
    by_cases hp : p.1 = id
    · rw [if_pos hp, if_pos hp, hset_cons2, if_pos rfl]
    · rw [if_neg hp, if_neg hp, hset_cons2, if_neg hp, ih]
theorem hset_self {H : Heap} {id : Nat} {x : HObj} (h : hget H id = some x) : hset H id x = H := by
  induction H with
  | nil => rfl
  | cons p H ih =>
    unfold hset
    by_cases hp : p.1 = id
    · rw [if_pos hp]
      have hf : (p.1 == id) = true := by simpa using hp
      simp only [hget, List.find?_cons, hf, Option.map_some, Option.some.injEq] at h
      rw [← h, ← hp]
    · rw [if_neg hp]
      have hf : (p.1 == id) = false := by simpa using hp
      simp only [hget, List.find?_cons, hf] at h
      rw [ih h]

theorem Runs.det {f : FuncId} {args : List AV} {v : AV} {n' : Nat} {H' : Heap} {K : AV → Nat → Heap → Prop} {t : Tag K} (h : Runs P f args n H fun v1 n1 H1 => v1 = v ∧ n1 = n' ∧ H1 = H') (hk : K v n' H') : RunsT P f args n H K t :=
  h.mono fun _ _ _ ⟨e1, e2, e3⟩ => by subst e1 e2 e3; exact hk
theorem strs_flen (l : List (List UInt8)) : (strs l).flatten.length = l.length := by rw [strs, enc_flen]; exact Nat.mul_one _
theorem ints_flen (l : List Int) : (ints l).flatten.length = l.length := by rw [ints, enc_flen]; exact Nat.mul_one _

/-- A call that hands back a new slice. -/
def RunsA (P : Program) (f : FuncId) (args : List AV) (s : Nat) (rows : List (List AV)) : Prop :=
  ∀ n H, Runs P f args n H (fun v n' H' => (v = .acc n s rows ∧ n' = n + 1 ∧ H' = (n, .tok s rows.length) :: H) ∨ (rows = [] ∧ v = .sl [] ∧ n' = n ∧ H' = H))

theorem RunsA.f {f : FuncId} {args : List AV} {s : Nat} {rows : List (List AV)} (h : RunsA P f args s rows) : RunsF P f args (.sl rows) := by
  intro n H
  refine Runs.map (h n H) fun g w cs hv hh => ⟨g, hv, hh, ?_⟩
  rintro c w' ⟨v, n', H', g', hr, hle, hv', hh', hg⟩
  rcases hr with ⟨rfl, rfl, rfl⟩ | ⟨rfl, rfl, rfl, rfl⟩
  · have hs : H.Sublist ((n, HObj.tok s rows.length) :: H) := List.sublist_cons_self _ _
    exact ⟨.sl rows, n, H, g', ⟨rfl, rfl, rfl⟩, Nat.le_refl _, hv'.fzd.lower (by simp [fz, below]), hh'.lower hs hh.hb, hg.trans (Grow.dropH hs) (Nat.le_refl _)⟩
  · exact ⟨_, _, _, g', ⟨rfl, rfl, rfl⟩, hle, hv', hh', hg⟩

theorem RunsA.own {f : FuncId} {args args' : List AV} {s : Nat} {rows : List (List AV)} {K : AV → Nat → Heap → Prop} {t : Tag K} (h : RunsA P f args' s rows)
    (hsc : rows.flatten.all simple = true) (hb : Bors H args args') (hz : belows 0 args' = true) (hk1 : K (.ref n s 0 rows.length) (n + 1) ((n, .own rows.flatten) :: H)) (hk2 : rows = [] → K (.sl []) n H) : RunsT P f args n H K t :=
  Runs.ownFlat ((h 0 []).mono fun v n' H' hr => by
    rcases hr with ⟨rfl, rfl, rfl⟩ | ⟨rfl, rfl, rfl, rfl⟩
    · exact .inl ⟨_, rfl, List.mem_cons_self ..⟩
    · exact .inr ⟨rfl, rfl⟩) hsc hb hz hk1 hk2
end Go.Ab
