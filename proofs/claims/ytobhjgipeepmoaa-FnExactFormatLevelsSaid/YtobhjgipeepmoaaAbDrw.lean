/- Regions whose order the language leaves open: the run in the order of the text serves every order. Over any program. -/
import Derived.Test.YtobhjgipeepmoaaAbVec
namespace Go.Ab
set_option linter.unusedVariables false
set_option linter.unusedSimpArgs false

/-- An operation and its class: 0 asks nothing of the owned heap and leaves it, 1 reads it, 2 changes it. -/
abbrev DOp := XOp × Nat

def outD (P : Program) (c : Nat) (o : XO) (vals : List AV) (n : Nat) (H : Heap) (v : AV) (n' : Nat) (H' : Heap) : Prop :=
  match c with
  | 0 => n' = n ∧ H' = H ∧ ∀ n H, xop P o vals n H fun v1 n1 H1 => v1 = v ∧ n1 = n ∧ H1 = H
  | 1 => n' = n ∧ H' = H ∧ ∀ n, xop P o vals n H fun v1 n1 H1 => v1 = v ∧ n1 = n ∧ H1 = H
  | _ => xop P o vals n H fun v1 n1 H1 => v1 = v ∧ n1 = n' ∧ H1 = H'

def xD (P : Program) (c : Nat) (o : XO) (vals : List AV) (n : Nat) (H : Heap) (K : AV → Nat → Heap → Prop) : Prop := ∃ v n' H', outD P c o vals n H v n' H' ∧ K v n' H'

def xDs (P : Program) : List DOp → Env → Nat → Heap → (Env → Nat → Heap → Prop) → Prop
  | [], E, n, H, K => K E n H
  | (x, c) :: l, E, n, H, K => match x.guard with
    | none => xD P c x.op (x.args.map (Opd.val E)) n H fun v n' H' => xDs P l (put E x.dst v) n' H' K
    | some (t, want) => gd (val E t) want (xD P c x.op (x.args.map (Opd.val E)) n H fun v n' H' => xDs P l (put E x.dst v) n' H' K) (xDs P l (put E x.dst (.tup [])) n H K)

variable {P : Program}

theorem outD.xop {c : Nat} {o : XO} {vals : List AV} {n n' : Nat} {H H' : Heap} {v : AV} (h : outD P c o vals n H v n' H') : xop P o vals n H fun v1 n1 H1 => v1 = v ∧ n1 = n' ∧ H1 = H' := by
  unfold outD at h
  split at h
  · obtain ⟨rfl, rfl, h⟩ := h; exact h _ _
  · obtain ⟨rfl, rfl, h⟩ := h; exact h _
  · exact h

/-- What an operation does, its guard looked at. -/
def act (P : Program) (x : DOp) (E : Env) (n : Nat) (H : Heap) (v : AV) (n' : Nat) (H' : Heap) : Prop :=
  match x.1.guard with
  | none => outD P x.2 x.1.op (x.1.args.map (Opd.val E)) n H v n' H'
  | some (t, want) => match val E t with
    | .bool b => if b = want then outD P x.2 x.1.op (x.1.args.map (Opd.val E)) n H v n' H' else v = .tup [] ∧ n' = n ∧ H' = H
    | .tup [] => v = .tup [] ∧ n' = n ∧ H' = H
    | _ => False

theorem xDs_act {x : DOp} {l : List DOp} {E : Env} {n : Nat} {H : Heap} {K : Env → Nat → Heap → Prop} : xDs P (x :: l) E n H K ↔ ∃ v n' H', act P x E n H v n' H' ∧ xDs P l (put E x.1.dst v) n' H' K := by
  obtain ⟨x, c⟩ := x
  simp only [xDs, act]
  cases hg : x.guard with
  | none => exact Iff.rfl
  | some p =>
    obtain ⟨t, want⟩ := p
    simp only [gd]
    cases hv : val E t <;> try simp only []
    case bool b =>
      by_cases hb : b = want
      · simp only [hb, if_true, ne_eq, not_true_eq_false, forall_const, false_implies, and_true, true_implies]
        exact Iff.rfl
      · simp only [hb, if_false, ne_eq, not_false_eq_true, forall_const, false_implies, true_and, true_implies]
        constructor
        · intro h; exact ⟨_, _, _, ⟨rfl, rfl, rfl⟩, h⟩
        · rintro ⟨_, _, _, ⟨rfl, rfl, rfl⟩, h⟩; exact h
    case tup vs =>
      cases vs with
      | nil =>
        constructor
        · intro h; exact ⟨_, _, _, ⟨rfl, rfl, rfl⟩, h⟩
        · rintro ⟨_, _, _, ⟨rfl, rfl, rfl⟩, h⟩; exact h
      | cons _ _ => exact ⟨fun h => h.elim, fun ⟨_, _, _, h, _⟩ => h.elim⟩
    all_goals exact ⟨fun h => h.elim, fun ⟨_, _, _, h, _⟩ => h.elim⟩

def Eqv (E E' : Env) : Prop := ∀ i, val E i = val E' i

theorem val_put_same (E : Env) (d : Nat) (v : AV) : val (put E (some d) v) d = v := by simp [val, put]
theorem find_filter (E : Env) (d i : Nat) (h : i ≠ d) : (E.filter fun p => p.1 != d).find? (fun p => p.1 == i) = E.find? fun p => p.1 == i := by
  induction E with
  | nil => rfl
  | cons p E ih =>
    rw [List.filter_cons]
    by_cases hp : p.1 = d
    · have h1 : (p.1 != d) = false := by simp [hp]
      have h2 : (p.1 == i) = false := by simp [hp]; exact fun e => h e.symm
      rw [h1, if_neg (by simp), ih, List.find?_cons, h2]
    · have h1 : (p.1 != d) = true := by simp [hp]
      rw [h1, if_pos rfl, List.find?_cons, List.find?_cons, ih]
theorem val_put_ne (E : Env) (d i : Nat) (v : AV) (h : i ≠ d) : val (put E (some d) v) i = val E i := by
  unfold val put
  rw [List.find?_cons]
  have : (d == i) = false := by simp; exact fun e => h e.symm
  simp only [this]
  rw [find_filter E d i h]
theorem val_put_none (E : Env) (i : Nat) (v : AV) : val (put E none v) i = val E i := rfl

theorem Eqv.put {E E' : Env} (h : Eqv E E') (d : Option Nat) (v : AV) : Eqv (put E d v) (Ab.put E' d v) := by
  intro i
  cases d with
  | none => exact h i
  | some d =>
    by_cases hi : i = d
    · subst hi; rw [val_put_same, val_put_same]
    · rw [val_put_ne _ _ _ _ hi, val_put_ne _ _ _ _ hi]; exact h i

theorem Opd.val_congr {E E' : Env} {o : Opd} (h : ∀ i, o = .t i → Ab.val E i = Ab.val E' i) : o.val E = o.val E' := by
  cases o with
  | t i => exact h i rfl
  | k v => rfl

def XOp.reads (x : XOp) : List Nat := (x.args.filterMap fun o => match o with | .t i => some i | _ => none) ++ (match x.guard with | some (t, _) => [t] | none => [])

theorem act_congr {x : DOp} {E E' : Env} {n n' : Nat} {H H' : Heap} {v : AV} (h : ∀ i ∈ x.1.reads, val E i = val E' i) (ha : act P x E n H v n' H') : act P x E' n H v n' H' := by
  have e1 : x.1.args.map (Opd.val E) = x.1.args.map (Opd.val E') := List.map_congr_left fun o ho => Opd.val_congr fun i hi => h i (by
    subst hi
    exact List.mem_append_left _ (List.mem_filterMap.mpr ⟨_, ho, rfl⟩))
  unfold act at ha ⊢
  cases hg : x.1.guard with
  | none => simp only [hg] at ha ⊢; rw [← e1]; exact ha
  | some p =>
    obtain ⟨t, want⟩ := p
    simp only [hg] at ha ⊢
    have e2 : val E t = val E' t := h t (List.mem_append_right _ (by rw [hg]; exact List.mem_singleton.mpr rfl))
    rw [← e2, ← e1]; exact ha

theorem act_zero {x : DOp} {E : Env} {n n' : Nat} {H H' : Heap} {v : AV} (h0 : x.2 = 0) (ha : act P x E n H v n' H') : n' = n ∧ H' = H ∧ ∀ n H, act P x E n H v n H := by
  unfold act at ha ⊢
  rw [h0] at ha ⊢
  cases hg : x.1.guard with
  | none =>
    simp only [hg, outD] at ha ⊢
    exact ⟨ha.1, ha.2.1, fun n H => ⟨trivial, trivial, ha.2.2⟩⟩
  | some p =>
    obtain ⟨t, want⟩ := p
    simp only [hg] at ha ⊢
    cases hv : val E t <;> rw [hv] at ha <;> try simp only [] at ha ⊢
    case bool b =>
      by_cases hb : b = want
      · simp only [hb, if_true, outD] at ha ⊢
        exact ⟨ha.1, ha.2.1, fun n H => ⟨trivial, trivial, ha.2.2⟩⟩
      · simp only [hb, if_false] at ha ⊢
        exact ⟨ha.2.1, ha.2.2, fun n H => ⟨ha.1, trivial, trivial⟩⟩
    case tup vs =>
      cases vs with
      | nil =>
        simp only [] at ha ⊢
        exact ⟨ha.2.1, ha.2.2, fun n H => ⟨ha.1, trivial, trivial⟩⟩
      | cons _ _ => exact ha.elim

theorem act_one {x : DOp} {E : Env} {n n' : Nat} {H H' : Heap} {v : AV} (h0 : x.2 = 1) (ha : act P x E n H v n' H') : n' = n ∧ H' = H := by
  unfold act at ha
  rw [h0] at ha
  cases hg : x.1.guard with
  | none => simp only [hg, outD] at ha; exact ⟨ha.1, ha.2.1⟩
  | some p =>
    obtain ⟨t, want⟩ := p
    simp only [hg] at ha
    cases hv : val E t <;> rw [hv] at ha <;> try simp only [] at ha
    case bool b =>
      by_cases hb : b = want
      · simp only [hb, if_true, outD] at ha
        exact ⟨ha.1, ha.2.1⟩
      · simp only [hb, if_false] at ha
        exact ⟨ha.2.1, ha.2.2⟩
    case tup vs =>
      cases vs with
      | nil => exact ⟨ha.2.1, ha.2.2⟩
      | cons _ _ => exact ha.elim

def apartX (a b : DOp) : Bool :=
  (match a.1.dst with | some d => !(b.1.reads.contains d) && b.1.dst != some d | none => true) &&
  (match b.1.dst with | some d => !(a.1.reads.contains d) | none => true) &&
  (a.2 == 0 || b.2 == 0 || (a.2 == 1 && b.2 == 1))

theorem reads_put {x : XOp} {E : Env} {d : Option Nat} {v : AV} (h : ∀ k, d = some k → k ∉ x.reads) : ∀ i ∈ x.reads, val E i = val (put E d v) i := by
  intro i hi
  cases d with
  | none => rfl
  | some k =>
    have hne : i ≠ k := fun e => h k rfl (e ▸ hi)
    rw [val_put_ne _ _ _ _ hne]

def KOk (K : Env → Nat → Heap → Prop) : Prop := ∀ E E' n H, Eqv E E' → K E n H → K E' n H

theorem xDs_congr {K : Env → Nat → Heap → Prop} (hK : KOk K) : ∀ {l : List DOp} {E E' : Env} {n : Nat} {H : Heap}, Eqv E E' → xDs P l E n H K → xDs P l E' n H K
  | [], E, E', n, H, he, h => hK _ _ _ _ he h
  | x :: l, E, E', n, H, he, h => by
    rw [xDs_act] at h ⊢
    obtain ⟨v, n', H', ha, h⟩ := h
    exact ⟨v, n', H', act_congr (fun i _ => he i) ha, xDs_congr hK (he.put _ _) h⟩

theorem xDs_swap {K : Env → Nat → Heap → Prop} (hK : KOk K) {a b : DOp} {l : List DOp} {E : Env} {n : Nat} {H : Heap} (hab : apartX a b = true) (h : xDs P (a :: b :: l) E n H K) : xDs P (b :: a :: l) E n H K := by
  simp only [apartX, Bool.and_eq_true] at hab
  obtain ⟨⟨h1, h2⟩, h3⟩ := hab
  have ha1 : ∀ k, a.1.dst = some k → k ∉ b.1.reads := fun k e => by rw [e] at h1; simp at h1; exact h1.1
  have ha2 : ∀ k, a.1.dst = some k → b.1.dst ≠ some k := fun k e => by rw [e] at h1; simp at h1; exact h1.2
  have hb1 : ∀ k, b.1.dst = some k → k ∉ a.1.reads := fun k e => by rw [e] at h2; simp at h2; exact h2
  rw [xDs_act] at h
  obtain ⟨va, n1, H1, hA, h⟩ := h
  rw [xDs_act] at h
  obtain ⟨vb, n2, H2, hB, h⟩ := h
  have hB' : act P b E n1 H1 vb n2 H2 := act_congr (fun i hi => (reads_put ha1 i hi).symm) hB
  have hE : Eqv (put (put E a.1.dst va) b.1.dst vb) (put (put E b.1.dst vb) a.1.dst va) := by
    intro i
    cases hda : a.1.dst with
    | none => rfl
    | some p =>
      cases hdb : b.1.dst with
      | none => rfl
      | some q =>
        have hpq : p ≠ q := fun e => ha2 p hda (by rw [hdb, e])
        by_cases hip : i = p
        · subst hip
          rw [val_put_ne _ _ _ _ hpq, val_put_same, val_put_same]
        · by_cases hiq : i = q
          · subst hiq
            rw [val_put_same, val_put_ne _ _ _ _ hip, val_put_same]
          · rw [val_put_ne _ _ _ _ hiq, val_put_ne _ _ _ _ hip, val_put_ne _ _ _ _ hip, val_put_ne _ _ _ _ hiq]
  have h' := xDs_congr hK hE h
  have fin : ∀ m G, act P b E n H vb m G → act P a E m G va n2 H2 → xDs P (b :: a :: l) E n H K := fun m G e1 e2 => by
    rw [xDs_act]
    refine ⟨vb, m, G, e1, ?_⟩
    rw [xDs_act]
    exact ⟨va, n2, H2, act_congr (reads_put hb1) e2, h'⟩
  simp only [Bool.or_eq_true, Bool.and_eq_true, beq_iff_eq] at h3
  rcases h3 with (h3 | h3) | ⟨h3, h4⟩
  · obtain ⟨rfl, rfl, hall⟩ := act_zero h3 hA
    exact fin n2 H2 hB' (hall _ _)
  · obtain ⟨rfl, rfl, hall⟩ := act_zero h3 hB'
    exact fin n H (hall _ _) hA
  · obtain ⟨rfl, rfl⟩ := act_one h3 hA
    obtain ⟨rfl, rfl⟩ := act_one h4 hB'
    exact fin _ _ hB' hA

theorem xDs_front {K : Env → Nat → Heap → Prop} (hK : KOk K) {b : DOp} {post : List DOp} : ∀ {pre : List DOp} {E : Env} {n : Nat} {H : Heap}, (∀ a ∈ pre, apartX a b = true) → xDs P (pre ++ b :: post) E n H K → xDs P (b :: (pre ++ post)) E n H K
  | [], E, n, H, _, h => h
  | a :: pre, E, n, H, ha, h => by
    rw [List.cons_append, xDs_act] at h
    obtain ⟨v, n', H', hact, h⟩ := h
    have := xDs_front hK (fun x hx => ha x (List.mem_cons_of_mem _ hx)) h
    exact xDs_swap hK (ha a (List.mem_cons_self ..)) (xDs_act.mpr ⟨v, n', H', hact, this⟩)

/-! ### Every order -/
def rem (N : Nat) (listed : Array Bool) : List Nat := (List.range N).filter fun i => !listed.getD i true

theorem range_split {N i : Nat} (h : i < N) : List.range N = List.range i ++ i :: List.range' (i + 1) (N - (i + 1)) := by
  have e : N = i + (1 + (N - (i + 1))) := by omega
  rw [List.range_eq_range', List.range_eq_range']
  conv => lhs; rw [e]
  rw [← List.range'_append_1, Nat.zero_add, ← List.range'_append_1]
  rfl

theorem rem_split {N i : Nat} {listed : Array Bool} (h : i < N) (hs : listed.size = N) (hi : listed.getD i true = false) :
    ∃ pre post, rem N listed = pre ++ i :: post ∧ rem N (listed.setIfInBounds i true) = pre ++ post ∧ ∀ j ∈ pre, j < i ∧ listed.getD j true = false := by
  refine ⟨(List.range i).filter fun j => !listed.getD j true, (List.range' (i + 1) (N - (i + 1))).filter fun j => !listed.getD j true, ?_, ?_, fun j hj => ?_⟩
  · unfold rem
    rw [range_split h, List.filter_append, List.filter_cons, hi]
    rfl
  · unfold rem
    rw [range_split h, List.filter_append, List.filter_cons]
    have e1 : (listed.setIfInBounds i true).getD i true = true := by simp [Array.getD_eq_getD_getElem?, hs, h]
    rw [e1, if_neg (by simp)]
    have ne : ∀ j, j ≠ i → (listed.setIfInBounds i true).getD j true = listed.getD j true := fun j hj => by
      simp only [Array.getD_eq_getD_getElem?]
      rw [Array.getElem?_setIfInBounds_ne (fun e => hj e.symm)]
    congr 1
    · refine List.filter_congr fun j hj => ?_
      rw [ne j (by have := List.mem_range.mp hj; omega)]
    · refine List.filter_congr fun j hj => ?_
      rw [ne j (by have := (List.mem_range'_1.mp hj).1; omega)]
  · have := List.mem_filter.mp hj
    exact ⟨List.mem_range.mp this.1, by simpa using this.2⟩

def predsOf (md : Region.Mode) (o : Oper) : List Nat := (o.after.toList.filter (Region.binds md)).map (·.on)

section
variable {K : Env → Nat → Heap → Prop} {md : Region.Mode} {ops : Array Oper} {f : Nat → DOp} {pr tc : Nat → List Nat}

theorem listed_tc {N : Nat} (hsm : ∀ i, i < N → ∀ p ∈ pr i, p < i) (htc : ∀ i, i < N → ∀ j ∈ tc i, j ∈ pr i ∨ ∃ p ∈ pr i, j ∈ tc p) {listed : Array Bool}
    (hcl : ∀ i, i < N → listed.getD i true = true → ∀ p ∈ pr i, listed.getD p true = true) : ∀ i, i < N → (∀ p ∈ pr i, listed.getD p true = true) → ∀ j ∈ tc i, listed.getD j true = true := by
  intro i
  induction i using Nat.strongRecOn with
  | _ i ih =>
    intro hi hp j hj
    rcases htc i hi j hj with h | ⟨p, hpp, h⟩
    · exact hp j h
    · have hlt := hsm i hi p hpp
      exact ih p hlt (by omega) (hcl p (by omega) (hp p hpp)) j h

theorem lin (hK : KOk K) (hpr : ∀ (i : Nat) (o : Oper), ops[i]? = some o → pr i = predsOf md o) (hsm : ∀ i, i < ops.size → ∀ p ∈ pr i, p < i)
    (htc : ∀ i, i < ops.size → ∀ j ∈ tc i, j ∈ pr i ∨ ∃ p ∈ pr i, j ∈ tc p) (hap : ∀ i, i < ops.size → ∀ j, j < i → j ∈ tc i ∨ apartX (f j) (f i) = true) :
    ∀ (fuel t : Nat) (listed : Array Bool) (E : Env) (n : Nat) (H : Heap), listed.size = ops.size → (∀ i, i < ops.size → listed.getD i true = true → ∀ p ∈ pr i, listed.getD p true = true) →
      (rem ops.size listed).length ≤ fuel → xDs P ((rem ops.size listed).map f) E n H K → xOps P ((Region.linearise.go md ops fuel t listed []).map fun i => (f i).1) E n H K := by
  intro fuel
  induction fuel with
  | zero =>
    intro t listed E n H hs hcl hlen h
    have : rem ops.size listed = [] := List.eq_nil_of_length_eq_zero (by omega)
    rw [this] at h
    simpa [Region.linearise.go, xOps, xDs] using h
  | succ fuel ih =>
    intro t listed E n H hs hcl hlen h
    have gd_eq : ∀ p, p < ops.size → listed.getD p false = listed.getD p true := fun p hp => by simp [Array.getD_eq_getD_getElem?, hs, hp]
    have isReady : ∀ i, i ∈ Region.ready md ops listed ↔ (i < ops.size ∧ listed.getD i true = false ∧ ∀ p ∈ pr i, listed.getD p true = true) := by
      intro i
      unfold Region.ready
      rw [List.mem_filter, List.mem_range]
      constructor
      · rintro ⟨h1, h2⟩
        simp only [Bool.and_eq_true, Bool.not_eq_true'] at h2
        refine ⟨h1, h2.1, fun p hp => ?_⟩
        have ho : ops[i]? = some ops[i] := Array.getElem?_eq_getElem h1
        rw [hpr i _ ho] at hp
        obtain ⟨e, he, rfl⟩ := List.mem_map.mp hp
        obtain ⟨he1, he2⟩ := List.mem_filter.mp he
        have h3 := h2.2
        rw [ho] at h3
        simp only [Option.map_some, Option.getD_some, Array.all_eq_true_iff_forall_mem] at h3
        have h4 := h3 e (by simpa using he1)
        rw [he2] at h4
        have hlt : e.on < i := hsm i h1 _ (by rw [hpr i _ ho]; exact List.mem_map.mpr ⟨e, he, rfl⟩)
        rw [← gd_eq _ (by omega)]
        simpa using h4
      · rintro ⟨h1, h2, h3⟩
        refine ⟨h1, ?_⟩
        simp only [Bool.and_eq_true, Bool.not_eq_true']
        refine ⟨h2, ?_⟩
        have ho : ops[i]? = some ops[i] := Array.getElem?_eq_getElem h1
        rw [ho]
        simp only [Option.map_some, Option.getD_some, Array.all_eq_true_iff_forall_mem]
        intro e he
        cases hb : Region.binds md e with
        | false => simp
        | true =>
          have hm : e.on ∈ pr i := by rw [hpr i _ ho]; exact List.mem_map.mpr ⟨e, List.mem_filter.mpr ⟨by simpa using he, hb⟩, rfl⟩
          have hlt := hsm i h1 _ hm
          have := h3 _ hm
          rw [← gd_eq _ (by omega)] at this
          simp only [Bool.not_true, Bool.false_or]
          exact this
    simp only [Region.linearise.go]
    change xOps P ((match (Region.ready md ops listed)[t % (Region.ready md ops listed).length]? with
      | some i => Region.linearise.go md ops fuel (t / (Region.ready md ops listed).length) (listed.setIfInBounds i true) [i]
      | none => [].reverse).map fun i => (f i).1) E n H K
    cases hi : (Region.ready md ops listed)[t % (Region.ready md ops listed).length]? with
    | none =>
      have hnil : Region.ready md ops listed = [] := by
        cases hr : Region.ready md ops listed with
        | nil => rfl
        | cons x xs =>
          rw [hr] at hi
          have hlt : t % (x :: xs).length < (x :: xs).length := Nat.mod_lt _ (by simp)
          rw [List.getElem?_eq_getElem hlt] at hi
          cases hi
      have hall : ∀ j, j < ops.size → listed.getD j true = true := by
        intro j
        induction j using Nat.strongRecOn with
        | _ j ihj =>
          intro hj
          cases hl : listed.getD j true with
          | true => rfl
          | false =>
            have : j ∈ Region.ready md ops listed := (isReady j).mpr ⟨hj, hl, fun p hp => ihj p (hsm j hj p hp) (by have := hsm j hj p hp; omega)⟩
            rw [hnil] at this
            cases this
      have hrem : rem ops.size listed = [] := by
        unfold rem
        rw [List.filter_eq_nil_iff]
        intro j hj
        rw [hall j (List.mem_range.mp hj)]
        simp
      rw [hrem] at h
      simpa [xOps, xDs] using h
    | some i =>
      simp only []
      obtain ⟨h1, h2, h3⟩ := (isReady i).mp (List.mem_of_getElem? hi)
      obtain ⟨pre, post, e1, e2, e3⟩ := rem_split h1 hs h2
      rw [linearise_go_acc, List.reverse_singleton, List.singleton_append, List.map_cons]
      rw [e1, List.map_append, List.map_cons] at h
      have hf := xDs_front hK (fun a ha => by
        obtain ⟨j, hj, rfl⟩ := List.mem_map.mp ha
        obtain ⟨hj1, hj2⟩ := e3 j hj
        rcases hap i h1 j hj1 with h4 | h4
        · have := listed_tc hsm htc hcl i h1 h3 j h4
          rw [hj2] at this; cases this
        · exact h4) h
      rw [← List.map_append, ← e2] at hf
      have hs' : (listed.setIfInBounds i true).size = ops.size := by simpa using hs
      have hcl' : ∀ k, k < ops.size → (listed.setIfInBounds i true).getD k true = true → ∀ p ∈ pr k, (listed.setIfInBounds i true).getD p true = true := by
        have mono : ∀ p, listed.getD p true = true → (listed.setIfInBounds i true).getD p true = true := fun p hp => by
          by_cases hpi : p = i
          · subst hpi; rw [h2] at hp; cases hp
          · simp only [Array.getD_eq_getD_getElem?] at hp ⊢
            rw [Array.getElem?_setIfInBounds_ne (fun e => hpi e.symm)]; exact hp
        intro k hk hlk p hp
        by_cases hki : k = i
        · subst hki; exact mono p (h3 p hp)
        · refine mono p (hcl k hk ?_ p hp)
          simp only [Array.getD_eq_getD_getElem?] at hlk ⊢
          rw [Array.getElem?_setIfInBounds_ne (fun e => hki e.symm)] at hlk; exact hlk
      have hlen' : (rem ops.size (listed.setIfInBounds i true)).length ≤ fuel := by
        rw [e1] at hlen
        rw [e2]
        simp only [List.length_append, List.length_cons] at hlen ⊢
        omega
      have next : ∀ E n H, xDs P ((rem ops.size (listed.setIfInBounds i true)).map f) E n H K → xOps P ((Region.linearise.go md ops fuel (t / (Region.ready md ops listed).length) (listed.setIfInBounds i true) []).map fun i => (f i).1) E n H K :=
        fun E n H h => ih _ _ _ _ _ hs' hcl' hlen' h
      unfold xOps
      unfold xDs at hf
      generalize hfi : f i = fi at hf
      obtain ⟨x, c⟩ := fi
      simp only at hf ⊢
      have stp : xD P c x.op (x.args.map (Opd.val E)) n H (fun v n' H' => xDs P ((rem ops.size (listed.setIfInBounds i true)).map f) (put E x.dst v) n' H' K) →
          xop P x.op (x.args.map (Opd.val E)) n H fun v n' H' => xOps P ((Region.linearise.go md ops fuel (t / (Region.ready md ops listed).length) (listed.setIfInBounds i true) []).map fun i => (f i).1) (put E x.dst v) n' H' K := by
        rintro ⟨v, n', H', ho, hk⟩
        exact xop_mono (fun v1 n1 H1 ⟨a1, a2, a3⟩ => by subst a1 a2 a3; exact next _ _ _ hk) ho.xop
      cases hg : x.guard with
      | none => simp only [hg] at hf ⊢; exact stp hf
      | some p =>
        obtain ⟨t', want⟩ := p
        simp only [hg, gd] at hf ⊢
        split at hf
        · exact ⟨fun e => stp (hf.1 e), fun e => next _ _ _ (hf.2 e)⟩
        · exact next _ _ _ hf
        · exact hf.elim
end

theorem go_lt {md : Region.Mode} {ops : Array Oper} : ∀ (fuel t : Nat) (listed : Array Bool), ∀ i ∈ Region.linearise.go md ops fuel t listed [], i < ops.size := by
  intro fuel
  induction fuel with
  | zero => intro t listed i hi; simp [Region.linearise.go] at hi
  | succ fuel ih =>
    intro t listed i hi
    simp only [Region.linearise.go] at hi
    change i ∈ (match (Region.ready md ops listed)[t % (Region.ready md ops listed).length]? with
      | some i => Region.linearise.go md ops fuel (t / (Region.ready md ops listed).length) (listed.setIfInBounds i true) [i]
      | none => [].reverse) at hi
    cases hr : (Region.ready md ops listed)[t % (Region.ready md ops listed).length]? with
    | none => rw [hr] at hi; simp at hi
    | some j =>
      rw [hr] at hi
      simp only [] at hi
      rw [linearise_go_acc, List.reverse_singleton, List.singleton_append, List.mem_cons] at hi
      rcases hi with rfl | hi
      · have := List.mem_of_getElem? hr
        unfold Region.ready at this
        exact List.mem_range.mp (List.mem_filter.mp this).1
      · exact ih _ _ i hi

/-! ### The rule -/
def zipC : List (XOp × List Nat) → List Nat → List DOp
  | [], _ => []
  | (x, _) :: l, c :: cl => (x, c) :: zipC l cl
  | (x, _) :: l, [] => (x, 0) :: zipC l []

theorem zipC_get : ∀ {l : List (XOp × List Nat)} {cl : List Nat} {i : Nat} {x : XOp} {p : List Nat}, l[i]? = some (x, p) → ∃ c, (zipC l cl)[i]? = some (x, c)
  | (y, q) :: l, c :: cl, 0, x, p, h => by simp at h; obtain ⟨rfl, rfl⟩ := h; exact ⟨c, rfl⟩
  | (y, q) :: l, [], 0, x, p, h => by simp at h; obtain ⟨rfl, rfl⟩ := h; exact ⟨0, rfl⟩
  | (y, q) :: l, c :: cl, i + 1, x, p, h => by simp at h; obtain ⟨c', hc⟩ := zipC_get (cl := cl) h; exact ⟨c', by simpa [zipC] using hc⟩
  | (y, q) :: l, [], i + 1, x, p, h => by simp at h; obtain ⟨c', hc⟩ := zipC_get (cl := []) h; exact ⟨c', by simpa [zipC] using hc⟩

def tcs (prs : List (List Nat)) : List (List Nat) := prs.foldl (fun acc p => acc ++ [(p ++ p.flatMap fun q => acc.getD q []).eraseDups]) []

def d0 : DOp := (⟨none, .mv, [], none⟩, 0)

def certD (l : List (XOp × List Nat)) (cl : List Nat) : Bool :=
  let prs := l.map (·.2)
  let tc := tcs prs
  let ds := zipC l cl
  (List.range l.length).all fun i =>
    ((prs.getD i []).all fun p => Nat.blt p i) &&
    ((tc.getD i []).all fun j => (prs.getD i []).contains j || (prs.getD i []).any fun p => (tc.getD p []).contains j) &&
    ((List.range i).all fun j => (tc.getD i []).contains j || apartX (ds.getD j d0) (ds.getD i d0))

theorem zip_get {α β : Type} {l : List α} {m : List β} {i : Nat} {a : α} {b : β} (h1 : l[i]? = some a) (h2 : m[i]? = some b) : (l.zip m)[i]? = some (a, b) := by
  rw [List.getElem?_zip_eq_some]; exact ⟨h1, h2⟩

theorem XS.drw {X : Ctx} {F : Cfg} {k : List XItem} {E : Env} {n : Nat} {H : Heap} {l : List (XOp × List Nat)} {ks cl : List Nat} (hm : P.follows .mixedOrders = true) (hc : certD l cl = true)
    (h : xDs P (zipC l cl) E n H fun E n H => XS P X F k (keepE ks E) n H) : XS P X F (.code (.drw l ks cl) :: k) E n H := by
  intro k' hk
  obtain ⟨y, ys, rfl, h1, h2⟩ := hk.cons
  obtain ⟨c, rfl, hcc⟩ := h1.code_inv
  cases c with
  | region id ops d =>
    cases d with
    | false => simp [cCode] at hcc
    | true =>
      simp only [cCode, Option.map_eq_some_iff] at hcc
      obtain ⟨r, hr, he⟩ := hcc
      cases he
      have hrs := allSome_spec hr
      have hlen : r.length = ops.size := by
        have := congrArg List.length hrs
        simpa using this
      have hget : ∀ i (hi : i < ops.size), ∃ x o, r[i]? = some x ∧ ops[i]? = some o ∧ cOper P X.fn.ntmps F.md ops o = some x := by
        intro i hi
        have e1 : r[i]? = some (r[i]'(by omega)) := List.getElem?_eq_getElem (by omega)
        have e2 : ops[i]? = some ops[i] := Array.getElem?_eq_getElem hi
        refine ⟨_, _, e1, e2, ?_⟩
        have := congrArg (fun l => l[i]?) hrs
        simp only [List.getElem?_map, e1, Option.map_some, Array.getElem?_toList, e2, Option.some.injEq] at this
        exact this.symm
      have hzl : (r.zip (ops.toList.map fun o => (o.after.toList.filter (Region.binds .any)).map (·.on))).length = ops.size := by
        rw [List.length_zip, hlen]; simp
      generalize hcl : F.kp (id + 1000000) = cl at hc h
      generalize hL : (r.zip (ops.toList.map fun o => (o.after.toList.filter (Region.binds .any)).map (·.on))) = L at hc h hzl
      have hLget : ∀ i, i < ops.size → ∃ x o, ops[i]? = some o ∧ L[i]? = some (x, predsOf .any o) ∧ cOper P X.fn.ntmps F.md ops o = some x := by
        intro i hi
        obtain ⟨x, o, e1, e2, e3⟩ := hget i hi
        refine ⟨x, o, e2, ?_, e3⟩
        rw [← hL]
        exact zip_get e1 (by simp only [List.getElem?_map, Array.getElem?_toList, e2, Option.map_some]; rfl)
      simp only [certD, List.all_eq_true, List.mem_range, Bool.and_eq_true, Bool.or_eq_true, List.any_eq_true, List.contains_eq_mem, decide_eq_true_eq] at hc
      have hK : KOk fun E n H => XS P X F k (keepE (F.kp id) E) n H := fun E E' n H he hx => by
        have : keepE (F.kp id) E = keepE (F.kp id) E' := List.map_congr_left fun i _ => by rw [he i]
        show XS P X F k (keepE (F.kp id) E') n H
        rw [← this]; exact hx
      have hfin : ∀ t, xOps P ((Region.linearise.go .any ops ops.size t (Array.replicate ops.size false) []).map fun i => ((zipC L cl).getD i d0).1) E n H fun E n H => XS P X F k (keepE (F.kp id) E) n H := by
        intro t
        refine lin (f := fun i => (zipC L cl).getD i d0) (pr := fun i => (L.map (·.2)).getD i []) (tc := fun i => (tcs (L.map (·.2))).getD i []) hK ?_ ?_ ?_ ?_ _ _ _ _ _ _ (by simp) ?_ ?_ ?_
        · intro i o ho
          have hi : i < ops.size := by
            rcases Nat.lt_or_ge i ops.size with h | h
            · exact h
            · rw [Array.getElem?_eq_none h] at ho; cases ho
          obtain ⟨x, o', e1, e2, _⟩ := hLget i hi
          rw [ho] at e1; cases e1
          simp [List.getD_eq_getElem?_getD, e2]
        · intro i hi p hp
          have := ((hc i (by omega)).1.1) p hp
          exact Nat.lt_of_lt_of_le (by simpa using this) (Nat.le_refl _)
        · intro i hi j hj
          rcases ((hc i (by omega)).1.2) j hj with h | ⟨p, h⟩
          · exact .inl h
          · exact .inr ⟨p, h⟩
        · intro i hi j hj
          exact (hc i (by omega)).2 j hj
        · intro i hi hl
          simp [Array.getD_eq_getD_getElem?, hi] at hl
        · refine Nat.le_trans (List.length_filter_le _ _) ?_
          simp
        · have e : rem ops.size (Array.replicate ops.size false) = List.range ops.size := by
            unfold rem
            rw [List.filter_eq_self]
            intro i hi
            have := List.mem_range.mp hi
            simp [Array.getD_eq_getD_getElem?, this]
          rw [e]
          have e2 : (List.range ops.size).map (fun i => (zipC L cl).getD i d0) = zipC L cl := by
            apply List.ext_getElem?
            intro i
            rw [List.getElem?_map]
            by_cases hi : i < ops.size
            · obtain ⟨x, o, _, e3, _⟩ := hLget i hi
              obtain ⟨c, e4⟩ := zipC_get (cl := cl) e3
              rw [List.getElem?_range hi]
              simp [List.getD_eq_getElem?_getD, e4]
            · have : (zipC L cl).length ≤ i := by
                have hl : ∀ (l : List (XOp × List Nat)) (cl : List Nat), (zipC l cl).length = l.length := by
                  intro l
                  induction l with
                  | nil => intro cl; rfl
                  | cons a l ih => intro cl; obtain ⟨x, p⟩ := a; cases cl <;> simp [zipC, ih]
                rw [hl, hzl]; omega
              rw [List.getElem?_eq_none this, List.getElem?_eq_none (by simp; omega)]
              rfl
          rw [e2]
          exact h
      refine SimK.regionDraw fun t => ?_
      have hsch : Region.schedule (P.follows .mixedOrders) ops t = Region.linearise.go .any ops ops.size t (Array.replicate ops.size false) [] := by
        simp only [Region.schedule, hm, Bool.true_or, if_true]
        rfl
      rw [hsch]
      refine XS.ops (l := (Region.linearise.go .any ops ops.size t (Array.replicate ops.size false) []).map fun i => ((zipC L cl).getD i d0).1) (k := k) (X := X) (F := F) ?_ (.inRegion ops _ :: ys) ⟨?_, h2⟩
      · exact xOps_mono (fun E n H h => h.subv keepE_val) (hfin t)
      · show List.map some _ = _
        rw [List.map_map]
        refine List.map_congr_left fun i hi => ?_
        obtain ⟨x, o, e1, e3, e5⟩ := hLget i (go_lt _ _ _ i hi)
        obtain ⟨c, e4⟩ := zipC_get (cl := cl) e3
        simp [List.getD_eq_getElem?_getD, e4, e1, e5]
  | seq a b => simp only [cCode] at hcc; split at hcc <;> simp at hcc
  | cond c a b => simp only [cCode] at hcc; split at hcc <;> simp at hcc
  | block id c => simp [cCode] at hcc
  | loop c => simp [cCode] at hcc
  | _ => simp [cCode] at hcc

/-! ### Tagged -/
def Xd (P : Program) (c : Nat) (o : XO) (vals : List AV) (n : Nat) (H : Heap) (K : AV → Nat → Heap → Prop) (t : Tag K) : Prop := xD P c o vals n H K
def XDs (P : Program) (l : List DOp) (E : Env) (n : Nat) (H : Heap) (K : Env → Nat → Heap → Prop) (t : Tag K) : Prop := xDs P l E n H K
def RunsD (P : Program) (c : Nat) (f : FuncId) (args : List AV) (n : Nat) (H : Heap) (K : AV → Nat → Heap → Prop) (t : Tag K) : Prop :=
  match c with
  | 0 => ∃ r, RunsF P f args r ∧ K r n H
  | _ => ∃ v n' H', Runs P f args n H (fun v1 n1 H1 => v1 = v ∧ n1 = n' ∧ H1 = H') ∧ K v n' H'

theorem S.drw {X : Ctx} {F : Cfg} {k : List XItem} {E : Env} {n : Nat} {H : Heap} {l : List (XOp × List Nat)} {ks cl : List Nat} {t : Tag (X, F, XItem.code (.drw l ks cl) :: k)} (hm : P.follows .mixedOrders = true) (hc : certD l cl = true)
    (h : XDs P (zipC l cl) E n H (fun E n H => S P X F k Tag.mk (keepE ks E) n H) Tag.mk) : S P X F (.code (.drw l ks cl) :: k) t E n H := XS.drw hm hc h

theorem RunsF.apd {f : FuncId} {args args' : List AV} {r : AV} {n : Nat} {H : Heap} {K : AV → Nat → Heap → Prop} {t : Tag K} (h : RunsF P f args' r) (ha : args.map fzt = args') (hk : K r n H) : RunsD P 0 f args n H K t :=
  ⟨r, fun n H => Runs.fzt (by rw [ha]; exact h n H), hk⟩
theorem RunsF.apf {f : FuncId} {args args' : List AV} {r : AV} {n : Nat} {H : Heap} {K : AV → Nat → Heap → Prop} {t : Tag K} (h : RunsF P f args' r) (ha : args.map fzt = args') (hk : K r n H) : RunsT P f args n H K t :=
  (Runs.fzt (by rw [ha]; exact h n H) : Runs P f args n H fun v n' H' => v = r ∧ n' = n ∧ H' = H).mono fun v n' H' ⟨h1, h2, h3⟩ => by subst h1 h2 h3; exact hk
theorem Runs.apd {f : FuncId} {args : List AV} {r : AV} {n n' : Nat} {H H' : Heap} {K : AV → Nat → Heap → Prop} {t : Tag K} (h : Runs P f args n H fun v1 n1 H1 => v1 = r ∧ n1 = n' ∧ H1 = H') (hk : K r n' H') : RunsD P 2 f args n H K t :=
  ⟨r, n', H', h, hk⟩

section
variable {n : Nat} {H : Heap} {K : AV → Nat → Heap → Prop}
theorem tD_nil (E : Env) (K : Env → Nat → Heap → Prop) (t : Tag K) : XDs P [] E n H K t = K E n H := rfl
theorem tD_cons (d : Option Nat) (o : XO) (as : List Opd) (c : Nat) (l : List DOp) (E : Env) (K : Env → Nat → Heap → Prop) (t : Tag K) :
    XDs P ((⟨d, o, as, none⟩, c) :: l) E n H K t = Xd P c o (as.map (Opd.val E)) n H (fun v n' H' => XDs P l (put E d v) n' H' K Tag.mk) Tag.mk := rfl
theorem tD_gd (d : Option Nat) (o : XO) (as : List Opd) (i : Nat) (want : Bool) (c : Nat) (l : List DOp) (E : Env) (K : Env → Nat → Heap → Prop) (t : Tag K) :
    XDs P ((⟨d, o, as, some (i, want)⟩, c) :: l) E n H K t = Gd (val E i) want (Xd P c o (as.map (Opd.val E)) n H (fun v n' H' => XDs P l (put E d v) n' H' K Tag.mk) Tag.mk) (XDs P l (put E d (.tup [])) n H K Tag.mk) Tag.mk := rfl
theorem zipC_nil (cl : List Nat) : zipC [] cl = [] := by cases cl <;> rfl
theorem zipC_cons (x : XOp) (p : List Nat) (l : List (XOp × List Nat)) (c : Nat) (cl : List Nat) : zipC ((x, p) :: l) (c :: cl) = (x, c) :: zipC l cl := rfl

theorem xd_of_oK {o : XO} {vals : List AV} (h : ∀ n H (K : AV → Nat → Heap → Prop), xop P o vals n H K = oK (fop o vals) fun v => K v n H) (t : Tag K) : Xd P 0 o vals n H K t = Xo P o vals n H K Tag.mk := by
  unfold Xd Xo xD outD
  simp only [h]
  cases fop o vals with
  | none => simp
  | some v =>
    simp only [oK_some, and_true]
    refine propext ⟨?_, fun hk => ⟨v, n, H, ⟨rfl, rfl, fun _ _ => rfl⟩, hk⟩⟩
    rintro ⟨v1, n', H', ⟨rfl, rfl, e⟩, hk⟩
    have := e n' H'
    subst this
    exact hk
theorem xd_of_det {o : XO} {vals : List AV} {Φ : Prop} {v : AV} {n' : Nat} {H' : Heap} (h : ∀ (K : AV → Nat → Heap → Prop), xop P o vals n H K = (Φ ∧ K v n' H')) (t : Tag K) : Xd P 2 o vals n H K t = Xo P o vals n H K Tag.mk := by
  unfold Xd Xo xD outD
  simp only [h]
  refine propext ⟨?_, fun ⟨hp, hk⟩ => ⟨v, n', H', ⟨hp, rfl, rfl, rfl⟩, hk⟩⟩
  rintro ⟨v1, n1, H1, ⟨hp, rfl, rfl, rfl⟩, hk⟩
  exact ⟨hp, hk⟩
theorem xd_mv (vals : List AV) (t : Tag K) : Xd P 0 .mv vals n H K t = Xo P .mv vals n H K Tag.mk := xd_of_oK (fun _ _ _ => by cases vals <;> rfl) t
theorem xd_pick (vals : List AV) (t : Tag K) : Xd P 0 .pick vals n H K t = Xo P .pick vals n H K Tag.mk := xd_of_oK (fun _ _ _ => by cases vals <;> rfl) t
theorem xd_boxF (vals : List AV) (t : Tag K) : Xd P 0 .boxF vals n H K t = Xo P .boxF vals n H K Tag.mk := xd_of_oK (fun _ _ _ => by cases vals <;> rfl) t
theorem xd_build (z : List AV) (pl : List (Nat × Nat)) (vals : List AV) (t : Tag K) : Xd P 0 (.build z pl) vals n H K t = Xo P (.build z pl) vals n H K Tag.mk := xd_of_oK (fun _ _ _ => by cases vals <;> rfl) t
theorem xd_bslF (s : Nat) (vals : List AV) (t : Tag K) : Xd P 0 (.bsl 0 s) vals n H K t = Xo P (.bsl 0 s) vals n H K Tag.mk := xd_of_oK (fun _ _ _ => by cases vals <;> rfl) t
theorem xd_bin (op : BinOp) (vals : List AV) (t : Tag K) : Xd P 0 (.bin op) vals n H K t = Xo P (.bin op) vals n H K Tag.mk := xd_of_oK (fun _ _ _ => by cases vals <;> rfl) t
theorem xd_binB (b : Bool) (vals : List AV) (t : Tag K) : Xd P 0 (.binB b) vals n H K t = Xo P (.binB b) vals n H K Tag.mk := xd_of_oK (fun _ _ _ => by cases vals <;> rfl) t
theorem xd_eqS (b : Bool) (k : Nat) (vals : List AV) (t : Tag K) : Xd P 0 (.eqS b k) vals n H K t = Xo P (.eqS b k) vals n H K Tag.mk := xd_of_oK (fun _ _ _ => by cases vals <;> rfl) t
theorem xd_un (op : UnOp) (vals : List AV) (t : Tag K) : Xd P 0 (.un op) vals n H K t = Xo P (.un op) vals n H K Tag.mk := xd_of_oK (fun _ _ _ => by cases vals <;> rfl) t
theorem xd_cvI (k : IntKind) (vals : List AV) (t : Tag K) : Xd P 0 (.cvI k) vals n H K t = Xo P (.cvI k) vals n H K Tag.mk := xd_of_oK (fun _ _ _ => by cases vals <;> rfl) t
theorem xd_cvIS (vals : List AV) (t : Tag K) : Xd P 0 .cvIS vals n H K t = Xo P .cvIS vals n H K Tag.mk := xd_of_oK (fun _ _ _ => by cases vals <;> rfl) t
theorem xd_cvBS (vals : List AV) (t : Tag K) : Xd P 0 .cvBS vals n H K t = Xo P .cvBS vals n H K Tag.mk := xd_of_oK (fun _ _ _ => by cases vals <;> rfl) t
theorem xd_cvSS (vals : List AV) (t : Tag K) : Xd P 0 .cvSS vals n H K t = Xo P .cvSS vals n H K Tag.mk := xd_of_oK (fun _ _ _ => by cases vals <;> rfl) t
theorem xd_mkfn (f : FuncId) (vals : List AV) (t : Tag K) : Xd P 0 (.mkfn f) vals n H K t = Xo P (.mkfn f) vals n H K Tag.mk := xd_of_oK (fun _ _ _ => by cases vals <;> rfl) t
theorem xd_slS (a b : Bool) (vals : List AV) (t : Tag K) : Xd P 0 (.slS a b) vals n H K t = Xo P (.slS a b) vals n H K Tag.mk := xd_of_oK (fun _ _ _ => by cases vals <;> rfl) t
theorem xd_slL_sl (z : Nat) (a b : Bool) (r : List (List AV)) (bs : List AV) (t : Tag K) : Xd P 0 (.slL z a b) (.sl r :: bs) n H K t = Xo P (.slL z a b) (.sl r :: bs) n H K Tag.mk := xd_of_oK (fun _ _ _ => rfl) t
theorem xd_slL_acc (z : Nat) (a b : Bool) (i s : Nat) (r : List (List AV)) (bs : List AV) (t : Tag K) : Xd P 0 (.slL z a b) (.acc i s r :: bs) n H K t = Xo P (.slL z a b) (.acc i s r :: bs) n H K Tag.mk := xd_of_oK (fun _ _ _ => rfl) t
theorem xd_slL_ref (z : Nat) (a b : Bool) (i s o l : Nat) (bs : List AV) (t : Tag K) : Xd P 0 (.slL z a b) (.ref i s o l :: bs) n H K t = Xo P (.slL z a b) (.ref i s o l :: bs) n H K Tag.mk := xd_of_oK (fun _ _ _ => rfl) t
theorem xd_vob1 {o : XO} {vals : List AV} {id ver : Nat} {f : Nat → List AV → Option AV} (h : ∀ n (K : AV → Nat → Heap → Prop), xop P o vals n H K = withVob (hget H id) ver (fun s c => oK (f s c) fun v => K v n H) Tag.mk) (t : Tag K) : Xd P 1 o vals n H K t = Xo P o vals n H K Tag.mk := by
  unfold Xd Xo xD outD
  simp only [h]
  cases hg : hget H id with
  | none => simp [withVob]
  | some ob => cases ob with
    | vob v s c =>
      simp only [withVob]
      cases hf : f s c with
      | none => simp
      | some u =>
        simp only [oK_some, and_true]
        refine propext ⟨?_, fun hk => ⟨u, n, H, ⟨rfl, rfl, fun _ => ⟨hk.1, rfl⟩⟩, hk.2⟩⟩
        rintro ⟨v1, n', H', ⟨rfl, rfl, e⟩, hk⟩
        have := e n'
        obtain ⟨e1, rfl⟩ := this
        exact ⟨e1, hk⟩
    | _ => simp [withVob]
theorem xd_slV (z : Nat) (a b : Bool) (id ver s o l : Nat) (bs : List AV) (t : Tag K) : Xd P 1 (.slL z a b) (.vec id ver s o l :: bs) n H K t = Xo P (.slL z a b) (.vec id ver s o l :: bs) n H K Tag.mk :=
  xd_vob1 (id := id) (ver := ver) (f := fun _ _ => (bnds a b l bs).bind fun q => if 0 ≤ q.1 ∧ q.1 ≤ q.2 ∧ q.2 ≤ l ∧ (q.1 = 0 ∨ q.1 < l) ∧ s = z then some (.vec id ver s (o + q.1.toNat * s) (q.2 - q.1).toNat) else none) (fun n K => by
    simp only [xop, vob_vget]
    refine vob_congr fun _ _ => ?_
    cases bnds a b l bs with
    | none => rfl
    | some q => simp only [oK_some, Option.bind_some, oK_ite]) t
theorem xd_idxV (z id ver s o l : Nat) (k : IntKind) (i : Int) (t : Tag K) : Xd P 1 (.idxA z) [.vec id ver s o l, .int k i] n H K t = Xo P (.idxA z) [.vec id ver s o l, .int k i] n H K Tag.mk :=
  xd_vob1 (id := id) (ver := ver) (f := fun _ _ => if 0 ≤ i ∧ i < l ∧ s = z then some (.vptr id ver (o + i.toNat * s)) else none) (fun n K => by simp only [xop, vob_vget]; exact vob_congr fun _ _ => by rw [oK_ite, oK_some]) t
theorem xd_ldV (s : Option Nat) (id ver off : Nat) (t : Tag K) : Xd P 1 (.ld s) [.vptr id ver off] n H K t = Xo P (.ld s) [.vptr id ver off] n H K Tag.mk :=
  xd_vob1 (id := id) (ver := ver) (f := fun _ c => ldc s (c.drop off)) (fun n K => by simp only [xop, vob_vget]) t
theorem xd_fldV (o id ver p : Nat) (t : Tag K) : Xd P 1 (.fldA o) [.vptr id ver p] n H K t = Xo P (.fldA o) [.vptr id ver p] n H K Tag.mk :=
  xd_vob1 (id := id) (ver := ver) (f := fun _ _ => some (.vptr id ver (p + o))) (fun n K => by simp only [xop, vob_vget]; exact vob_congr fun _ _ => by rw [oK_some]) t
theorem xd_vob2 {o : XO} {vals : List AV} {id ver : Nat} {f : Nat → List AV → Option (AV × Nat × Heap)} (h : ∀ (K : AV → Nat → Heap → Prop), xop P o vals n H K = withVob (hget H id) ver (fun s c => oK (f s c) fun q => K q.1 q.2.1 q.2.2) Tag.mk) (t : Tag K) : Xd P 2 o vals n H K t = Xo P o vals n H K Tag.mk := by
  unfold Xd Xo xD outD
  simp only [h]
  cases hg : hget H id with
  | none => simp [withVob]
  | some ob => cases ob with
    | vob v s c =>
      simp only [withVob]
      cases hf : f s c with
      | none => simp
      | some u =>
        simp only [oK_some]
        refine propext ⟨?_, fun hk => ⟨_, _, _, ⟨hk.1, rfl, rfl, rfl⟩, hk.2⟩⟩
        rintro ⟨v1, n', H', ⟨e1, rfl, rfl, rfl⟩, hk⟩
        exact ⟨e1, hk⟩
    | _ => simp [withVob]
theorem xd_stV (s : Option Nat) (id ver off : Nat) (x : AV) (t : Tag K) : Xd P 2 (.st s) [.vptr id ver off, x] n H K t = Xo P (.st s) [.vptr id ver off, x] n H K Tag.mk :=
  xd_vob2 (id := id) (ver := ver) (f := fun z c => (cellsOf x).bind fun xs => if xs.length = s.getD 1 ∧ off + xs.length ≤ c.length ∧ xs.all plain = true then some (.junk, n, hset H id (.vob ver z (setCells c off xs))) else none) (fun K => by
    simp only [xop, vob_vget]
    refine vob_congr fun _ _ => ?_
    cases cellsOf x with
    | none => rfl
    | some q => simp only [oK_some, Option.bind_some, oK_ite]) t
theorem xd_appV (z b : Nat) (id ver s o l : Nat) (y : AV) (t : Tag K) : Xd P 2 (.appV z b) [.vec id ver s o l, y] n H K t = Xo P (.appV z b) [.vec id ver s o l, y] n H K Tag.mk := by
  cases hs : srcV H z y with
  | none => unfold Xd Xo xD outD; simp [xop, hs]
  | some q =>
    refine xd_vob2 (id := id) (ver := ver) (f := fun _ c => if b ≤ 4096 ∧ q.2.all plain = true ∧ o = 0 ∧ s = z ∧ l * s ≤ c.length ∧ l + q.1 ≤ lenMax then some (.vec id (ver + 1) s 0 (l + q.1), n, hset H id (.vob (ver + 1) s (c.take (l * s) ++ q.2))) else none) (fun K => ?_) t
    simp only [xop, hs, oK_some, vob_vget]
    cases hget H id with
    | none => simp [withVob]
    | some ob => cases ob with
      | vob v s c =>
        simp only [withVob, oK_ite, oK_some]
        exact propext ⟨fun ⟨h1, h2, h3, h4, h5⟩ => ⟨h3, ⟨h1, h2, h4⟩, h5⟩, fun ⟨h3, ⟨h1, h2, h4⟩, h5⟩ => ⟨h1, h2, h3, h4, h5⟩⟩
      | _ => simp [withVob]
theorem xd_appVN (z b : Nat) (y : AV) (t : Tag K) : Xd P 2 (.appV z b) [.nilsl, y] n H K t = Xo P (.appV z b) [.nilsl, y] n H K Tag.mk := by
  unfold Xd Xo xD outD
  simp only [xop]
  cases srcV H z y with
  | none => simp
  | some q =>
    simp only [oK_some]
    by_cases he : q.1 = 0
    · simp only [he, true_implies, ne_eq, not_true_eq_false, false_implies, and_true]
      refine propext ⟨?_, fun ⟨h1, h2, h3, hk⟩ => ⟨_, _, _, ⟨h1, h2, h3, rfl, rfl, rfl⟩, hk⟩⟩
      rintro ⟨v1, n', H', ⟨h1, h2, h3, rfl, rfl, rfl⟩, hk⟩
      exact ⟨h1, h2, h3, hk⟩
    · simp only [he, false_implies, ne_eq, not_false_eq_true, true_implies, true_and]
      refine propext ⟨?_, fun ⟨h1, h2, h3, hk⟩ => ⟨_, _, _, ⟨h1, h2, h3, rfl, rfl, rfl⟩, hk⟩⟩
      rintro ⟨v1, n', H', ⟨h1, h2, h3, rfl, rfl, rfl⟩, hk⟩
      exact ⟨h1, h2, h3, hk⟩
theorem xd_bslV (s : Nat) (xs : List AV) (t : Tag K) : Xd P 2 (.bsl 3 s) xs n H K t = Xo P (.bsl 3 s) xs n H K Tag.mk := by
  have e : ∀ K, xop P (.bsl 3 s) xs n H K = oK (rawRows xs) fun rows => rawOk s rows ∧ K (.vec n 0 s 0 rows.length) (n + 1) ((n, .vob 0 s rows.flatten) :: H) := fun K => by cases xs <;> rfl
  unfold Xd Xo xD outD
  simp only [e]
  cases rawRows xs with
  | none => simp
  | some v =>
    simp only [oK_some]
    refine propext ⟨?_, fun ⟨h, hk⟩ => ⟨_, _, _, ⟨h, rfl, rfl, rfl⟩, hk⟩⟩
    rintro ⟨v1, n', H', ⟨h, rfl, rfl, rfl⟩, hk⟩
    exact ⟨h, hk⟩
theorem xd_bslR (s : Nat) (xs : List AV) (t : Tag K) : Xd P 2 (.bsl 4 s) xs n H K t = Xo P (.bsl 4 s) xs n H K Tag.mk := by
  have e : ∀ K, xop P (.bsl 4 s) xs n H K = oK (rawRows xs) fun rows => rawOk s rows ∧ K (.ref n s 0 rows.length) (n + 1) ((n, .own rows.flatten) :: H) := fun K => by cases xs <;> rfl
  unfold Xd Xo xD outD
  simp only [e]
  cases rawRows xs with
  | none => simp
  | some v =>
    simp only [oK_some]
    refine propext ⟨?_, fun ⟨h, hk⟩ => ⟨_, _, _, ⟨h, rfl, rfl, rfl⟩, hk⟩⟩
    rintro ⟨v1, n', H', ⟨h, rfl, rfl, rfl⟩, hk⟩
    exact ⟨h, hk⟩
theorem xd_mksV (s b : Nat) (z : List AV) (l c : Int) (t : Tag K) : Xd P 2 (.mks 3 s b z) [.int .i64 l, .int .i64 c] n H K t = Xo P (.mks 3 s b z) [.int .i64 l, .int .i64 c] n H K Tag.mk := by
  have e : ∀ K, xop P (.mks 3 s b z) [.int .i64 l, .int .i64 c] n H K = ((0 ≤ l ∧ l ≤ c ∧ c ≤ lenMax ∧ b ≤ 4096 ∧ z.length = s) ∧ K (.vec n 0 s 0 l.toNat) (n + 1) ((n, .vob 0 s (List.replicate l.toNat z).flatten) :: H)) := fun K => by simp [xop]
  unfold Xd Xo xD outD
  simp only [e]
  refine propext ⟨?_, fun ⟨h1, hk⟩ => ⟨_, _, _, ⟨h1, rfl, rfl, rfl⟩, hk⟩⟩
  rintro ⟨v1, n', H', ⟨h1, rfl, rfl, rfl⟩, hk⟩
  exact ⟨h1, hk⟩
theorem xd_fldA (o : Nat) (cs : List AV) (t : Tag K) : Xd P 0 (.fldA o) [.fptr cs] n H K t = Xo P (.fldA o) [.fptr cs] n H K Tag.mk := xd_of_oK (fun _ _ _ => rfl) t
theorem xd_fldA_o (o id p : Nat) (t : Tag K) : Xd P 0 (.fldA o) [.ptr id p] n H K t = Xo P (.fldA o) [.ptr id p] n H K Tag.mk := xd_of_oK (fun _ _ _ => rfl) t
theorem xd_fld (o : Nat) (s : Option Nat) (vals : List AV) (t : Tag K) : Xd P 0 (.fld o s) vals n H K t = Xo P (.fld o s) vals n H K Tag.mk := xd_of_oK (fun _ _ _ => by cases vals <;> rfl) t
theorem xd_idxA (z : Nat) (r : List (List AV)) (k : IntKind) (i : Int) (t : Tag K) : Xd P 0 (.idxA z) [.sl r, .int k i] n H K t = Xo P (.idxA z) [.sl r, .int k i] n H K Tag.mk := xd_of_oK (fun _ _ _ => rfl) t
theorem xd_idxA_acc (z id s : Nat) (r : List (List AV)) (k : IntKind) (i : Int) (t : Tag K) : Xd P 0 (.idxA z) [.acc id s r, .int k i] n H K t = Xo P (.idxA z) [.acc id s r, .int k i] n H K Tag.mk := xd_of_oK (fun _ _ _ => rfl) t
theorem xd_idxA_ref (z id s o l : Nat) (k : IntKind) (i : Int) (t : Tag K) : Xd P 0 (.idxA z) [.ref id s o l, .int k i] n H K t = Xo P (.idxA z) [.ref id s o l, .int k i] n H K Tag.mk := xd_of_oK (fun _ _ _ => rfl) t
theorem xd_idxS (vals : List AV) (t : Tag K) : Xd P 0 .idxS vals n H K t = Xo P .idxS vals n H K Tag.mk := xd_of_oK (fun _ _ _ => by cases vals <;> rfl) t
theorem xd_ext (i : Nat) (vals : List AV) (t : Tag K) : Xd P 0 (.ext i) vals n H K t = Xo P (.ext i) vals n H K Tag.mk := xd_of_oK (fun _ _ _ => by cases vals <;> rfl) t
theorem xd_lenS (vals : List AV) (t : Tag K) : Xd P 0 .lenS vals n H K t = Xo P .lenS vals n H K Tag.mk := xd_of_oK (fun _ _ _ => by cases vals <;> rfl) t
theorem xd_lenL (vals : List AV) (t : Tag K) : Xd P 0 .lenL vals n H K t = Xo P .lenL vals n H K Tag.mk := xd_of_oK (fun _ _ _ => by cases vals <;> rfl) t
theorem xd_mnx (b : Bool) (vals : List AV) (t : Tag K) : Xd P 0 (.mnx b) vals n H K t = Xo P (.mnx b) vals n H K Tag.mk := xd_of_oK (fun _ _ _ => by cases vals <;> rfl) t
theorem xd_ldF (s : Option Nat) (cs : List AV) (t : Tag K) : Xd P 0 (.ld s) [.fptr cs] n H K t = Xo P (.ld s) [.fptr cs] n H K Tag.mk := xd_of_oK (fun _ _ _ => rfl) t
theorem xd_ldO (s : Option Nat) (id off : Nat) (t : Tag K) : Xd P 1 (.ld s) [.ptr id off] n H K t = Xo P (.ld s) [.ptr id off] n H K Tag.mk := by
  unfold Xd Xo xD outD
  simp only [xop]
  cases hget H id with
  | none => simp
  | some o => cases o with
    | tok a b => simp
    | vob a b c => simp
    | own cells =>
      simp only []
      cases ldc s (cells.drop off) with
      | none => simp
      | some v =>
        simp only [oK_some, and_true]
        refine propext ⟨?_, fun hk => ⟨v, n, H, ⟨rfl, rfl, fun _ => rfl⟩, hk⟩⟩
        rintro ⟨v1, n', H', ⟨rfl, rfl, e⟩, hk⟩
        have := e n'
        subst this
        exact hk
theorem xd_alloc (z : List AV) (t : Tag K) : Xd P 2 (.alloc z) [] n H K t = Xo P (.alloc z) [] n H K Tag.mk := xd_of_det (Φ := True) (v := .ptr n 0) (n' := n + 1) (H' := (n, .own z) :: H) (fun K => by simp only [xop, true_and]) t
theorem xd_boxO (x : AV) (t : Tag K) : Xd P 2 .boxO [x] n H K t = Xo P .boxO [x] n H K Tag.mk := by
  unfold Xd Xo xD outD
  simp only [xop]
  cases cellsOf x with
  | none => simp
  | some v =>
    simp only [oK_some]
    refine propext ⟨?_, fun hk => ⟨_, _, _, ⟨rfl, rfl, rfl⟩, hk⟩⟩
    rintro ⟨v1, n', H', ⟨rfl, rfl, rfl⟩, hk⟩
    exact hk
theorem xd_bslA (s : Nat) (xs : List AV) (t : Tag K) : Xd P 2 (.bsl 1 s) xs n H K t = Xo P (.bsl 1 s) xs n H K Tag.mk := by
  unfold Xd Xo xD outD
  simp only [x_bslA]
  cases rowsOf xs with
  | none => simp
  | some v =>
    simp only [oK_some]
    refine propext ⟨?_, fun ⟨h, hk⟩ => ⟨_, _, _, ⟨h, rfl, rfl, rfl⟩, hk⟩⟩
    rintro ⟨v1, n', H', ⟨h, rfl, rfl, rfl⟩, hk⟩
    exact ⟨h, hk⟩
theorem xd_bslO (s : Nat) (xs : List AV) (t : Tag K) : Xd P 2 (.bsl 2 s) xs n H K t = Xo P (.bsl 2 s) xs n H K Tag.mk := by
  unfold Xd Xo xD outD
  simp only [x_bslO]
  cases rowsOf xs with
  | none => simp
  | some v =>
    simp only [oK_some]
    refine propext ⟨?_, fun ⟨h, hk⟩ => ⟨_, _, _, ⟨h, rfl, rfl, rfl⟩, hk⟩⟩
    rintro ⟨v1, n', H', ⟨h, rfl, rfl, rfl⟩, hk⟩
    exact ⟨h, hk⟩
theorem xd_st (s : Option Nat) (id off : Nat) (x : AV) (t : Tag K) : Xd P 2 (.st s) [.ptr id off, x] n H K t = Xo P (.st s) [.ptr id off, x] n H K Tag.mk := by
  unfold Xd Xo xD outD
  simp only [xop]
  cases hget H id with
  | none => simp
  | some o => cases o with
    | tok a b => simp
    | vob a b c => simp
    | own cells =>
      cases cellsOf x with
      | none => simp
      | some v =>
        simp only []
        refine propext ⟨?_, fun ⟨h, hk⟩ => ⟨_, _, _, ⟨h, rfl, rfl, rfl⟩, hk⟩⟩
        rintro ⟨v1, n', H', ⟨h, rfl, rfl, rfl⟩, hk⟩
        exact ⟨h, hk⟩
theorem xd_app (z b : Nat) (id s : Nat) (r : List (List AV)) (y : AV) (t : Tag K) : Xd P 2 (.app z b) [.acc id s r, y] n H K t = Xo P (.app z b) [.acc id s r, y] n H K Tag.mk := by
  unfold Xd Xo xD outD
  simp only [xop]
  cases rowsOfSl H y with
  | none => simp
  | some ys =>
    simp only [oK_some]
    refine propext ⟨?_, fun ⟨h1, h2, h3, hk⟩ => ⟨_, _, _, ⟨h1, h2, h3, rfl, rfl, rfl⟩, hk⟩⟩
    rintro ⟨v1, n', H', ⟨h1, h2, h3, rfl, rfl, rfl⟩, hk⟩
    exact ⟨h1, h2, h3, hk⟩
theorem xd_appN (z b : Nat) (y : AV) (t : Tag K) : Xd P 2 (.app z b) [.nilsl, y] n H K t = Xo P (.app z b) [.nilsl, y] n H K Tag.mk := by
  unfold Xd Xo xD outD
  simp only [xop]
  cases rowsOfSl H y with
  | none => simp
  | some ys =>
    simp only [oK_some]
    by_cases he : ys = []
    · simp only [he, true_implies, ne_eq, not_true_eq_false, false_implies, and_true]
      refine propext ⟨?_, fun ⟨h1, h2, h3, hk⟩ => ⟨_, _, _, ⟨h1, h2, h3, rfl, rfl, rfl⟩, hk⟩⟩
      rintro ⟨v1, n', H', ⟨h1, h2, h3, rfl, rfl, rfl⟩, hk⟩
      exact ⟨h1, h2, h3, hk⟩
    · simp only [he, false_implies, ne_eq, not_false_eq_true, true_implies, true_and]
      refine propext ⟨?_, fun ⟨h1, h2, h3, hk⟩ => ⟨_, _, _, ⟨h1, h2, h3, rfl, rfl, rfl⟩, hk⟩⟩
      rintro ⟨v1, n', H', ⟨h1, h2, h3, rfl, rfl, rfl⟩, hk⟩
      exact ⟨h1, h2, h3, hk⟩
theorem xd_mksO (s b : Nat) (z : List AV) (l c : Int) (t : Tag K) : Xd P 2 (.mks 2 s b z) [.int .i64 l, .int .i64 c] n H K t = Xo P (.mks 2 s b z) [.int .i64 l, .int .i64 c] n H K Tag.mk := by
  unfold Xd Xo xD outD
  simp only [x_mksO]
  refine propext ⟨?_, fun ⟨h1, h2, hk⟩ => ⟨_, _, _, ⟨h1, h2, rfl, rfl, rfl⟩, hk⟩⟩
  rintro ⟨v1, n', H', ⟨h1, h2, rfl, rfl, rfl⟩, hk⟩
  exact ⟨h1, h2, hk⟩
theorem xd_mksA (s b : Nat) (z : List AV) (l c : Int) (t : Tag K) : Xd P 2 (.mks 1 s b z) [.int .i64 l, .int .i64 c] n H K t = Xo P (.mks 1 s b z) [.int .i64 l, .int .i64 c] n H K Tag.mk := by
  unfold Xd Xo xD outD
  simp only [x_mksA]
  refine propext ⟨?_, fun ⟨h1, hk⟩ => ⟨_, _, _, ⟨h1, rfl, rfl, rfl⟩, hk⟩⟩
  rintro ⟨v1, n', H', ⟨h1, rfl, rfl, rfl⟩, hk⟩
  exact ⟨h1, hk⟩
theorem xd_call (c : Nat) (f : FuncId) (cap args : List AV) (t : Tag K) : Xd P c .call (.fn f cap :: args) n H K t = (xD P c .call (.fn f cap :: args) n H K) := rfl
theorem xd_call0 (f : FuncId) (cap args : List AV) (t : Tag K) : Xd P 0 .call (.fn f cap :: args) n H K t = RunsD P 0 f (args ++ cap) n H K Tag.mk := by
  unfold Xd xD outD RunsD
  simp only [xop]
  refine propext ⟨?_, ?_⟩
  · rintro ⟨v, n', H', ⟨rfl, rfl, h⟩, hk⟩
    exact ⟨v, h, hk⟩
  · rintro ⟨r, h, hk⟩
    exact ⟨r, n, H, ⟨rfl, rfl, h⟩, hk⟩
theorem xd_call2 (f : FuncId) (cap args : List AV) (t : Tag K) : Xd P 2 .call (.fn f cap :: args) n H K t = RunsD P 2 f (args ++ cap) n H K Tag.mk := rfl
end
end Go.Ab
