/- Regions whose order the language leaves open: the run in the order of the text serves every order. Over any program. The rules of the abstract run under one name. What a seat has to show of a function, and the rules of the walk that rest on it. Over any program. How Go's slices of strings, numbers and so on are written as rows, what is frozen at a return, and stores into a new slice. Over any program. A law's arguments as lists of strings, numbers and so on. Over any program. Lending what is owned to a call that only reads it, and taking over the slice that a call has made. Over any program. Owned trees: what a call hands back and nobody else holds; freezing it, lending it, taking it over. Over any program. && and || without a part in two: the guarded operations of a region as nested blocks whose answer is one bool. Over any program. The rules of the walk under short names, loops whose unchanged slots are not named. Over any program. A heap as entries that are told and trees that are not, for functions that hold several of them. Over any program. Marks in trees, part by part; structs of trees. Over any program. No condition. -/
import Derived.Test.YtiaimihgfldfgaaGreatA2
section
namespace Go.Ab
set_option linter.unusedVariables false
set_option linter.unusedSimpArgs false

/-- An operation and its class: 0 asks nothing of the owned heap and leaves it, 1 reads it, 2 changes it. -/
abbrev DOp := XOp × Nat

def outD (P : Program) (c : Nat) (o : XO) (vals : List AV) (n : Nat) (H : Heap) (v : AV) (n' : Nat) (H' : Heap) : Prop :=
  match c with
  | 0 => n' = n ∧ H' = H ∧ ∀ n H, xop P o vals n H fun v1 n1 H1 => v1 = v ∧ n1 = n ∧ H1 = H
  | 1 => n' = n ∧ H' = H ∧ ∀ n, xop P o vals n H fun v1 n1 H1 => v1 = v ∧ n1 = n ∧ H1 = H
  | _ => xop P o vals n H fun v1 n1 H1 => v1 = v ∧ n1 = n' ∧ H1 = H'

def xD (P : Program) (c : Nat) (o : XO) (vals : List AV) (n : Nat) (H : Heap) (K : AV → Nat → Heap → Prop) : Prop := ∃ v n' H', outD P c o vals n H v n' H' ∧ K v n' H'

def xDs (P : Program) : List DOp → Env → Nat → Heap → (Env → Nat → Heap → Prop) → Prop
  | [], E, n, H, K => K E n H
  | (x, c) :: l, E, n, H, K => match x.guard with
    | none => xD P c x.op (x.args.map (Opd.val E)) n H fun v n' H' => xDs P l (put E x.dst v) n' H' K
    | some (t, want) => gd (val E t) want (xD P c x.op (x.args.map (Opd.val E)) n H fun v n' H' => xDs P l (put E x.dst v) n' H' K) (xDs P l (put E x.dst (.tup [])) n H K)

variable {P : Program}

theorem outD.xop {c : Nat} {o : XO} {vals : List AV} {n n' : Nat} {H H' : Heap} {v : AV} (h : outD P c o vals n H v n' H') : xop P o vals n H fun v1 n1 H1 => v1 = v ∧ n1 = n' ∧ H1 = H' := by
  unfold outD at h
  split at h
  · obtain ⟨rfl, rfl, h⟩ := h; exact h _ _
  · obtain ⟨rfl, rfl, h⟩ := h; exact h _
  · exact h

/-- What an operation does, its guard looked at. -/
def act (P : Program) (x : DOp) (E : Env) (n : Nat) (H : Heap) (v : AV) (n' : Nat) (H' : Heap) : Prop :=
  match x.1.guard with
  | none => outD P x.2 x.1.op (x.1.args.map (Opd.val E)) n H v n' H'
  | some (t, want) => match val E t with
    | .bool b => if b = want then outD P x.2 x.1.op (x.1.args.map (Opd.val E)) n H v n' H' else v = .tup [] ∧ n' = n ∧ H' = H
    | .tup [] => v = .tup [] ∧ n' = n ∧ H' = H
    | _ => False

theorem xDs_act {x : DOp} {l : List DOp} {E : Env} {n : Nat} {H : Heap} {K : Env → Nat → Heap → Prop} : xDs P (x :: l) E n H K ↔ ∃ v n' H', act P x E n H v n' H' ∧ xDs P l (put E x.1.dst v) n' H' K := by
  obtain ⟨x, c⟩ := x
  simp only [xDs, act]
  cases hg : x.guard with
  | none => exact Iff.rfl
  | some p =>
    obtain ⟨t, want⟩ := p
    simp only [gd]
    cases hv : val E t <;> try simp only []
    case bool b =>
      by_cases hb : b = want
      · simp only [hb, if_true, ne_eq, not_true_eq_false, forall_const, false_implies, and_true, true_implies]
        exact Iff.rfl
      · simp only [hb, if_false, ne_eq, not_false_eq_true, forall_const, false_implies, true_and, true_implies]
        constructor
        · intro h; exact ⟨_, _, _, ⟨rfl, rfl, rfl⟩, h⟩
        · rintro ⟨_, _, _, ⟨rfl, rfl, rfl⟩, h⟩; exact h
    case tup vs =>
      cases vs with
      | nil =>
        constructor
        · intro h; exact ⟨_, _, _, ⟨rfl, rfl, rfl⟩, h⟩
        · rintro ⟨_, _, _, ⟨rfl, rfl, rfl⟩, h⟩; exact h
      | cons _ _ => exact ⟨fun h => h.elim, fun ⟨_, _, _, h, _⟩ => h.elim⟩
    all_goals exact ⟨fun h => h.elim, fun ⟨_, _, _, h, _⟩ => h.elim⟩

def Eqv (E E' : Env) : Prop := ∀ i, val E i = val E' i

theorem val_put_same (E : Env) (d : Nat) (v : AV) : val (put E (some d) v) d = v := by simp [val, put]
theorem find_filter (E : Env) (d i : Nat) (h : i ≠ d) : (E.filter fun p => p.1 != d).find? (fun p => p.1 == i) = E.find? fun p => p.1 == i := by
  induction E with
  | nil => rfl
  | cons p E ih =>
    rw [List.filter_cons]
    by_cases hp : p.1 = d
    · have h1 : (p.1 != d) = false := by simp [hp]
      have h2 : (p.1 == i) = false := by simp [hp]; exact fun e => h e.symm
      rw [h1, if_neg (by simp), ih, List.find?_cons, h2]
    · have h1 : (p.1 != d) = true := by simp [hp]
      rw [h1, if_pos rfl, List.find?_cons, List.find?_cons, ih]
theorem val_put_ne (E : Env) (d i : Nat) (v : AV) (h : i ≠ d) : val (put E (some d) v) i = val E i := by
  unfold val put
  rw [List.find?_cons]
  have : (d == i) = false := by simp; exact fun e => h e.symm
  simp only [this]
  rw [find_filter E d i h]
theorem val_put_none (E : Env) (i : Nat) (v : AV) : val (put E none v) i = val E i := rfl

theorem Eqv.put {E E' : Env} (h : Eqv E E') (d : Option Nat) (v : AV) : Eqv (put E d v) (Ab.put E' d v) := by
  intro i
  cases d with
  | none => exact h i
  | some d =>
    by_cases hi : i = d
    · subst hi; rw [val_put_same, val_put_same]
    · rw [val_put_ne _ _ _ _ hi, val_put_ne _ _ _ _ hi]; exact h i

theorem Opd.val_congr {E E' : Env} {o : Opd} (h : ∀ i, o = .t i → Ab.val E i = Ab.val E' i) : o.val E = o.val E' := by
  cases o with
  | t i => exact h i rfl
  | k v => rfl

def XOp.reads (x : XOp) : List Nat := (x.args.filterMap fun o => match o with | .t i => some i | _ => none) ++ (match x.guard with | some (t, _) => [t] | none => [])

theorem act_congr {x : DOp} {E E' : Env} {n n' : Nat} {H H' : Heap} {v : AV} (h : ∀ i ∈ x.1.reads, val E i = val E' i) (ha : act P x E n H v n' H') : act P x E' n H v n' H' := by
  have e1 : x.1.args.map (Opd.val E) = x.1.args.map (Opd.val E') := List.map_congr_left fun o ho => Opd.val_congr fun i hi => h i (by
    subst hi
    exact List.mem_append_left _ (List.mem_filterMap.mpr ⟨_, ho, rfl⟩))
  unfold act at ha ⊢
  cases hg : x.1.guard with
  | none => simp only [hg] at ha ⊢; rw [← e1]; exact ha
  | some p =>
    obtain ⟨t, want⟩ := p
    simp only [hg] at ha ⊢
    have e2 : val E t = val E' t := h t (List.mem_append_right _ (by rw [hg]; exact List.mem_singleton.mpr rfl))
    rw [← e2, ← e1]; exact ha

theorem act_zero {x : DOp} {E : Env} {n n' : Nat} {H H' : Heap} {v : AV} (h0 : x.2 = 0) (ha : act P x E n H v n' H') : n' = n ∧ H' = H ∧ ∀ n H, act P x E n H v n H := by
  unfold act at ha ⊢
  rw [h0] at ha ⊢
  cases hg : x.1.guard with
  | none =>
    simp only [hg, outD] at ha ⊢
    exact ⟨ha.1, ha.2.1, fun n H => ⟨trivial, trivial, ha.2.2⟩⟩
  | some p =>
    obtain ⟨t, want⟩ := p
    simp only [hg] at ha ⊢
    cases hv : val E t <;> rw [hv] at ha <;> try simp only [] at ha ⊢
    case bool b =>
      by_cases hb : b = want
      · simp only [hb, if_true, outD] at ha ⊢
        exact ⟨ha.1, ha.2.1, fun n H => ⟨trivial, trivial, ha.2.2⟩⟩
      · simp only [hb, if_false] at ha ⊢
        exact ⟨ha.2.1, ha.2.2, fun n H => ⟨ha.1, trivial, trivial⟩⟩
    case tup vs =>
      cases vs with
      | nil =>
        simp only [] at ha ⊢
        exact ⟨ha.2.1, ha.2.2, fun n H => ⟨ha.1, trivial, trivial⟩⟩
      | cons _ _ => exact ha.elim

theorem act_one {x : DOp} {E : Env} {n n' : Nat} {H H' : Heap} {v : AV} (h0 : x.2 = 1) (ha : act P x E n H v n' H') : n' = n ∧ H' = H := by
  unfold act at ha
  rw [h0] at ha
  cases hg : x.1.guard with
  | none => simp only [hg, outD] at ha; exact ⟨ha.1, ha.2.1⟩
  | some p =>
    obtain ⟨t, want⟩ := p
    simp only [hg] at ha
    cases hv : val E t <;> rw [hv] at ha <;> try simp only [] at ha
    case bool b =>
      by_cases hb : b = want
      · simp only [hb, if_true, outD] at ha
        exact ⟨ha.1, ha.2.1⟩
      · simp only [hb, if_false] at ha
        exact ⟨ha.2.1, ha.2.2⟩
    case tup vs =>
      cases vs with
      | nil => exact ⟨ha.2.1, ha.2.2⟩
      | cons _ _ => exact ha.elim

def apartX (a b : DOp) : Bool :=
  (match a.1.dst with | some d => !(b.1.reads.contains d) && b.1.dst != some d | none => true) &&
  (match b.1.dst with | some d => !(a.1.reads.contains d) | none => true) &&
  (a.2 == 0 || b.2 == 0 || (a.2 == 1 && b.2 == 1))

theorem reads_put {x : XOp} {E : Env} {d : Option Nat} {v : AV} (h : ∀ k, d = some k → k ∉ x.reads) : ∀ i ∈ x.reads, val E i = val (put E d v) i := by
  intro i hi
  cases d with
  | none => rfl
  | some k =>
    have hne : i ≠ k := fun e => h k rfl (e ▸ hi)
    rw [val_put_ne _ _ _ _ hne]

def KOk (K : Env → Nat → Heap → Prop) : Prop := ∀ E E' n H, Eqv E E' → K E n H → K E' n H

theorem xDs_congr {K : Env → Nat → Heap → Prop} (hK : KOk K) : ∀ {l : List DOp} {E E' : Env} {n : Nat} {H : Heap}, Eqv E E' → xDs P l E n H K → xDs P l E' n H K
  | [], E, E', n, H, he, h => hK _ _ _ _ he h
  | x :: l, E, E', n, H, he, h => by
    rw [xDs_act] at h ⊢
    obtain ⟨v, n', H', ha, h⟩ := h
    exact ⟨v, n', H', act_congr (fun i _ => he i) ha, xDs_congr hK (he.put _ _) h⟩

theorem xDs_swap {K : Env → Nat → Heap → Prop} (hK : KOk K) {a b : DOp} {l : List DOp} {E : Env} {n : Nat} {H : Heap} (hab : apartX a b = true) (h : xDs P (a :: b :: l) E n H K) : xDs P (b :: a :: l) E n H K := by
  simp only [apartX, Bool.and_eq_true] at hab
  obtain ⟨⟨h1, h2⟩, h3⟩ := hab
  have ha1 : ∀ k, a.1.dst = some k → k ∉ b.1.reads := fun k e => by rw [e] at h1; simp at h1; exact h1.1
  have ha2 : ∀ k, a.1.dst = some k → b.1.dst ≠ some k := fun k e => by rw [e] at h1; simp at h1; exact h1.2
  have hb1 : ∀ k, b.1.dst = some k → k ∉ a.1.reads := fun k e => by rw [e] at h2; simp at h2; exact h2
  rw [xDs_act] at h
  obtain ⟨va, n1, H1, hA, h⟩ := h
  rw [xDs_act] at h
  obtain ⟨vb, n2, H2, hB, h⟩ := h
  have hB' : act P b E n1 H1 vb n2 H2 := act_congr (fun i hi => (reads_put ha1 i hi).symm) hB
  have hE : Eqv (put (put E a.1.dst va) b.1.dst vb) (put (put E b.1.dst vb) a.1.dst va) := by
    intro i
    cases hda : a.1.dst with
    | none => rfl
    | some p =>
      cases hdb : b.1.dst with
      | none => rfl
      | some q =>
        have hpq : p ≠ q := fun e => ha2 p hda (by rw [hdb, e])
        by_cases hip : i = p
        · subst hip
          rw [val_put_ne _ _ _ _ hpq, val_put_same, val_put_same]
        · by_cases hiq : i = q
          · subst hiq
            rw [val_put_same, val_put_ne _ _ _ _ hip, val_put_same]
          · rw [val_put_ne _ _ _ _ hiq, val_put_ne _ _ _ _ hip, val_put_ne _ _ _ _ hip, val_put_ne _ _ _ _ hiq]
  have h' := xDs_congr hK hE h
  have fin : ∀ m G, act P b E n H vb m G → act P a E m G va n2 H2 → xDs P (b :: a :: l) E n H K := fun m G e1 e2 => by
    rw [xDs_act]
    refine ⟨vb, m, G, e1, ?_⟩
    rw [xDs_act]
    exact ⟨va, n2, H2, act_congr (reads_put hb1) e2, h'⟩
  simp only [Bool.or_eq_true, Bool.and_eq_true, beq_iff_eq] at h3
  rcases h3 with (h3 | h3) | ⟨h3, h4⟩
  · obtain ⟨rfl, rfl, hall⟩ := act_zero h3 hA
    exact fin n2 H2 hB' (hall _ _)
  · obtain ⟨rfl, rfl, hall⟩ := act_zero h3 hB'
    exact fin n H (hall _ _) hA
  · obtain ⟨rfl, rfl⟩ := act_one h3 hA
    obtain ⟨rfl, rfl⟩ := act_one h4 hB'
    exact fin _ _ hB' hA

theorem xDs_front {K : Env → Nat → Heap → Prop} (hK : KOk K) {b : DOp} {post : List DOp} : ∀ {pre : List DOp} {E : Env} {n : Nat} {H : Heap}, (∀ a ∈ pre, apartX a b = true) → xDs P (pre ++ b :: post) E n H K → xDs P (b :: (pre ++ post)) E n H K
  | [], E, n, H, _, h => h
  | a :: pre, E, n, H, ha, h => by
    rw [List.cons_append, xDs_act] at h
    obtain ⟨v, n', H', hact, h⟩ := h
    have := xDs_front hK (fun x hx => ha x (List.mem_cons_of_mem _ hx)) h
    exact xDs_swap hK (ha a (List.mem_cons_self ..)) (xDs_act.mpr ⟨v, n', H', hact, this⟩)

/-! ### Every order -/
def rem (N : Nat) (listed : Array Bool) : List Nat := (List.range N).filter fun i => !listed.getD i true

theorem range_split {N i : Nat} (h : i < N) : List.range N = List.range i ++ i :: List.range' (i + 1) (N - (i + 1)) := by
  have e : N = i + (1 + (N - (i + 1))) := by omega
  rw [List.range_eq_range', List.range_eq_range']
  conv => lhs; rw [e]
  rw [← List.range'_append_1, Nat.zero_add, ← List.range'_append_1]
  rfl

theorem rem_split {N i : Nat} {listed : Array Bool} (h : i < N) (hs : listed.size = N) (hi : listed.getD i true = false) :
    ∃ pre post, rem N listed = pre ++ i :: post ∧ rem N (listed.setIfInBounds i true) = pre ++ post ∧ ∀ j ∈ pre, j < i ∧ listed.getD j true = false := by
  refine ⟨(List.range i).filter fun j => !listed.getD j true, (List.range' (i + 1) (N - (i + 1))).filter fun j => !listed.getD j true, ?_, ?_, fun j hj => ?_⟩
  · unfold rem
    rw [range_split h, List.filter_append, List.filter_cons, hi]
    rfl
  · unfold rem
    rw [range_split h, List.filter_append, List.filter_cons]
    have e1 : (listed.setIfInBounds i true).getD i true = true := by simp [Array.getD_eq_getD_getElem?, hs, h]
    rw [e1, if_neg (by simp)]
    have ne : ∀ j, j ≠ i → (listed.setIfInBounds i true).getD j true = listed.getD j true := fun j hj => by
      simp only [Array.getD_eq_getD_getElem?]
      rw [Array.getElem?_setIfInBounds_ne (fun e => hj e.symm)]
    congr 1
    · refine List.filter_congr fun j hj => ?_
      rw [ne j (by have := List.mem_range.mp hj; omega)]
    · refine List.filter_congr fun j hj => ?_
      rw [ne j (by have := (List.mem_range'_1.mp hj).1; omega)]
  · have := List.mem_filter.mp hj
    exact ⟨List.mem_range.mp this.1, by simpa using this.2⟩

def predsOf (md : Region.Mode) (o : Oper) : List Nat := (o.after.toList.filter (Region.binds md)).map (·.on)

section
variable {K : Env → Nat → Heap → Prop} {md : Region.Mode} {ops : Array Oper} {f : Nat → DOp} {pr tc : Nat → List Nat}

theorem listed_tc {N : Nat} (hsm : ∀ i, i < N → ∀ p ∈ pr i, p < i) (htc : ∀ i, i < N → ∀ j ∈ tc i, j ∈ pr i ∨ ∃ p ∈ pr i, j ∈ tc p) {listed : Array Bool}
    (hcl : ∀ i, i < N → listed.getD i true = true → ∀ p ∈ pr i, listed.getD p true = true) : ∀ i, i < N → (∀ p ∈ pr i, listed.getD p true = true) → ∀ j ∈ tc i, listed.getD j true = true := by
  intro i
  induction i using Nat.strongRecOn with
  | _ i ih =>
    intro hi hp j hj
    rcases htc i hi j hj with h | ⟨p, hpp, h⟩
    · exact hp j h
    · have hlt := hsm i hi p hpp
      exact ih p hlt (by omega) (hcl p (by omega) (hp p hpp)) j h

theorem lin (hK : KOk K) (hpr : ∀ (i : Nat) (o : Oper), ops[i]? = some o → pr i = predsOf md o) (hsm : ∀ i, i < ops.size → ∀ p ∈ pr i, p < i)
    (htc : ∀ i, i < ops.size → ∀ j ∈ tc i, j ∈ pr i ∨ ∃ p ∈ pr i, j ∈ tc p) (hap : ∀ i, i < ops.size → ∀ j, j < i → j ∈ tc i ∨ apartX (f j) (f i) = true) :
    ∀ (fuel t : Nat) (listed : Array Bool) (E : Env) (n : Nat) (H : Heap), listed.size = ops.size → (∀ i, i < ops.size → listed.getD i true = true → ∀ p ∈ pr i, listed.getD p true = true) →
      (rem ops.size listed).length ≤ fuel → xDs P ((rem ops.size listed).map f) E n H K → xOps P ((Region.linearise.go md ops fuel t listed []).map fun i => (f i).1) E n H K := by
  intro fuel
  induction fuel with
  | zero =>
    intro t listed E n H hs hcl hlen h
    have : rem ops.size listed = [] := List.eq_nil_of_length_eq_zero (by omega)
    rw [this] at h
    simpa [Region.linearise.go, xOps, xDs] using h
  | succ fuel ih =>
    intro t listed E n H hs hcl hlen h
    have gd_eq : ∀ p, p < ops.size → listed.getD p false = listed.getD p true := fun p hp => by simp [Array.getD_eq_getD_getElem?, hs, hp]
    have isReady : ∀ i, i ∈ Region.ready md ops listed ↔ (i < ops.size ∧ listed.getD i true = false ∧ ∀ p ∈ pr i, listed.getD p true = true) := by
      intro i
      unfold Region.ready
      rw [List.mem_filter, List.mem_range]
      constructor
      · rintro ⟨h1, h2⟩
        simp only [Bool.and_eq_true, Bool.not_eq_true'] at h2
        refine ⟨h1, h2.1, fun p hp => ?_⟩
        have ho : ops[i]? = some ops[i] := Array.getElem?_eq_getElem h1
        rw [hpr i _ ho] at hp
        obtain ⟨e, he, rfl⟩ := List.mem_map.mp hp
        obtain ⟨he1, he2⟩ := List.mem_filter.mp he
        have h3 := h2.2
        rw [ho] at h3
        simp only [Option.map_some, Option.getD_some, Array.all_eq_true_iff_forall_mem] at h3
        have h4 := h3 e (by simpa using he1)
        rw [he2] at h4
        have hlt : e.on < i := hsm i h1 _ (by rw [hpr i _ ho]; exact List.mem_map.mpr ⟨e, he, rfl⟩)
        rw [← gd_eq _ (by omega)]
        simpa using h4
      · rintro ⟨h1, h2, h3⟩
        refine ⟨h1, ?_⟩
        simp only [Bool.and_eq_true, Bool.not_eq_true']
        refine ⟨h2, ?_⟩
        have ho : ops[i]? = some ops[i] := Array.getElem?_eq_getElem h1
        rw [ho]
        simp only [Option.map_some, Option.getD_some, Array.all_eq_true_iff_forall_mem]
        intro e he
        cases hb : Region.binds md e with
        | false => simp
        | true =>
          have hm : e.on ∈ pr i := by rw [hpr i _ ho]; exact List.mem_map.mpr ⟨e, List.mem_filter.mpr ⟨by simpa using he, hb⟩, rfl⟩
          have hlt := hsm i h1 _ hm
          have := h3 _ hm
          rw [← gd_eq _ (by omega)] at this
          simp only [Bool.not_true, Bool.false_or]
          exact this
    simp only [Region.linearise.go]
    change xOps P ((match (Region.ready md ops listed)[t % (Region.ready md ops listed).length]? with
      | some i => Region.linearise.go md ops fuel (t / (Region.ready md ops listed).length) (listed.setIfInBounds i true) [i]
      | none => [].reverse).map fun i => (f i).1) E n H K
    cases hi : (Region.ready md ops listed)[t % (Region.ready md ops listed).length]? with
    | none =>
      have hnil : Region.ready md ops listed = [] := by
        cases hr : Region.ready md ops listed with
        | nil => rfl
        | cons x xs =>
          rw [hr] at hi
          have hlt : t % (x :: xs).length < (x :: xs).length := Nat.mod_lt _ (by simp)
          rw [List.getElem?_eq_getElem hlt] at hi
          cases hi
      have hall : ∀ j, j < ops.size → listed.getD j true = true := by
        intro j
        induction j using Nat.strongRecOn with
        | _ j ihj =>
          intro hj
          cases hl : listed.getD j true with
          | true => rfl
          | false =>
            have : j ∈ Region.ready md ops listed := (isReady j).mpr ⟨hj, hl, fun p hp => ihj p (hsm j hj p hp) (by have := hsm j hj p hp; omega)⟩
            rw [hnil] at this
            cases this
      have hrem : rem ops.size listed = [] := by
        unfold rem
        rw [List.filter_eq_nil_iff]
        intro j hj
        rw [hall j (List.mem_range.mp hj)]
        simp
      rw [hrem] at h
      simpa [xOps, xDs] using h
    | some i =>
      simp only []
      obtain ⟨h1, h2, h3⟩ := (isReady i).mp (List.mem_of_getElem? hi)
      obtain ⟨pre, post, e1, e2, e3⟩ := rem_split h1 hs h2
      rw [linearise_go_acc, List.reverse_singleton, List.singleton_append, List.map_cons]
      rw [e1, List.map_append, List.map_cons] at h
      have hf := xDs_front hK (fun a ha => by
        obtain ⟨j, hj, rfl⟩ := List.mem_map.mp ha
        obtain ⟨hj1, hj2⟩ := e3 j hj
        rcases hap i h1 j hj1 with h4 | h4
        · have := listed_tc hsm htc hcl i h1 h3 j h4
          rw [hj2] at this; cases this
        · exact h4) h
      rw [← List.map_append, ← e2] at hf
      have hs' : (listed.setIfInBounds i true).size = ops.size := by simpa using hs
      have hcl' : ∀ k, k < ops.size → (listed.setIfInBounds i true).getD k true = true → ∀ p ∈ pr k, (listed.setIfInBounds i true).getD p true = true := by
        have mono : ∀ p, listed.getD p true = true → (listed.setIfInBounds i true).getD p true = true := fun p hp => by
          by_cases hpi : p = i
          · subst hpi; rw [h2] at hp; cases hp
          · simp only [Array.getD_eq_getD_getElem?] at hp ⊢
            rw [Array.getElem?_setIfInBounds_ne (fun e => hpi e.symm)]; exact hp
        intro k hk hlk p hp
        by_cases hki : k = i
        · subst hki; exact mono p (h3 p hp)
        · refine mono p (hcl k hk ?_ p hp)
          simp only [Array.getD_eq_getD_getElem?] at hlk ⊢
          rw [Array.getElem?_setIfInBounds_ne (fun e => hki e.symm)] at hlk; exact hlk
      have hlen' : (rem ops.size (listed.setIfInBounds i true)).length ≤ fuel := by
        rw [e1] at hlen
        rw [e2]
        simp only [List.length_append, List.length_cons] at hlen ⊢
        omega
      have next : ∀ E n H, xDs P ((rem ops.size (listed.setIfInBounds i true)).map f) E n H K → xOps P ((Region.linearise.go md ops fuel (t / (Region.ready md ops listed).length) (listed.setIfInBounds i true) []).map fun i => (f i).1) E n H K :=
        fun E n H h => ih _ _ _ _ _ hs' hcl' hlen' h
      unfold xOps
      unfold xDs at hf
      generalize hfi : f i = fi at hf
      obtain ⟨x, c⟩ := fi
      simp only at hf ⊢
      have stp : xD P c x.op (x.args.map (Opd.val E)) n H (fun v n' H' => xDs P ((rem ops.size (listed.setIfInBounds i true)).map f) (put E x.dst v) n' H' K) →
          xop P x.op (x.args.map (Opd.val E)) n H fun v n' H' => xOps P ((Region.linearise.go md ops fuel (t / (Region.ready md ops listed).length) (listed.setIfInBounds i true) []).map fun i => (f i).1) (put E x.dst v) n' H' K := by
        rintro ⟨v, n', H', ho, hk⟩
        exact xop_mono (fun v1 n1 H1 ⟨a1, a2, a3⟩ => by subst a1 a2 a3; exact next _ _ _ hk) ho.xop
      cases hg : x.guard with
      | none => simp only [hg] at hf ⊢; exact stp hf
      | some p =>
        obtain ⟨t', want⟩ := p
        simp only [hg, gd] at hf ⊢
        split at hf
        · exact ⟨fun e => stp (hf.1 e), fun e => next _ _ _ (hf.2 e)⟩
        · exact next _ _ _ hf
        · exact hf.elim
end

theorem go_lt {md : Region.Mode} {ops : Array Oper} : ∀ (fuel t : Nat) (listed : Array Bool), ∀ i ∈ Region.linearise.go md ops fuel t listed [], i < ops.size := by
  intro fuel
  induction fuel with
  | zero => intro t listed i hi; simp [Region.linearise.go] at hi
  | succ fuel ih =>
    intro t listed i hi
    simp only [Region.linearise.go] at hi
    change i ∈ (match (Region.ready md ops listed)[t % (Region.ready md ops listed).length]? with
      | some i => Region.linearise.go md ops fuel (t / (Region.ready md ops listed).length) (listed.setIfInBounds i true) [i]
      | none => [].reverse) at hi
    cases hr : (Region.ready md ops listed)[t % (Region.ready md ops listed).length]? with
    | none => rw [hr] at hi; simp at hi
    | some j =>
      rw [hr] at hi
      simp only [] at hi
      rw [linearise_go_acc, List.reverse_singleton, List.singleton_append, List.mem_cons] at hi
      rcases hi with rfl | hi
      · have := List.mem_of_getElem? hr
        unfold Region.ready at this
        exact List.mem_range.mp (List.mem_filter.mp this).1
      · exact ih _ _ i hi

/-! ### The rule -/
def zipC : List (XOp × List Nat) → List Nat → List DOp
  | [], _ => []
  | (x, _) :: l, c :: cl => (x, c) :: zipC l cl
  | (x, _) :: l, [] => (x, 0) :: zipC l []

theorem zipC_get : ∀ {l : List (XOp × List Nat)} {cl : List Nat} {i : Nat} {x : XOp} {p : List Nat}, l[i]? = some (x, p) → ∃ c, (zipC l cl)[i]? = some (x, c)
  | (y, q) :: l, c :: cl, 0, x, p, h => by simp at h; obtain ⟨rfl, rfl⟩ := h; exact ⟨c, rfl⟩
  | (y, q) :: l, [], 0, x, p, h => by simp at h; obtain ⟨rfl, rfl⟩ := h; exact ⟨0, rfl⟩
  | (y, q) :: l, c :: cl, i + 1, x, p, h => by simp at h; obtain ⟨c', hc⟩ := zipC_get (cl := cl) h; exact ⟨c', by simpa [zipC] using hc⟩
  | (y, q) :: l, [], i + 1, x, p, h => by simp at h; obtain ⟨c', hc⟩ := zipC_get (cl := []) h; exact ⟨c', by simpa [zipC] using hc⟩

def tcs (prs : List (List Nat)) : List (List Nat) := prs.foldl (fun acc p => acc ++ [(p ++ p.flatMap fun q => acc.getD q []).eraseDups]) []

def d0 : DOp := (⟨none, .mv, [], none⟩, 0)

def certD (l : List (XOp × List Nat)) (cl : List Nat) : Bool :=
  let prs := l.map (·.2)
  let tc := tcs prs
  let ds := zipC l cl
  (List.range l.length).all fun i =>
    ((prs.getD i []).all fun p => Nat.blt p i) &&
    ((tc.getD i []).all fun j => (prs.getD i []).contains j || (prs.getD i []).any fun p => (tc.getD p []).contains j) &&
    ((List.range i).all fun j => (tc.getD i []).contains j || apartX (ds.getD j d0) (ds.getD i d0))

theorem zip_get {α β : Type} {l : List α} {m : List β} {i : Nat} {a : α} {b : β} (h1 : l[i]? = some a) (h2 : m[i]? = some b) : (l.zip m)[i]? = some (a, b) := by
  rw [List.getElem?_zip_eq_some]; exact ⟨h1, h2⟩

theorem XS.drw {X : Ctx} {F : Cfg} {k : List XItem} {E : Env} {n : Nat} {H : Heap} {l : List (XOp × List Nat)} {ks cl : List Nat} (hm : P.follows .mixedOrders = true) (hc : certD l cl = true)
    (h : xDs P (zipC l cl) E n H fun E n H => XS P X F k (keepE ks E) n H) : XS P X F (.code (.drw l ks cl) :: k) E n H := by
  intro k' hk
  obtain ⟨y, ys, rfl, h1, h2⟩ := hk.cons
  obtain ⟨c, rfl, hcc⟩ := h1.code_inv
  cases c with
  | region id ops d =>
    cases d with
    | false => simp [cCode] at hcc
    | true =>
      simp only [cCode, Option.map_eq_some_iff] at hcc
      obtain ⟨r, hr, he⟩ := hcc
      cases he
      have hrs := allSome_spec hr
      have hlen : r.length = ops.size := by
        have := congrArg List.length hrs
        simpa using this
      have hget : ∀ i (hi : i < ops.size), ∃ x o, r[i]? = some x ∧ ops[i]? = some o ∧ cOper P X.fn.ntmps F.md ops o = some x := by
        intro i hi
        have e1 : r[i]? = some (r[i]'(by omega)) := List.getElem?_eq_getElem (by omega)
        have e2 : ops[i]? = some ops[i] := Array.getElem?_eq_getElem hi
        refine ⟨_, _, e1, e2, ?_⟩
        have := congrArg (fun l => l[i]?) hrs
        simp only [List.getElem?_map, e1, Option.map_some, Array.getElem?_toList, e2, Option.some.injEq] at this
        exact this.symm
      have hzl : (r.zip (ops.toList.map fun o => (o.after.toList.filter (Region.binds .any)).map (·.on))).length = ops.size := by
        rw [List.length_zip, hlen]; simp
      generalize hcl : F.kp (id + 1000000) = cl at hc h
      generalize hL : (r.zip (ops.toList.map fun o => (o.after.toList.filter (Region.binds .any)).map (·.on))) = L at hc h hzl
      have hLget : ∀ i, i < ops.size → ∃ x o, ops[i]? = some o ∧ L[i]? = some (x, predsOf .any o) ∧ cOper P X.fn.ntmps F.md ops o = some x := by
        intro i hi
        obtain ⟨x, o, e1, e2, e3⟩ := hget i hi
        refine ⟨x, o, e2, ?_, e3⟩
        rw [← hL]
        exact zip_get e1 (by simp only [List.getElem?_map, Array.getElem?_toList, e2, Option.map_some]; rfl)
      simp only [certD, List.all_eq_true, List.mem_range, Bool.and_eq_true, Bool.or_eq_true, List.any_eq_true, List.contains_eq_mem, decide_eq_true_eq] at hc
      have hK : KOk fun E n H => XS P X F k (keepE (F.kp id) E) n H := fun E E' n H he hx => by
        have : keepE (F.kp id) E = keepE (F.kp id) E' := List.map_congr_left fun i _ => by rw [he i]
        show XS P X F k (keepE (F.kp id) E') n H
        rw [← this]; exact hx
      have hfin : ∀ t, xOps P ((Region.linearise.go .any ops ops.size t (Array.replicate ops.size false) []).map fun i => ((zipC L cl).getD i d0).1) E n H fun E n H => XS P X F k (keepE (F.kp id) E) n H := by
        intro t
        refine lin (f := fun i => (zipC L cl).getD i d0) (pr := fun i => (L.map (·.2)).getD i []) (tc := fun i => (tcs (L.map (·.2))).getD i []) hK ?_ ?_ ?_ ?_ _ _ _ _ _ _ (by simp) ?_ ?_ ?_
        · intro i o ho
          have hi : i < ops.size := by
            rcases Nat.lt_or_ge i ops.size with h | h
            · exact h
            · rw [Array.getElem?_eq_none h] at ho; cases ho
          obtain ⟨x, o', e1, e2, _⟩ := hLget i hi
          rw [ho] at e1; cases e1
          simp [List.getD_eq_getElem?_getD, e2]
        · intro i hi p hp
          have := ((hc i (by omega)).1.1) p hp
          exact Nat.lt_of_lt_of_le (by simpa using this) (Nat.le_refl _)
        · intro i hi j hj
          rcases ((hc i (by omega)).1.2) j hj with h | ⟨p, h⟩
          · exact .inl h
          · exact .inr ⟨p, h⟩
        · intro i hi j hj
          exact (hc i (by omega)).2 j hj
        · intro i hi hl
          simp [Array.getD_eq_getD_getElem?, hi] at hl
        · refine Nat.le_trans (List.length_filter_le _ _) ?_
          simp
        · have e : rem ops.size (Array.replicate ops.size false) = List.range ops.size := by
            unfold rem
            rw [List.filter_eq_self]
            intro i hi
            have := List.mem_range.mp hi
            simp [Array.getD_eq_getD_getElem?, this]
          rw [e]
          have e2 : (List.range ops.size).map (fun i => (zipC L cl).getD i d0) = zipC L cl := by
            apply List.ext_getElem?
            intro i
            rw [List.getElem?_map]
            by_cases hi : i < ops.size
            · obtain ⟨x, o, _, e3, _⟩ := hLget i hi
              obtain ⟨c, e4⟩ := zipC_get (cl := cl) e3
              rw [List.getElem?_range hi]
              simp [List.getD_eq_getElem?_getD, e4]
            · have : (zipC L cl).length ≤ i := by
                have hl : ∀ (l : List (XOp × List Nat)) (cl : List Nat), (zipC l cl).length = l.length := by
                  intro l
                  induction l with
                  | nil => intro cl; rfl
                  | cons a l ih => intro cl; obtain ⟨x, p⟩ := a; cases cl <;> simp [zipC, ih]
                rw [hl, hzl]; omega
              rw [List.getElem?_eq_none this, List.getElem?_eq_none (by simp; omega)]
              rfl
          rw [e2]
          exact h
      refine SimK.regionDraw fun t => ?_
      have hsch : Region.schedule (P.follows .mixedOrders) ops t = Region.linearise.go .any ops ops.size t (Array.replicate ops.size false) [] := by
        simp only [Region.schedule, hm, Bool.true_or, if_true]
        rfl
      rw [hsch]
      refine XS.ops (l := (Region.linearise.go .any ops ops.size t (Array.replicate ops.size false) []).map fun i => ((zipC L cl).getD i d0).1) (k := k) (X := X) (F := F) ?_ (.inRegion ops _ :: ys) ⟨?_, h2⟩
      · exact xOps_mono (fun E n H h => h.subv keepE_val) (hfin t)
      · show List.map some _ = _
        rw [List.map_map]
        refine List.map_congr_left fun i hi => ?_
        obtain ⟨x, o, e1, e3, e5⟩ := hLget i (go_lt _ _ _ i hi)
        obtain ⟨c, e4⟩ := zipC_get (cl := cl) e3
        simp [List.getD_eq_getElem?_getD, e4, e1, e5]
  | seq a b => simp only [cCode] at hcc; split at hcc <;> simp at hcc
  | cond c a b => simp only [cCode] at hcc; split at hcc <;> simp at hcc
  | block id c => simp [cCode] at hcc
  | loop c => simp [cCode] at hcc
  | _ => simp [cCode] at hcc

/-! ### Tagged -/
def Xd (P : Program) (c : Nat) (o : XO) (vals : List AV) (n : Nat) (H : Heap) (K : AV → Nat → Heap → Prop) (t : Tag K) : Prop := xD P c o vals n H K
def XDs (P : Program) (l : List DOp) (E : Env) (n : Nat) (H : Heap) (K : Env → Nat → Heap → Prop) (t : Tag K) : Prop := xDs P l E n H K
def RunsD (P : Program) (c : Nat) (f : FuncId) (args : List AV) (n : Nat) (H : Heap) (K : AV → Nat → Heap → Prop) (t : Tag K) : Prop :=
  match c with
  | 0 => ∃ r, RunsF P f args r ∧ K r n H
  | _ => ∃ v n' H', Runs P f args n H (fun v1 n1 H1 => v1 = v ∧ n1 = n' ∧ H1 = H') ∧ K v n' H'

theorem S.drw {X : Ctx} {F : Cfg} {k : List XItem} {E : Env} {n : Nat} {H : Heap} {l : List (XOp × List Nat)} {ks cl : List Nat} {t : Tag (X, F, XItem.code (.drw l ks cl) :: k)} (hm : P.follows .mixedOrders = true) (hc : certD l cl = true)
    (h : XDs P (zipC l cl) E n H (fun E n H => S P X F k Tag.mk (keepE ks E) n H) Tag.mk) : S P X F (.code (.drw l ks cl) :: k) t E n H := XS.drw hm hc h

theorem RunsF.apd {f : FuncId} {args args' : List AV} {r : AV} {n : Nat} {H : Heap} {K : AV → Nat → Heap → Prop} {t : Tag K} (h : RunsF P f args' r) (ha : args.map fzt = args') (hk : K r n H) : RunsD P 0 f args n H K t :=
  ⟨r, fun n H => Runs.fzt (by rw [ha]; exact h n H), hk⟩
theorem RunsF.apf {f : FuncId} {args args' : List AV} {r : AV} {n : Nat} {H : Heap} {K : AV → Nat → Heap → Prop} {t : Tag K} (h : RunsF P f args' r) (ha : args.map fzt = args') (hk : K r n H) : RunsT P f args n H K t :=
  (Runs.fzt (by rw [ha]; exact h n H) : Runs P f args n H fun v n' H' => v = r ∧ n' = n ∧ H' = H).mono fun v n' H' ⟨h1, h2, h3⟩ => by subst h1 h2 h3; exact hk
theorem Runs.apd {f : FuncId} {args : List AV} {r : AV} {n n' : Nat} {H H' : Heap} {K : AV → Nat → Heap → Prop} {t : Tag K} (h : Runs P f args n H fun v1 n1 H1 => v1 = r ∧ n1 = n' ∧ H1 = H') (hk : K r n' H') : RunsD P 2 f args n H K t :=
  ⟨r, n', H', h, hk⟩

section
variable {n : Nat} {H : Heap} {K : AV → Nat → Heap → Prop}
theorem tD_nil (E : Env) (K : Env → Nat → Heap → Prop) (t : Tag K) : XDs P [] E n H K t = K E n H := rfl
theorem tD_cons (d : Option Nat) (o : XO) (as : List Opd) (c : Nat) (l : List DOp) (E : Env) (K : Env → Nat → Heap → Prop) (t : Tag K) :
    XDs P ((⟨d, o, as, none⟩, c) :: l) E n H K t = Xd P c o (as.map (Opd.val E)) n H (fun v n' H' => XDs P l (put E d v) n' H' K Tag.mk) Tag.mk := rfl
theorem tD_gd (d : Option Nat) (o : XO) (as : List Opd) (i : Nat) (want : Bool) (c : Nat) (l : List DOp) (E : Env) (K : Env → Nat → Heap → Prop) (t : Tag K) :
    XDs P ((⟨d, o, as, some (i, want)⟩, c) :: l) E n H K t = Gd (val E i) want (Xd P c o (as.map (Opd.val E)) n H (fun v n' H' => XDs P l (put E d v) n' H' K Tag.mk) Tag.mk) (XDs P l (put E d (.tup [])) n H K Tag.mk) Tag.mk := rfl
theorem zipC_nil (cl : List Nat) : zipC [] cl = [] := by cases cl <;> rfl
theorem zipC_cons (x : XOp) (p : List Nat) (l : List (XOp × List Nat)) (c : Nat) (cl : List Nat) : zipC ((x, p) :: l) (c :: cl) = (x, c) :: zipC l cl := rfl

theorem xd_of_oK {o : XO} {vals : List AV} (h : ∀ n H (K : AV → Nat → Heap → Prop), xop P o vals n H K = oK (fop o vals) fun v => K v n H) (t : Tag K) : Xd P 0 o vals n H K t = Xo P o vals n H K Tag.mk := by
  unfold Xd Xo xD outD
  simp only [h]
  cases fop o vals with
  | none => simp
  | some v =>
    simp only [oK_some, and_true]
    refine propext ⟨?_, fun hk => ⟨v, n, H, ⟨rfl, rfl, fun _ _ => rfl⟩, hk⟩⟩
    rintro ⟨v1, n', H', ⟨rfl, rfl, e⟩, hk⟩
    have := e n' H'
    subst this
    exact hk
theorem xd_of_det {o : XO} {vals : List AV} {Φ : Prop} {v : AV} {n' : Nat} {H' : Heap} (h : ∀ (K : AV → Nat → Heap → Prop), xop P o vals n H K = (Φ ∧ K v n' H')) (t : Tag K) : Xd P 2 o vals n H K t = Xo P o vals n H K Tag.mk := by
  unfold Xd Xo xD outD
  simp only [h]
  refine propext ⟨?_, fun ⟨hp, hk⟩ => ⟨v, n', H', ⟨hp, rfl, rfl, rfl⟩, hk⟩⟩
  rintro ⟨v1, n1, H1, ⟨hp, rfl, rfl, rfl⟩, hk⟩
  exact ⟨hp, hk⟩
theorem xd_mv (vals : List AV) (t : Tag K) : Xd P 0 .mv vals n H K t = Xo P .mv vals n H K Tag.mk := xd_of_oK (fun _ _ _ => by cases vals <;> rfl) t
theorem xd_pick (vals : List AV) (t : Tag K) : Xd P 0 .pick vals n H K t = Xo P .pick vals n H K Tag.mk := xd_of_oK (fun _ _ _ => by cases vals <;> rfl) t
theorem xd_boxF (vals : List AV) (t : Tag K) : Xd P 0 .boxF vals n H K t = Xo P .boxF vals n H K Tag.mk := xd_of_oK (fun _ _ _ => by cases vals <;> rfl) t
theorem xd_build (z : List AV) (pl : List (Nat × Nat)) (vals : List AV) (t : Tag K) : Xd P 0 (.build z pl) vals n H K t = Xo P (.build z pl) vals n H K Tag.mk := xd_of_oK (fun _ _ _ => by cases vals <;> rfl) t
theorem xd_bslF (s : Nat) (vals : List AV) (t : Tag K) : Xd P 0 (.bsl 0 s) vals n H K t = Xo P (.bsl 0 s) vals n H K Tag.mk := xd_of_oK (fun _ _ _ => by cases vals <;> rfl) t
theorem xd_bin (op : BinOp) (vals : List AV) (t : Tag K) : Xd P 0 (.bin op) vals n H K t = Xo P (.bin op) vals n H K Tag.mk := xd_of_oK (fun _ _ _ => by cases vals <;> rfl) t
theorem xd_binB (b : Bool) (vals : List AV) (t : Tag K) : Xd P 0 (.binB b) vals n H K t = Xo P (.binB b) vals n H K Tag.mk := xd_of_oK (fun _ _ _ => by cases vals <;> rfl) t
theorem xd_eqS (b : Bool) (k : Nat) (vals : List AV) (t : Tag K) : Xd P 0 (.eqS b k) vals n H K t = Xo P (.eqS b k) vals n H K Tag.mk := xd_of_oK (fun _ _ _ => by cases vals <;> rfl) t
theorem xd_un (op : UnOp) (vals : List AV) (t : Tag K) : Xd P 0 (.un op) vals n H K t = Xo P (.un op) vals n H K Tag.mk := xd_of_oK (fun _ _ _ => by cases vals <;> rfl) t
theorem xd_cvI (k : IntKind) (vals : List AV) (t : Tag K) : Xd P 0 (.cvI k) vals n H K t = Xo P (.cvI k) vals n H K Tag.mk := xd_of_oK (fun _ _ _ => by cases vals <;> rfl) t
theorem xd_cvIS (vals : List AV) (t : Tag K) : Xd P 0 .cvIS vals n H K t = Xo P .cvIS vals n H K Tag.mk := xd_of_oK (fun _ _ _ => by cases vals <;> rfl) t
theorem xd_cvBS (vals : List AV) (t : Tag K) : Xd P 0 .cvBS vals n H K t = Xo P .cvBS vals n H K Tag.mk := xd_of_oK (fun _ _ _ => by cases vals <;> rfl) t
theorem xd_cvSS (vals : List AV) (t : Tag K) : Xd P 0 .cvSS vals n H K t = Xo P .cvSS vals n H K Tag.mk := xd_of_oK (fun _ _ _ => by cases vals <;> rfl) t
theorem xd_mkfn (f : FuncId) (vals : List AV) (t : Tag K) : Xd P 0 (.mkfn f) vals n H K t = Xo P (.mkfn f) vals n H K Tag.mk := xd_of_oK (fun _ _ _ => by cases vals <;> rfl) t
theorem xd_slS (a b : Bool) (vals : List AV) (t : Tag K) : Xd P 0 (.slS a b) vals n H K t = Xo P (.slS a b) vals n H K Tag.mk := xd_of_oK (fun _ _ _ => by cases vals <;> rfl) t
theorem xd_slL_sl (z : Nat) (a b : Bool) (r : List (List AV)) (bs : List AV) (t : Tag K) : Xd P 0 (.slL z a b) (.sl r :: bs) n H K t = Xo P (.slL z a b) (.sl r :: bs) n H K Tag.mk := xd_of_oK (fun _ _ _ => rfl) t
theorem xd_slL_acc (z : Nat) (a b : Bool) (i s : Nat) (r : List (List AV)) (bs : List AV) (t : Tag K) : Xd P 0 (.slL z a b) (.acc i s r :: bs) n H K t = Xo P (.slL z a b) (.acc i s r :: bs) n H K Tag.mk := xd_of_oK (fun _ _ _ => rfl) t
theorem xd_slL_ref (z : Nat) (a b : Bool) (i s o l : Nat) (bs : List AV) (t : Tag K) : Xd P 0 (.slL z a b) (.ref i s o l :: bs) n H K t = Xo P (.slL z a b) (.ref i s o l :: bs) n H K Tag.mk := xd_of_oK (fun _ _ _ => rfl) t
theorem xd_vob1 {o : XO} {vals : List AV} {id ver : Nat} {f : Nat → List AV → Option AV} (h : ∀ n (K : AV → Nat → Heap → Prop), xop P o vals n H K = withVob (hget H id) ver (fun s c => oK (f s c) fun v => K v n H) Tag.mk) (t : Tag K) : Xd P 1 o vals n H K t = Xo P o vals n H K Tag.mk := by
  unfold Xd Xo xD outD
  simp only [h]
  cases hg : hget H id with
  | none => simp [withVob]
  | some ob => cases ob with
    | vob v s c =>
      simp only [withVob]
      cases hf : f s c with
      | none => simp
      | some u =>
        simp only [oK_some, and_true]
        refine propext ⟨?_, fun hk => ⟨u, n, H, ⟨rfl, rfl, fun _ => ⟨hk.1, rfl⟩⟩, hk.2⟩⟩
        rintro ⟨v1, n', H', ⟨rfl, rfl, e⟩, hk⟩
        have := e n'
        obtain ⟨e1, rfl⟩ := this
        exact ⟨e1, hk⟩
    | _ => simp [withVob]
theorem xd_slV (z : Nat) (a b : Bool) (id ver s o l : Nat) (bs : List AV) (t : Tag K) : Xd P 1 (.slL z a b) (.vec id ver s o l :: bs) n H K t = Xo P (.slL z a b) (.vec id ver s o l :: bs) n H K Tag.mk :=
  xd_vob1 (id := id) (ver := ver) (f := fun _ _ => (bnds a b l bs).bind fun q => if 0 ≤ q.1 ∧ q.1 ≤ q.2 ∧ q.2 ≤ l ∧ (q.1 = 0 ∨ q.1 < l) ∧ s = z then some (.vec id ver s (o + q.1.toNat * s) (q.2 - q.1).toNat) else none) (fun n K => by
    simp only [xop, vob_vget]
    refine vob_congr fun _ _ => ?_
    cases bnds a b l bs with
    | none => rfl
    | some q => simp only [oK_some, Option.bind_some, oK_ite]) t
theorem xd_idxV (z id ver s o l : Nat) (k : IntKind) (i : Int) (t : Tag K) : Xd P 1 (.idxA z) [.vec id ver s o l, .int k i] n H K t = Xo P (.idxA z) [.vec id ver s o l, .int k i] n H K Tag.mk :=
  xd_vob1 (id := id) (ver := ver) (f := fun _ _ => if 0 ≤ i ∧ i < l ∧ s = z then some (.vptr id ver (o + i.toNat * s)) else none) (fun n K => by simp only [xop, vob_vget]; exact vob_congr fun _ _ => by rw [oK_ite, oK_some]) t
theorem xd_ldV (s : Option Nat) (id ver off : Nat) (t : Tag K) : Xd P 1 (.ld s) [.vptr id ver off] n H K t = Xo P (.ld s) [.vptr id ver off] n H K Tag.mk :=
  xd_vob1 (id := id) (ver := ver) (f := fun _ c => ldc s (c.drop off)) (fun n K => by simp only [xop, vob_vget]) t
theorem xd_fldV (o id ver p : Nat) (t : Tag K) : Xd P 1 (.fldA o) [.vptr id ver p] n H K t = Xo P (.fldA o) [.vptr id ver p] n H K Tag.mk :=
  xd_vob1 (id := id) (ver := ver) (f := fun _ _ => some (.vptr id ver (p + o))) (fun n K => by simp only [xop, vob_vget]; exact vob_congr fun _ _ => by rw [oK_some]) t
theorem xd_vob2 {o : XO} {vals : List AV} {id ver : Nat} {f : Nat → List AV → Option (AV × Nat × Heap)} (h : ∀ (K : AV → Nat → Heap → Prop), xop P o vals n H K = withVob (hget H id) ver (fun s c => oK (f s c) fun q => K q.1 q.2.1 q.2.2) Tag.mk) (t : Tag K) : Xd P 2 o vals n H K t = Xo P o vals n H K Tag.mk := by
  unfold Xd Xo xD outD
  simp only [h]
  cases hg : hget H id with
  | none => simp [withVob]
  | some ob => cases ob with
    | vob v s c =>
      simp only [withVob]
      cases hf : f s c with
      | none => simp
      | some u =>
        simp only [oK_some]
        refine propext ⟨?_, fun hk => ⟨_, _, _, ⟨hk.1, rfl, rfl, rfl⟩, hk.2⟩⟩
        rintro ⟨v1, n', H', ⟨e1, rfl, rfl, rfl⟩, hk⟩
        exact ⟨e1, hk⟩
    | _ => simp [withVob]
theorem xd_stV (s : Option Nat) (id ver off : Nat) (x : AV) (t : Tag K) : Xd P 2 (.st s) [.vptr id ver off, x] n H K t = Xo P (.st s) [.vptr id ver off, x] n H K Tag.mk :=
  xd_vob2 (id := id) (ver := ver) (f := fun z c => (cellsOf x).bind fun xs => if xs.length = s.getD 1 ∧ off + xs.length ≤ c.length ∧ xs.all plain = true then some (.junk, n, hset H id (.vob ver z (setCells c off xs))) else none) (fun K => by
    simp only [xop, vob_vget]
    refine vob_congr fun _ _ => ?_
    cases cellsOf x with
    | none => rfl
    | some q => simp only [oK_some, Option.bind_some, oK_ite]) t
theorem xd_appV (z b : Nat) (id ver s o l : Nat) (y : AV) (t : Tag K) : Xd P 2 (.appV z b) [.vec id ver s o l, y] n H K t = Xo P (.appV z b) [.vec id ver s o l, y] n H K Tag.mk := by
  cases hs : srcV H z y with
  | none => unfold Xd Xo xD outD; simp [xop, hs]
  | some q =>
    refine xd_vob2 (id := id) (ver := ver) (f := fun _ c => if b ≤ 4096 ∧ q.2.all plain = true ∧ o = 0 ∧ s = z ∧ l * s ≤ c.length ∧ l + q.1 ≤ lenMax then some (.vec id (ver + 1) s 0 (l + q.1), n, hset H id (.vob (ver + 1) s (c.take (l * s) ++ q.2))) else none) (fun K => ?_) t
    simp only [xop, hs, oK_some, vob_vget]
    cases hget H id with
    | none => simp [withVob]
    | some ob => cases ob with
      | vob v s c =>
        simp only [withVob, oK_ite, oK_some]
        exact propext ⟨fun ⟨h1, h2, h3, h4, h5⟩ => ⟨h3, ⟨h1, h2, h4⟩, h5⟩, fun ⟨h3, ⟨h1, h2, h4⟩, h5⟩ => ⟨h1, h2, h3, h4, h5⟩⟩
      | _ => simp [withVob]
theorem xd_appVN (z b : Nat) (y : AV) (t : Tag K) : Xd P 2 (.appV z b) [.nilsl, y] n H K t = Xo P (.appV z b) [.nilsl, y] n H K Tag.mk := by
  unfold Xd Xo xD outD
  simp only [xop]
  cases srcV H z y with
  | none => simp
  | some q =>
    simp only [oK_some]
    by_cases he : q.1 = 0
    · simp only [he, true_implies, ne_eq, not_true_eq_false, false_implies, and_true]
      refine propext ⟨?_, fun ⟨h1, h2, h3, hk⟩ => ⟨_, _, _, ⟨h1, h2, h3, rfl, rfl, rfl⟩, hk⟩⟩
      rintro ⟨v1, n', H', ⟨h1, h2, h3, rfl, rfl, rfl⟩, hk⟩
      exact ⟨h1, h2, h3, hk⟩
    · simp only [he, false_implies, ne_eq, not_false_eq_true, true_implies, true_and]
      refine propext ⟨?_, fun ⟨h1, h2, h3, hk⟩ => ⟨_, _, _, ⟨h1, h2, h3, rfl, rfl, rfl⟩, hk⟩⟩
      rintro ⟨v1, n', H', ⟨h1, h2, h3, rfl, rfl, rfl⟩, hk⟩
      exact ⟨h1, h2, h3, hk⟩
theorem xd_bslV (s : Nat) (xs : List AV) (t : Tag K) : Xd P 2 (.bsl 3 s) xs n H K t = Xo P (.bsl 3 s) xs n H K Tag.mk := by
  have e : ∀ K, xop P (.bsl 3 s) xs n H K = oK (rawRows xs) fun rows => rawOk s rows ∧ K (.vec n 0 s 0 rows.length) (n + 1) ((n, .vob 0 s rows.flatten) :: H) := fun K => by cases xs <;> rfl
  unfold Xd Xo xD outD
  simp only [e]
  cases rawRows xs with
  | none => simp
  | some v =>
    simp only [oK_some]
    refine propext ⟨?_, fun ⟨h, hk⟩ => ⟨_, _, _, ⟨h, rfl, rfl, rfl⟩, hk⟩⟩
    rintro ⟨v1, n', H', ⟨h, rfl, rfl, rfl⟩, hk⟩
    exact ⟨h, hk⟩
theorem xd_bslR (s : Nat) (xs : List AV) (t : Tag K) : Xd P 2 (.bsl 4 s) xs n H K t = Xo P (.bsl 4 s) xs n H K Tag.mk := by
  have e : ∀ K, xop P (.bsl 4 s) xs n H K = oK (rawRows xs) fun rows => rawOk s rows ∧ K (.ref n s 0 rows.length) (n + 1) ((n, .own rows.flatten) :: H) := fun K => by cases xs <;> rfl
  unfold Xd Xo xD outD
  simp only [e]
  cases rawRows xs with
  | none => simp
  | some v =>
    simp only [oK_some]
    refine propext ⟨?_, fun ⟨h, hk⟩ => ⟨_, _, _, ⟨h, rfl, rfl, rfl⟩, hk⟩⟩
    rintro ⟨v1, n', H', ⟨h, rfl, rfl, rfl⟩, hk⟩
    exact ⟨h, hk⟩
theorem xd_mksV (s b : Nat) (z : List AV) (l c : Int) (t : Tag K) : Xd P 2 (.mks 3 s b z) [.int .i64 l, .int .i64 c] n H K t = Xo P (.mks 3 s b z) [.int .i64 l, .int .i64 c] n H K Tag.mk := by
  have e : ∀ K, xop P (.mks 3 s b z) [.int .i64 l, .int .i64 c] n H K = ((0 ≤ l ∧ l ≤ c ∧ c ≤ lenMax ∧ b ≤ 4096 ∧ z.length = s) ∧ K (.vec n 0 s 0 l.toNat) (n + 1) ((n, .vob 0 s (List.replicate l.toNat z).flatten) :: H)) := fun K => by simp [xop]
  unfold Xd Xo xD outD
  simp only [e]
  refine propext ⟨?_, fun ⟨h1, hk⟩ => ⟨_, _, _, ⟨h1, rfl, rfl, rfl⟩, hk⟩⟩
  rintro ⟨v1, n', H', ⟨h1, rfl, rfl, rfl⟩, hk⟩
  exact ⟨h1, hk⟩
theorem xd_fldA (o : Nat) (cs : List AV) (t : Tag K) : Xd P 0 (.fldA o) [.fptr cs] n H K t = Xo P (.fldA o) [.fptr cs] n H K Tag.mk := xd_of_oK (fun _ _ _ => rfl) t
theorem xd_fldA_o (o id p : Nat) (t : Tag K) : Xd P 0 (.fldA o) [.ptr id p] n H K t = Xo P (.fldA o) [.ptr id p] n H K Tag.mk := xd_of_oK (fun _ _ _ => rfl) t
theorem xd_fld (o : Nat) (s : Option Nat) (vals : List AV) (t : Tag K) : Xd P 0 (.fld o s) vals n H K t = Xo P (.fld o s) vals n H K Tag.mk := xd_of_oK (fun _ _ _ => by cases vals <;> rfl) t
theorem xd_idxA (z : Nat) (r : List (List AV)) (k : IntKind) (i : Int) (t : Tag K) : Xd P 0 (.idxA z) [.sl r, .int k i] n H K t = Xo P (.idxA z) [.sl r, .int k i] n H K Tag.mk := xd_of_oK (fun _ _ _ => rfl) t
theorem xd_idxA_acc (z id s : Nat) (r : List (List AV)) (k : IntKind) (i : Int) (t : Tag K) : Xd P 0 (.idxA z) [.acc id s r, .int k i] n H K t = Xo P (.idxA z) [.acc id s r, .int k i] n H K Tag.mk := xd_of_oK (fun _ _ _ => rfl) t
theorem xd_idxA_ref (z id s o l : Nat) (k : IntKind) (i : Int) (t : Tag K) : Xd P 0 (.idxA z) [.ref id s o l, .int k i] n H K t = Xo P (.idxA z) [.ref id s o l, .int k i] n H K Tag.mk := xd_of_oK (fun _ _ _ => rfl) t
theorem xd_idxS (vals : List AV) (t : Tag K) : Xd P 0 .idxS vals n H K t = Xo P .idxS vals n H K Tag.mk := xd_of_oK (fun _ _ _ => by cases vals <;> rfl) t
theorem xd_ext (i : Nat) (vals : List AV) (t : Tag K) : Xd P 0 (.ext i) vals n H K t = Xo P (.ext i) vals n H K Tag.mk := xd_of_oK (fun _ _ _ => by cases vals <;> rfl) t
theorem xd_lenS (vals : List AV) (t : Tag K) : Xd P 0 .lenS vals n H K t = Xo P .lenS vals n H K Tag.mk := xd_of_oK (fun _ _ _ => by cases vals <;> rfl) t
theorem xd_lenL (vals : List AV) (t : Tag K) : Xd P 0 .lenL vals n H K t = Xo P .lenL vals n H K Tag.mk := xd_of_oK (fun _ _ _ => by cases vals <;> rfl) t
theorem xd_mnx (b : Bool) (vals : List AV) (t : Tag K) : Xd P 0 (.mnx b) vals n H K t = Xo P (.mnx b) vals n H K Tag.mk := xd_of_oK (fun _ _ _ => by cases vals <;> rfl) t
theorem xd_ldF (s : Option Nat) (cs : List AV) (t : Tag K) : Xd P 0 (.ld s) [.fptr cs] n H K t = Xo P (.ld s) [.fptr cs] n H K Tag.mk := xd_of_oK (fun _ _ _ => rfl) t
theorem xd_ldO (s : Option Nat) (id off : Nat) (t : Tag K) : Xd P 1 (.ld s) [.ptr id off] n H K t = Xo P (.ld s) [.ptr id off] n H K Tag.mk := by
  unfold Xd Xo xD outD
  simp only [xop]
  cases hget H id with
  | none => simp
  | some o => cases o with
    | tok a b => simp
    | vob a b c => simp
    | own cells =>
      simp only []
      cases ldc s (cells.drop off) with
      | none => simp
      | some v =>
        simp only [oK_some, and_true]
        refine propext ⟨?_, fun hk => ⟨v, n, H, ⟨rfl, rfl, fun _ => rfl⟩, hk⟩⟩
        rintro ⟨v1, n', H', ⟨rfl, rfl, e⟩, hk⟩
        have := e n'
        subst this
        exact hk
theorem xd_alloc (z : List AV) (t : Tag K) : Xd P 2 (.alloc z) [] n H K t = Xo P (.alloc z) [] n H K Tag.mk := xd_of_det (Φ := True) (v := .ptr n 0) (n' := n + 1) (H' := (n, .own z) :: H) (fun K => by simp only [xop, true_and]) t
theorem xd_boxO (x : AV) (t : Tag K) : Xd P 2 .boxO [x] n H K t = Xo P .boxO [x] n H K Tag.mk := by
  unfold Xd Xo xD outD
  simp only [xop]
  cases cellsOf x with
  | none => simp
  | some v =>
    simp only [oK_some]
    refine propext ⟨?_, fun hk => ⟨_, _, _, ⟨rfl, rfl, rfl⟩, hk⟩⟩
    rintro ⟨v1, n', H', ⟨rfl, rfl, rfl⟩, hk⟩
    exact hk
theorem xd_bslA (s : Nat) (xs : List AV) (t : Tag K) : Xd P 2 (.bsl 1 s) xs n H K t = Xo P (.bsl 1 s) xs n H K Tag.mk := by
  unfold Xd Xo xD outD
  simp only [x_bslA]
  cases rowsOf xs with
  | none => simp
  | some v =>
    simp only [oK_some]
    refine propext ⟨?_, fun ⟨h, hk⟩ => ⟨_, _, _, ⟨h, rfl, rfl, rfl⟩, hk⟩⟩
    rintro ⟨v1, n', H', ⟨h, rfl, rfl, rfl⟩, hk⟩
    exact ⟨h, hk⟩
theorem xd_bslO (s : Nat) (xs : List AV) (t : Tag K) : Xd P 2 (.bsl 2 s) xs n H K t = Xo P (.bsl 2 s) xs n H K Tag.mk := by
  unfold Xd Xo xD outD
  simp only [x_bslO]
  cases rowsOf xs with
  | none => simp
  | some v =>
    simp only [oK_some]
    refine propext ⟨?_, fun ⟨h, hk⟩ => ⟨_, _, _, ⟨h, rfl, rfl, rfl⟩, hk⟩⟩
    rintro ⟨v1, n', H', ⟨h, rfl, rfl, rfl⟩, hk⟩
    exact ⟨h, hk⟩
theorem xd_st (s : Option Nat) (id off : Nat) (x : AV) (t : Tag K) : Xd P 2 (.st s) [.ptr id off, x] n H K t = Xo P (.st s) [.ptr id off, x] n H K Tag.mk := by
  unfold Xd Xo xD outD
  simp only [xop]
  cases hget H id with
  | none => simp
  | some o => cases o with
    | tok a b => simp
    | vob a b c => simp
    | own cells =>
      cases cellsOf x with
      | none => simp
      | some v =>
        simp only []
        refine propext ⟨?_, fun ⟨h, hk⟩ => ⟨_, _, _, ⟨h, rfl, rfl, rfl⟩, hk⟩⟩
        rintro ⟨v1, n', H', ⟨h, rfl, rfl, rfl⟩, hk⟩
        exact ⟨h, hk⟩
theorem xd_app (z b : Nat) (id s : Nat) (r : List (List AV)) (y : AV) (t : Tag K) : Xd P 2 (.app z b) [.acc id s r, y] n H K t = Xo P (.app z b) [.acc id s r, y] n H K Tag.mk := by
  unfold Xd Xo xD outD
  simp only [xop]
  cases rowsOfSl H y with
  | none => simp
  | some ys =>
    simp only [oK_some]
    refine propext ⟨?_, fun ⟨h1, h2, h3, hk⟩ => ⟨_, _, _, ⟨h1, h2, h3, rfl, rfl, rfl⟩, hk⟩⟩
    rintro ⟨v1, n', H', ⟨h1, h2, h3, rfl, rfl, rfl⟩, hk⟩
    exact ⟨h1, h2, h3, hk⟩
theorem xd_appN (z b : Nat) (y : AV) (t : Tag K) : Xd P 2 (.app z b) [.nilsl, y] n H K t = Xo P (.app z b) [.nilsl, y] n H K Tag.mk := by
  unfold Xd Xo xD outD
  simp only [xop]
  cases rowsOfSl H y with
  | none => simp
  | some ys =>
    simp only [oK_some]
    by_cases he : ys = []
    · simp only [he, true_implies, ne_eq, not_true_eq_false, false_implies, and_true]
      refine propext ⟨?_, fun ⟨h1, h2, h3, hk⟩ => ⟨_, _, _, ⟨h1, h2, h3, rfl, rfl, rfl⟩, hk⟩⟩
      rintro ⟨v1, n', H', ⟨h1, h2, h3, rfl, rfl, rfl⟩, hk⟩
      exact ⟨h1, h2, h3, hk⟩
    · simp only [he, false_implies, ne_eq, not_false_eq_true, true_implies, true_and]
      refine propext ⟨?_, fun ⟨h1, h2, h3, hk⟩ => ⟨_, _, _, ⟨h1, h2, h3, rfl, rfl, rfl⟩, hk⟩⟩
      rintro ⟨v1, n', H', ⟨h1, h2, h3, rfl, rfl, rfl⟩, hk⟩
      exact ⟨h1, h2, h3, hk⟩
theorem xd_mksO (s b : Nat) (z : List AV) (l c : Int) (t : Tag K) : Xd P 2 (.mks 2 s b z) [.int .i64 l, .int .i64 c] n H K t = Xo P (.mks 2 s b z) [.int .i64 l, .int .i64 c] n H K Tag.mk := by
  unfold Xd Xo xD outD
  simp only [x_mksO]
  refine propext ⟨?_, fun ⟨h1, h2, hk⟩ => ⟨_, _, _, ⟨h1, h2, rfl, rfl, rfl⟩, hk⟩⟩
  rintro ⟨v1, n', H', ⟨h1, h2, rfl, rfl, rfl⟩, hk⟩
  exact ⟨h1, h2, hk⟩
theorem xd_mksA (s b : Nat) (z : List AV) (l c : Int) (t : Tag K) : Xd P 2 (.mks 1 s b z) [.int .i64 l, .int .i64 c] n H K t = Xo P (.mks 1 s b z) [.int .i64 l, .int .i64 c] n H K Tag.mk := by
  unfold Xd Xo xD outD
  simp only [x_mksA]
  refine propext ⟨?_, fun ⟨h1, hk⟩ => ⟨_, _, _, ⟨h1, rfl, rfl, rfl⟩, hk⟩⟩
  rintro ⟨v1, n', H', ⟨h1, rfl, rfl, rfl⟩, hk⟩
  exact ⟨h1, hk⟩
theorem xd_call (c : Nat) (f : FuncId) (cap args : List AV) (t : Tag K) : Xd P c .call (.fn f cap :: args) n H K t = (xD P c .call (.fn f cap :: args) n H K) := rfl
theorem xd_call0 (f : FuncId) (cap args : List AV) (t : Tag K) : Xd P 0 .call (.fn f cap :: args) n H K t = RunsD P 0 f (args ++ cap) n H K Tag.mk := by
  unfold Xd xD outD RunsD
  simp only [xop]
  refine propext ⟨?_, ?_⟩
  · rintro ⟨v, n', H', ⟨rfl, rfl, h⟩, hk⟩
    exact ⟨v, h, hk⟩
  · rintro ⟨r, h, hk⟩
    exact ⟨r, n, H, ⟨rfl, rfl, h⟩, hk⟩
theorem xd_call2 (f : FuncId) (cap args : List AV) (t : Tag K) : Xd P 2 .call (.fn f cap :: args) n H K t = RunsD P 2 f (args ++ cap) n H K Tag.mk := rfl
end
end Go.Ab
end
section
namespace Go.Ab
set_option linter.defProp false
theorem l_opd_nil (E : Env) : ([] : List Opd).map (Opd.val E) = [] := rfl
theorem l_opd_cons (E : Env) (x : Opd) (l : List Opd) : (x :: l).map (Opd.val E) = x.val E :: l.map (Opd.val E) := rfl
theorem l_len_nil : ([] : List AV).length = 0 := rfl
theorem l_len_cons (a : AV) (l : List AV) : (a :: l).length = l.length + 1 := rfl
theorem l_lenr_nil : ([] : List (List AV)).length = 0 := rfl
theorem l_lenr_cons (a : List AV) (l : List (List AV)) : (a :: l).length = l.length + 1 := rfl
theorem l_lenr_app (a b : List (List AV)) : (a ++ b).length = a.length + b.length := List.length_append
theorem l_con_nil (i : Nat) : ([] : List Nat).contains i = false := rfl
theorem l_con_cons (a i : Nat) (l : List Nat) : (a :: l).contains i = (i == a || l.contains i) := rfl
theorem l_drop0 (l : List AV) : l.drop 0 = l := rfl
theorem l_dropS (a : AV) (l : List AV) (k : Nat) : (a :: l).drop (k + 1) = l.drop k := rfl
theorem l_drop1 (a : AV) (l : List AV) : (a :: l).drop 1 = l := rfl
theorem l_drop2 (a b : AV) (l : List AV) : (a :: b :: l).drop 2 = l := rfl
theorem l_drop3 (a b c : AV) (l : List AV) : (a :: b :: c :: l).drop 3 = l := rfl
theorem l_drop4 (a b c d : AV) (l : List AV) : (a :: b :: c :: d :: l).drop 4 = l := rfl
theorem l_drop5 (a b c d e : AV) (l : List AV) : (a :: b :: c :: d :: e :: l).drop 5 = l := rfl
theorem l_drop6 (a b c d e f : AV) (l : List AV) : (a :: b :: c :: d :: e :: f :: l).drop 6 = l := rfl
theorem l_drop7 (a b c d e f h : AV) (l : List AV) : (a :: b :: c :: d :: e :: f :: h :: l).drop 7 = l := rfl
theorem l_take0 (l : List AV) : l.take 0 = [] := rfl
theorem l_take1 (a : AV) (l : List AV) : (a :: l).take 1 = [a] := rfl
theorem l_take2 (a b : AV) (l : List AV) : (a :: b :: l).take 2 = [a, b] := rfl
theorem l_take3 (a b c : AV) (l : List AV) : (a :: b :: c :: l).take 3 = [a, b, c] := rfl
theorem l_take4 (a b c d : AV) (l : List AV) : (a :: b :: c :: d :: l).take 4 = [a, b, c, d] := rfl
theorem l_get0 (a : AV) (l : List AV) : (a :: l)[0]? = some a := rfl
theorem l_get1 (a b : AV) (l : List AV) : (a :: b :: l)[1]? = some b := rfl
theorem l_get2 (a b c : AV) (l : List AV) : (a :: b :: c :: l)[2]? = some c := rfl
theorem l_get3 (a b c d : AV) (l : List AV) : (a :: b :: c :: d :: l)[3]? = some d := rfl
theorem l_fz_nil : ([] : List AV).map fz = [] := rfl
theorem l_fz_cons (a : AV) (l : List AV) : (a :: l).map fz = fz a :: l.map fz := rfl
theorem l_flat_nil : ([] : List AV).all flat = true := rfl
theorem l_flat_cons (a : AV) (l : List AV) : (a :: l).all flat = (flat a && l.all flat) := rfl
theorem l_plain_nil : ([] : List AV).all plain = true := rfl
theorem l_plain_cons (a : AV) (l : List AV) : (a :: l).all plain = (plain a && l.all plain) := rfl
theorem l_app_nil (l : List AV) : ([] : List AV) ++ l = l := rfl
theorem l_app_cons (a : AV) (l m : List AV) : (a :: l) ++ m = a :: (l ++ m) := rfl
theorem l_app_nil2 (l : List AV) : l ++ ([] : List AV) = l := List.append_nil l
theorem l_appr_nil (l : List (List AV)) : ([] : List (List AV)) ++ l = l := rfl
theorem l_omap (r : List AV) (rs : List (List AV)) : (some rs).map (r :: ·) = some (r :: rs) := rfl
theorem l_setc0 (x : List AV) (cells : List AV) : setCells cells 0 x = x ++ cells.drop x.length := by simp [setCells]
theorem l_setc1 (a : AV) (x : List AV) (cells : List AV) : setCells (a :: cells) 1 x = a :: (x ++ cells.drop x.length) := by simp [setCells, Nat.add_comm 1]
theorem l_setc2 (a b : AV) (x : List AV) (cells : List AV) : setCells (a :: b :: cells) 2 x = a :: b :: (x ++ cells.drop x.length) := by simp [setCells, Nat.add_comm 2]
theorem l_setc3 (a b c : AV) (x : List AV) (cells : List AV) : setCells (a :: b :: c :: cells) 3 x = a :: b :: c :: (x ++ cells.drop x.length) := by simp [setCells, Nat.add_comm 3]
theorem l_setc4 (a b c d : AV) (x : List AV) (cells : List AV) : setCells (a :: b :: c :: d :: cells) 4 x = a :: b :: c :: d :: (x ++ cells.drop x.length) := by simp [setCells, Nat.add_comm 4]
theorem f_bool (b : Bool) : fz (.bool b) = .bool b := rfl
theorem f_int (k : IntKind) (i : Int) : fz (.int k i) = .int k i := rfl
theorem f_str (s : List UInt8) : fz (.str s) = .str s := rfl
theorem f_sl (r : List (List AV)) : fz (.sl r) = .sl r := rfl
theorem f_nil : fz .nilsl = .sl [] := rfl
theorem f_acc (i s : Nat) (r : List (List AV)) : fz (.acc i s r) = .sl r := rfl
theorem f_agg (l : List AV) : fz (.agg l) = .agg l := rfl
theorem f_tup (l : List AV) : fz (.tup l) = .tup l := rfl
theorem f_fptr (l : List AV) : fz (.fptr l) = .fptr l := rfl
theorem f_ptr (i o : Nat) : fz (.ptr i o) = .ptr i o := rfl
theorem f_fn (f : FuncId) (l : List AV) : fz (.fn f l) = .fn f l := rfl
theorem fl_bool (b : Bool) : flat (.bool b) = true := rfl
theorem fl_int (k : IntKind) (i : Int) : flat (.int k i) = true := rfl
theorem fl_str (s : List UInt8) : flat (.str s) = true := rfl
theorem fl_sl (r : List (List AV)) : flat (.sl r) = true := rfl
theorem fl_nil : flat .nilsl = true := rfl
theorem pl_bool (b : Bool) : plain (.bool b) = true := rfl
theorem pl_int (k : IntKind) (i : Int) : plain (.int k i) = true := rfl
theorem pl_str (s : List UInt8) : plain (.str s) = true := rfl
theorem pl_sl (r : List (List AV)) : plain (.sl r) = true := rfl
theorem pl_nil : plain .nilsl = true := rfl
theorem pl_acc (i s : Nat) (r : List (List AV)) : plain (.acc i s r) = true := rfl
theorem pl_ref (i s o l : Nat) : plain (.ref i s o l) = true := rfl
theorem pl_ptr (i o : Nat) : plain (.ptr i o) = true := rfl
theorem pl_fn (f : FuncId) (l : List AV) : plain (.fn f l) = true := rfl
theorem c_agg (l : List AV) : cellsOf (.agg l) = some l := rfl
theorem c_bool (b : Bool) : cellsOf (.bool b) = some [.bool b] := rfl
theorem c_int (k : IntKind) (i : Int) : cellsOf (.int k i) = some [.int k i] := rfl
theorem c_str (s : List UInt8) : cellsOf (.str s) = some [.str s] := rfl
theorem c_sl (r : List (List AV)) : cellsOf (.sl r) = some [.sl r] := rfl
theorem c_nil : cellsOf .nilsl = some [.nilsl] := rfl
theorem c_acc (i s : Nat) (r : List (List AV)) : cellsOf (.acc i s r) = some [.acc i s r] := rfl
theorem c_ref (i s o l : Nat) : cellsOf (.ref i s o l) = some [.ref i s o l] := rfl
theorem c_ptr (i o : Nat) : cellsOf (.ptr i o) = some [.ptr i o] := rfl
theorem c_fn (f : FuncId) (l : List AV) : cellsOf (.fn f l) = some [.fn f l] := rfl
theorem b_int (z : List AV) (off : Nat) (pl : List (Nat × Nat)) (k : IntKind) (i : Int) (xs : List AV) : buildC z ((off, 1) :: pl) (.int k i :: xs) = if off < z.length then buildC (setCells z off [.int k i]) pl xs else none := buildC_one _ _ _ _ _ rfl
theorem b_str (z : List AV) (off : Nat) (pl : List (Nat × Nat)) (s : List UInt8) (xs : List AV) : buildC z ((off, 1) :: pl) (.str s :: xs) = if off < z.length then buildC (setCells z off [.str s]) pl xs else none := buildC_one _ _ _ _ _ rfl
theorem b_bool (z : List AV) (off : Nat) (pl : List (Nat × Nat)) (s : Bool) (xs : List AV) : buildC z ((off, 1) :: pl) (.bool s :: xs) = if off < z.length then buildC (setCells z off [.bool s]) pl xs else none := buildC_one _ _ _ _ _ rfl
theorem b_sl (z : List AV) (off : Nat) (pl : List (Nat × Nat)) (s : List (List AV)) (xs : List AV) : buildC z ((off, 1) :: pl) (.sl s :: xs) = if off < z.length then buildC (setCells z off [.sl s]) pl xs else none := buildC_one _ _ _ _ _ rfl
theorem b_nil (z : List AV) (off : Nat) (pl : List (Nat × Nat)) (xs : List AV) : buildC z ((off, 1) :: pl) (.nilsl :: xs) = if off < z.length then buildC (setCells z off [.nilsl]) pl xs else none := buildC_one _ _ _ _ _ rfl
theorem b_acc (z : List AV) (off : Nat) (pl : List (Nat × Nat)) (i s : Nat) (r : List (List AV)) (xs : List AV) : buildC z ((off, 1) :: pl) (.acc i s r :: xs) = if off < z.length then buildC (setCells z off [.acc i s r]) pl xs else none := buildC_one _ _ _ _ _ rfl
theorem b_ref (z : List AV) (off : Nat) (pl : List (Nat × Nat)) (i s o l : Nat) (xs : List AV) : buildC z ((off, 1) :: pl) (.ref i s o l :: xs) = if off < z.length then buildC (setCells z off [.ref i s o l]) pl xs else none := buildC_one _ _ _ _ _ rfl
theorem r_tmp (P : Program) (E : Env) (H : Heap) (t : Nat) (rs : List ResultVar) : retsL P E H (.tmp t :: rs) = (retsL P E H rs).map (val E t :: ·) := by
  simp only [retsL, ret1]; cases retsL P E H rs <;> rfl
theorem r_nil (P : Program) (E : Env) (H : Heap) : retsL P E H [] = some [] := rfl
theorem l_omap2 (r : AV) (rs : List AV) : (some rs).map (r :: ·) = some (r :: rs) := rfl
theorem rv_one (v : AV) : retV [v] = v := rfl
theorem rv_two (v u : AV) : retV [v, u] = .tup [v, u] := rfl
theorem rv_three (v u x : AV) : retV [v, u, x] = .tup [v, u, x] := rfl
theorem rv_none : retV [] = .tup [] := rfl
theorem fzt_tup (l : List AV) : fzt (.tup l) = .tup (l.map fz) := rfl
theorem fzt_agg (l : List AV) : fzt (.agg l) = .agg (l.map fz) := rfl
theorem fzt_bool (b : Bool) : fzt (.bool b) = .bool b := rfl
theorem fzt_int (k : IntKind) (i : Int) : fzt (.int k i) = .int k i := rfl
theorem fzt_str (s : List UInt8) : fzt (.str s) = .str s := rfl
theorem fzt_sl (r : List (List AV)) : fzt (.sl r) = .sl r := rfl
theorem fzt_nil : fzt .nilsl = .sl [] := rfl
theorem fzt_acc (i s : Nat) (r : List (List AV)) : fzt (.acc i s r) = .sl r := rfl
theorem l_fzt_nil : ([] : List AV).map fzt = [] := rfl
theorem l_fzt_cons (a : AV) (l : List AV) : (a :: l).map fzt = fzt a :: l.map fzt := rfl
theorem p_true_and (p : Prop) : (True ∧ p) = p := by simp
theorem p_and_true (p : Prop) : (p ∧ True) = p := by simp
theorem p_imp_true (p : Prop) : (p → True) = True := by simp
theorem p_tt : (true = true) = True := by simp
theorem p_ff : (false = false) = True := by simp
theorem p_tf : (true = false) = False := by simp
theorem p_ft : (false = true) = False := by simp
theorem p_ffalse (p : Prop) : (False → p) = True := by simp
theorem p_ttrue (p : Prop) : (True → p) = p := by simp
theorem b_or1 (b : Bool) : (true || b) = true := rfl
theorem b_or2 (b : Bool) : (false || b) = b := rfl
theorem b_or3 (b : Bool) : (b || false) = b := by simp
theorem b_or4 (b : Bool) : (b || true) = true := by simp
theorem b_and1 (b : Bool) : (true && b) = b := rfl
theorem b_and2 (b : Bool) : (false && b) = false := rfl
theorem b_and3 (b : Bool) : (b && true) = b := by simp
theorem b_and4 (b : Bool) : (b && false) = false := by simp
theorem b_not1 : (!true) = false := rfl
theorem b_not2 : (!false) = true := rfl
theorem o_some {α : Type} (o : Option α) : o = o := rfl
def AB := And.intro (@tx_mv) <|
  And.intro (@tx_pick) <|
  And.intro (@tx_alloc) <|
  And.intro (@tx_boxF_agg) <|
  And.intro (@tx_boxF_int) <|
  And.intro (@tx_boxF_str) <|
  And.intro (@tx_boxF_bool) <|
  And.intro (@tx_boxF_sl) <|
  And.intro (@tx_boxF_acc) <|
  And.intro (@tx_boxO_agg) <|
  And.intro (@tx_boxO_int) <|
  And.intro (@tx_boxO_str) <|
  And.intro (@tx_boxO_sl) <|
  And.intro (@tx_boxO_acc) <|
  And.intro (@tx_boxO_bool) <|
  And.intro (@tx_build) <|
  And.intro (@tx_bslF) <|
  And.intro (@tx_bslA) <|
  And.intro (@tx_bslO) <|
  And.intro (@tx_ldF) <|
  And.intro (@tx_add) <|
  And.intro (@tx_sub) <|
  And.intro (@tx_mul) <|
  And.intro (@tx_quo) <|
  And.intro (@tx_rem) <|
  And.intro (@tx_lss) <|
  And.intro (@tx_leq) <|
  And.intro (@tx_gtr) <|
  And.intro (@tx_geq) <|
  And.intro (@tx_eql) <|
  And.intro (@tx_neq) <|
  And.intro (@tx_sadd) <|
  And.intro (@tx_seql) <|
  And.intro (@tx_sneq) <|
  And.intro (@tx_binB) <|
  And.intro (@tx_nilsl) <|
  And.intro (@tx_nil_sl) <|
  And.intro (@tx_nil_acc) <|
  And.intro (@tx_eqS) <|
  And.intro (@tx_not) <|
  And.intro (@tx_neg) <|
  And.intro (@tx_cvI) <|
  And.intro (@tx_cvIS) <|
  And.intro (@tx_cvSS) <|
  And.intro (@tx_cvBS) <|
  And.intro (@tx_cvBS_acc) <|
  And.intro (@tx_cvBS_nil) <|
  And.intro (@tx_mkfn) <|
  And.intro (@tx_mksO) <|
  And.intro (@tx_mksA) <|
  And.intro (@tx_slS_n) <|
  And.intro (@tx_slS_l) <|
  And.intro (@tx_slS_h) <|
  And.intro (@tx_slS_lh) <|
  And.intro (@tx_slL_n) <|
  And.intro (@tx_slL_l) <|
  And.intro (@tx_slL_h) <|
  And.intro (@tx_slL_lh) <|
  And.intro (@tx_slA) <|
  And.intro (@tx_fldF) <|
  And.intro (@tx_fldO) <|
  And.intro (@tx_fld1) <|
  And.intro (@tx_fldS) <|
  And.intro (@tx_idxA) <|
  And.intro (@tx_idxA_acc) <|
  And.intro (@tx_idxA_ref) <|
  And.intro (@tx_idxS) <|
  And.intro (@tx_ext) <|
  And.intro (@tx_lenL) <|
  And.intro (@tx_lenA) <|
  And.intro (@tx_lenR) <|
  And.intro (@tx_lenN) <|
  And.intro (@tx_lenS) <|
  And.intro (@tx_app_acc) <|
  And.intro (@tx_app_nil) <|
  And.intro (@tx_min2) <|
  And.intro (@tx_max2) <|
  And.intro (@tx_min3) <|
  And.intro (@txOps_nil) <|
  And.intro (@tgd_und) <|
  And.intro (@tgd_true) <|
  And.intro (@tgd_false) <|
  And.intro (@tgd_tf) <|
  And.intro (@tgd_ft) <|
  And.intro (@tx_ldO) <|
  And.intro (@tx_st) <|
  And.intro (@tx_call2) <|
  And.intro (@txOps_cons) <|
  And.intro (@txOps_gd) <|
  And.intro (@tOK_some) <|
  And.intro (@tOK_ite) <|
  And.intro (@town_some) <|
  And.intro (@tv_bslV) <|
  And.intro (@tv_bslR) <|
  And.intro (@rawRows_nil) <|
  And.intro (@rawRows_agg) <|
  And.intro (@rawRows_int) <|
  And.intro (@rawRows_str) <|
  And.intro (@rawRows_bool) <|
  And.intro (@rawRows_sl) <|
  And.intro (@rawRows_nilsl) <|
  And.intro (@rawRows_acc) <|
  And.intro (@rawRows_ref) <|
  And.intro (@rawRows_vec) <|
  And.intro (@tv_mksV) <|
  And.intro (@tv_mksF) <|
  And.intro (@tv_slR) <|
  And.intro (@tv_slV) <|
  And.intro (@bnds_n) <|
  And.intro (@bnds_l) <|
  And.intro (@bnds_h) <|
  And.intro (@bnds_lh) <|
  And.intro (@tv_idxV) <|
  And.intro (@tv_ldV) <|
  And.intro (@tv_stV) <|
  And.intro (@tv_fldV) <|
  And.intro (@tv_nilV) <|
  And.intro (@tv_lenV) <|
  And.intro (@tv_capN) <|
  And.intro (@tv_appV_sl) <|
  And.intro (@tv_appV_acc) <|
  And.intro (@tv_appV_nil) <|
  And.intro (@tv_appV_ref) <|
  And.intro (@tv_appV_vec) <|
  And.intro (@tv_appN_sl) <|
  And.intro (@tv_appN_acc) <|
  And.intro (@tv_appN_ref) <|
  And.intro (@tv_clr) <|
  And.intro (@tvob_some) <|
  And.intro (@c_vec) <|
  And.intro (@pl_vec) <|
  And.intro (@b_vec) <|
  And.intro (@tv_boxO_vec) <|
  And.intro (@tv_boxO_nil) <|
  And.intro (@tv_boxO_fn) <|
  And.intro (@tv_boxO_ref) <|
  And.intro (@fz_vec) <|
  And.intro (@fzt_vec) <|
  And.intro (@fzt_ref) <|
  And.intro (@fzt_fn) <|
  And.intro (@tD_nil) <|
  And.intro (@tD_cons) <|
  And.intro (@tD_gd) <|
  And.intro (@zipC_nil) <|
  And.intro (@zipC_cons) <|
  And.intro (@xd_mv) <|
  And.intro (@xd_pick) <|
  And.intro (@xd_boxF) <|
  And.intro (@xd_build) <|
  And.intro (@xd_bslF) <|
  And.intro (@xd_bin) <|
  And.intro (@xd_binB) <|
  And.intro (@xd_eqS) <|
  And.intro (@xd_un) <|
  And.intro (@xd_cvI) <|
  And.intro (@xd_cvIS) <|
  And.intro (@xd_cvBS) <|
  And.intro (@xd_cvSS) <|
  And.intro (@xd_mkfn) <|
  And.intro (@xd_slS) <|
  And.intro (@xd_slL_sl) <|
  And.intro (@xd_slL_acc) <|
  And.intro (@xd_slL_ref) <|
  And.intro (@xd_slV) <|
  And.intro (@xd_idxV) <|
  And.intro (@xd_ldV) <|
  And.intro (@xd_fldV) <|
  And.intro (@xd_stV) <|
  And.intro (@xd_appV) <|
  And.intro (@xd_appVN) <|
  And.intro (@xd_bslV) <|
  And.intro (@xd_bslR) <|
  And.intro (@xd_mksV) <|
  And.intro (@xd_fldA) <|
  And.intro (@xd_fldA_o) <|
  And.intro (@xd_fld) <|
  And.intro (@xd_idxA) <|
  And.intro (@xd_idxA_acc) <|
  And.intro (@xd_idxA_ref) <|
  And.intro (@xd_idxS) <|
  And.intro (@xd_ext) <|
  And.intro (@xd_lenS) <|
  And.intro (@xd_lenL) <|
  And.intro (@xd_mnx) <|
  And.intro (@xd_ldF) <|
  And.intro (@xd_ldO) <|
  And.intro (@xd_alloc) <|
  And.intro (@xd_boxO) <|
  And.intro (@xd_bslA) <|
  And.intro (@xd_bslO) <|
  And.intro (@xd_st) <|
  And.intro (@xd_app) <|
  And.intro (@xd_appN) <|
  And.intro (@xd_mksO) <|
  And.intro (@xd_mksA) <|
  And.intro (@xd_call0) <|
  And.intro (@xd_call2) <|
  And.intro (@put_none) <|
  And.intro (@put_some) <|
  And.intro (@del_nil) <|
  And.intro (@del_cons) <|
  And.intro (@val_nil) <|
  And.intro (@val_cons) <|
  And.intro (@keepE_nil) <|
  And.intro (@keepE_cons) <|
  And.intro (@env0_nil) <|
  And.intro (@env0_cons) <|
  And.intro (@opd_t) <|
  And.intro (@opd_k) <|
  And.intro (@hget_cons) <|
  And.intro (@hset_cons) <|
  And.intro (@buildC_nil) <|
  And.intro (@buildC_agg) <|
  And.intro (@rowsOf_nil) <|
  And.intro (@rowsOf_agg) <|
  And.intro (@rowsOf_int) <|
  And.intro (@rowsOf_str) <|
  And.intro (@rowsOf_bool) <|
  And.intro (@rowsOf_sl) <|
  And.intro (@rowsOf_nilsl) <|
  And.intro (@rowsOf_acc) <|
  And.intro (@rowsOk_nil) <|
  And.intro (@rowsOk_cons) <|
  And.intro (@rowsOk_app) <|
  And.intro (@ldc_one) <|
  And.intro (@ldc_agg) <|
  And.intro (@rowsOfSl_sl) <|
  And.intro (@rowsOfSl_acc) <|
  And.intro (@rowsOfSl_nil) <| True.intro
def AL := And.intro (@emem_cons) <| And.intro @Esub_cons <| And.intro @Esub_nil <|And.intro (@l_opd_nil) <|
  And.intro (@l_opd_cons) <|
  And.intro (@l_len_nil) <|
  And.intro (@l_len_cons) <|
  And.intro (@l_lenr_nil) <|
  And.intro (@l_lenr_cons) <|
  And.intro (@l_lenr_app) <|
  And.intro (@l_con_nil) <|
  And.intro (@l_con_cons) <|
  And.intro (@l_drop0) <|
  And.intro (@l_dropS) <|
  And.intro (@l_drop1) <|
  And.intro (@l_drop2) <|
  And.intro (@l_drop3) <|
  And.intro (@l_drop4) <|
  And.intro (@l_drop5) <|
  And.intro (@l_drop6) <|
  And.intro (@l_drop7) <|
  And.intro (@l_take0) <|
  And.intro (@l_take1) <|
  And.intro (@l_take2) <|
  And.intro (@l_take3) <|
  And.intro (@l_take4) <|
  And.intro (@l_get0) <|
  And.intro (@l_get1) <|
  And.intro (@l_get2) <|
  And.intro (@l_get3) <|
  And.intro (@l_fz_nil) <|
  And.intro (@l_fz_cons) <|
  And.intro (@l_flat_nil) <|
  And.intro (@l_flat_cons) <|
  And.intro (@l_plain_nil) <|
  And.intro (@l_plain_cons) <|
  And.intro (@l_app_nil) <|
  And.intro (@l_app_cons) <|
  And.intro (@l_app_nil2) <|
  And.intro (@l_appr_nil) <|
  And.intro (@l_omap) <|
  And.intro (@l_setc0) <|
  And.intro (@l_setc1) <|
  And.intro (@l_setc2) <|
  And.intro (@l_setc3) <|
  And.intro (@l_setc4) <|
  And.intro (@f_bool) <|
  And.intro (@f_int) <|
  And.intro (@f_str) <|
  And.intro (@f_sl) <|
  And.intro (@f_nil) <|
  And.intro (@f_acc) <|
  And.intro (@f_agg) <|
  And.intro (@f_tup) <|
  And.intro (@f_fptr) <|
  And.intro (@f_ptr) <|
  And.intro (@f_fn) <|
  And.intro (@fl_bool) <|
  And.intro (@fl_int) <|
  And.intro (@fl_str) <|
  And.intro (@fl_sl) <|
  And.intro (@fl_nil) <|
  And.intro (@pl_bool) <|
  And.intro (@pl_int) <|
  And.intro (@pl_str) <|
  And.intro (@pl_sl) <|
  And.intro (@pl_nil) <|
  And.intro (@pl_acc) <|
  And.intro (@pl_ref) <|
  And.intro (@pl_ptr) <|
  And.intro (@pl_fn) <|
  And.intro (@c_agg) <|
  And.intro (@c_bool) <|
  And.intro (@c_int) <|
  And.intro (@c_str) <|
  And.intro (@c_sl) <|
  And.intro (@c_nil) <|
  And.intro (@c_acc) <|
  And.intro (@c_ref) <|
  And.intro (@c_ptr) <|
  And.intro (@c_fn) <|
  And.intro (@b_int) <|
  And.intro (@b_str) <|
  And.intro (@b_bool) <|
  And.intro (@b_sl) <|
  And.intro (@b_nil) <|
  And.intro (@b_acc) <|
  And.intro (@b_ref) <|
  And.intro (@r_tmp) <|
  And.intro (@r_nil) <|
  And.intro (@l_omap2) <|
  And.intro (@rv_one) <|
  And.intro (@rv_two) <|
  And.intro (@rv_three) <|
  And.intro (@rv_none) <|
  And.intro (@fzt_tup) <|
  And.intro (@fzt_agg) <|
  And.intro (@fzt_bool) <|
  And.intro (@fzt_int) <|
  And.intro (@fzt_str) <|
  And.intro (@fzt_sl) <|
  And.intro (@fzt_nil) <|
  And.intro (@fzt_acc) <|
  And.intro (@l_fzt_nil) <|
  And.intro (@l_fzt_cons) <|
  And.intro (@p_true_and) <|
  And.intro (@p_and_true) <|
  And.intro (@p_imp_true) <|
  And.intro (@p_tt) <|
  And.intro (@p_ff) <|
  And.intro (@p_tf) <|
  And.intro (@p_ft) <|
  And.intro (@p_ffalse) <|
  And.intro (@p_ttrue) <|
  And.intro (@b_or1) <|
  And.intro (@b_or2) <|
  And.intro (@b_or3) <|
  And.intro (@b_or4) <|
  And.intro (@b_and1) <|
  And.intro (@b_and2) <|
  And.intro (@b_and3) <|
  And.intro (@b_and4) <|
  And.intro (@b_not1) <|
  And.intro (@b_not2) <| True.intro
end Go.Ab
end
section
namespace Go.Ab
set_option linter.unusedVariables false

inductive RV where
  | tmp (t : Nat)
  | cell (a : Nat) (s : Option Nat)
def cRes (P : Program) : ResultVar → Option RV
  | .tmp t => some (.tmp t)
  | .cell a t => (ldSize P t).map (.cell a)

structure FX where
  nt : Nat
  rs : List RV
  F : Cfg
  x : XCode

structure Has (P : Program) (k : FuncId) (A : FX) : Prop where
  mo : P.follows .mixedOrders = true
  ex : ∃ fn, P.funcs[k]? = some fn ∧ fn.body.bind (cCode P A.nt A.F.md A.F.kp) = some A.x ∧ (fn.name == "runtime.NumGoroutine") = false ∧ fn.ntmps = A.nt ∧ allSome (fn.results.toList.map (cRes P)) = some A.rs

def XR (P : Program) (fn : Func) (rs : List RV) : Prop := allSome (fn.results.toList.map (cRes P)) = some rs

def ret1R (E : Env) (H : Heap) : RV → Option AV
  | .tmp t => some (val E t)
  | .cell a s => match val E a with
    | .ptr id off => match hget H id with
      | some (.own cells) => ldc s (cells.drop off)
      | _ => none
    | .fptr cs => ldc s cs
    | _ => none
def retR (E : Env) (H : Heap) : List RV → Option (List AV)
  | [] => some []
  | r :: rs => match ret1R E H r, retR E H rs with
    | some v, some vs => some (v :: vs)
    | _, _ => none

variable {P : Program} {X : Ctx} {F : Cfg} {k : List XItem} {E : Env} {n : Nat} {H : Heap}

theorem ret1_of {r : ResultVar} {q : RV} (h : cRes P r = some q) : ret1 P E H r = ret1R E H q := by
  cases r with
  | tmp t => simp only [cRes, Option.some.injEq] at h; subst h; rfl
  | cell a t =>
    simp only [cRes, Option.map_eq_some_iff] at h
    obtain ⟨s, hs, rfl⟩ := h
    simp only [ret1, ret1R, hs]
    cases val E a <;> rfl

theorem retsL_of : ∀ {l : List ResultVar} {rs : List RV}, allSome (l.map (cRes P)) = some rs → retsL P E H l = retR E H rs
  | [], rs, h => by
    simp only [List.map_nil, allSome, Option.some.injEq] at h
    subst h; rfl
  | r :: l, rs, h => by
    simp only [List.map_cons] at h
    cases hr : cRes P r with
    | none => rw [hr] at h; simp [allSome] at h
    | some q =>
      rw [hr] at h
      simp only [allSome, Option.map_eq_some_iff] at h
      obtain ⟨qs, hq, rfl⟩ := h
      simp only [retsL, retR, ret1_of hr, retsL_of hq]
      cases ret1R E H q with
      | none => rfl
      | some _ => cases retR E H qs <;> rfl

theorem S.ofH {f : FuncId} {A : FX} {args : List AV} {R : AV → Nat → Heap → Prop} (hk : Has P f A) (hn : Nat.ble args.length A.nt = true)
    (h : HB n H → ∀ fn, XR P fn A.rs → S P ⟨fn, f, n, R⟩ A.F [.code A.x] Tag.mk (env0 0 args) n H) : Runs P f args n H R := by
  obtain ⟨fn, h1, h2, h3, h4, h5⟩ := hk.ex
  exact S.of A.F h1 (by rw [h4]; exact h2) h3 (by rw [h4]; exact hn) fun hB => h hB fn h5

theorem S.retH {rs : List RV} {vs : List AV} {t : Tag (X, F, XItem.code .ret :: k)} (hr : XR P X.fn rs) (hv : retR E H rs = some vs) (hf : Fin X.n0 n H (retV vs) X.R) : S P X F (.code .ret :: k) t E n H :=
  S.ret (by rw [retsL_of hr]; exact hv) hf
theorem S.finH {rs : List RV} {vs : List AV} {t : Tag (X, F, ([] : List XItem))} (hr : XR P X.fn rs) (hv : retR E H rs = some vs) (hf : Fin X.n0 n H (retV vs) X.R) : S P X F [] t E n H :=
  S.fin (by rw [retsL_of hr]; exact hv) hf

theorem S.ofX {f : FuncId} {nt : Nat} {rs : List RV} {F : Cfg} {x : XCode} {args : List AV} {R : AV → Nat → Heap → Prop} (hk : Has P f ⟨nt, rs, F, x⟩) (hn : Nat.ble args.length nt = true)
    (h : HB n H → ∀ fn, XR P fn rs → S P ⟨fn, f, n, R⟩ F [.code x] Tag.mk (env0 0 args) n H) : Runs P f args n H R := S.ofH hk hn h

theorem S.retK {rs : List RV} {t : Tag (X, F, XItem.code .ret :: k)} (hr : XR P X.fn rs) (h : OK (retR E H rs) (fun vs => Fin X.n0 n H (retV vs) X.R) Tag.mk) : S P X F (.code .ret :: k) t E n H := by
  obtain ⟨vs, hv, hf⟩ := oK_elim h
  exact S.retH hr hv hf
def retC (H : Heap) (v : AV) (s : Option Nat) (K : AV → Prop) (t : Tag K) : Prop := match v with
  | .ptr id off => withOwn (hget H id) (fun cells => OK (ldc s (cells.drop off)) K Tag.mk) Tag.mk
  | .fptr cs => OK (ldc s cs) K Tag.mk
  | _ => False
theorem retK_nil (K : List AV → Prop) (t : Tag K) : OK (retR E H []) K t = K [] := rfl
theorem retK_tmp (i : Nat) (rs : List RV) (K : List AV → Prop) (t : Tag K) : OK (retR E H (.tmp i :: rs)) K t = OK (retR E H rs) (fun vs => K (val E i :: vs)) Tag.mk := by
  simp only [retR, ret1R, OK]
  cases retR E H rs <;> rfl
theorem retK_cell (i : Nat) (s : Option Nat) (rs : List RV) (K : List AV → Prop) (t : Tag K) : OK (retR E H (.cell i s :: rs)) K t = retC H (val E i) s (fun v => OK (retR E H rs) (fun vs => K (v :: vs)) Tag.mk) Tag.mk := by
  simp only [retR, ret1R, OK, retC]
  cases val E i <;> simp only [oK_none]
  case fptr cs => cases ldc s cs <;> simp only [oK_none, oK_some] <;> cases retR E H rs <;> rfl
  case ptr id off =>
    cases hget H id with
    | none => rfl
    | some o => cases o with
      | tok a b => rfl
      | vob a b c => rfl
      | own cells => simp only [withOwn]; cases ldc s (cells.drop off) <;> simp only [oK_none, oK_some] <;> cases retR E H rs <;> rfl
theorem retC_ptr (id off : Nat) (s : Option Nat) (K : AV → Prop) (t : Tag K) : retC H (.ptr id off) s K t = withOwn (hget H id) (fun cells => OK (ldc s (cells.drop off)) K Tag.mk) Tag.mk := rfl
theorem retC_fptr (cs : List AV) (s : Option Nat) (K : AV → Prop) (t : Tag K) : retC H (.fptr cs) s K t = OK (ldc s cs) K Tag.mk := rfl

/-- A pure function's return: all that it made is forgotten. -/
theorem Fin.pure {n0 : Nat} {v r : AV} {H0 : Heap} (hB : HB n0 H0) (hs : H0.Sublist H) (hb : below n0 (fzt v) = true) (he : fzt v = r) : Fin n0 n H v (fun v' n' H' => v' = r ∧ n' = n0 ∧ H' = H0) :=
  Fin.fz (Fin.low hb hB hs ⟨he, rfl, rfl⟩)

theorem u8_eq (a b : UInt8) : ((a.toNat : Int) == (b.toNat : Int)) = (a == b) := by
  by_cases h : a = b
  · simp [h]
  · have h2 : a.toNat ≠ b.toNat := fun e => h (UInt8.toNat_inj.mp e)
    rw [beq_eq_false_iff_ne.mpr h, beq_eq_false_iff_ne]
    omega
theorem u8_lit (a : UInt8) (k : Nat) (h : k < 256) : ((a.toNat : Int) == no_index (OfNat.ofNat k : Int)) = (a == UInt8.ofNat k) := by
  rw [← u8_eq]
  have : ((UInt8.ofNat k).toNat : Int) = (OfNat.ofNat k : Int) := by
    have h2 : (UInt8.ofNat k).toNat = k := by simp [UInt8.toNat_ofNat']; omega
    rw [h2]; rfl
  rw [this]
theorem toNat_subl (m k : Nat) : ((m : Int) - no_index (OfNat.ofNat k : Int)).toNat = m - k := by
  have : (OfNat.ofNat k : Int) = (k : Int) := rfl
  rw [this]; omega
theorem toNat_addl (m k : Nat) : ((m : Int) + no_index (OfNat.ofNat k : Int)).toNat = m + k := by
  have : (OfNat.ofNat k : Int) = (k : Int) := rfl
  rw [this]; omega
theorem if_ne {α : Sort _} {a b : Nat} [Decidable (a = b)] {x y : α} (h : a ≠ b) : (if a = b then x else y) = y := if_neg h
theorem getD_drop {α : Type} (s : List α) (i : Nat) (d : α) (h : i < s.length) : s.drop i = s.getD i d :: s.drop (i + 1) := by
  rw [List.drop_eq_getElem_cons h, List.getD_eq_getElem?_getD, List.getElem?_eq_getElem h]; rfl

/-- Round again. -/
theorem S.again {E' : Env} {n' : Nat} {H' : Heap} {t t' : Tag (X, F, k)} (h : S P X F k t E' n' H') (hE : keepE (E'.map Prod.fst) E = E') (hn : n ≤ n') (hH : H'.Sublist H) : S P X F k t' E n H := by
  have h1 : XS P X F k E' n' H' := h
  have h2 : XS P X F k E n' H' := XS.subv h1 (by rw [← hE]; exact keepE_val)
  exact h2.sub (fun p hp => hp) hH hn
theorem S.loop {σ : Type} (I : σ → Prop) (Es : σ → Env) (ns : σ → Nat) (Hs : σ → Heap) (μ : σ → Nat) (s0 : σ) {a : XCode} {t : Tag (X, F, XItem.code (.loop a) :: k)} (hE : keepE ((Es s0).map Prod.fst) E = Es s0) (h0 : I s0) (hn : n ≤ ns s0) (hH : (Hs s0).Sublist H)
    (round : ∀ s, I s → (∀ s', I s' → μ s' < μ s → S P X F (.inLoop a :: k) Tag.mk (Es s') (ns s') (Hs s')) → S P X F (.code a :: .inLoop a :: k) Tag.mk (Es s) (ns s) (Hs s)) :
    S P X F (.code (.loop a) :: k) t E n H := by
  refine S.again (E' := Es s0) (n' := ns s0) (H' := Hs s0) (t := Tag.mk) ?_ hE hn hH
  have key : ∀ m s, μ s = m → I s → XS P X F (.inLoop a :: k) (Es s) (ns s) (Hs s) := by
    intro m
    induction m using Nat.strongRecOn with
    | _ m ih =>
      intro s hs hI
      exact XS.inLoop (round s hI fun s' hI' hlt => ih (μ s') (hs ▸ hlt) s' rfl hI')
  exact XS.loop (key _ s0 rfl h0)
end Go.Ab
end
section
namespace Go.Ab
set_option linter.unusedVariables false
set_option linter.unusedSimpArgs false
set_option linter.defProp false

theorem map_getD {α β : Type} [Inhabited α] (f : α → β) (l : List α) (i : Nat) (d : β) (h : i < l.length) : (l.map f).getD i d = f (l.getD i default) := by
  simp [List.getD_eq_getElem?_getD, h]

/-- How data lies in cells. -/
class Dat (α : Type) where
  z : Nat
  row : α → List AV
  rl : ∀ a, (row a).length = z
  fl : ∀ a, (row a).all flat = true
  ff : ∀ a, (row a).map Ab.fz = row a
def enc {α : Type} [Dat α] (l : List α) : List (List AV) := l.map Dat.row
instance : Dat Int := ⟨1, fun i => [.int .i64 i], fun _ => rfl, fun _ => rfl, fun _ => rfl⟩
instance : Dat UInt8 := ⟨1, fun b => [.int .u8 (b.toNat : Int)], fun _ => rfl, fun _ => rfl, fun _ => rfl⟩
instance : Dat Bool := ⟨1, fun b => [.bool b], fun _ => rfl, fun _ => rfl, fun _ => rfl⟩
abbrev Str := List UInt8
instance (priority := high) : Dat (List UInt8) := ⟨1, fun s => [.str s], fun _ => rfl, fun _ => rfl, fun _ => rfl⟩
instance (priority := low) {α : Type} [Dat α] : Dat (List α) := ⟨1, fun l => [.sl (enc l)], fun _ => rfl, fun _ => rfl, fun _ => rfl⟩
instance {α β : Type} [Dat α] [Dat β] : Dat (α × β) := ⟨Dat.z α + Dat.z β, fun p => Dat.row p.1 ++ Dat.row p.2, fun p => by simp [Dat.rl], fun p => by rw [List.all_append, Dat.fl, Dat.fl]; rfl, fun p => by rw [List.map_append, Dat.ff, Dat.ff]⟩
section
variable {α β : Type} [Dat α] [Dat β]
theorem row_int (i : Int) : Dat.row i = [AV.int .i64 i] := rfl
theorem row_u8 (b : UInt8) : Dat.row b = [AV.int .u8 (b.toNat : Int)] := rfl
theorem row_bool (b : Bool) : Dat.row b = [AV.bool b] := rfl
theorem row_str (s : List UInt8) : Dat.row s = [AV.str s] := rfl
theorem row_pair (p : α × β) : Dat.row p = Dat.row p.1 ++ Dat.row p.2 := rfl
theorem row_ints (l : List Int) : Dat.row l = [AV.sl (enc l)] := rfl
theorem row_strs (l : List (List UInt8)) : Dat.row l = [AV.sl (enc l)] := rfl
theorem row_bools (l : List Bool) : Dat.row l = [AV.sl (enc l)] := rfl
theorem row_pairs (l : List (α × β)) : Dat.row l = [AV.sl (enc l)] := rfl
theorem row_lists (l : List (List α)) : @Dat.row (List (List α)) (@instDatList (List α) (@instDatList α _)) l = [AV.sl (enc l)] := rfl
theorem enc_nil : enc ([] : List α) = [] := rfl
theorem enc_cons (a : α) (l : List α) : enc (a :: l) = Dat.row a :: enc l := rfl
theorem enc_len (l : List α) : (enc l).length = l.length := by simp [enc]
theorem enc_getD [Inhabited α] (l : List α) (i : Nat) (h : i < l.length) : (enc l).getD i [] = Dat.row (l.getD i default) := map_getD _ l i [] h
theorem enc_ok {s : Nat} (l : List α) (h : s = Dat.z α) : rowsOk s (enc l) = True := by
  subst h
  simp only [rowsOk, enc, List.mem_map, forall_exists_index, and_imp, forall_apply_eq_imp_iff₂, eq_iff_iff, iff_true]
  exact fun a _ => ⟨Dat.rl a, Dat.fl a⟩
theorem enc_take (l : List α) (i : Nat) : (enc l).take i = enc (l.take i) := by simp [enc]
theorem enc_drop (l : List α) (i : Nat) : (enc l).drop i = enc (l.drop i) := by simp [enc]
theorem enc_app (l m : List α) : enc l ++ enc m = enc (l ++ m) := by simp [enc]
theorem enc_snoc (l : List α) (a : α) : enc (l ++ [a]) = enc l ++ [Dat.row a] := by simp [enc]
theorem enc_appI (l : List Int) (a : Int) : enc l ++ [[AV.int .i64 a]] = enc (l ++ [a]) := by rw [enc_snoc]; rfl
theorem enc_appS (l : List (List UInt8)) (a : List UInt8) : enc l ++ [[AV.str a]] = enc (l ++ [a]) := by rw [enc_snoc]; rfl
theorem enc_appB (l : List Bool) (a : Bool) : enc l ++ [[AV.bool a]] = enc (l ++ [a]) := by rw [enc_snoc]; rfl
theorem enc_flen (l : List α) : (enc l).flatten.length = l.length * Dat.z α := by
  rw [flatten_length (s := Dat.z α) (fun r hr => by obtain ⟨a, _, rfl⟩ := List.mem_map.mp hr; exact Dat.rl a), enc_len]
theorem enc_fz (l : List α) : (enc l).flatten.map Ab.fz = (enc l).flatten := by
  induction l with
  | nil => rfl
  | cons s l ih => rw [enc_cons, List.flatten_cons, List.map_append, Dat.ff, ih]
theorem enc_one (i : Int) : [[AV.int .i64 i]] = enc [i] := rfl
theorem enc_oneS (i : List UInt8) : [[AV.str i]] = enc [i] := rfl
end
abbrev strs (l : List (List UInt8)) : List (List AV) := enc l
abbrev ints (l : List Int) : List (List AV) := enc l
theorem strs_len (l : List (List UInt8)) : (strs l).length = l.length := enc_len l
theorem strs_getD (l : List (List UInt8)) (i : Nat) (h : i < l.length) : (strs l).getD i [] = [.str (l.getD i default)] := enc_getD l i h
theorem strs_ok (l : List (List UInt8)) : rowsOk 1 (strs l) = True := enc_ok l rfl
theorem strs_app1 (l : List (List UInt8)) (s : List UInt8) : strs l ++ [[AV.str s]] = strs (l ++ [s]) := enc_appS l s
theorem ints_len (l : List Int) : (ints l).length = l.length := enc_len l
theorem ints_getD (l : List Int) (i : Nat) (h : i < l.length) : (ints l).getD i [] = [.int .i64 (l.getD i default)] := enc_getD l i h
theorem ints_ok (l : List Int) : rowsOk 1 (ints l) = True := enc_ok l rfl
theorem ints_app1 (l : List Int) (s : Int) : ints l ++ [[AV.int .i64 s]] = ints (l ++ [s]) := enc_appI l s

theorem lenMax_eq : lenMax = 4294967296 := rfl
theorem bytesRows_one (i : Int) : bytesRows [[AV.int .u8 i]] = some [UInt8.ofNat i.toNat] := rfl
def bts (l : List UInt8) : List (List AV) := l.map fun b => [.int .u8 (b.toNat : Int)]
theorem bytesRows_bts (l : List UInt8) : bytesRows (bts l) = some l := by
  induction l with
  | nil => rfl
  | cons b l ih =>
    show (bytesRows (bts l)).map (UInt8.ofNat (b.toNat : Int).toNat :: ·) = _
    rw [ih]
    simp
theorem bts_len (l : List UInt8) : (bts l).length = l.length := by simp [bts]
theorem bts_app1 (l : List UInt8) (a : UInt8) : bts l ++ [[AV.int .u8 (a.toNat : Int)]] = bts (l ++ [a]) := by simp [bts]
theorem bts_ok (l : List UInt8) : rowsOk 1 (bts l) = True := by simp [rowsOk, bts, flat]
theorem tmod_lit (a k : Nat) : (a : Int).tmod (no_index (OfNat.ofNat k : Int)) = ((a % k : Nat) : Int) := by
  have : (OfNat.ofNat k : Int) = (k : Int) := rfl
  rw [this]; exact (Int.ofNat_tmod a k).symm
theorem tdiv_lit (a k : Nat) : (a : Int).tdiv (no_index (OfNat.ofNat k : Int)) = ((a / k : Nat) : Int) := by
  have : (OfNat.ofNat k : Int) = (k : Int) := rfl
  rw [this]; exact (Int.ofNat_tdiv a k).symm
theorem toNat_ladd (m k : Nat) : (no_index (OfNat.ofNat k : Int) + (m : Int)).toNat = k + m := by
  have : (OfNat.ofNat k : Int) = (k : Int) := rfl
  rw [this]; omega
theorem getD_n (d : Nat) : (none : Option Nat).getD d = d := rfl
theorem getD_s (a d : Nat) : (some a).getD d = a := rfl
theorem ldc_none (c : AV) (cs : List AV) : ldc none (c :: cs) = some c := rfl

theorem wrapU8 (k : Nat) : IntKind.u8.wrap (k : Int) = ((UInt8.ofNat k).toNat : Int) := by
  have e : IntKind.u8.wrap (k : Int) = (k : Int) % 256 := by simp [IntKind.wrap, IntKind.bits, IntKind.signed]
  rw [e, UInt8.toNat_ofNat']
  omega
def AE := And.intro @enc_len <| And.intro @enc_getD <| And.intro @enc_ok <| And.intro @enc_take <| And.intro @enc_drop <| And.intro @enc_app <| And.intro @enc_appI <| And.intro @enc_appS <| And.intro @enc_appB <|
  And.intro @row_int <| And.intro @row_u8 <| And.intro @row_bool <| And.intro @row_str <| And.intro @row_pair <| And.intro @row_ints <| And.intro @row_strs <| And.intro @row_bools <| And.intro @row_pairs <| And.intro @List.cons_append.{0} <| And.intro @List.nil_append.{0} <|
  And.intro @ldc_none <| And.intro @lenMax_eq <| And.intro @getD_n <| And.intro @getD_s <| And.intro @bytesRows_one <| And.intro @bytesRows_bts <| And.intro @bts_len <| And.intro @bts_app1 <| And.intro @bts_ok <| And.intro @tmod_lit <| And.intro @tdiv_lit <| And.intro @toNat_ladd True.intro

/-! ### Stores into a slice that was made -/
theorem setc_len (cells : List AV) (off : Nat) (x : List AV) (h : off + x.length ≤ cells.length) : (setCells cells off x).length = cells.length := by
  simp [setCells]; omega
theorem setc_take (cells : List AV) (off : Nat) (x : List AV) (h : off + x.length ≤ cells.length) : (setCells cells off x).take (off + x.length) = cells.take off ++ x := by
  unfold setCells
  rw [List.take_append_of_le_length (by simp; omega), List.take_of_length_le (by simp; omega)]

/-- The first i rows stand; the store of the next one. -/
theorem setc_next {cells x : List AV} {rows : List (List AV)} {i s : Nat} (h : cells.take (i * s) = rows.flatten) (hx : x.length = s) (hf : i * s + x.length ≤ cells.length) :
    (setCells cells (0 + i * s) x).take ((i + 1) * s) = (rows ++ [x]).flatten := by
  have e : (i + 1) * s = i * s + x.length := by rw [Nat.add_mul, Nat.one_mul, hx]
  rw [e, Nat.zero_add, setc_take _ _ _ hf, h]
  simp
theorem take_succ {α : Type} [Inhabited α] (l : List α) (i : Nat) (h : i < l.length) : l.take (i + 1) = l.take i ++ [l.getD i default] := by
  rw [List.take_add_one, List.getD_eq_getElem?_getD, List.getElem?_eq_getElem h]; rfl
theorem strs_fz (l : List (List UInt8)) : (strs l).flatten.map fz = (strs l).flatten := enc_fz l
theorem ints_fz (l : List Int) : (ints l).flatten.map fz = (ints l).flatten := enc_fz l

variable {g : Ghost} {n n0 : Nat} {w : World} {H H0 : Heap} {R : AV → Nat → Heap → Prop}

/-- A slice that the function made and owns is handed back by value. -/
theorem Fin.frz {id s len : Nat} {cells : List AV} {rows : List (List AV)} (hm : (id, HObj.own cells) ∈ H) (hid : n0 ≤ id) (hB : HB n0 H0) (hs : H0.Sublist H) (hr : rows.flatten = cells.map Ab.fz) (hl : rows.length = len)
    (hrow : rowsOk s rows) (h : R (.sl rows) n0 H0) : Fin n0 n H (.ref id s 0 len) R := by
  intro g w c hn hv hh
  cases hv with | ref _ _ _ _ cap hid' hk hc hroom =>
  obtain ⟨_, h1, h2, arr, el, vs, h3, h4, h5⟩ := hh.ent _ hm
  have hlen := h5.length
  have hflat : (cells.map Ab.fz).all flat = true := by
    rw [← hr, List.all_eq_true]
    intro a ha
    obtain ⟨r, hr', har⟩ := List.mem_flatten.mp ha
    exact List.all_eq_true.mp (hrow r hr').2 a har
  have hfl := flatten_length (fun r hr' => (hrow r hr').1)
  rw [hr, List.length_map] at hfl
  have hx : Ext n0 g w ⟨g.β, g.fr, upd g.φ (g.β id) cells.length⟩ w := by
    refine ⟨fun _ _ _ => rfl, fun b => ?_, fun _ _ => .inl ⟨rfl, rfl⟩, fun _ _ h => h⟩
    show g.φ b ≤ upd g.φ (g.β id) cells.length b
    by_cases hb : b = g.β id
    · subst hb; rw [h2]; exact Nat.zero_le _
    · rw [upd_ne _ _ hb]; exact Nat.le_refl _
  have hx0 : Ext 0 g w ⟨g.β, g.fr, upd g.φ (g.β id) cells.length⟩ w := hx.le (Nat.zero_le _)
  have hsz : vs.length ≤ arr.size := by
    rcases Nat.eq_zero_or_pos vs.length with h0 | h0
    · omega
    · have := h4 (vs.length - 1) _ (List.getElem?_eq_getElem (by omega))
      rcases Nat.lt_or_ge (vs.length - 1) arr.size with h6 | h6
      · omega
      · rw [Array.getElem?_eq_none h6] at this; cases this
  refine ⟨.sl rows, n0, H0, ⟨g.β, g.fr, upd g.φ (g.β id) cells.length⟩, h, Nat.le_refl _, ?_, ?_, ?_⟩
  · rw [← hl]
    refine .sl rows s _ (g.β id) 0 cap vs (fun _ => rfl) (by omega) (fun r hr' => (hrow r hr').1) (fun _ => ?_) ?_ ?_
    · show 0 + rows.length * s ≤ upd g.φ (g.β id) cells.length (g.β id)
      rw [upd_same]; omega
    · intro i v hi
      rw [Nat.zero_add]
      have := h4 i v hi
      simp only [World.cell?, h3, Option.isSome_none, Bool.false_eq_true, if_false]
      exact this
    · rw [hr]
      exact (h5.frz hflat).ext hx0 (Nat.le_refl _)
  · have hl0 := hh.lower hs hB
    have hne : ∀ p ∈ H0, g.β p.1 ≠ g.β id := fun p hp => apart_of hh (hs.subset hp) hm (by have := (hB p hp).1; omega)
    refine ⟨hl0.apart, fun p hp => ⟨(hl0.ent p hp).1, (hl0.ent p hp).2.ext hx (Nat.le_refl _) rfl rfl (upd_ne _ _ (hne p hp)) rfl⟩, fun b hb => ?_⟩
    by_cases hbb : b = g.β id
    · subst hbb
      refine ⟨arr, el, _, h3, ?_⟩
      show upd g.φ (g.β id) cells.length (g.β id) ≤ _
      rw [upd_same]; omega
    · have e : upd g.φ (g.β id) cells.length b = g.φ b := upd_ne _ _ hbb
      have hb' : 0 < upd g.φ (g.β id) cells.length b := hb
      show room w b (upd g.φ (g.β id) cells.length b)
      rw [e] at hb' ⊢
      exact hh.fsz b hb'
  · refine { hx with size := Nat.le_refl _, old := fun b hb hno => ⟨rfl, upd_ne _ _ (fun e => hno _ hm e.symm)⟩, owns := fun p hp => .inl ⟨p, hs.subset hp, rfl⟩, oth := Oth.refl w }
end Go.Ab
end
section
namespace Go.Ab
theorem rows_of {α : Type} (f : α → List AV) (p : α → Prop) : ∀ {rows : List (List AV)}, (∀ r ∈ rows, ∃ x, r = f x ∧ p x) → ∃ l : List α, rows = l.map f ∧ l.length = rows.length ∧ ∀ x ∈ l, p x
  | [], _ => ⟨[], rfl, rfl, fun x hx => by cases hx⟩
  | r :: rows, h => by
    obtain ⟨x, rfl, hx⟩ := h r (List.mem_cons_self ..)
    obtain ⟨l, rfl, hlen, hl⟩ := rows_of f p (fun r hr => h r (List.mem_cons_of_mem _ hr))
    exact ⟨x :: l, rfl, by simp, fun y hy => by
      rw [List.mem_cons] at hy
      rcases hy with rfl | hy
      · exact hx
      · exact hl y hy⟩
theorem getD_mem {α : Type} [Inhabited α] {l : List α} {i : Nat} (h : i < l.length) : l.getD i default ∈ l := by
  rw [List.getD_eq_getElem?_getD, List.getElem?_eq_getElem h]; exact List.getElem_mem h
theorem has_strs {cs : List AV} (h : HasS (.sl 1 .str) cs) : ∃ l : List (List UInt8), cs = [.sl (strs l)] ∧ l.length ≤ maxLen ∧ ∀ s ∈ l, s.length ≤ maxLen := by
  obtain ⟨rows, rfl, hl, hr⟩ := h
  obtain ⟨l, rfl, hlen, hs⟩ := rows_of (fun s : List UInt8 => [AV.str s]) (fun s => s.length ≤ maxLen) (fun r hr' => (hr r hr').2)
  exact ⟨l, rfl, by omega, hs⟩
theorem has_ints {cs : List AV} (h : HasS (.sl 1 (.int .i64)) cs) : ∃ l : List Int, cs = [.sl (ints l)] ∧ l.length ≤ maxLen ∧ ∀ i ∈ l, (Lit.int .i64 i).wf = true := by
  obtain ⟨rows, rfl, hl, hr⟩ := h
  obtain ⟨l, rfl, hlen, hs⟩ := rows_of (fun i : Int => [AV.int .i64 i]) (fun i => (Lit.int .i64 i).wf = true) (fun r hr' => (hr r hr').2)
  exact ⟨l, rfl, by omega, hs⟩
end Go.Ab
end
section
namespace Go.Ab
set_option linter.unusedVariables false
set_option linter.unusedSimpArgs false

variable {P : Program} {n : Nat} {H : Heap}

theorem Runs.map {f : FuncId} {args args' : List AV} {n1 : Nat} {H1 : Heap} {R1 R : AV → Nat → Heap → Prop} (h : Runs P f args' n1 H1 R1)
    (conv : ∀ (g : Ghost) (w : World) (cs : List Value), VRels g n w args cs → HRel g n H w → ∃ g1, VRels g1 n1 w args' cs ∧ HRel g1 n1 H1 w ∧ ∀ c w', Out g1 n1 w H1 R1 c w' → Out g n w H R c w') : Runs P f args n H R := by
  intro g w cs hv hh
  obtain ⟨g1, hv1, hh1, hc⟩ := conv g w cs hv hh
  have := h g1 w cs hv1 hh1
  split at this
  · exact hc _ _ this
  · exact (Calls.mono this fun e w' ⟨c, he, ho⟩ => ⟨c, he, hc _ _ ho⟩)
  · exact this.elim

def simple : AV → Bool
  | .bool _ | .int _ _ | .str _ => true
  | _ => false

theorem VRel.simp {g g' : Ghost} {n n' : Nat} {w w' : World} {v : AV} {c : Value} (hs : simple v = true) (h : VRel g n w v c) : VRel g' n' w' v c := by
  cases h <;> first | (simp [simple] at hs; done) | constructor
theorem VRels.simp {g g' : Ghost} {n n' : Nat} {w w' : World} {vs : List AV} {cs : List Value} (hs : vs.all simple = true) (h : VRels g n w vs cs) : VRels g' n' w' vs cs := by
  induction vs generalizing cs with
  | nil => cases h; exact .nil
  | cons a vs ih => cases h with | cons _ v _ us h t =>
    simp only [List.all_cons, Bool.and_eq_true] at hs
    exact .cons _ _ _ _ (h.simp hs.1) (ih hs.2 t)

/-- What is owned, seen by value. -/
inductive Bor (H : Heap) : AV → AV → Prop
  | same (v : AV) : Bor H v v
  | ref {id s len : Nat} {cells : List AV} {rows : List (List AV)} (hm : hget H id = some (.own cells)) (hr : rows.flatten = cells) (hl : rows.length = len) (hrow : ∀ r ∈ rows, r.length = s) (hs : cells.all simple = true) : Bor H (.ref id s 0 len) (.sl rows)
inductive Bors (H : Heap) : List AV → List AV → Prop
  | nil : Bors H [] []
  | cons {a b : AV} {as bs : List AV} (h : Bor H a b) (t : Bors H as bs) : Bors H (a :: as) (b :: bs)

def g1 (g : Ghost) (w : World) : Ghost := ⟨g.β, g.fr, phi0 w⟩

theorem room_phi {w : World} {b k : Nat} (h : room w b k) : k ≤ phi0 w b := by
  obtain ⟨c, el, fz, h1, h2⟩ := h
  unfold phi0
  rw [h1]; exact h2
theorem phi_room {w : World} {b : Nat} (h : 0 < phi0 w b) : room w b (phi0 w b) := (g0_rel w).fsz b h

theorem g1_ext {g : Ghost} {w : World} (hh : HRel g n H w) : Ext n g w (g1 g w) w := by
  refine ⟨fun _ _ _ => rfl, fun b => ?_, fun _ _ => .inl ⟨rfl, rfl⟩, fun _ _ h => h⟩
  show g.φ b ≤ phi0 w b
  rcases Nat.eq_zero_or_pos (g.φ b) with h | h
  · omega
  · exact room_phi (hh.fsz b h)
theorem g1_rel (g : Ghost) (w : World) (n : Nat) : HRel (g1 g w) n [] w := ⟨.nil, fun p hp => absurd hp (by simp), fun b hb => phi_room hb⟩

theorem Bor.rel {g : Ghost} {w : World} (hh : HRel g n H w) {a b : AV} {c : Value} (h : Bor H a b) (hv : VRel g n w a c) : VRel (g1 g w) n w b c := by
  cases h with
  | same => exact hv.ext (g1_ext hh) (Nat.le_refl _)
  | ref hm hr hl hrow hs =>
    rename_i id s len cells rows
    cases hv with | ref _ _ _ _ cap hid hk hc hroom =>
    obtain ⟨_, h1, h2, arr, el, vs, h3, h4, h5⟩ := hh.ent _ (hget_mem hm)
    have hlen := h5.length
    have hfl := flatten_length hrow
    rw [hr] at hfl
    rw [← hl]
    refine .sl rows s _ (g.β id) 0 cap vs (fun _ => rfl) (by omega) hrow (fun hne => ?_) ?_ ?_
    · show 0 + rows.length * s ≤ phi0 w (g.β id)
      rcases Nat.eq_zero_or_pos vs.length with h0 | h0
      · omega
      · have := h4 (vs.length - 1) _ (List.getElem?_eq_getElem (by omega))
        have hlt : vs.length - 1 < arr.size := by
          rcases Nat.lt_or_ge (vs.length - 1) arr.size with h6 | h6
          · exact h6
          · rw [Array.getElem?_eq_none h6] at this; cases this
        have : arr.size ≤ phi0 w (g.β id) := by unfold phi0; rw [h3]; exact Nat.le_refl _
        omega
    · intro i v hi
      rw [Nat.zero_add]
      have := h4 i v hi
      simp only [World.cell?, h3, Option.isSome_none, Bool.false_eq_true, if_false]
      exact this
    · rw [hr]; exact h5.simp hs
theorem Bors.rel {g : Ghost} {w : World} (hh : HRel g n H w) : ∀ {as bs : List AV} {cs : List Value}, Bors H as bs → VRels g n w as cs → VRels (g1 g w) n w bs cs
  | _, _, _, .nil, .nil => .nil
  | _, _, _, .cons h t, .cons _ _ _ _ hv tv => .cons _ _ _ _ (h.rel hh hv) (t.rel hh tv)

/-- Old blocks did not turn: everything stands as it did. -/
theorem stands {g : Ghost} {w w' : World} (hh : HRel g n H w) (hsz : w.heap.size ≤ w'.heap.size) (hold : ∀ b, b < w.heap.size → w'.heap[b]? = w.heap[b]?) : Ext n g w g w' ∧ HRel g n H w' := by
  have hx : Ext n g w g w' := by
    refine ⟨fun b i hi => ?_, fun _ => Nat.le_refl _, fun _ _ => .inl ⟨rfl, rfl⟩, fun b k ⟨c, el, fz, h1, h2⟩ => ?_⟩
    · have hb : b < w.heap.size := room_lt (hh.fsz b (by omega))
      simp only [World.cell?, hold b hb]
    · exact ⟨c, el, fz, by rw [hold b (room_lt (w := w) ⟨c, el, fz, h1, h2⟩)]; exact h1, h2⟩
  exact ⟨hx, hh.apart, fun p hp => ⟨(hh.ent p hp).1, (hh.ent p hp).2.ext hx (Nat.le_refl _) rfl rfl rfl (hold _ (hh.ent p hp).2.lt)⟩, fun b hb => hx.rooms _ _ (hh.fsz b hb)⟩

theorem RunsF.bor {f : FuncId} {args args' : List AV} {r : AV} {K : AV → Nat → Heap → Prop} {t : Tag K} (h : RunsF P f args' r) (hs : simple r = true) (hb : Bors H args args') (hk : K r n H) : RunsT P f args n H K t := by
  refine Runs.map (n := n) (H := H) (h n []) fun g w cs hv hh => ⟨g1 g w, hb.rel hh hv, g1_rel g w n, ?_⟩
  rintro c w' ⟨v, n', H', g2, ⟨rfl, rfl, rfl⟩, _, hv2, _, hg⟩
  have hold : ∀ b, b < w.heap.size → w'.heap[b]? = w.heap[b]? := fun b hb => (hg.old b hb (fun p hp => absurd hp (by simp))).1
  obtain ⟨hx, hh'⟩ := stands hh hg.size hold
  exact ⟨v, n', H, g, hk, Nat.le_refl _, hv2.simp hs, hh', { hx with size := hg.size, old := fun b hb _ => ⟨hold b hb, rfl⟩, owns := fun p hp => .inl ⟨p, hp, rfl⟩, oth := hg.oth }⟩

theorem Runs.ownFlat {f : FuncId} {args args' : List AV} {s : Nat} {rows : List (List AV)} {K : AV → Nat → Heap → Prop}
    (h : Runs P f args' 0 [] (fun v n' H' => (∃ id, v = .acc id s rows ∧ (id, HObj.tok s rows.length) ∈ H') ∨ (rows = [] ∧ v = .sl [])))
    (hsc : rows.flatten.all simple = true) (hb : Bors H args args') (hz : belows 0 args' = true) (hk1 : K (.ref n s 0 rows.length) (n + 1) ((n, .own rows.flatten) :: H)) (hk2 : rows = [] → K (.sl []) n H) : Runs P f args n H K := by
  refine Runs.map h fun g w cs hv hh => ⟨g0 w, ?_, g0_rel w, ?_⟩
  · have h1 := (hb.rel hh hv).lower hz
    exact h1.ext (g' := g0 w) (w' := w) (n' := 0) ⟨fun _ _ _ => rfl, fun _ => Nat.le_refl _, fun id hid => absurd hid (Nat.not_lt_zero _), fun _ _ h => h⟩ (Nat.le_refl _)
  · rintro c w' ⟨v, n2, H2, g2, hr, _, hv2, hh2, hg⟩
    have hold : ∀ b, b < w.heap.size → w'.heap[b]? = w.heap[b]? := fun b hb => (hg.old b hb (fun p hp => absurd hp (by simp))).1
    obtain ⟨hx, hh'⟩ := stands hh hg.size hold
    rcases hr with ⟨id, rfl, hm⟩ | ⟨hne, rfl⟩
    · obtain ⟨_, hfr, hphi, arr, el, harr, hsz⟩ := hh2.ent _ hm
      have hnew : w.heap.size ≤ g2.β id := by
        rcases hg.owns _ hm with ⟨q, hq, _⟩ | hle
        · cases hq
        · exact hle
      cases hv2 with | acc _ _ _ a b off cap vs ha hc hs hf hrun hvs hid hl =>
      obtain ⟨_, hloc⟩ := hl _ hfr
      obtain ⟨rfl, hroom⟩ := hloc rfl
      have hfl := flatten_length hs
      have hvl := hvs.length
      have hcell : ∀ (i : Nat) (v : Value), vs[i]? = some v → arr[i]? = some v := by
        intro i v hi
        have hne : rows ≠ [] := by
          rintro rfl
          have : vs = [] := List.eq_nil_of_length_eq_zero (by rw [← hvl]; rfl)
          subst this
          simp at hi
        have he := ha hne
        simp only [Option.some.injEq, Addr.mk.injEq, and_true] at he
        obtain ⟨rfl, rfl⟩ := he
        have := hrun i v hi
        rw [Nat.zero_add] at this
        simpa [World.cell?, harr] using this
      have hx' : Ext n g w ⟨upd g.β n (g2.β id), upd g.fr n none, g.φ⟩ w' :=
        ⟨hx.cells, fun _ => Nat.le_refl _, fun i hi => .inl ⟨upd_ne _ _ (Nat.ne_of_lt hi), upd_ne _ _ (Nat.ne_of_lt hi)⟩, hx.rooms⟩
      have hβ : ∀ p ∈ H, upd g.β n (g2.β id) p.1 = g.β p.1 := fun p hp => upd_ne _ _ (Nat.ne_of_lt (hh.ent p hp).1)
      have hlt : ∀ p ∈ H, g.β p.1 < w.heap.size := fun p hp => (hh.ent p hp).2.lt
      have hH : HRel ⟨upd g.β n (g2.β id), upd g.fr n none, g.φ⟩ n H w' := by
        refine ⟨hh.apart.imp_of_mem ?_, fun p hp => ⟨(hh.ent p hp).1, (hh.ent p hp).2.ext hx' (Nat.le_refl _) (hβ p hp) (upd_ne _ _ (Nat.ne_of_lt (hh.ent p hp).1)) rfl (hold _ (hlt p hp))⟩, hh'.fsz⟩
        intro p q hp hq hpq
        refine ⟨hpq.1, ?_⟩
        show upd g.β n (g2.β id) p.1 ≠ upd g.β n (g2.β id) q.1
        rw [hβ p hp, hβ q hq]; exact hpq.2
      have e1 : (⟨upd g.β n (g2.β id), upd g.fr n none, g.φ⟩ : Ghost).β n = g2.β id := upd_same _ _ _
      refine ⟨_, _, _, ⟨upd g.β n (g2.β id), upd g.fr n none, g.φ⟩, hk1, Nat.le_succ _, ?_, hH.add _ (fun p hp => ?_) ?_, ?_⟩
      · have := VRel.ref (g := ⟨upd g.β n (g2.β id), upd g.fr n none, g.φ⟩) (n := n + 1) (w := w') n s 0 rows.length cap (Nat.lt_succ_self _) (upd_same _ _ _) hc (by rw [e1, Nat.zero_add]; exact hroom)
        rw [e1] at this
        exact this
      · rw [e1]
        show upd g.β n (g2.β id) p.1 ≠ _
        rw [hβ p hp]
        have := hlt p hp
        omega
      · refine ⟨upd_same _ _ _, ?_, arr, el, vs, by rw [e1]; exact harr, hcell, hvs.simp hsc⟩
        rw [e1]
        exact hh.phi0 hnew
      · refine { hx' with size := hg.size, old := fun b hb _ => ⟨hold b hb, rfl⟩, owns := fun p hp => ?_, oth := hg.oth }
        rw [List.mem_cons] at hp
        rcases hp with rfl | hp
        · exact .inr (by rw [e1]; exact hnew)
        · exact .inl ⟨p, hp, (hβ p hp).symm⟩
    · subst hne
      refine ⟨_, n, H, g, hk2 rfl, Nat.le_refl _, ?_, hh', { hx with size := hg.size, old := fun b hb _ => ⟨hold b hb, rfl⟩, owns := fun p hp => .inl ⟨p, hp, rfl⟩, oth := hg.oth }⟩
      cases hv2 with | sl _ s a b off cap vs ha hc hs hf hrun hvs =>
      cases hvs
      exact .sl [] 0 _ 0 0 _ [] (fun h => absurd rfl h) hc (fun r hr => absurd hr (by simp)) (fun h => absurd rfl h) (fun i v hi => by simp at hi) .nil

theorem strs_simple0 (l : List (List UInt8)) : (Ab.strs l).flatten.all simple = true := by
  induction l with
  | nil => rfl
  | cons s l ih => rw [Ab.strs, enc_cons, List.flatten_cons, List.all_append]; exact Bool.and_eq_true_iff.mpr ⟨rfl, ih⟩
theorem ints_simple0 (l : List Int) : (Ab.ints l).flatten.all simple = true := by
  induction l with
  | nil => rfl
  | cons s l ih => rw [Ab.ints, enc_cons, List.flatten_cons, List.all_append]; exact Bool.and_eq_true_iff.mpr ⟨rfl, ih⟩
theorem Bor.strs {id : Nat} {l : List (List UInt8)} {len : Nat} (hl : l.length = len) (hm : hget H id = some (.own (Ab.strs l).flatten)) : Bor H (.ref id 1 0 len) (.sl (Ab.strs l)) :=
  .ref hm rfl (by rw [strs_len]; exact hl) (fun r hr => by obtain ⟨s, _, rfl⟩ := List.mem_map.mp hr; rfl) (strs_simple0 _)
theorem Bor.ints {id : Nat} {l : List Int} {len : Nat} (hl : l.length = len) (hm : hget H id = some (.own (Ab.ints l).flatten)) : Bor H (.ref id 1 0 len) (.sl (Ab.ints l)) :=
  .ref hm rfl (by rw [ints_len]; exact hl) (fun r hr => by obtain ⟨s, _, rfl⟩ := List.mem_map.mp hr; rfl) (ints_simple0 _)
theorem strs_simple (l : List (List UInt8)) : (strs l).flatten.all simple = true := strs_simple0 l
theorem ints_simple (l : List Int) : (ints l).flatten.all simple = true := ints_simple0 l

theorem hget_hset {H : Heap} {id : Nat} {x : HObj} (h : hget H id = some x) (o : HObj) : hget (hset H id o) id = some o := by
  induction H with
  | nil => simp [hget] at h
  | cons p H ih =>
    unfold hset
    by_cases hp : p.1 = id
    · rw [if_pos hp]; simp [hget]
    · rw [if_neg hp]
      have hf : (p.1 == id) = false := by simpa using hp
      simp only [hget, List.find?_cons, hf] at h ⊢
      exact ih h
theorem hset_cons2 (p : Nat × HObj) (H : Heap) (id : Nat) (o : HObj) : hset (p :: H) id o = if p.1 = id then (id, o) :: H else p :: hset H id o := rfl
theorem hset_hset (H : Heap) (id : Nat) (a b : HObj) : hset (hset H id a) id b = hset H id b := by
  induction H with
  | nil => rfl
  | cons p H ih =>
    rw [hset_cons2 p H id a, hset_cons2 p H id b]
    by_cases hp : p.1 = id
    · rw [if_pos hp, if_pos hp, hset_cons2, if_pos rfl]
    · rw [if_neg hp, if_neg hp, hset_cons2, if_neg hp, ih]
theorem hset_self {H : Heap} {id : Nat} {x : HObj} (h : hget H id = some x) : hset H id x = H := by
  induction H with
  | nil => rfl
  | cons p H ih =>
    unfold hset
    by_cases hp : p.1 = id
    · rw [if_pos hp]
      have hf : (p.1 == id) = true := by simpa using hp
      simp only [hget, List.find?_cons, hf, Option.map_some, Option.some.injEq] at h
      rw [← h, ← hp]
    · rw [if_neg hp]
      have hf : (p.1 == id) = false := by simpa using hp
      simp only [hget, List.find?_cons, hf] at h
      rw [ih h]

theorem Runs.det {f : FuncId} {args : List AV} {v : AV} {n' : Nat} {H' : Heap} {K : AV → Nat → Heap → Prop} {t : Tag K} (h : Runs P f args n H fun v1 n1 H1 => v1 = v ∧ n1 = n' ∧ H1 = H') (hk : K v n' H') : RunsT P f args n H K t :=
  h.mono fun _ _ _ ⟨e1, e2, e3⟩ => by subst e1 e2 e3; exact hk
theorem strs_flen (l : List (List UInt8)) : (strs l).flatten.length = l.length := by rw [strs, enc_flen]; exact Nat.mul_one _
theorem ints_flen (l : List Int) : (ints l).flatten.length = l.length := by rw [ints, enc_flen]; exact Nat.mul_one _

/-- A call that hands back a new slice. -/
def RunsA (P : Program) (f : FuncId) (args : List AV) (s : Nat) (rows : List (List AV)) : Prop :=
  ∀ n H, Runs P f args n H (fun v n' H' => (v = .acc n s rows ∧ n' = n + 1 ∧ H' = (n, .tok s rows.length) :: H) ∨ (rows = [] ∧ v = .sl [] ∧ n' = n ∧ H' = H))

theorem RunsA.f {f : FuncId} {args : List AV} {s : Nat} {rows : List (List AV)} (h : RunsA P f args s rows) : RunsF P f args (.sl rows) := by
  intro n H
  refine Runs.map (h n H) fun g w cs hv hh => ⟨g, hv, hh, ?_⟩
  rintro c w' ⟨v, n', H', g', hr, hle, hv', hh', hg⟩
  rcases hr with ⟨rfl, rfl, rfl⟩ | ⟨rfl, rfl, rfl, rfl⟩
  · have hs : H.Sublist ((n, HObj.tok s rows.length) :: H) := List.sublist_cons_self _ _
    exact ⟨.sl rows, n, H, g', ⟨rfl, rfl, rfl⟩, Nat.le_refl _, hv'.fzd.lower (by simp [fz, below]), hh'.lower hs hh.hb, hg.trans (Grow.dropH hs) (Nat.le_refl _)⟩
  · exact ⟨_, _, _, g', ⟨rfl, rfl, rfl⟩, hle, hv', hh', hg⟩

theorem RunsA.own {f : FuncId} {args args' : List AV} {s : Nat} {rows : List (List AV)} {K : AV → Nat → Heap → Prop} {t : Tag K} (h : RunsA P f args' s rows)
    (hsc : rows.flatten.all simple = true) (hb : Bors H args args') (hz : belows 0 args' = true) (hk1 : K (.ref n s 0 rows.length) (n + 1) ((n, .own rows.flatten) :: H)) (hk2 : rows = [] → K (.sl []) n H) : RunsT P f args n H K t :=
  Runs.ownFlat ((h 0 []).mono fun v n' H' hr => by
    rcases hr with ⟨rfl, rfl, rfl⟩ | ⟨rfl, rfl, rfl, rfl⟩
    · exact .inl ⟨_, rfl, List.mem_cons_self ..⟩
    · exact .inr ⟨rfl, rfl⟩) hsc hb hz hk1 hk2
end Go.Ab
end
section
namespace Go.Ab
set_option linter.unusedVariables false
set_option linter.unusedSimpArgs false

mutual
/-- v names, by the entries N of the heap, what t says by content. -/
inductive Tree (b : Bool) : Heap → AV → AV → Prop
  | leaf (v : AV) (h : simple v = true) : Tree b [] v v
  | nil : Tree b [] (.sl []) .nilsl
  | emp : Tree b [] (.sl []) (.sl [])
  | acc {id s : Nat} {rows : List (List AV)} (hb : b = true) (hs : rows.flatten.all simple = true) : Tree b [(id, .tok s rows.length)] (.sl rows) (.acc id s rows)
  | ref {id s : Nat} {rows : List (List AV)} {cells : List AV} {N : Heap} (hr : ∀ r ∈ rows, r.length = s) (t : Trees b N rows.flatten cells) : Tree b ((id, .own cells) :: N) (.sl rows) (.ref id s 0 rows.length)
  | vec {id ver s z : Nat} {rows : List (List AV)} {cells : List AV} {N : Heap} (hb : b = true) (hr : ∀ r ∈ rows, r.length = s) (t : Trees b N rows.flatten (cells.take (rows.length * s))) :
      Tree b ((id, .vob ver z cells) :: N) (.sl rows) (.vec id ver s 0 rows.length)
  | agg {N : Heap} {as cs : List AV} (t : Trees b N as cs) : Tree b N (.agg as) (.agg cs)
  | tup {N : Heap} {as cs : List AV} (t : Trees b N as cs) : Tree b N (.tup as) (.tup cs)
inductive Trees (b : Bool) : Heap → List AV → List AV → Prop
  | nil : Trees b [] [] []
  | cons {N M : Heap} {a c : AV} {as cs : List AV} (h : Tree b N a c) (t : Trees b M as cs) : Trees b (N ++ M) (a :: as) (c :: cs)
end

theorem Trees.leaves {b : Bool} : ∀ {l : List AV}, l.all simple = true → Trees b [] l l
  | [], _ => .nil
  | a :: l, h => by
    simp only [List.all_cons, Bool.and_eq_true] at h
    exact .cons (N := []) (M := []) (.leaf a h.1) (Trees.leaves h.2)
theorem Trees.length {b : Bool} {N : Heap} {as cs : List AV} (h : Trees b N as cs) : as.length = cs.length := by
  induction as generalizing N cs with
  | nil => cases h; rfl
  | cons a as ih => cases h with | cons _ t => simp [ih t]
theorem Trees.append {b : Bool} : ∀ {N M : Heap} {as cs bs ds : List AV}, Trees b N as cs → Trees b M bs ds → Trees b (N ++ M) (as ++ bs) (cs ++ ds)
  | _, _, _, _, _, _, .nil, h => h
  | _, _, _, _, _, _, .cons (N := N) (M := M) h t, h' => by
    rw [List.append_assoc]
    exact .cons h (t.append h')

theorem own_le {n : Nat} {g : Ghost} {w : World} {c : Array Value} {vs : List Value} (h4 : ∀ (i : Nat) (v : Value), vs[i]? = some v → c[i]? = some v) : vs.length ≤ c.size := by
  rcases Nat.lt_or_ge c.size vs.length with h' | h'
  · have := h4 c.size vs[c.size] (by rw [List.getElem?_eq_getElem h'])
    simp at this
  · exact h'

theorem run_of {w : World} {b : Nat} {c : Array Value} {el : TypeId} {vs : List Value} (h3 : w.heap[b]? = some (.cells c el (0, 0))) (h4 : ∀ (i : Nat) (v : Value), vs[i]? = some v → c[i]? = some v) : Run w b 0 vs := by
  intro i v hi
  rw [Nat.zero_add]
  have := h4 i v hi
  simpa [World.cell?, h3] using this

theorem phi_of {w : World} {b : Nat} {c : Array Value} {el : TypeId} (h3 : w.heap[b]? = some (.cells c el (0, 0))) : phi0 w b = c.size := by unfold phi0; rw [h3]

mutual
/-- Frozen, it reads as it says. -/
theorem Tree.frz {b : Bool} {G g : Ghost} {n : Nat} {w : World} : ∀ {N : Heap} {t v : AV} {c : Value}, Tree b N t v → VRel g n w v c → (∀ p ∈ N, EntRel g n w p.1 p.2 ∧ phi0 w (g.β p.1) ≤ G.φ (g.β p.1)) → VRel G 0 w t c
  | _, _, _, _, .leaf v h, hv, _ => hv.simp h
  | _, _, _, _, .nil, hv, _ => by cases hv; exact VRel.nil0
  | _, _, _, _, .emp, hv, _ => by
    cases hv with | sl _ s a b off cap vs ha hc hs hf hr hv =>
    cases hv
    exact .sl [] 0 _ 0 0 _ [] (fun h => absurd rfl h) hc (fun r hr => absurd hr (by simp)) (fun h => absurd rfl h) (fun i v hi => by simp at hi) .nil
  | _, _, _, _, .acc (id := id) (s := s) (rows := rows) hb hs, hv, hN => by
    obtain ⟨⟨hfr, hphi, c, el, h3, h4⟩, hG⟩ := hN _ (List.mem_singleton.mpr rfl)
    cases hv with | acc _ _ _ a b off cap vs ha hc hs' hf hr hvs hid hl =>
    obtain ⟨rfl, hroom⟩ := (hl _ hfr).2 rfl
    refine .sl rows s _ b off cap vs ha hc hs' (fun hne => ?_) hr (hvs.simp hs)
    have := ha hne
    simp only [Option.some.injEq, Addr.mk.injEq] at this
    obtain ⟨rfl, rfl, _⟩ := this
    rw [phi_of h3] at hG
    dsimp only at *
    omega
  | _, _, _, _, .ref (id := id) (s := s) (rows := rows) (cells := cells) (N := N) hr t, hv, hN => by
    obtain ⟨⟨hfr, hphi, c, el, vs, h3, h4, h5⟩, hG⟩ := hN _ (List.mem_cons_self ..)
    cases hv with | ref _ _ _ _ cap hid hk hc hroom =>
    have hvs := t.frz h5 (fun p hp => hN p (List.mem_cons_of_mem _ hp))
    have hl := hvs.length
    rw [flatten_length hr] at hl
    have hle := own_le (n := n) (g := g) (w := w) h4
    rw [phi_of h3] at hG
    dsimp only at *
    exact .sl rows s _ (g.β id) 0 cap vs (fun _ => rfl) hc hr (fun _ => by omega) (run_of h3 h4) hvs
  | _, _, _, _, .vec (id := id) (ver := ver) (s := s) (rows := rows) (cells := cells) (N := N) hb hr t, hv, hN => by
    obtain ⟨⟨hfr, hphi, c, el, vs, h3, h4, h5⟩, hG⟩ := hN _ (List.mem_cons_self ..)
    cases hv with | vec _ _ _ _ _ a cap hid hl =>
    obtain ⟨rfl, hc, hroom⟩ := (hl _ hfr).2 rfl
    have hvs := t.frz (h5.take (rows.length * s)) (fun p hp => hN p (List.mem_cons_of_mem _ hp))
    have hl := hvs.length
    rw [flatten_length hr] at hl
    have hle := own_le (n := n) (g := g) (w := w) h4
    rw [phi_of h3] at hG
    dsimp only at *
    have hl2 : (vs.take (rows.length * s)).length ≤ vs.length := by rw [List.length_take]; omega
    exact .sl rows s _ (g.β id) 0 cap _ (fun _ => rfl) hc hr (fun _ => by omega) ((run_of h3 h4).take _) hvs
  | _, _, _, _, .agg t, hv, hN => by cases hv with | agg _ vs h => exact .agg _ _ (t.frz h hN)
  | _, _, _, _, .tup t, hv, hN => by cases hv with | tup _ vs h => exact .tup _ _ (t.frz h hN)
theorem Trees.frz {b : Bool} {G g : Ghost} {n : Nat} {w : World} : ∀ {N : Heap} {ts vs : List AV} {cs : List Value}, Trees b N ts vs → VRels g n w vs cs → (∀ p ∈ N, EntRel g n w p.1 p.2 ∧ phi0 w (g.β p.1) ≤ G.φ (g.β p.1)) → VRels G 0 w ts cs
  | _, _, _, _, .nil, hv, _ => by cases hv; exact .nil
  | _, _, _, _, .cons h t, hv, hN => by
    cases hv with | cons _ c _ cs hv tv =>
    exact .cons _ _ _ _ (h.frz hv fun p hp => hN p (List.mem_append_left _ hp)) (t.frz tv fun p hp => hN p (List.mem_append_right _ hp))
end

mutual
/-- Taken over under new numbers: each block an owned one. -/
theorem Tree.take {b : Bool} {G g : Ghost} {n k : Nat} {w : World} (hG : ∀ j, G.β (k + j) = g.β j ∧ G.fr (k + j) = none) : ∀ {N : Heap} {t v : AV} {c : Value}, Tree b N t v → VRel g n w v c →
    (∀ p ∈ N, EntRel g n w p.1 p.2 ∧ G.φ (g.β p.1) = 0) → ∃ N' v', Tree false N' t v' ∧ VRel G (k + n) w v' c ∧ (∀ p ∈ N', EntRel G (k + n) w p.1 p.2) ∧ N'.map Prod.fst = N.map fun p => k + p.1
  | _, _, _, _, .leaf v h, hv, _ => ⟨[], v, .leaf v h, hv.simp h, (fun p hp => by cases hp), rfl⟩
  | _, _, _, _, .nil, hv, _ => by cases hv; exact ⟨[], .nilsl, .nil, .nilsl, (fun p hp => by cases hp), rfl⟩
  | _, _, _, _, .emp, hv, _ => by
    cases hv with | sl _ s a b off cap vs ha hc hs hf hr hv =>
    cases hv
    exact ⟨[], .sl [], .emp, .sl [] 0 _ 0 0 _ [] (fun h => absurd rfl h) hc (fun r hr => absurd hr (by simp)) (fun h => absurd rfl h) (fun i v hi => by simp at hi) .nil, (fun p hp => by cases hp), rfl⟩
  | _, _, _, _, .acc (id := id) (s := s) (rows := rows) hb hs, hv, hN => by
    obtain ⟨⟨hfr, hphi, c, el, h3, h4⟩, hG0⟩ := hN _ (List.mem_singleton.mpr rfl)
    cases hv with | acc _ _ _ a b off cap vs ha hc hs' hf hr hvs hid hl =>
    obtain ⟨rfl, hroom⟩ := (hl _ hfr).2 rfl
    obtain ⟨e1, e2⟩ := hG id
    refine ⟨[(k + id, .own rows.flatten)], .ref (k + id) s 0 rows.length, .ref hs' (Trees.leaves hs), ?_, ?_, rfl⟩
    · have := VRel.ref (g := G) (n := k + n) (w := w) (k + id) s 0 rows.length cap (by omega) e2 hc (by rw [e1, Nat.zero_add]; exact hroom)
      rwa [e1] at this
    · intro p hp
      rw [List.mem_singleton] at hp
      subst hp
      refine ⟨e2, by rw [e1]; exact hG0, c, el, vs, by rw [e1]; exact h3, ?_, hvs.simp hs⟩
      intro i v hi
      have hvl := hvs.length
      have hne : rows ≠ [] := by
        rintro rfl
        have : vs = [] := List.eq_nil_of_length_eq_zero (by rw [← hvl]; rfl)
        subst this
        simp at hi
      have he := ha hne
      simp only [Option.some.injEq, Addr.mk.injEq, and_true] at he
      obtain ⟨rfl, rfl⟩ := he
      have := hr i v hi
      rw [Nat.zero_add] at this
      simpa [World.cell?, h3] using this
  | _, _, _, _, .ref (id := id) (s := s) (rows := rows) (cells := cells) (N := N) hr t, hv, hN => by
    obtain ⟨⟨hfr, hphi, c, el, vs, h3, h4, h5⟩, hG0⟩ := hN _ (List.mem_cons_self ..)
    cases hv with | ref _ _ _ _ cap hid hk hc hroom =>
    obtain ⟨e1, e2⟩ := hG id
    obtain ⟨N', cells', q1, q2, q3, q4⟩ := t.take hG h5 (fun p hp => hN p (List.mem_cons_of_mem _ hp))
    refine ⟨(k + id, .own cells') :: N', .ref (k + id) s 0 rows.length, .ref hr q1, ?_, ?_, by simp [q4]⟩
    · have := VRel.ref (g := G) (n := k + n) (w := w) (k + id) s 0 rows.length cap (by omega) e2 hc (by rw [e1]; exact hroom)
      rwa [e1] at this
    · intro p hp
      rw [List.mem_cons] at hp
      rcases hp with rfl | hp
      · exact ⟨e2, by rw [e1]; exact hG0, c, el, vs, by rw [e1]; exact h3, h4, q2⟩
      · exact q3 p hp
  | _, _, _, _, .vec (id := id) (ver := ver) (s := s) (rows := rows) (cells := cells) (N := N) hb hr t, hv, hN => by
    obtain ⟨⟨hfr, hphi, c, el, vs, h3, h4, h5⟩, hG0⟩ := hN _ (List.mem_cons_self ..)
    cases hv with | vec _ _ _ _ _ a cap hid hl =>
    obtain ⟨rfl, hc, hroom⟩ := (hl _ hfr).2 rfl
    obtain ⟨e1, e2⟩ := hG id
    obtain ⟨N', cells', q1, q2, q3, q4⟩ := t.take hG (h5.take (rows.length * s)) (fun p hp => hN p (List.mem_cons_of_mem _ hp))
    refine ⟨(k + id, .own cells') :: N', .ref (k + id) s 0 rows.length, .ref hr q1, ?_, ?_, by simp [q4]⟩
    · have := VRel.ref (g := G) (n := k + n) (w := w) (k + id) s 0 rows.length cap (by omega) e2 hc (by rw [e1]; exact hroom)
      rwa [e1] at this
    · intro p hp
      rw [List.mem_cons] at hp
      rcases hp with rfl | hp
      · refine ⟨e2, by rw [e1]; exact hG0, c, el, _, by rw [e1]; exact h3, fun i v hi => ?_, q2⟩
        rw [List.getElem?_take] at hi
        split at hi
        · exact h4 i v hi
        · cases hi
      · exact q3 p hp
  | _, _, _, _, .agg t, hv, hN => by
    cases hv with | agg _ vs h =>
    obtain ⟨N', cs', q1, q2, q3, q4⟩ := t.take hG h hN
    exact ⟨N', .agg cs', .agg q1, .agg _ _ q2, q3, q4⟩
  | _, _, _, _, .tup t, hv, hN => by
    cases hv with | tup _ vs h =>
    obtain ⟨N', cs', q1, q2, q3, q4⟩ := t.take hG h hN
    exact ⟨N', .tup cs', .tup q1, .tup _ _ q2, q3, q4⟩
theorem Trees.take {b : Bool} {G g : Ghost} {n k : Nat} {w : World} (hG : ∀ j, G.β (k + j) = g.β j ∧ G.fr (k + j) = none) : ∀ {N : Heap} {ts vs : List AV} {cs : List Value}, Trees b N ts vs → VRels g n w vs cs →
    (∀ p ∈ N, EntRel g n w p.1 p.2 ∧ G.φ (g.β p.1) = 0) → ∃ N' vs', Trees false N' ts vs' ∧ VRels G (k + n) w vs' cs ∧ (∀ p ∈ N', EntRel G (k + n) w p.1 p.2) ∧ N'.map Prod.fst = N.map fun p => k + p.1
  | _, _, _, _, .nil, hv, _ => by cases hv; exact ⟨[], [], .nil, .nil, (fun p hp => by cases hp), rfl⟩
  | _, _, _, _, .cons (N := N) (M := M) h t, hv, hN => by
    cases hv with | cons _ c _ cs hv tv =>
    obtain ⟨N1, v1, a1, a2, a3, a4⟩ := h.take hG hv fun p hp => hN p (List.mem_append_left _ hp)
    obtain ⟨N2, v2, b1, b2, b3, b4⟩ := t.take hG tv fun p hp => hN p (List.mem_append_right _ hp)
    refine ⟨N1 ++ N2, v1 :: v2, .cons a1 b1, .cons _ _ _ _ a2 b2, fun p hp => ?_, by simp [a4, b4]⟩
    rw [List.mem_append] at hp
    rcases hp with hp | hp
    · exact a3 p hp
    · exact b3 p hp
end

variable {P : Program} {n : Nat} {H : Heap}

/-- New entries on top of the heap hold what is handed back. -/
def OwnR (b : Bool) (n : Nat) (H : Heap) (t : AV) (v : AV) (n' : Nat) (H' : Heap) : Prop := ∃ N, H' = N ++ H ∧ Tree b N t v ∧ ∀ p ∈ N, n ≤ p.1

/-- A call that hands back what nobody else holds. -/
def RunsO (P : Program) (f : FuncId) (args : List AV) (t : AV) : Prop := ∀ n H, Runs P f args n H (OwnR true n H t)

theorem Runs.frzR {b : Bool} {f : FuncId} {args : List AV} {t : AV} (h : Runs P f args n H (OwnR b n H t)) : Runs P f args n H fun v n' H' => v = t ∧ n' = n ∧ H' = H := by
  refine Runs.map h fun g w cs hv hh => ⟨g, hv, hh, ?_⟩
  rintro c w' ⟨v, n', H', g', ⟨N, rfl, ht, hN⟩, hle, hv', hh', hg⟩
  have hmem : ∀ p ∈ N, p ∈ N ++ H := fun p hp => List.mem_append_left _ hp
  let φ' : Nat → Nat := fun b => if N.any (fun p => g'.β p.1 == b) then phi0 w' b else g'.φ b
  have hφN : ∀ p ∈ N, φ' (g'.β p.1) = phi0 w' (g'.β p.1) := fun p hp => if_pos (List.any_eq_true.mpr ⟨p, hp, by simp⟩)
  have hφ : ∀ b, (∀ p ∈ N, g'.β p.1 ≠ b) → φ' b = g'.φ b := fun b hb => if_neg (by
    intro h
    obtain ⟨p, hp, e⟩ := List.any_eq_true.mp h
    exact hb p hp (by simpa using e))
  have hapart : ∀ p ∈ H, ∀ q ∈ N, g'.β q.1 ≠ g'.β p.1 := fun p hp q hq => by
    have := List.pairwise_append.mp hh'.apart
    exact (this.2.2 q hq p hp).2
  have hx : Ext n g' w' ⟨g'.β, g'.fr, φ'⟩ w' := by
    refine ⟨fun _ _ _ => rfl, fun b => ?_, fun _ _ => .inl ⟨rfl, rfl⟩, fun _ _ h => h⟩
    show g'.φ b ≤ φ' b
    by_cases hb : ∃ p ∈ N, g'.β p.1 = b
    · obtain ⟨p, hp, rfl⟩ := hb
      rw [hφN p hp]
      rcases Nat.eq_zero_or_pos (g'.φ (g'.β p.1)) with h0 | h0
      · omega
      · exact room_phi (hh'.fsz _ h0)
    · rw [hφ b (fun p hp e => hb ⟨p, hp, e⟩)]; exact Nat.le_refl _
  have hs : H.Sublist (N ++ H) := List.sublist_append_right _ _
  have hlow := hh'.lower hs hh.hb
  refine ⟨t, n, H, ⟨g'.β, g'.fr, φ'⟩, ⟨rfl, rfl, rfl⟩, Nat.le_refl _, ?_, ?_, ?_⟩
  · exact (ht.frz (G := ⟨g'.β, g'.fr, φ'⟩) hv' fun p hp => ⟨(hh'.ent p (hmem p hp)).2, by show _ ≤ φ' _; rw [hφN p hp]; exact Nat.le_refl _⟩).up
  · refine ⟨hlow.apart, fun p hp => ⟨(hlow.ent p hp).1, (hlow.ent p hp).2.ext hx (Nat.le_refl _) rfl rfl (hφ _ fun q hq => hapart p hp q hq) rfl⟩, fun b hb => ?_⟩
    have hb' : 0 < φ' b := hb
    show room w' b (φ' b)
    by_cases hbN : ∃ p ∈ N, g'.β p.1 = b
    · obtain ⟨p, hp, rfl⟩ := hbN
      rw [hφN p hp] at hb' ⊢
      exact phi_room hb'
    · have e := hφ b (fun p hp e => hbN ⟨p, hp, e⟩)
      rw [e] at hb' ⊢
      exact hh'.fsz b hb'
  · refine { hg.toExt.trans hx (Nat.le_refl _) with size := hg.size, old := fun b hb hno => ?_, owns := fun p hp => hg.owns p (List.mem_append_right _ hp), oth := hg.oth }
    obtain ⟨e1, e2⟩ := hg.old b hb hno
    refine ⟨e1, (hφ b fun p hp e => ?_).trans e2⟩
    rcases hg.owns p (hmem p hp) with ⟨q, hq, hqe⟩ | hle
    · exact hno q hq (hqe.trans e)
    · omega

theorem RunsO.f {f : FuncId} {args : List AV} {t : AV} (h : RunsO P f args t) : RunsF P f args t := fun n H => (h n H).frzR

/-! ### Lending -/
inductive Len (H : Heap) : AV → AV → Prop
  | same (v : AV) : Len H v v
  | fz (v : AV) : Len H v (fzt v)
  | tree {b : Bool} {N : Heap} {t v : AV} (ht : Tree b N t v) (hN : ∀ p ∈ N, p ∈ H) : Len H v t
inductive Lens (H : Heap) : List AV → List AV → Prop
  | nil : Lens H [] []
  | cons {a b : AV} {as bs : List AV} (h : Len H a b) (t : Lens H as bs) : Lens H (a :: as) (b :: bs)

theorem Len.rel {g : Ghost} {w : World} (hh : HRel g n H w) {a b : AV} {c : Value} (h : Len H a b) (hv : VRel g n w a c) : VRel (g1 g w) n w b c := by
  cases h with
  | same => exact hv.ext (g1_ext hh) (Nat.le_refl _)
  | fz => exact hv.fztd.ext (g1_ext hh) (Nat.le_refl _)
  | tree ht hN => exact (ht.frz (G := g1 g w) hv fun p hp => ⟨(hh.ent p (hN p hp)).2, Nat.le_refl _⟩).up
theorem Lens.rel {g : Ghost} {w : World} (hh : HRel g n H w) : ∀ {as bs : List AV} {cs : List Value}, Lens H as bs → VRels g n w as cs → VRels (g1 g w) n w bs cs
  | _, _, _, .nil, .nil => .nil
  | _, _, _, .cons h t, .cons _ _ _ _ hv tv => .cons _ _ _ _ (h.rel hh hv) (t.rel hh tv)

/-- What is owned is read by a call whose result names nothing. -/
theorem RunsF.len {f : FuncId} {args args' : List AV} {r : AV} {K : AV → Nat → Heap → Prop} {t : Tag K} (h : RunsF P f args' r) (hs : simple r = true) (hb : Lens H args args') (hk : K r n H) : RunsT P f args n H K t := by
  refine Runs.map (n := n) (H := H) (h n []) fun g w cs hv hh => ⟨g1 g w, hb.rel hh hv, g1_rel g w n, ?_⟩
  rintro c w' ⟨v, n', H', g2, ⟨rfl, rfl, rfl⟩, _, hv2, _, hg⟩
  have hold : ∀ b, b < w.heap.size → w'.heap[b]? = w.heap[b]? := fun b hb => (hg.old b hb (fun p hp => absurd hp (by simp))).1
  obtain ⟨hx, hh'⟩ := stands hh hg.size hold
  exact ⟨v, n', H, g, hk, Nat.le_refl _, hv2.simp hs, hh', { hx with size := hg.size, old := fun b hb _ => ⟨hold b hb, rfl⟩, owns := fun p hp => .inl ⟨p, hp, rfl⟩, oth := hg.oth }⟩

/-- What is owned is read by a call that makes a tree of its own; the tree is taken over. -/
theorem RunsO.close {f : FuncId} {args args' : List AV} {t : AV} (h : RunsO P f args' t) (hb : Lens H args args') (hz : belows 0 args' = true) : Runs P f args n H (OwnR false n H t) := by
  refine Runs.map (h 0 []) fun g w cs hv hh => ⟨g0 w, ?_, g0_rel w, ?_⟩
  · have h1 := (hb.rel hh hv).lower hz
    exact h1.ext (g' := g0 w) (w' := w) (n' := 0) ⟨fun _ _ _ => rfl, fun _ => Nat.le_refl _, fun id hid => absurd hid (Nat.not_lt_zero _), fun _ _ h => h⟩ (Nat.le_refl _)
  · rintro c w' ⟨v, n2, H2, g2, ⟨N, rfl, ht, _⟩, _, hv2, hh2, hg⟩
    rw [List.append_nil] at hh2 hg
    have hold : ∀ b, b < w.heap.size → w'.heap[b]? = w.heap[b]? := fun b hb => (hg.old b hb (fun p hp => absurd hp (by simp))).1
    obtain ⟨hx, hh'⟩ := stands hh hg.size hold
    have hnew : ∀ p ∈ N, w.heap.size ≤ g2.β p.1 := fun p hp => by
      rcases hg.owns p hp with ⟨q, hq, _⟩ | hle
      · cases hq
      · exact hle
    let G : Ghost := ⟨fun j => if j < n then g.β j else g2.β (j - n), fun j => if j < n then g.fr j else none, g.φ⟩
    have hGn : ∀ j, G.β (n + j) = g2.β j ∧ G.fr (n + j) = none := fun j =>
      ⟨by show (if n + j < n then _ else _) = _; rw [if_neg (by omega)]; congr 1; omega, by show (if n + j < n then _ else _) = _; rw [if_neg (by omega)]⟩
    have hGo : ∀ j, j < n → G.β j = g.β j ∧ G.fr j = g.fr j := fun j hj => ⟨if_pos hj, if_pos hj⟩
    obtain ⟨N', v', q1, q2, q3, q4⟩ := ht.take (G := G) (k := n) hGn hv2 fun p hp => ⟨(hh2.ent p hp).2, hh.phi0 (hnew p hp)⟩
    have hN' : ∀ p ∈ N', ∃ q ∈ N, p.1 = n + q.1 := fun p hp => by
      have : p.1 ∈ N'.map Prod.fst := List.mem_map.mpr ⟨p, hp, rfl⟩
      rw [q4] at this
      obtain ⟨q, hq, e⟩ := List.mem_map.mp this
      exact ⟨q, hq, e.symm⟩
    have hx' : Ext n g w G w' := ⟨hx.cells, fun _ => Nat.le_refl _, fun i hi => .inl (hGo i hi), hx.rooms⟩
    have hlt : ∀ p ∈ H, g.β p.1 < w.heap.size := fun p hp => (hh.ent p hp).2.lt
    refine ⟨v', n + n2, N' ++ H, G, ⟨N', rfl, q1, fun p hp => by obtain ⟨q, _, e⟩ := hN' p hp; omega⟩, Nat.le_add_right _ _, q2, ⟨?_, fun p hp => ?_, ?_⟩, ?_⟩
    · rw [List.pairwise_append]
      refine ⟨?_, ?_, ?_⟩
      · have e1 : (N'.map Prod.fst).Pairwise fun a b => a ≠ b ∧ G.β a ≠ G.β b := by
          rw [q4, List.pairwise_map]
          refine hh2.apart.imp fun {p q} hpq => ⟨by have := hpq.1; omega, ?_⟩
          rw [(hGn p.1).1, (hGn q.1).1]; exact hpq.2
        rwa [List.pairwise_map] at e1
      · refine hh.apart.imp_of_mem fun {p q} hp hq hpq => ⟨hpq.1, ?_⟩
        rw [(hGo p.1 (hh.ent p hp).1).1, (hGo q.1 (hh.ent q hq).1).1]; exact hpq.2
      · intro p hp q hq
        obtain ⟨r, hr, e⟩ := hN' p hp
        have hqn := (hh.ent q hq).1
        refine ⟨by omega, ?_⟩
        rw [e, (hGn r.1).1, (hGo q.1 hqn).1]
        have := hnew r hr
        have := hlt q hq
        omega
    · rw [List.mem_append] at hp
      rcases hp with hp | hp
      · obtain ⟨q, hq, e⟩ := hN' p hp
        have := (hh2.ent q hq).1
        exact ⟨by omega, q3 p hp⟩
      · have hpn := (hh.ent p hp).1
        exact ⟨by omega, (hh.ent p hp).2.ext hx' (Nat.le_add_right _ _) (hGo _ hpn).1 (hGo _ hpn).2 rfl (hold _ (hlt p hp))⟩
    · exact hh'.fsz
    · refine { hx' with size := hg.size, old := fun b hb _ => ⟨hold b hb, rfl⟩, owns := fun p hp => ?_, oth := hg.oth }
      rw [List.mem_append] at hp
      rcases hp with hp | hp
      · obtain ⟨q, hq, e⟩ := hN' p hp
        right
        rw [e, (hGn q.1).1]; exact hnew q hq
      · exact .inl ⟨p, hp, ((hGo p.1 (hh.ent p hp).1).1).symm⟩

/-- By value. -/
theorem RunsO.lenF {f : FuncId} {args args' : List AV} {r : AV} {K : AV → Nat → Heap → Prop} {t : Tag K} (h : RunsO P f args' r) (hb : Lens H args args') (hz : belows 0 args' = true) (hk : K r n H) : RunsT P f args n H K t :=
  (h.close hb hz).frzR.mono fun _ _ _ ⟨e1, e2, e3⟩ => by subst e1 e2 e3; exact hk
/-- Owned. -/
theorem RunsO.lenO {f : FuncId} {args args' : List AV} {r : AV} {K : AV → Nat → Heap → Prop} {t : Tag K} (h : RunsO P f args' r) (hb : Lens H args args') (hz : belows 0 args' = true)
    (hk : ∀ v n' N, Tree false N r v → (∀ p ∈ N, n ≤ p.1 ∧ p.1 < n') → n ≤ n' → K v n' (N ++ H)) : RunsT P f args n H K t := by
  intro g w cs hv hh
  have := h.close (H := H) hb hz g w cs hv hh
  split at this
  · obtain ⟨v, n', H', g', ⟨N, rfl, h1, h2⟩, hle, hv', hh', hg⟩ := this
    exact ⟨v, n', _, g', hk v n' N h1 (fun p hp => ⟨h2 p hp, (hh'.ent p (List.mem_append_left _ hp)).1⟩) hle, hle, hv', hh', hg⟩
  · refine Calls.mono this fun e w' ⟨c, he, ho⟩ => ⟨c, he, ?_⟩
    obtain ⟨v, n', H', g', ⟨N, rfl, h1, h2⟩, hle, hv', hh', hg⟩ := ho
    exact ⟨v, n', _, g', hk v n' N h1 (fun p hp => ⟨h2 p hp, (hh'.ent p (List.mem_append_left _ hp)).1⟩) hle, hle, hv', hh', hg⟩
  · exact this.elim

/-- An owned tree of the function's own is handed back. -/
theorem HRel.pick {g : Ghost} {w : World} {H' : Heap} (h : HRel g n H w) (hs : ∀ p ∈ H', p ∈ H) (hnd : (H'.map Prod.fst).Nodup) : HRel g n H' w := by
  refine ⟨?_, fun p hp => h.ent p (hs p hp), h.fsz⟩
  have : H'.Pairwise fun p q => p.1 ≠ q.1 := by rwa [List.Nodup, List.pairwise_map] at hnd
  exact this.imp_of_mem fun {p q} hp hq hpq => ⟨hpq, apart_of h (hs p hp) (o := q.2) (hs q hq) hpq⟩
theorem HB.fresh {n0 : Nat} {H0 : Heap} (hB : HB n0 H0) : ∀ p ∈ H0, p.1 < n0 := fun p hp => (hB p hp).1

theorem Fin.own {n0 : Nat} {v : AV} {R : AV → Nat → Heap → Prop} {H0 N : Heap} (hB : HB n0 H0) (hs : H0.Sublist H) (hN : ∀ p ∈ N, p ∈ H ∧ n0 ≤ p.1) (hnd : (N.map Prod.fst).Nodup) (h : R v n (N ++ H0)) : Fin n0 n H v R := by
  intro g w c hn hv hh
  have hnd0 : (H0.map Prod.fst).Nodup := by
    have := hh.apart.sublist hs
    rw [List.Nodup, List.pairwise_map]
    exact this.imp fun h => h.1
  have hmem : ∀ p ∈ N ++ H0, p ∈ H := fun p hp => by
    rw [List.mem_append] at hp
    rcases hp with hp | hp
    · exact (hN p hp).1
    · exact hs.subset hp
  have hnd' : ((N ++ H0).map Prod.fst).Nodup := by
    rw [List.map_append, List.nodup_append]
    refine ⟨hnd, hnd0, ?_⟩
    intro a ha b hb e
    obtain ⟨p, hp, rfl⟩ := List.mem_map.mp ha
    obtain ⟨q, hq, rfl⟩ := List.mem_map.mp hb
    have := (hN p hp).2
    have := (hB q hq).1
    omega
  exact ⟨v, n, N ++ H0, g, h, hn, hv, hh.pick hmem hnd', { Ext.refl n0 g w with size := Nat.le_refl _, old := fun _ _ _ => ⟨rfl, rfl⟩, owns := fun p hp => .inl ⟨p, hmem p hp, rfl⟩, oth := Oth.refl w }⟩
theorem Fin.tree {n0 : Nat} {v t : AV} {H0 N : Heap} (hB : HB n0 H0) (hs : H0.Sublist H) (hN : ∀ p ∈ N, p ∈ H ∧ n0 ≤ p.1) (hnd : (N.map Prod.fst).Nodup) (ht : Tree true N t v) : Fin n0 n H v (OwnR true n0 H0 t) :=
  Fin.own hB hs hN hnd ⟨N, rfl, ht, fun p hp => (hN p hp).2⟩
theorem Fin.treeL {n0 : Nat} {v t : AV} {H0 N : Heap} (hB : HB n0 H0) (hs : (N ++ H0).Sublist H) (hN : ∀ p ∈ N, n0 ≤ p.1) (ht : Tree true N t v) : Fin n0 n H v (OwnR true n0 H0 t) := by
  intro g w c hn hv hh
  have hnd : (N.map Prod.fst).Nodup := by
    have := hh.apart.sublist ((List.sublist_append_left N H0).trans hs)
    rw [List.Nodup, List.pairwise_map]
    exact this.imp fun h => h.1
  exact Fin.tree (t := t) hB ((List.sublist_append_right N H0).trans hs) (fun p hp => ⟨hs.subset (List.mem_append_left _ hp), hN p hp⟩) hnd ht g w c hn hv hh
theorem Fin.treeE {n0 : Nat} {v t t' : AV} {H0 N : Heap} (hB : HB n0 H0) (hs : (N ++ H0).Sublist H) (hN : ∀ p ∈ N, n0 ≤ p.1) (ht : Tree true N t v) (he : t = t') : Fin n0 n H v (OwnR true n0 H0 t') := by
  subst he; exact Fin.treeL hB hs hN ht
mutual
theorem Tree.up {N : Heap} {t v : AV} : Tree false N t v → Tree true N t v
  | .leaf v h => .leaf v h
  | .nil => .nil
  | .emp => .emp
  | .ref hr t => .ref hr t.up
  | .agg t => .agg t.up
  | .tup t => .tup t.up
theorem Trees.up {N : Heap} {t v : List AV} : Trees false N t v → Trees true N t v
  | .nil => .nil
  | .cons h t => .cons h.up t.up
end
theorem RunsO.apT {f : FuncId} {args args' : List AV} {r : AV} {K : AV → Nat → Heap → Prop} {t : Tag K} (h : RunsO P f args' r) (ha : args.map fzt = args') (hk : ∀ v n' N, Tree true N r v → (∀ p ∈ N, n ≤ p.1) → K v n' (N ++ H)) : RunsT P f args n H K t :=
  (Runs.fzt (by rw [ha]; exact h n H) : Runs P f args n H (OwnR true n H r)).mono fun v n' H' ⟨N, e, h1, h2⟩ => by subst e; exact hk v n' N h1 h2
/-- A flat slice that is taken over. -/
theorem RunsO.flat {f : FuncId} {args args' : List AV} {rows : List (List AV)} {K : AV → Nat → Heap → Prop} {t : Tag K} (h : RunsO P f args' (.sl rows)) (hsc : rows.flatten.all simple = true) (hb : Lens H args args') (hz : belows 0 args' = true)
    (hk1 : ∀ s id n', n ≤ id → (∀ r ∈ rows, r.length = s) → K (.ref id s 0 rows.length) n' ((id, .own rows.flatten) :: H)) (hk2 : rows = [] → ∀ n', K .nilsl n' H ∧ K (.sl []) n' H) : RunsT P f args n H K t := by
  refine RunsO.lenO h hb hz fun v n' N ht hN hle => ?_
  have hleaf : ∀ {N : Heap} {as cs : List AV}, Trees false N as cs → as.all simple = true → N = [] ∧ as = cs := by
    intro N as
    induction as generalizing N with
    | nil => intro cs h _; cases h; exact ⟨rfl, rfl⟩
    | cons a as ih =>
      intro cs h hs
      simp only [List.all_cons, Bool.and_eq_true] at hs
      cases h with | cons h t =>
      obtain ⟨rfl, rfl⟩ := ih t hs.2
      cases h <;> first | exact ⟨rfl, rfl⟩ | (simp [simple] at hs; done)
  cases ht with
  | nil => exact (hk2 rfl n').1
  | emp => exact (hk2 rfl n').2
  | leaf _ h => simp [simple] at h
  | acc hb _ => cases hb
  | vec hb _ _ => cases hb
  | ref hr t =>
    obtain ⟨rfl, rfl⟩ := hleaf t hsc
    exact hk1 _ _ _ (hN _ (List.mem_cons_self ..)).1 hr

/-- A call that writes into an owned tree, all of it, and into nothing else. -/
def MarkT (P : Program) (f : FuncId) (t : AV) (t' : Int → AV) (c : Nat) : Prop := ∀ (k : Int) (N : Heap) (v : AV) (n : Nat) (H : Heap), 0 ≤ k → k ≤ 4294967296 → Tree false N t v → (∀ p ∈ N, p ∈ H) → (N.map Prod.fst).Nodup →
  Runs P f [v, .int .i64 k] n H fun r n' H' => r = .int .i64 (k + c) ∧ n' = n ∧ ∃ N', Tree false N' (t' k) v ∧ (∀ p ∈ N', p ∈ H') ∧ N'.map Prod.fst = N.map Prod.fst ∧ ∀ p ∈ H, p.1 ∉ N.map Prod.fst → p ∈ H'
theorem MarkT.ap {f : FuncId} {t : AV} {t' : Int → AV} {c : Nat} {k : Int} {N : Heap} {v : AV} {K : AV → Nat → Heap → Prop} {tg : Tag K} (h : MarkT P f t t' c) (hk0 : 0 ≤ k) (hk1 : k ≤ 4294967296) (ht : Tree false N t v) (hN : ∀ p ∈ N, p ∈ H) (hnd : (N.map Prod.fst).Nodup)
    (hk : ∀ N' H', Tree false N' (t' k) v → (∀ p ∈ N', p ∈ H') → N'.map Prod.fst = N.map Prod.fst → (∀ p ∈ H, p.1 ∉ N.map Prod.fst → p ∈ H') → K (.int .i64 (k + c)) n H') : RunsT P f [v, .int .i64 k] n H K tg :=
  (h k N v n H hk0 hk1 ht hN hnd).mono fun r n' H' ⟨h1, h2, N', h3, h4, h5, h6⟩ => by subst h1 h2; exact hk N' H' h3 h4 h5 h6
theorem hget_of_mem {g : Ghost} {w : World} {id : Nat} {o : HObj} (hh : HRel g n H w) (h : (id, o) ∈ H) : hget H id = some o := by
  have hp := hh.apart
  clear hh
  induction H with
  | nil => cases h
  | cons p H ih =>
    rw [List.pairwise_cons] at hp
    rw [List.mem_cons] at h
    rw [show p = (p.1, p.2) from rfl, hget_cons]
    rcases h with rfl | h
    · rw [if_pos rfl]
    · rw [if_neg (hp.1 _ h).1]
      exact ih h hp.2
/-- What a heap says may be looked up. -/
theorem Runs.look {f : FuncId} {args : List AV} {R : AV → Nat → Heap → Prop} {id : Nat} {o : HObj} (hm : (id, o) ∈ H) (h : hget H id = some o → Runs P f args n H R) : Runs P f args n H R := by
  intro g w cs hv hh
  exact h (hget_of_mem hh hm) g w cs hv hh
theorem mem_hset_self {id : Nat} {o o' : HObj} (h : hget H id = some o) : (id, o') ∈ hset H id o' := hget_mem (hget_hset h o')
theorem mem_hset_other {id : Nat} {o : HObj} {p : Nat × HObj} (h : p ∈ H) (hne : p.1 ≠ id) : p ∈ hset H id o := by
  induction H with
  | nil => cases h
  | cons q H ih =>
    unfold hset
    rw [List.mem_cons] at h
    by_cases hq : q.1 = id
    · rw [if_pos hq]
      rcases h with rfl | h
      · exact absurd hq hne
      · exact List.mem_cons_of_mem _ h
    · rw [if_neg hq]
      rcases h with rfl | h
      · exact List.mem_cons_self ..
      · exact List.mem_cons_of_mem _ (ih h)
end Go.Ab
end
section
namespace Go.Ab
set_option linter.unusedVariables false
set_option linter.unusedSimpArgs false

mutual
inductive XN where
  | op (d : Option Nat) (o : XO) (as : List Opd)
  | sc (t : Nat) (want : Bool) (blk : XNs) (r : Opd) (d : Option Nat)
inductive XNs where
  | nil
  | cons (x : XN) (l : XNs)
end

def pickA (t : Nat) (want : Bool) (r : Opd) : List Opd := if want then [.t t, r, .k (.bool false)] else [.t t, .k (.bool true), r]
mutual
def flatN (g : Option (Nat × Bool)) : XN → List XOp
  | .op d o as => [⟨d, o, as, g⟩]
  | .sc t want blk r d => flatNs (some (t, want)) blk ++ [⟨d, .pick, pickA t want r, g⟩]
def flatNs (g : Option (Nat × Bool)) : XNs → List XOp
  | .nil => []
  | .cons x l => flatN g x ++ flatNs g l
end
mutual
def dstN : XN → List Nat
  | .op d _ _ => d.toList
  | .sc _ _ blk _ d => dstNs blk ++ d.toList
def dstNs : XNs → List Nat
  | .nil => []
  | .cons x l => dstN x ++ dstNs l
end
/-- What is known of the other slots. -/
def dels (S : List Nat) : Env → Env
  | [] => []
  | (i, a) :: E => if S.contains i = true then dels S E else (i, a) :: dels (i :: S) E
mutual
/-- A block's condition is made in the block before it. -/
def wfN (s : List Nat) : XN → Bool
  | .op _ _ _ => true
  | .sc t _ blk _ _ => s.contains t && !(dstNs blk).contains t && wfNs [] blk
def wfNs (s : List Nat) : XNs → Bool
  | .nil => true
  | .cons x l => wfN s x && wfNs (s ++ dstN x) l
end
mutual
def xN (P : Program) : XN → Env → Nat → Heap → (Env → Nat → Heap → Prop) → Prop
  | .op d o as, E, n, H, K => xop P o (as.map (Opd.val E)) n H fun v n' H' => K (put E d v) n' H'
  | .sc t want blk r d, E, n, H, K => ((dstNs blk).contains t = false ∧ wfNs [] blk = true) ∧ ∃ c, val E t = .bool c ∧ ∃ b, (c = want → xNs P blk E n H fun E' n' H' => r.val E' = .bool b ∧ n' = n ∧ H' = H) ∧
      K (put (dels (dstNs blk) E) d (.bool (if c = want then b else !want))) n H
def xNs (P : Program) : XNs → Env → Nat → Heap → (Env → Nat → Heap → Prop) → Prop
  | .nil, E, n, H, K => K E n H
  | .cons x l, E, n, H, K => xN P x E n H fun E n H => xNs P l E n H K
end

/-- Outside D nothing turned. -/
def Same (D : List Nat) (E E' : Env) : Prop := ∀ i, i ∉ D → val E' i = val E i
theorem Same.refl (D : List Nat) (E : Env) : Same D E E := fun _ _ => rfl
theorem Same.trans {D D' : List Nat} {E E1 E2 : Env} (h : Same D E E1) (h' : Same D' E1 E2) : Same (D ++ D') E E2 := fun i hi => by
  rw [h' i (fun h => hi (List.mem_append_right _ h)), h i (fun h => hi (List.mem_append_left _ h))]
theorem Same.put (E : Env) (d : Option Nat) (v : AV) : Same d.toList E (Ab.put E d v) := fun i hi => by
  cases d with
  | none => rfl
  | some d => exact val_put_ne _ _ _ _ (fun e => hi (by simp [e]))
theorem dels_nil (D : List Nat) : dels D [] = [] := rfl
theorem dels_cons (D : List Nat) (i : Nat) (a : AV) (E : Env) : dels D ((i, a) :: E) = if D.contains i = true then dels D E else (i, a) :: dels (i :: D) E := rfl
theorem dels_mem : ∀ {D : List Nat} {E : Env} {p : Nat × AV}, p ∈ dels D E → p.1 ∉ D ∧ p.2 = val E p.1
  | D, [], p, h => by cases h
  | D, (i, a) :: E, p, h => by
    rw [dels_cons] at h
    by_cases hi : D.contains i = true
    · rw [if_pos hi] at h
      obtain ⟨h1, h2⟩ := dels_mem h
      refine ⟨h1, ?_⟩
      have : i ≠ p.1 := by rintro rfl; exact h1 (by simpa using hi)
      rw [val_cons, if_neg this]; exact h2
    · rw [if_neg hi, List.mem_cons] at h
      rcases h with rfl | h
      · exact ⟨by simpa using hi, by rw [val_cons, if_pos rfl]⟩
      · obtain ⟨h1, h2⟩ := dels_mem h
        rw [List.mem_cons, not_or] at h1
        refine ⟨h1.2, ?_⟩
        rw [val_cons, if_neg (fun e => h1.1 e.symm)]; exact h2
theorem val_dels : ∀ {D : List Nat} {E : Env} {i : Nat}, i ∉ D → val (dels D E) i = val E i
  | D, [], i, h => rfl
  | D, (j, a) :: E, i, h => by
    rw [dels_cons]
    by_cases hj : D.contains j = true
    · have hji : j ≠ i := by rintro rfl; exact h (by simpa using hj)
      rw [if_pos hj, val_cons, if_neg hji]
      exact val_dels h
    · rw [if_neg hj, val_cons, val_cons]
      by_cases hji : j = i
      · rw [if_pos hji, if_pos hji]
      · rw [if_neg hji, if_neg hji]
        exact val_dels (fun hm => by rw [List.mem_cons] at hm; rcases hm with e | hm; exact hji e.symm; exact h hm)
mutual
theorem xN_mono {P : Program} : ∀ {x : XN} {E : Env} {n : Nat} {H : Heap} {K K' : Env → Nat → Heap → Prop}, (∀ E' n H, Same (dstN x) E E' → K E' n H → K' E' n H) → xN P x E n H K → xN P x E n H K'
  | .op d o as, E, n, H, K, K', hk, h => by
    simp only [xN] at h ⊢
    exact xop_mono (fun v n H h => hk _ _ _ (Same.put E d v) h) h
  | .sc t want blk r d, E, n, H, K, K', hk, h => by
    simp only [xN] at h ⊢
    obtain ⟨h0, c, hc, b, h1, h2⟩ := h
    refine ⟨h0, c, hc, b, h1, hk _ _ _ ?_ h2⟩
    intro i hi
    simp only [dstN, List.mem_append, not_or] at hi
    rw [Same.put _ _ _ i hi.2, val_dels hi.1]
theorem xNs_mono {P : Program} : ∀ {l : XNs} {E : Env} {n : Nat} {H : Heap} {K K' : Env → Nat → Heap → Prop}, (∀ E' n H, Same (dstNs l) E E' → K E' n H → K' E' n H) → xNs P l E n H K → xNs P l E n H K'
  | .nil, E, n, H, K, K', hk, h => by simp only [xNs] at h ⊢; exact hk _ _ _ (Same.refl _ _) h
  | .cons x l, E, n, H, K, K', hk, h => by
    simp only [xNs] at h ⊢
    refine xN_mono (fun E1 n1 H1 hs1 h1 => xNs_mono (fun E2 n2 H2 hs2 h2 => hk _ _ _ ?_ h2) h1) h
    simp only [dstNs]
    exact hs1.trans hs2
end

/-- The guard is known not to hold. -/
def undef (E : Env) (g : Option (Nat × Bool)) : Prop := match g with
  | none => False
  | some (t, want) => val E t = .tup [] ∨ val E t = .bool (!want)
theorem xOps_app {P : Program} : ∀ {l m : List XOp} {E : Env} {n : Nat} {H : Heap} {K : Env → Nat → Heap → Prop}, xOps P l E n H (fun E n H => xOps P m E n H K) → xOps P (l ++ m) E n H K
  | [], m, E, n, H, K, h => h
  | x :: l, m, E, n, H, K, h => by
    simp only [List.cons_append]
    unfold xOps at h ⊢
    cases hg : x.guard with
    | none =>
      simp only [hg] at h ⊢
      exact xop_mono (fun v n H h => xOps_app h) h
    | some p =>
      obtain ⟨t, want⟩ := p
      simp only [hg, gd] at h ⊢
      split at h
      · exact ⟨fun e => xop_mono (fun v n H h => xOps_app h) (h.1 e), fun e => xOps_app (h.2 e)⟩
      · exact xOps_app h
      · exact h.elim
theorem sk_op {P : Program} {d : Option Nat} {o : XO} {as : List Opd} {g : Option (Nat × Bool)} {E : Env} {n : Nat} {H : Heap} {K : Env → Nat → Heap → Prop} (hu : undef E g) (h : K (put E d (.tup [])) n H) : xOps P [⟨d, o, as, g⟩] E n H K := by
  cases g with
  | none => exact hu.elim
  | some p =>
    obtain ⟨t, want⟩ := p
    simp only [undef] at hu
    simp only [xOps, gd]
    rcases hu with hu | hu
    · rw [hu]; exact h
    · rw [hu]
      exact ⟨fun e => by cases want <;> simp at e, fun _ => h⟩
theorem undef_same {D : List Nat} {E E' : Env} {g : Option (Nat × Bool)} (hs : Same D E E') (hd : ∀ t w, g = some (t, w) → t ∉ D) (hu : undef E g) : undef E' g := by
  cases g with
  | none => exact hu
  | some p =>
    obtain ⟨t, want⟩ := p
    simp only [undef] at hu ⊢
    rw [hs t (hd t want rfl)]; exact hu
mutual
theorem skN {P : Program} : ∀ {x : XN} {S : List Nat} {g : Option (Nat × Bool)} {E : Env} {n : Nat} {H : Heap} {K : Env → Nat → Heap → Prop}, wfN S x = true → (∀ s ∈ S, val E s = .tup []) → undef E g → (∀ t w, g = some (t, w) → t ∉ dstN x) →
    (∀ E', Same (dstN x) E E' → (∀ i ∈ dstN x, val E' i = .tup []) → K E' n H) → xOps P (flatN g x) E n H K
  | .op d o as, S, g, E, n, H, K, _, _, hu, _, hk => by
    refine sk_op hu (hk _ (Same.put E d _) fun i hi => ?_)
    cases d with
    | none => simp [dstN] at hi
    | some d => simp only [dstN, Option.toList_some, List.mem_singleton] at hi; subst hi; exact val_put_same _ _ _
  | .sc t want blk r d, S, g, E, n, H, K, hw, hS, hu, hd, hk => by
    simp only [wfN, Bool.and_eq_true, Bool.not_eq_true', List.contains_eq_mem, decide_eq_true_eq, decide_eq_false_iff_not] at hw
    obtain ⟨⟨h1, h2⟩, h3⟩ := hw
    simp only [flatN]
    refine xOps_app (skNs (S := []) h3 (fun s hs => by cases hs) (g := some (t, want)) (Or.inl (hS t h1)) (fun t' w' e => by cases e; exact h2) fun E' hs' ht' => ?_)
    have hg : ∀ t w, g = some (t, w) → t ∉ dstNs blk := fun t w e h => hd t w e (List.mem_append_left _ h)
    refine sk_op (undef_same hs' hg hu) (hk _ ?_ fun i hi => ?_)
    · simp only [dstN]
      exact hs'.trans (Same.put _ _ _)
    · simp only [dstN, List.mem_append] at hi
      cases d with
      | none => rcases hi with hi | hi
                · exact ht' i hi
                · simp at hi
      | some d =>
        by_cases e : i = d
        · subst e; exact val_put_same _ _ _
        · rw [val_put_ne _ _ _ _ e]
          rcases hi with hi | hi
          · exact ht' i hi
          · simp at hi; exact absurd hi e
theorem skNs {P : Program} : ∀ {l : XNs} {S : List Nat} {g : Option (Nat × Bool)} {E : Env} {n : Nat} {H : Heap} {K : Env → Nat → Heap → Prop}, wfNs S l = true → (∀ s ∈ S, val E s = .tup []) → undef E g → (∀ t w, g = some (t, w) → t ∉ dstNs l) →
    (∀ E', Same (dstNs l) E E' → (∀ i ∈ dstNs l, val E' i = .tup []) → K E' n H) → xOps P (flatNs g l) E n H K
  | .nil, S, g, E, n, H, K, _, _, _, _, hk => hk E (Same.refl _ _) (fun i hi => by simp [dstNs] at hi)
  | .cons x l, S, g, E, n, H, K, hw, hS, hu, hd, hk => by
    simp only [wfNs, Bool.and_eq_true] at hw
    simp only [flatNs]
    refine xOps_app (skN (S := S) hw.1 hS hu (fun t w e h => hd t w e (List.mem_append_left _ h)) fun E1 hs1 ht1 => ?_)
    refine skNs (S := S ++ dstN x) hw.2 ?_ (undef_same hs1 (fun t w e h => hd t w e (List.mem_append_left _ h)) hu) (fun t w e h => hd t w e (List.mem_append_right _ h)) fun E2 hs2 ht2 => hk E2 ?_ ?_
    · intro s hs
      rw [List.mem_append] at hs
      by_cases hx : s ∈ dstN x
      · exact ht1 s hx
      · rcases hs with hs | hs
        · rw [hs1 s hx]; exact hS s hs
        · exact absurd hs hx
    · simp only [dstNs]; exact hs1.trans hs2
    · intro i hi
      simp only [dstNs, List.mem_append] at hi
      by_cases hl : i ∈ dstNs l
      · exact ht2 i hl
      · rcases hi with hi | hi
        · rw [hs2 i hl]; exact ht1 i hi
        · exact absurd hi hl
end

variable {P : Program} {X : Ctx} {F : Cfg} {k : List XItem} {n : Nat} {H : Heap}
/-- The first operations of a region, then the others. -/
theorem XS.opsA {rest : List XOp} : ∀ {l : List XOp} {E : Env} {n : Nat} {H : Heap}, xOps P l E n H (fun E n H => XS P X F (.ops rest :: k) E n H) → XS P X F (.ops (l ++ rest) :: k) E n H
  | [], E, n, H, h => h
  | x :: l, E, n, H, h => by
    intro k' hk
    obtain ⟨y, ys, rfl, h1, h2⟩ := hk.cons
    cases y <;> first | exact h1.elim | skip
    rename_i ops idxs
    have h1' : (x :: (l ++ rest)).map some = idxs.map fun i => (ops[i]?).bind (cOper P X.fn.ntmps F.md ops) := h1
    cases idxs with
    | nil => simp at h1'
    | cons i is =>
      rw [List.map_cons, List.map_cons, List.cons.injEq] at h1'
      obtain ⟨hx, hl⟩ := h1'
      have hx' := hx.symm
      rw [Option.bind_eq_some_iff] at hx'
      obtain ⟨o, ho, hco⟩ := hx'
      obtain ⟨hd, hdst, hop, hargs, hguard⟩ := cOper_spec hco
      have rest' : ∀ {v : AV} {n' : Nat} {H' : Heap}, xOps P l (put E x.dst v) n' H' (fun E n H => XS P X F (.ops rest :: k) E n H) → SimK P X (.inRegion ops is :: ys) (put E o.dst v) n' H' := by
        intro v n' H' hv
        rw [hdst]
        exact XS.opsA hv (.inRegion ops is :: ys) ⟨hl, h2⟩
      have run : xop P x.op (x.args.map (Opd.val E)) n H (fun v n' H' => xOps P l (put E x.dst v) n' H' fun E n H => XS P X F (.ops rest :: k) E n H) → (∀ (g : Ghost) (w : World) (a : Act), ERel g n w E a.tmps → HRel g n H w → Region.wanted o (yielded ops a.tmps) = true) →
          SimK P X (.inRegion ops (i :: is) :: ys) E n H := by
        intro hrun hwant
        refine SimK.op ho hd (R := fun v n' H' => xOps P l (put E x.dst v) n' H' fun E n H => XS P X F (.ops rest :: k) E n H) (fun g w a he hh => ⟨hwant g w a he hh, ?_⟩) (fun v n' H' hr => rest' hr)
        refine xop_sound hop ?_ hh hrun
        rw [hargs]
        exact cOpds_rel he _
      unfold xOps at h
      rcases hguard with ⟨hg, hxg⟩ | ⟨j, want, t, hg, ht, hxg⟩
      · rw [hxg] at h
        exact run h (fun g w a _ _ => by simp [Region.wanted, hg])
      · rw [hxg] at h
        simp only [gd] at h
        split at h
        · rename_i b hb
          by_cases hbw : b = want
          · exact run (h.1 hbw) (fun g w a he _ => by rw [wanted_of hg ht he hb, hbw]; simp)
          · refine SimK.opSkip ho hd (fun g w a he => by rw [wanted_of hg ht he hb]; simpa using hbw) (rest' (h.2 hbw))
        · rename_i hb
          exact SimK.opSkip ho hd (fun g w a he => wanted_und hg ht he hb) (rest' h)
        · exact h.elim

def holds (E : Env) (g : Option (Nat × Bool)) : Prop := ∀ t w, g = some (t, w) → val E t = .bool w
theorem holds_same {D : List Nat} {E E' : Env} {g : Option (Nat × Bool)} (hs : Same D E E') (hd : ∀ t w, g = some (t, w) → t ∉ D) (hu : holds E g) : holds E' g := fun t w e => by rw [hs t (hd t w e)]; exact hu t w e
theorem run_op {d : Option Nat} {o : XO} {as : List Opd} {g : Option (Nat × Bool)} {E : Env} {K : Env → Nat → Heap → Prop} (hu : holds E g) (h : xop P o (as.map (Opd.val E)) n H fun v n' H' => K (put E d v) n' H') : xOps P [⟨d, o, as, g⟩] E n H K := by
  cases g with
  | none => exact h
  | some p =>
    obtain ⟨t, want⟩ := p
    simp only [xOps, gd]
    rw [hu t want rfl]
    exact ⟨fun _ => h, fun e => absurd rfl e⟩
theorem pick_val {t : Nat} {want c b : Bool} {r : Opd} {E : Env} {K : AV → Nat → Heap → Prop} (hc : val E t = .bool c) (hr : c = want → r.val E = .bool b) (h : K (.bool (if c = want then b else !want)) n H) : xop P .pick ((pickA t want r).map (Opd.val E)) n H K := by
  cases want <;> cases c <;> simp only [pickA, Bool.false_eq_true, if_false, if_true, List.map_cons, List.map_nil, reduceCtorEq] at h ⊢
  · have := hr rfl
    show xop P .pick [Ab.val E t, _, Opd.val E r] n H K
    rw [hc, this]; exact h
  · show xop P .pick [Ab.val E t, _, Opd.val E r] n H K
    rw [hc]; exact h
  · show xop P .pick [Ab.val E t, Opd.val E r, _] n H K
    rw [hc]; exact h
  · have := hr rfl
    show xop P .pick [Ab.val E t, Opd.val E r, _] n H K
    rw [hc, this]; exact h
mutual
theorem XS.node {rest : List XOp} : ∀ {x : XN} {g : Option (Nat × Bool)} {E : Env} {n : Nat} {H : Heap}, holds E g → (∀ t w, g = some (t, w) → t ∉ dstN x) → xN P x E n H (fun E n H => XS P X F (.ops rest :: k) E n H) → XS P X F (.ops (flatN g x ++ rest) :: k) E n H
  | .op d o as, g, E, n, H, hu, hd, h => by
    simp only [xN] at h
    exact XS.opsA (run_op hu h)
  | .sc t want blk r d, g, E, n, H, hu, hd, h => by
    simp only [xN] at h
    obtain ⟨⟨h0, hwf⟩, c, hc, b, h1, h2⟩ := h
    have h0' : t ∉ dstNs blk := by simpa using h0
    have hg : ∀ t w, g = some (t, w) → t ∉ dstNs blk := fun t w e h => hd t w e (List.mem_append_left _ h)
    simp only [flatN, List.append_assoc]
    have fin : ∀ (E' : Env), Same (dstNs blk) E E' → (c = want → r.val E' = .bool b) → XS P X F (.ops ([⟨d, .pick, pickA t want r, g⟩] ++ rest) :: k) E' n H := by
      intro E' hs hr
      refine XS.opsA (run_op (holds_same hs hg hu) (pick_val (c := c) (b := b) (by rw [hs t h0']; exact hc) hr ?_))
      refine XS.subv h2 fun p hp => ?_
      cases d with
      | none =>
        obtain ⟨q1, q2⟩ := dels_mem hp
        rw [q2]; exact (hs _ q1).symm
      | some d =>
        simp only [put, List.mem_cons, List.mem_filter] at hp
        rcases hp with rfl | ⟨hp, hne⟩
        · exact (val_put_same _ _ _).symm
        · obtain ⟨q1, q2⟩ := dels_mem hp
          rw [q2, val_put_ne _ _ _ _ (by simpa using hne)]
          exact (hs _ q1).symm
    by_cases hcw : c = want
    · have h1' := xNs_mono (K' := fun E' n' H' => XS P X F (.ops ([⟨d, .pick, pickA t want r, g⟩] ++ rest) :: k) E' n' H') (fun E' n' H' hs ⟨e1, e2, e3⟩ => by subst e2 e3; exact fin E' hs fun _ => e1) (h1 hcw)
      exact XS.nodes (g := some (t, want)) (fun t' w' e => by cases e; rw [hc, hcw]) (fun t' w' e => by cases e; exact h0') h1'
    · have : val E t = .bool (!want) := by rw [hc]; cases c <;> cases want <;> simp_all
      exact XS.opsA (skNs (S := []) hwf (fun s hs => by cases hs) (Or.inr this) (fun t' w' e => by cases e; exact h0') fun E' hs _ => fin E' hs fun e => absurd e hcw)
theorem XS.nodes {rest : List XOp} : ∀ {l : XNs} {g : Option (Nat × Bool)} {E : Env} {n : Nat} {H : Heap}, holds E g → (∀ t w, g = some (t, w) → t ∉ dstNs l) → xNs P l E n H (fun E n H => XS P X F (.ops rest :: k) E n H) → XS P X F (.ops (flatNs g l ++ rest) :: k) E n H
  | .nil, g, E, n, H, _, _, h => h
  | .cons x l, g, E, n, H, hu, hd, h => by
    simp only [xNs] at h
    simp only [flatNs, List.append_assoc]
    have hd1 : ∀ t w, g = some (t, w) → t ∉ dstN x := fun t w e h => hd t w e (List.mem_append_left _ h)
    refine XS.node hu hd1 (xN_mono (fun E' n' H' hs h' => ?_) h)
    exact XS.nodes (holds_same hs hd1 hu) (fun t w e h => hd t w e (List.mem_append_right _ h)) h'
end

/-- A region, its guarded operations in blocks. -/
theorem XS.regN {l : XNs} {ks : List Nat} {E : Env} (h : xNs P l E n H fun E n H => XS P X F k (keepE ks E) n H) : XS P X F (.code (.reg (flatNs none l) ks) :: k) E n H := by
  intro k' hk
  obtain ⟨y, ys, rfl, h1, h2⟩ := hk.cons
  obtain ⟨c, rfl, hc⟩ := h1.code_inv
  cases c with
  | region id ops d =>
    cases d with
    | true => simp [cCode] at hc
    | false =>
      simp only [cCode, Option.map_eq_some_iff] at hc
      obtain ⟨r, hr, he⟩ := hc
      injection he with he1 he2
      subst he1 he2
      have key : XS P X F (.ops (flatNs none l ++ []) :: k) E n H := XS.nodes (fun t w e => by cases e) (fun t w e => by cases e) (xNs_mono (fun E n H _ h => XS.opsNil (h.subv keepE_val)) h)
      rw [List.append_nil] at key
      refine SimK.region (key (.inRegion ops (List.range ops.size) :: ys) ⟨?_, h2⟩)
      show (flatNs none l).map some = _
      rw [allSome_spec hr, range_map_get]
  | seq a b => simp only [cCode] at hc; split at hc <;> simp at hc
  | cond c a b => simp only [cCode] at hc; split at hc <;> simp at hc
  | block id c => simp [cCode] at hc
  | loop c => simp [cCode] at hc
  | _ => simp [cCode] at hc

/-! ### Tagged -/
def Ns (P : Program) (l : XNs) (E : Env) (n : Nat) (H : Heap) (K : Env → Nat → Heap → Prop) (t : Tag K) : Prop := xNs P l E n H K
def Sc (v : AV) (want : Bool) (A : Bool → Prop) (B : Bool → Prop) (t : Tag (A, B)) : Prop := ∃ c, v = .bool c ∧ ∃ b, (c = want → A b) ∧ B (if c = want then b else !want)
theorem S.regN {l : XNs} {ks : List Nat} {E : Env} {t : Tag (X, F, XItem.code (.reg (flatNs none l) ks) :: k)} (h : Ns P l E n H (fun E n H => S P X F k Tag.mk (keepE ks E) n H) Tag.mk) : S P X F (.code (.reg (flatNs none l) ks) :: k) t E n H := XS.regN h
theorem tNs_nil (E : Env) (K : Env → Nat → Heap → Prop) (t : Tag K) : Ns P .nil E n H K t = K E n H := by simp only [Ns, xNs]
theorem tNs_op (d : Option Nat) (o : XO) (as : List Opd) (l : XNs) (E : Env) (K : Env → Nat → Heap → Prop) (t : Tag K) : Ns P (.cons (.op d o as) l) E n H K t = Xo P o (as.map (Opd.val E)) n H (fun v n' H' => Ns P l (put E d v) n' H' K Tag.mk) Tag.mk := by
  simp only [Ns, xNs, xN, Xo]
theorem Ns.sc {t : Nat} {want : Bool} {blk : XNs} {r : Opd} {d : Option Nat} {l : XNs} {E : Env} {K : Env → Nat → Heap → Prop} {tg : Tag K} {c b : Bool} (h0 : ((dstNs blk).contains t = false ∧ wfNs [] blk = true)) (hc : val E t = .bool c)
    (h1 : c = want → Ns P blk E n H (fun E' n' H' => r.val E' = .bool b ∧ n' = n ∧ H' = H) Tag.mk) (h2 : Ns P l (put (dels (dstNs blk) E) d (.bool (if c = want then b else !want))) n H K Tag.mk) : Ns P (.cons (.sc t want blk r d) l) E n H K tg := by
  simp only [Ns, xNs, xN] at h1 h2 ⊢
  exact ⟨h0, c, hc, b, h1, h2⟩
theorem sc_and (c b : Bool) : (if c = true then b else !true) = (c && b) := by cases c <;> rfl
theorem sc_or (c b : Bool) : (if c = false then b else !false) = (c || b) := by cases c <;> rfl
theorem sc_and2 (c b : Bool) : (if c = true then b else false) = (c && b) := by cases c <;> rfl
theorem sc_or2 (c b : Bool) : (if c = false then b else true) = (c || b) := by cases c <;> rfl
theorem Ns.go {l : XNs} {E : Env} {K : Env → Nat → Heap → Prop} {t : Tag K} (h : Ns P l E n H K t) : Ns P l E n H K t := h
end Go.Ab
end
section
namespace Go.Ab
set_option linter.unusedVariables false
set_option linter.unusedSectionVars false
set_option linter.defProp false

theorem rowsOk_one (s : Nat) (r : List AV) : rowsOk s [r] = (r.length = s ∧ r.all flat = true) := by simp [rowsOk]
theorem gd0 (a : List AV) (l : List (List AV)) (w : List AV) : (a :: l).getD 0 w = a := rfl
theorem gd1 (a b : List AV) (l : List (List AV)) (w : List AV) : (a :: b :: l).getD 1 w = b := rfl
theorem gd2 (a b c : List AV) (l : List (List AV)) (w : List AV) : (a :: b :: c :: l).getD 2 w = c := rfl
theorem gd3 (a b c d : List AV) (l : List (List AV)) (w : List AV) : (a :: b :: c :: d :: l).getD 3 w = d := rfl
theorem gd4 (a b c d e : List AV) (l : List (List AV)) (w : List AV) : (a :: b :: c :: d :: e :: l).getD 4 w = e := rfl
theorem gd5 (a b c d e f : List AV) (l : List (List AV)) (w : List AV) : (a :: b :: c :: d :: e :: f :: l).getD 5 w = f := rfl
theorem gd6 (a b c d e f g : List AV) (l : List (List AV)) (w : List AV) : (a :: b :: c :: d :: e :: f :: g :: l).getD 6 w = g := rfl
theorem gd7 (a b c d e f g h : List AV) (l : List (List AV)) (w : List AV) : (a :: b :: c :: d :: e :: f :: g :: h :: l).getD 7 w = h := rfl
theorem gd8 (a b c d e f g h i : List AV) (l : List (List AV)) (w : List AV) : (a :: b :: c :: d :: e :: f :: g :: h :: i :: l).getD 8 w = i := rfl
theorem gd9 (a b c d e f g h i j : List AV) (l : List (List AV)) (w : List AV) : (a :: b :: c :: d :: e :: f :: g :: h :: i :: j :: l).getD 9 w = j := rfl
theorem u8_ne (a b : UInt8) : ((a.toNat : Int) != (b.toNat : Int)) = (a != b) := by rw [bne, u8_eq]; rfl
theorem u8_nlit (a : UInt8) (k : Nat) (h : k < 256) : ((a.toNat : Int) != no_index (OfNat.ofNat k : Int)) = (a != UInt8.ofNat k) := by rw [bne, u8_lit _ _ h]; rfl
theorem toNatL (k : Nat) : (no_index (OfNat.ofNat k : Int)).toNat = OfNat.ofNat k := rfl
def ZG := And.intro @gd0 <| And.intro @gd1 <| And.intro @gd2 <| And.intro @gd3 <| And.intro @gd4 <| And.intro @gd5 <| And.intro @gd6 <| And.intro @gd7 <| And.intro @gd8 @gd9
theorem enc_simple {α : Type} [Dat α] {l : List α} (h : ∀ a : α, (Dat.row a).all simple = true) : (enc l).flatten.all simple = true := by
  induction l with
  | nil => rfl
  | cons s l ih => rw [enc_cons, List.flatten_cons, List.all_append, h, ih]; rfl
theorem enc_row {α : Type} [Dat α] {l : List α} : ∀ r ∈ enc l, r.length = Dat.z α := fun r hr => by obtain ⟨a, _, rfl⟩ := List.mem_map.mp hr; exact Dat.rl a
theorem nle_lit (a k : Nat) : decide ((a : Int) ≤ no_index (OfNat.ofNat k : Int)) = decide (a ≤ OfNat.ofNat k) := decide_eq_decide.mpr (by have : (OfNat.ofNat k : Int) = (k : Int) := rfl; rw [this]; exact Int.ofNat_le)
theorem lit_nle (a k : Nat) : decide (no_index (OfNat.ofNat k : Int) ≤ (a : Int)) = decide (OfNat.ofNat k ≤ a) := decide_eq_decide.mpr (by have : (OfNat.ofNat k : Int) = (k : Int) := rfl; rw [this]; exact Int.ofNat_le)
theorem nlt_lit (a k : Nat) : decide ((a : Int) < no_index (OfNat.ofNat k : Int)) = decide (a < OfNat.ofNat k) := decide_eq_decide.mpr (by have : (OfNat.ofNat k : Int) = (k : Int) := rfl; rw [this]; exact Int.ofNat_lt)
theorem lit_nlt (a k : Nat) : decide (no_index (OfNat.ofNat k : Int) < (a : Int)) = decide (OfNat.ofNat k < a) := decide_eq_decide.mpr (by have : (OfNat.ofNat k : Int) = (k : Int) := rfl; rw [this]; exact Int.ofNat_lt)
theorem nle_n (a b : Nat) : decide ((a : Int) ≤ (b : Int)) = decide (a ≤ b) := decide_eq_decide.mpr Int.ofNat_le
theorem nlt_n (a b : Nat) : decide ((a : Int) < (b : Int)) = decide (a < b) := decide_eq_decide.mpr Int.ofNat_lt
theorem neq_n (a b : Nat) : ((a : Int) == (b : Int)) = (a == b) := by rw [Bool.eq_iff_iff, beq_iff_eq, beq_iff_eq]; omega
theorem neq_lit (a k : Nat) : ((a : Int) == no_index (OfNat.ofNat k : Int)) = (a == OfNat.ofNat k) := by have : (OfNat.ofNat k : Int) = (k : Int) := rfl; rw [this, neq_n]; rfl
def ZI := And.intro nle_lit <| And.intro lit_nle <| And.intro nlt_lit <| And.intro lit_nlt <| And.intro nle_n <| And.intro nlt_n <| And.intro neq_n <| And.intro neq_lit <| And.intro @Bool.and_assoc @Bool.or_assoc
/-! ### Vectors of data -/
section
variable {α : Type} [Dat α] [Inhabited α]
theorem encf_drop (c : List α) (i : Nat) (h : i < c.length) : (enc c).flatten.drop (i * Dat.z α) = Dat.row (c.getD i default) ++ (enc (c.drop (i + 1))).flatten := by
  rw [flatten_drop enc_row, enc_drop, List.drop_eq_getElem_cons h, enc_cons, List.flatten_cons, List.getD_eq_getElem?_getD, List.getElem?_eq_getElem h]; rfl
theorem encf_set (c : List α) (i : Nat) (x : α) (h : i < c.length) : setCells (enc c).flatten (i * Dat.z α) (Dat.row x) = (enc (c.set i x)).flatten := by
  unfold setCells
  rw [Dat.rl, ← Nat.succ_mul, flatten_take enc_row, flatten_drop enc_row, enc_take, enc_drop]
  have : c.set i x = c.take i ++ x :: c.drop (i + 1) := List.set_eq_take_append_cons_drop.trans (if_pos h)
  rw [this]
  simp [enc, List.append_assoc]
end
theorem ldI (c : List Int) (i : Nat) (h : i < c.length) : ldc none ((enc c).flatten.drop (0 + i * 1)) = some (.int .i64 (c.getD i default)) := by
  have := encf_drop c i h
  rw [Nat.zero_add, show i * 1 = i * Dat.z Int from rfl, this]; rfl
theorem ldS (c : List (List UInt8)) (i : Nat) (h : i < c.length) : ldc none ((enc c).flatten.drop (0 + i * 1)) = some (.str (c.getD i default)) := by
  have := encf_drop c i h
  rw [Nat.zero_add, show i * 1 = i * Dat.z (List UInt8) from rfl, this]; rfl
theorem stI (c : List Int) (i : Nat) (x : Int) (h : i < c.length) : setCells (enc c).flatten (0 + i * 1) [AV.int .i64 x] = (enc (c.set i x)).flatten := by
  rw [Nat.zero_add]; exact encf_set c i x h
theorem stS (c : List (List UInt8)) (i : Nat) (x : List UInt8) (h : i < c.length) : setCells (enc c).flatten (0 + i * 1) [AV.str x] = (enc (c.set i x)).flatten := by
  rw [Nat.zero_add]; exact encf_set c i x h
theorem encI_flen (l : List Int) : (enc l).flatten.length = l.length := by rw [enc_flen]; exact Nat.mul_one _
theorem encS_flen (l : List (List UInt8)) : (enc l).flatten.length = l.length := by rw [enc_flen]; exact Nat.mul_one _
theorem encf_takeI (l : List Int) (k : Nat) : (enc l).flatten.take (k * 1) = (enc (l.take k)).flatten := by
  have := flatten_take (s := 1) (rows := enc l) enc_row k
  rw [this, enc_take]
theorem encf_takeS (l : List (List UInt8)) (k : Nat) : (enc l).flatten.take (k * 1) = (enc (l.take k)).flatten := by
  have := flatten_take (s := 1) (rows := enc l) enc_row k
  rw [this, enc_take]
theorem encf_app {α : Type} [Dat α] (l m : List α) : (enc l).flatten ++ (enc m).flatten = (enc (l ++ m)).flatten := by simp [enc]
def ZV := And.intro ldI <| And.intro ldS <| And.intro stI <| And.intro stS <| And.intro encI_flen <| And.intro encS_flen <| And.intro encf_takeI <| And.intro encf_takeS <| And.intro @encf_app @List.length_set.{0}
theorem Fin.accD {n n0 id s : Nat} {H H0 : Heap} {α : Type} [Dat α] {l l' : List α} (hs : ∀ a : α, (Dat.row a).all simple = true) (hB : HB n0 H0) (hH : ((id, HObj.tok s l.length) :: H0).Sublist H) (hid : n0 ≤ id) (he : l = l') : Fin n0 n H (.acc id s (enc l)) (OwnR true n0 H0 (.sl (enc l'))) := by
  subst he
  refine Fin.treeL (N := [(id, HObj.tok s (enc l).length)]) hB (by rw [enc_len]; exact hH) (fun p hp => ?_) (.acc rfl (enc_simple hs))
  rw [List.mem_singleton] at hp; subst hp; exact hid
theorem enc_rep {α : Type} [Dat α] (k : Nat) (a : α) : enc (List.replicate k a) = List.replicate k (Dat.row a) := by simp [enc]
theorem Fin.vecD {n n0 id ver z y : Nat} {H H0 : Heap} {α : Type} [Dat α] {l l' : List α} {len : Nat} (hs : ∀ a : α, (Dat.row a).all simple = true) (hB : HB n0 H0) (hH : ((id, HObj.vob ver z (enc l).flatten) :: H0).Sublist H) (hid : n0 ≤ id) (hl : len = l.length) (he : l = l') (hy : y = Dat.z α) :
    Fin n0 n H (.vec id ver y 0 len) (OwnR true n0 H0 (.sl (enc l'))) := by
  subst he hl hy
  have ht : Tree true [(id, HObj.vob ver z (enc l).flatten)] (.sl (enc l)) (.vec id ver (Dat.z α) 0 (enc l).length) := .vec rfl enc_row (by
    rw [enc_len, ← enc_flen, List.take_length]
    exact Trees.leaves (enc_simple hs))
  rw [enc_len] at ht
  refine Fin.treeL hB hH (fun p hp => ?_) ht
  rw [List.mem_singleton] at hp; subst hp; exact hid
theorem Fin.refD {n n0 id y : Nat} {H H0 : Heap} {α : Type} [Dat α] {l l' : List α} {len : Nat} (hs : ∀ a : α, (Dat.row a).all simple = true) (hB : HB n0 H0) (hH : ((id, HObj.own (enc l).flatten) :: H0).Sublist H) (hid : n0 ≤ id) (hl : len = l.length) (he : l = l') (hy : y = Dat.z α) :
    Fin n0 n H (.ref id y 0 len) (OwnR true n0 H0 (.sl (enc l'))) := by
  subst he hl hy
  have ht : Tree true [(id, HObj.own (enc l).flatten)] (.sl (enc l)) (.ref id (Dat.z α) 0 (enc l).length) := .ref enc_row (Trees.leaves (enc_simple hs))
  rw [enc_len] at ht
  refine Fin.treeL hB hH (fun p hp => ?_) ht
  rw [List.mem_singleton] at hp; subst hp; exact hid
theorem Fin.nilD {n n0 : Nat} {H H0 : Heap} {α : Type} [Dat α] {l' : List α} (hB : HB n0 H0) (hH : H0.Sublist H) (he : l' = []) : Fin n0 n H .nilsl (OwnR true n0 H0 (.sl (enc l'))) := by
  subst he
  exact Fin.treeL (N := []) hB hH (fun p hp => by cases hp) .nil
theorem simpI : ∀ a : Int, (Dat.row a).all simple = true := fun _ => rfl
theorem simpS : ∀ a : List UInt8, (Dat.row a).all simple = true := fun _ => rfl
theorem simpU : ∀ a : UInt8, (Dat.row a).all simple = true := fun _ => rfl
theorem simpP {α β : Type} [Dat α] [Dat β] (h1 : ∀ a : α, (Dat.row a).all simple = true) (h2 : ∀ a : β, (Dat.row a).all simple = true) : ∀ a : α × β, (Dat.row a).all simple = true := fun a => by rw [row_pair, List.all_append, h1, h2]; rfl

def nl : List XN → XNs
  | [] => .nil
  | x :: l => .cons x (nl l)
theorem nl_nil : nl [] = .nil := rfl
theorem nl_cons (x : XN) (l : List XN) : nl (x :: l) = .cons x (nl l) := rfl
theorem dN_op (d : Option Nat) (o : XO) (as : List Opd) : dstN (.op d o as) = d.toList := rfl
theorem dN_sc (t : Nat) (w : Bool) (blk : XNs) (r : Opd) (d : Option Nat) : dstN (.sc t w blk r d) = dstNs blk ++ d.toList := rfl
theorem dNs_nil : dstNs .nil = [] := rfl
theorem dNs_cons (x : XN) (l : XNs) : dstNs (.cons x l) = dstN x ++ dstNs l := rfl
theorem toL_some (d : Nat) : (some d).toList = [d] := rfl
theorem toL_none : (none : Option Nat).toList = [] := rfl
def ZN := And.intro @tNs_nil <| And.intro @tNs_op <| And.intro nl_nil <| And.intro nl_cons <| And.intro dN_op <| And.intro dN_sc <| And.intro dNs_nil <| And.intro dNs_cons <| And.intro toL_some <| And.intro toL_none <| And.intro @dels_nil <| And.intro @dels_cons <| And.intro @sc_and <| And.intro @sc_or <| And.intro @sc_and2 @sc_or2
def Z := And.intro ZG <| And.intro ZN <| And.intro ZV <| And.intro @toNatL <| And.intro @u8_ne <| And.intro @u8_nlit <| And.intro @Int.toNat_zero <| And.intro @Int.toNat_one <| And.intro AB <| And.intro AL <| And.intro AE <| And.intro @wrap_i64 <| And.intro @wrap_u8 <| And.intro @if_ne.{1} <| And.intro @Int.toNat_natCast <| And.intro @toNat_subl <| And.intro @toNat_addl <| And.intro @u8_eq @u8_lit
def HC := And.intro @decide_eq_true_eq <| And.intro @decide_eq_false_iff_not <| And.intro @Bool.not_eq_true' <| And.intro @Bool.not_eq_false' <| And.intro @beq_iff_eq.{0} <| And.intro @bne_iff_ne.{0} <| And.intro @beq_eq_false_iff_ne.{0} <| And.intro @bne_eq_false_iff_eq.{0} <| And.intro @ne_eq.{1} <|
  And.intro @Decidable.not_not <| And.intro @Int.not_lt <| And.intro @Int.not_le <| And.intro @Bool.and_eq_true <| And.intro @Bool.or_eq_true <| And.intro @Bool.and_eq_false_iff <| And.intro @Bool.or_eq_false_iff <| And.intro Bool.not_true Bool.not_false
def LF := And.intro @AV.bool.injEq <| And.intro @AV.int.injEq <| And.intro @AV.str.injEq <| And.intro @AV.sl.injEq <| And.intro @AV.tup.injEq <| And.intro @AV.agg.injEq <| And.intro @List.cons.injEq.{0} <| And.intro @and_true @true_and
def ZR := And.intro @retK_nil <| And.intro @retK_tmp <| And.intro @retK_cell <| And.intro @retC_ptr @retC_fptr
def ZE := And.intro @keepE_nil <| And.intro @keepE_cons <| And.intro @val_cons <| And.intro @val_nil <| And.intro @List.map_cons.{0,0} <| And.intro @List.map_nil.{0,0} <| And.intro @enc_snoc <| And.intro @row_int <| And.intro @row_u8 <| And.intro @row_bool <| And.intro @row_str <| And.intro @row_pair <| And.intro @row_ints <| And.intro @row_strs <| And.intro @row_bools <| And.intro @row_pairs <|
  And.intro @List.cons_append.{0} <| And.intro @List.nil_append.{0} <| And.intro @Int.natCast_add @Int.natCast_one

variable {P : Program} {X : Ctx} {F : Cfg} {k : List XItem} {E : Env} {n : Nat} {H : Heap}
def ZL := And.intro @List.length_append.{0} <| And.intro @List.length_cons.{0} <| And.intro @List.length_nil.{0} <| And.intro @Nat.zero_add <| And.intro @enc_len @bts_len
theorem XOs.go {l : List XOp} {K : Env → Nat → Heap → Prop} {t : Tag K} (h : XOs P l E n H K t) : XOs P l E n H K t := h
theorem XDs.go {l : List DOp} {K : Env → Nat → Heap → Prop} {t : Tag K} (h : XDs P l E n H K t) : XDs P l E n H K t := h

theorem OK.go {α : Type} {o : Option α} {K : α → Prop} {t : Tag K} (h : OK o K t) : OK o K t := h

theorem S.loopU {σ : Type} (ks : List Nat) (U : σ → Env) (I : σ → Prop) (ns : σ → Nat) (Hs : σ → Heap) (μ : σ → Nat) (s0 : σ) {a : XCode} {t : Tag (X, F, XItem.code (.loop a) :: k)} (hE : keepE ks E = keepE ks (U s0 ++ E)) (h0 : I s0) (hn : n ≤ ns s0) (hH : (Hs s0).Sublist H)
    (round : ∀ s, I s → (∀ s', I s' → μ s' < μ s → S P X F (.inLoop a :: k) Tag.mk (keepE ks (U s' ++ E)) (ns s') (Hs s')) → S P X F (.code a :: .inLoop a :: k) Tag.mk (keepE ks (U s ++ E)) (ns s) (Hs s)) :
    S P X F (.code (.loop a) :: k) t E n H := by
  refine S.loop I (fun s => keepE ks (U s ++ E)) ns Hs μ s0 ?_ h0 hn hH round
  have e : ∀ (ks : List Nat) (E' : Env), (keepE ks E').map Prod.fst = ks := fun ks E' => by
    unfold keepE; rw [List.map_map]
    exact (List.map_congr_left fun a _ => rfl).trans (List.map_id ks)
  show keepE ((keepE ks (U s0 ++ E)).map Prod.fst) E = keepE ks (U s0 ++ E)
  rw [e]; exact hE
end Go.Ab
end
section
namespace Go.Ab
set_option linter.unusedVariables false
set_option linter.defProp false
variable {P : Program} {n : Nat}

def hp (B : Heap) (L : List Heap) : Heap := B ++ L.flatten
theorem cons_hp (p : Nat × HObj) (B : Heap) (L : List Heap) : p :: hp B L = hp (p :: B) L := rfl
theorem hget_hp (i : Nat) (o : HObj) (B : Heap) (L : List Heap) (id : Nat) : hget (hp ((i, o) :: B) L) id = if i = id then some o else hget (hp B L) id := hget_cons ..
theorem hset_hp (i : Nat) (o o' : HObj) (B : Heap) (L : List Heap) (id : Nat) : hset (hp ((i, o) :: B) L) id o' = if i = id then hp ((id, o') :: B) L else (i, o) :: hset (hp B L) id o' := by
  show hset ((i, o) :: (B ++ L.flatten)) id o' = _
  by_cases h : i = id
  · subst h; simp [hset, hp]
  · simp [hset, hp, h]
theorem mem_hp {B : Heap} {L : List Heap} {i : Nat} {N : Heap} (h : L[i]? = some N) : ∀ p ∈ N, p ∈ hp B L := fun p hp => List.mem_append_right _ (List.mem_flatten_of_mem (List.mem_of_getElem? h) hp)
theorem Len.at {B : Heap} {L : List Heap} (i : Nat) {b : Bool} {N : Heap} {t v : AV} (h : L[i]? = some N) (ht : Tree b N t v) : Len (hp B L) v t := .tree ht (mem_hp h)
/-- The same entries in another order. -/
theorem Runs.perm {f : FuncId} {args : List AV} {H : Heap} {K K' : AV → Nat → Heap → Prop} (h : Runs P f args n H K) (hk : ∀ v n' H', K v n' H' → ∃ H2, (∀ p ∈ H2, p ∈ H') ∧ ((H'.map Prod.fst).Nodup → (H2.map Prod.fst).Nodup) ∧ K' v n' H2) : Runs P f args n H K' := by
  refine Runs.map h fun g w cs hv hh => ⟨g, hv, hh, ?_⟩
  rintro c w' ⟨r, n', H', g', hr, hle, hv', hh', hg⟩
  obtain ⟨H2, h1, h2, h3⟩ := hk _ _ _ hr
  have hnd : (H'.map Prod.fst).Nodup := by rw [List.Nodup, List.pairwise_map]; exact hh'.apart.imp fun h => h.1
  exact ⟨r, n', H2, g', h3, hle, hv', hh'.pick h1 (h2 hnd), { hg with owns := fun p hp => hg.owns p (h1 p hp) }⟩
theorem RunsO.lst {B : Heap} {L : List Heap} {f : FuncId} {args args' : List AV} {r : AV} {K : AV → Nat → Heap → Prop} {t : Tag K} (h : RunsO P f args' r) (hb : Lens (hp B L) args args') (hz : belows 0 args' = true)
    (hk : ∀ v n' N, n ≤ n' → (∀ p ∈ N, n ≤ p.1) → Tree false N r v → K v n' (hp B (N :: L))) : RunsT P f args n (hp B L) K t := by
  have h1 : Runs P f args n (hp B L) fun v n' H' => ∃ N, H' = N ++ hp B L ∧ K v n' (hp B (N :: L)) := h.lenO (t := Tag.mk) hb hz fun v n' N ht hf hle => ⟨N, rfl, hk v n' N hle (fun p hp => (hf p hp).1) ht⟩
  refine Runs.perm h1 ?_
  rintro v n' H' ⟨N, rfl, hk⟩
  have hp' : (hp B (N :: L)).Perm (N ++ hp B L) := by
    simp only [hp, List.flatten_cons]
    rw [← List.append_assoc, ← List.append_assoc]
    exact (List.perm_append_comm).append_right _
  exact ⟨_, fun p hm => hp'.mem_iff.mp hm, fun hn => ((hp'.map Prod.fst).nodup_iff).mpr hn, hk⟩
theorem MarkT.at {f : FuncId} {B : Heap} {L : List Heap} (i : Nat) {t : AV} {t' : Int → AV} {c : Nat} {k : Int} {N : Heap} {v : AV} {K : AV → Nat → Heap → Prop} {tg : Tag K} (h : MarkT P f t t' c) (hk0 : 0 ≤ k) (hk1 : k ≤ 4294967296) (hi : L[i]? = some N) (ht : Tree false N t v)
    (hk : ∀ N', Tree false N' (t' k) v → K (.int .i64 (k + c)) n (hp B (L.set i N'))) : RunsT P f [v, .int .i64 k] n (hp B L) K tg := by
  have hL : L = L.take i ++ N :: L.drop (i + 1) := by
    obtain ⟨hlt, he⟩ := List.getElem?_eq_some_iff.mp hi
    rw [← he, List.getElem_cons_drop, List.take_append_drop]
  have hS : ∀ N', L.set i N' = L.take i ++ N' :: L.drop (i + 1) := fun N' => by
    obtain ⟨hlt, he⟩ := List.getElem?_eq_some_iff.mp hi
    rw [List.set_eq_take_append_cons_drop, if_pos hlt]
  generalize L.take i = A at *
  generalize L.drop (i + 1) = C at *
  subst hL
  simp only [hS] at hk
  have hsub : ∀ M, hp B (A ++ M :: C) = hp B A ++ (M ++ C.flatten) := fun M => by simp [hp]
  have hm : Runs P f [v, .int .i64 k] n (hp B (A ++ N :: C)) (fun r n' H' => K r n' H') := by
    intro g w cs hv hh
    have hap : (hp B A ++ (N ++ C.flatten)).Pairwise fun p q => p.1 ≠ q.1 := by
      rw [← hsub]; exact hh.apart.imp fun h => h.1
    have hap2 := List.pairwise_append.mp hap
    have hap3 := List.pairwise_append.mp hap2.2.1
    have hnd : (N.map Prod.fst).Nodup := by rw [List.Nodup, List.pairwise_map]; exact hap3.1
    have hmem : ∀ p ∈ N, p ∈ hp B (A ++ N :: C) := fun p hp => by rw [hsub]; simp [hp]
    refine Runs.map (R := fun r n' H' => K r n' H') (h k N v n (hp B (A ++ N :: C)) hk0 hk1 ht hmem hnd) (fun g w cs hv hh => ⟨g, hv, hh, ?_⟩) g w cs hv hh
    rintro c w' ⟨r, n', H', g', ⟨rfl, rfl, N', h3, h4, h5, h6⟩, hle, hv', hh', hg⟩
    have hne : ∀ p, p ∈ hp B A ∨ p ∈ C.flatten → p.1 ∉ N.map Prod.fst := fun p hp hm => by
      obtain ⟨q, hq, e⟩ := List.mem_map.mp hm
      rcases hp with hp | hp
      · exact hap2.2.2 p hp q (List.mem_append_left _ hq) e.symm
      · exact hap3.2.2 q hq p hp e
    have hpick : ∀ p ∈ hp B (A ++ N' :: C), p ∈ H' := fun p hm => by
      rw [hsub, List.mem_append, List.mem_append] at hm
      rcases hm with hp | hp | hp
      · exact h6 p (by rw [hsub]; exact List.mem_append_left _ hp) (hne p (.inl hp))
      · exact h4 p hp
      · exact h6 p (by rw [hsub]; exact List.mem_append_right _ (List.mem_append_right _ hp)) (hne p (.inr hp))
    have hnd' : ((hp B (A ++ N' :: C)).map Prod.fst).Nodup := by
      have e : (hp B (A ++ N' :: C)).map Prod.fst = (hp B (A ++ N :: C)).map Prod.fst := by simp [hp, h5]
      rw [e, List.Nodup, List.pairwise_map, hsub]; exact hap
    exact ⟨_, n', _, g', hk N' h3, hle, hv', hh'.pick hpick hnd', { hg with owns := fun p hp => hg.owns p (hpick p hp) }⟩
  exact hm
theorem Trees.one {b : Bool} {N : Heap} {a : AV} {cs : List AV} (h : Trees b N [a] cs) : ∃ c, cs = [c] := by
  cases h with | cons h t => cases t; exact ⟨_, rfl⟩
theorem Tree.agg1 {b : Bool} {N : Heap} {a v : AV} (h : Tree b N (.agg [a]) v) : ∃ c, v = .agg [c] := by
  cases h with
  | leaf _ h => exact ⟨_, rfl⟩
  | agg t => cases t with | cons _ t => cases t; exact ⟨_, rfl⟩
theorem Tree.agg2 {b : Bool} {N : Heap} {a1 a2 v : AV} (h : Tree b N (.agg [a1, a2]) v) : ∃ c1 c2, v = .agg [c1, c2] := by
  cases h with
  | leaf _ h => exact ⟨_, _, rfl⟩
  | agg t => cases t with | cons _ t => cases t with | cons _ t => cases t; exact ⟨_, _, rfl⟩
theorem Tree.agg3 {b : Bool} {N : Heap} {a1 a2 a3 v : AV} (h : Tree b N (.agg [a1, a2, a3]) v) : ∃ c1 c2 c3, v = .agg [c1, c2, c3] := by
  cases h with
  | leaf _ h => exact ⟨_, _, _, rfl⟩
  | agg t => cases t with | cons _ t => cases t with | cons _ t => cases t with | cons _ t => cases t; exact ⟨_, _, _, rfl⟩
theorem Trees.leaf_inv {N : Heap} {as cs : List AV} (h : Trees false N as cs) (hs : as.all simple = true) : N = [] ∧ as = cs := by
  induction as generalizing N cs with
  | nil => cases h; exact ⟨rfl, rfl⟩
  | cons a as ih =>
    simp only [List.all_cons, Bool.and_eq_true] at hs
    cases h with | cons h t =>
    obtain ⟨rfl, rfl⟩ := ih t hs.2
    cases h <;> first | exact ⟨rfl, rfl⟩ | (simp [simple] at hs; done)
/-- Marks in a flat slice. -/
theorem MarkT.flat {α : Type} [Dat α] {f : FuncId} {l : List α} {mk : Int → List α} {c z : Nat} (hs : ∀ a : α, (Dat.row a).all simple = true) (hz : z = Dat.z α) (hm : ∀ k, (mk k).length = l.length)
    (h : ∀ (k : Int) (n : Nat) (H : Heap) (id : Nat), 0 ≤ k → k ≤ 4294967296 → hget H id = some (.own (enc l).flatten) → Runs P f [.ref id z 0 l.length, .int .i64 k] n H fun r n' H' => r = .int .i64 (k + c) ∧ n' = n ∧ H' = hset H id (.own (enc (mk k)).flatten))
    (h0 : l = [] → ∀ k : Int, 0 ≤ k → k ≤ 4294967296 → RunsF P f [.sl [], .int .i64 k] (.int .i64 (k + c))) : MarkT P f (.sl (enc l)) (fun k => .sl (enc (mk k))) c := by
  intro k N v n H hk0 hk1 ht hN hnd
  by_cases hl : l = []
  · have hx : mk k = l := by rw [hl]; exact List.eq_nil_of_length_eq_zero (by rw [hm, hl]; rfl)
    subst hl
    exact RunsF.len (t := Tag.mk) (K := fun r n' H' => r = .int .i64 (k + c) ∧ n' = n ∧ ∃ N', Tree false N' (.sl (enc (mk k))) v ∧ (∀ p ∈ N', p ∈ H') ∧ N'.map Prod.fst = N.map Prod.fst ∧ ∀ p ∈ H, p.1 ∉ N.map Prod.fst → p ∈ H') (h0 rfl k hk0 hk1) rfl
      (.cons (.tree ht hN) (.cons (.same _) .nil)) ⟨rfl, rfl, N, by rw [hx]; exact ht, hN, rfl, fun p hp _ => hp⟩
  have hsc : (enc l).flatten.all simple = true := enc_simple hs
  have hlen := enc_len l
  have hrow : ∀ r ∈ enc l, r.length = Dat.z α := enc_row
  generalize hrows : enc l = rows at ht hsc hlen hrow
  have hne : rows ≠ [] := by
    rintro rfl
    exact hl (List.eq_nil_of_length_eq_zero hlen.symm)
  cases ht with
  | leaf _ h => simp [simple] at h
  | acc hb _ => cases hb
  | vec hb _ _ => cases hb
  | nil => exact absurd rfl hne
  | emp => exact absurd rfl hne
  | ref hr t =>
    rename_i id s cells N
    obtain ⟨rfl, rfl⟩ := t.leaf_inv hsc
    have hsz : s = z := by
      obtain ⟨r, rest, rfl⟩ := List.exists_cons_of_ne_nil hne
      rw [hz, ← hr r (List.mem_cons_self ..), hrow r (List.mem_cons_self ..)]
    subst hsz
    refine Runs.look (hN _ (List.mem_cons_self ..)) fun hg => ?_
    refine Runs.mono (hlen ▸ h k n H id hk0 hk1 (by rw [hg, hrows])) ?_
    rintro v n' H' ⟨rfl, rfl, rfl⟩
    refine ⟨rfl, rfl, [(id, .own (enc (mk k)).flatten)], ?_, fun p hp => by rw [List.mem_singleton] at hp; subst hp; exact mem_hset_self hg, rfl, fun p hp hne => mem_hset_other hp (by simpa using hne)⟩
    have := Tree.ref (b := false) (id := id) (s := s) (rows := enc (mk k)) (N := []) (by rw [hz]; exact enc_row) (Trees.leaves (enc_simple (l := mk k) hs))
    rw [enc_len, hm, ← hlen] at this
    exact this
theorem RunsO.flatD {α : Type} [Dat α] {H : Heap} {f : FuncId} {args args' : List AV} {l : List α} {K : AV → Nat → Heap → Prop} {t : Tag K} (z : Nat) (hzz : z = Dat.z α) (h : RunsO P f args' (.sl (enc l))) (hs : ∀ a : α, (Dat.row a).all simple = true) (hne : l ≠ []) (hb : Lens H args args') (hz : belows 0 args' = true)
    (hk : ∀ id n', n ≤ id → id < n' → K (.ref id z 0 l.length) n' ((id, .own (enc l).flatten) :: H)) : RunsT P f args n H K t := by
  subst hzz
  refine RunsO.lenO h hb hz fun v n' N ht hN hle => ?_
  have hsc : (enc l).flatten.all simple = true := enc_simple hs
  have hlen := enc_len l
  have hrow : ∀ r ∈ enc l, r.length = Dat.z α := enc_row
  have hk' := fun id n' h1 h2 => hlen ▸ hk id n' h1 h2
  have hne' : enc l ≠ [] := fun h => hne (List.eq_nil_of_length_eq_zero (by rw [← hlen, h]; rfl))
  clear hk h
  generalize enc l = rows at ht hsc hlen hrow hk' hne'
  cases ht with
  | leaf _ h => simp [simple] at h
  | acc hb _ => cases hb
  | vec hb _ _ => cases hb
  | nil => exact absurd rfl hne'
  | emp => exact absurd rfl hne'
  | ref hr t =>
    rename_i id s cells N
    obtain ⟨rfl, rfl⟩ := t.leaf_inv hsc
    have hsz : s = Dat.z α := by
      obtain ⟨r, rest, rfl⟩ := List.exists_cons_of_ne_nil hne'
      rw [← hr r (List.mem_cons_self ..), hrow r (List.mem_cons_self ..)]
    subst hsz
    have := hN _ (List.mem_cons_self ..)
    exact hk' id n' this.1 this.2
theorem Fin.acc0 {n n0 id s : Nat} {H H0 : Heap} {α : Type} [Dat α] {l' : List α} (hB : HB n0 H0) (hH : ((id, HObj.tok s 0) :: H0).Sublist H) (hid : n0 ≤ id) (he : l' = []) : Fin n0 n H (.acc id s []) (OwnR true n0 H0 (.sl (enc l'))) := by
  subst he
  refine Fin.treeL (N := [(id, HObj.tok s ([] : List (List AV)).length)]) hB hH (fun p hp => ?_) (.acc rfl rfl)
  rw [List.mem_singleton] at hp; subst hp; exact hid
def ZH := And.intro @cons_hp <| And.intro @hget_hp @hset_hp
theorem S.ofL {f : FuncId} {nt : Nat} {rs : List RV} {F : Cfg} {x : XCode} {args : List AV} {R : AV → Nat → Heap → Prop} (hk : Has P f ⟨nt, rs, F, x⟩) (hn : Nat.ble args.length nt = true)
    (h : HB 0 [] → ∀ fn, XR P fn rs → S P ⟨fn, f, 0, R⟩ F [.code x] Tag.mk (env0 0 args) 0 (hp [] [])) : Runs P f args 0 [] R := S.ofX hk hn h
theorem hp_nil : ([] : Heap) = hp [] [] := rfl
end Go.Ab
end
section
namespace Go.Ab
set_option linter.unusedVariables false
set_option linter.unusedSimpArgs false
variable {P : Program} {n : Nat}

/-- As MarkT, the rest of the heap told. -/
def MarkS (P : Program) (f : FuncId) (t : AV) (t' : Int → AV) (c : Nat) : Prop := ∀ (k : Int) (N : Heap) (v : AV) (n : Nat) (R : Heap), 0 ≤ k → k ≤ 4294967296 → Tree false N t v →
  Runs P f [v, .int .i64 k] n (N ++ R) fun r n' H' => r = .int .i64 (k + c) ∧ n' = n ∧ ∃ N', Tree false N' (t' k) v ∧ N'.map Prod.fst = N.map Prod.fst ∧ H' = N' ++ R
theorem MarkS.t {f : FuncId} {t : AV} {t' : Int → AV} {c : Nat} (h : MarkS P f t t' c) : MarkT P f t t' c := by
  intro k N v n H hk0 hk1 ht hN hnd
  let R : Heap := H.filter fun p => decide (p.1 ∉ N.map Prod.fst)
  have hR : ∀ p ∈ R, p ∈ H ∧ p.1 ∉ N.map Prod.fst := fun p hp => by
    have := List.mem_filter.mp hp
    exact ⟨this.1, by simpa using this.2⟩
  have hmem : ∀ p ∈ N ++ R, p ∈ H := fun p hp => by
    rw [List.mem_append] at hp
    exact hp.elim (hN p) fun h => (hR p h).1
  refine Runs.map (h k N v n R hk0 hk1 ht) fun g w cs hv hh => ⟨g, hv, hh.pick hmem ?_, ?_⟩
  · have hndH : (H.map Prod.fst).Nodup := by rw [List.Nodup, List.pairwise_map]; exact hh.apart.imp fun h => h.1
    rw [List.map_append, List.nodup_append]
    refine ⟨hnd, hndH.sublist (List.filter_sublist.map _), ?_⟩
    intro a ha b hb e
    obtain ⟨p, hp, rfl⟩ := List.mem_map.mp hb
    exact (hR p hp).2 (e ▸ ha)
  · rintro c w' ⟨r, n', H', g', ⟨rfl, rfl, N', h1, h2, rfl⟩, hle, hv', hh', hg⟩
    refine ⟨_, _, _, g', ⟨rfl, rfl, N', h1, fun p hp => List.mem_append_left _ hp, h2, fun p hp hne => List.mem_append_right _ (List.mem_filter.mpr ⟨hp, by simpa using hne⟩)⟩, hle, hv', hh', { hg with old := fun b hb hno => hg.old b hb fun p hp => hno p (hmem p hp), owns := fun p hp => (hg.owns p hp).imp (fun ⟨q, hq, e⟩ => ⟨q, hmem q hq, e⟩) id }⟩

theorem simple_below {n : Nat} {v : AV} (h : simple v = true) : below n v = true := by cases v <;> first | rfl | (simp [simple] at h; done)
mutual
theorem Tree.bel {n : Nat} : ∀ {N : Heap} {t v : AV}, Tree false N t v → (∀ p ∈ N, p.1 < n) → below n v = true ∧ ∀ p ∈ N, belowO n p.2 = true
  | _, _, _, .leaf v h, _ => ⟨simple_below h, fun p hp => by cases hp⟩
  | _, _, _, .nil, _ => ⟨rfl, fun p hp => by cases hp⟩
  | _, _, _, .emp, _ => ⟨rfl, fun p hp => by cases hp⟩
  | _, _, _, .ref (id := id) (cells := cells) hr t, hN => by
    obtain ⟨h1, h2⟩ := t.bel fun p hp => hN p (List.mem_cons_of_mem _ hp)
    refine ⟨decide_eq_true (hN _ (List.mem_cons_self ..)), fun p hp => ?_⟩
    rw [List.mem_cons] at hp
    rcases hp with rfl | hp
    · exact h1
    · exact h2 p hp
  | _, _, _, .agg t, hN => t.bel hN
  | _, _, _, .tup t, hN => t.bel hN
theorem Trees.bel {n : Nat} : ∀ {N : Heap} {t v : List AV}, Trees false N t v → (∀ p ∈ N, p.1 < n) → belows n v = true ∧ ∀ p ∈ N, belowO n p.2 = true
  | _, _, _, .nil, _ => ⟨rfl, fun p hp => by cases hp⟩
  | _, _, _, .cons h t, hN => by
    obtain ⟨a1, a2⟩ := h.bel fun p hp => hN p (List.mem_append_left _ hp)
    obtain ⟨b1, b2⟩ := t.bel fun p hp => hN p (List.mem_append_right _ hp)
    refine ⟨by simp [belows, a1, b1], fun p hp => ?_⟩
    rw [List.mem_append] at hp
    exact hp.elim (a2 p) (b2 p)
end
/-- The end of a function that marks. -/
theorem Fin.mark {n0 : Nat} {N N' R H : Heap} {t v r : AV} {K : AV → Nat → Heap → Prop} (hB : HB n0 (N ++ R)) (ht : Tree false N' t v) (hnm : N'.map Prod.fst = N.map Prod.fst) (hs : (N' ++ R).Sublist H) (hr : below n0 r = true) (h : K r n0 (N' ++ R)) : Fin n0 n H r K := by
  have hlt : ∀ p ∈ N', p.1 < n0 := fun p hp => by
    have : p.1 ∈ N'.map Prod.fst := List.mem_map.mpr ⟨p, hp, rfl⟩
    rw [hnm] at this
    obtain ⟨q, hq, e⟩ := List.mem_map.mp this
    rw [← e]; exact (hB q (List.mem_append_left _ hq)).1
  refine Fin.low hr (fun p hp => ?_) hs h
  rw [List.mem_append] at hp
  rcases hp with hp | hp
  · exact ⟨hlt p hp, (ht.bel hlt).2 p hp⟩
  · exact hB p (List.mem_append_right _ hp)
theorem Tree.in1 {N : Heap} {a v : AV} (h : Tree false N (.agg [a]) v) : ∃ c, v = .agg [c] ∧ Tree false N a c := by
  cases h with
  | leaf _ h => simp [simple] at h
  | agg t => cases t with | cons h t => cases t; exact ⟨_, rfl, by rw [List.append_nil]; exact h⟩
theorem Tree.mk1 {b : Bool} {N : Heap} {a c : AV} (h : Tree b N a c) : Tree b N (.agg [a]) (.agg [c]) := by
  have := Tree.agg (Trees.cons h .nil)
  rwa [List.append_nil] at this
theorem Tree.in2 {N : Heap} {a1 a2 v : AV} (h : Tree false N (.agg [a1, a2]) v) : ∃ c1 c2 N1 N2, v = .agg [c1, c2] ∧ N = N1 ++ N2 ∧ Tree false N1 a1 c1 ∧ Tree false N2 a2 c2 := by
  cases h with
  | leaf _ h => simp [simple] at h
  | agg t => cases t with | cons h t => cases t with | cons h2 t => cases t; exact ⟨_, _, _, _, rfl, by rw [List.append_nil], h, h2⟩
theorem Tree.mk2 {b : Bool} {N1 N2 : Heap} {a1 c1 a2 c2 : AV} (h1 : Tree b N1 a1 c1) (h2 : Tree b N2 a2 c2) : Tree b (N1 ++ N2) (.agg [a1, a2]) (.agg [c1, c2]) := by
  have := Tree.agg (Trees.cons h1 (Trees.cons h2 .nil))
  rwa [List.append_nil] at this
theorem hp1 (H : Heap) : H = hp [] [H] := by simp [hp]
theorem hp2 (N R : Heap) : N ++ R = hp [] [N, R] := by simp [hp]
theorem hp3 (N M R : Heap) : (N ++ M) ++ R = hp [] [N, M, R] := by simp [hp]
theorem S.ofP {f : FuncId} {nt : Nat} {rs : List RV} {F : Cfg} {x : XCode} {args : List AV} {H H' : Heap} {R : AV → Nat → Heap → Prop} (hk : Has P f ⟨nt, rs, F, x⟩) (hn : Nat.ble args.length nt = true) (e : H = H')
    (h : HB n H → ∀ fn, XR P fn rs → S P ⟨fn, f, n, R⟩ F [.code x] Tag.mk (env0 0 args) n H') : Runs P f args n H R := S.ofX hk hn fun hB fn hr => by rw [e]; exact h (e ▸ hB) fn hr
theorem Tree.plain {b : Bool} {N : Heap} {rows : List (List AV)} {v : AV} (h : Tree b N (.sl rows) v) : Ab.plain v = true := by
  cases h <;> first | rfl | (rename_i h; simp [simple] at h; done)
theorem Tree.plain1 {b : Bool} {N : Heap} {rows : List (List AV)} {v : AV} (h : Tree b N (.agg [.sl rows]) (.agg [v])) : Ab.plain v = true := by
  cases h with
  | leaf _ h => simp [simple] at h
  | agg t => cases t with | cons h _ => exact h.plain
/-- What is owned is read in a region whose order is drawn. -/
theorem RunsF.lenD {f : FuncId} {args args' : List AV} {r : AV} {H : Heap} {K : AV → Nat → Heap → Prop} {t : Tag K} (h : RunsF P f args' r) (hs : simple r = true) (hb : Lens H args args') (hk : K r n H) : RunsD P 2 f args n H K t :=
  ⟨r, n, H, RunsF.len (t := Tag.mk) (K := fun v1 n1 H1 => v1 = r ∧ n1 = n ∧ H1 = H) h hs hb ⟨rfl, rfl, rfl⟩, hk⟩
theorem OK.tree {b : Bool} {N : Heap} {rows : List (List AV)} {v : AV} {K : List AV → Prop} {t : Tag K} (ht : Tree b N (.sl rows) v) (h : K [v]) : OK (cellsOf v) K t := by
  show oK (cellsOf v) K
  cases ht <;> first | exact h | (rename_i h; simp [simple] at h; done)
theorem MarkT.atn {f : FuncId} {B : Heap} {L : List Heap} (i : Nat) {t : AV} {t' : Int → AV} {c : Nat} {k : Int} {N : Heap} {v : AV} {K : AV → Nat → Heap → Prop} {tg : Tag K} (h : MarkT P f t t' c) (hk0 : 0 ≤ k) (hk1 : k ≤ 4294967296) (hi : L[i]? = some N) (ht : Tree false N t v)
    (hk : ∀ N', N'.map Prod.fst = N.map Prod.fst → Tree false N' (t' k) v → K (.int .i64 (k + c)) n (hp B (L.set i N'))) : RunsT P f [v, .int .i64 k] n (hp B L) K tg := by
  have hL : L = L.take i ++ N :: L.drop (i + 1) := by
    obtain ⟨hlt, he⟩ := List.getElem?_eq_some_iff.mp hi
    rw [← he, List.getElem_cons_drop, List.take_append_drop]
  have hS : ∀ N', L.set i N' = L.take i ++ N' :: L.drop (i + 1) := fun N' => by
    obtain ⟨hlt, he⟩ := List.getElem?_eq_some_iff.mp hi
    rw [List.set_eq_take_append_cons_drop, if_pos hlt]
  generalize L.take i = A at *
  generalize L.drop (i + 1) = C at *
  subst hL
  simp only [hS] at hk
  have hsub : ∀ M, hp B (A ++ M :: C) = hp B A ++ (M ++ C.flatten) := fun M => by simp [hp]
  have hm : Runs P f [v, .int .i64 k] n (hp B (A ++ N :: C)) (fun r n' H' => K r n' H') := by
    intro g w cs hv hh
    have hap : (hp B A ++ (N ++ C.flatten)).Pairwise fun p q => p.1 ≠ q.1 := by
      rw [← hsub]; exact hh.apart.imp fun h => h.1
    have hap2 := List.pairwise_append.mp hap
    have hap3 := List.pairwise_append.mp hap2.2.1
    have hnd : (N.map Prod.fst).Nodup := by rw [List.Nodup, List.pairwise_map]; exact hap3.1
    have hmem : ∀ p ∈ N, p ∈ hp B (A ++ N :: C) := fun p hp => by rw [hsub]; simp [hp]
    refine Runs.map (R := fun r n' H' => K r n' H') (h k N v n (hp B (A ++ N :: C)) hk0 hk1 ht hmem hnd) (fun g w cs hv hh => ⟨g, hv, hh, ?_⟩) g w cs hv hh
    rintro c w' ⟨r, n', H', g', ⟨rfl, rfl, N', h3, h4, h5, h6⟩, hle, hv', hh', hg⟩
    have hne : ∀ p, p ∈ hp B A ∨ p ∈ C.flatten → p.1 ∉ N.map Prod.fst := fun p hp hm => by
      obtain ⟨q, hq, e⟩ := List.mem_map.mp hm
      rcases hp with hp | hp
      · exact hap2.2.2 p hp q (List.mem_append_left _ hq) e.symm
      · exact hap3.2.2 q hq p hp e
    have hpick : ∀ p ∈ hp B (A ++ N' :: C), p ∈ H' := fun p hm => by
      rw [hsub, List.mem_append, List.mem_append] at hm
      rcases hm with hp | hp | hp
      · exact h6 p (by rw [hsub]; exact List.mem_append_left _ hp) (hne p (.inl hp))
      · exact h4 p hp
      · exact h6 p (by rw [hsub]; exact List.mem_append_right _ (List.mem_append_right _ hp)) (hne p (.inr hp))
    have hnd' : ((hp B (A ++ N' :: C)).map Prod.fst).Nodup := by
      have e : (hp B (A ++ N' :: C)).map Prod.fst = (hp B (A ++ N :: C)).map Prod.fst := by simp [hp, h5]
      rw [e, List.Nodup, List.pairwise_map, hsub]; exact hap
    exact ⟨_, n', _, g', hk N' h5 h3, hle, hv', hh'.pick hpick hnd', { hg with owns := fun p hp => hg.owns p (hpick p hp) }⟩
  exact hm
theorem Fin.treeH {n0 : Nat} {v t : AV} {H0 N H : Heap} (hB : HB n0 H0) (hs : (N ++ H0).Sublist H) (hN : ∀ p ∈ N, n0 ≤ p.1) (ht : Tree false N t v) : Fin n0 n H v (OwnR true n0 H0 t) := Fin.treeL hB hs hN ht.up
end Go.Ab
end
