/- && and || without a part in two: the guarded operations of a region as nested blocks whose answer is one bool. Over any program. -/
import Derived.Test.YtobhjgipeepmoaaAbTree
namespace Go.Ab
set_option linter.unusedVariables false
set_option linter.unusedSimpArgs false

mutual
inductive XN where
  | op (d : Option Nat) (o : XO) (as : List Opd)
  | sc (t : Nat) (want : Bool) (blk : XNs) (r : Opd) (d : Option Nat)
inductive XNs where
  | nil
  | cons (x : XN) (l : XNs)
end

def pickA (t : Nat) (want : Bool) (r : Opd) : List Opd := if want then [.t t, r, .k (.bool false)] else [.t t, .k (.bool true), r]
mutual
def flatN (g : Option (Nat × Bool)) : XN → List XOp
  | .op d o as => [⟨d, o, as, g⟩]
  | .sc t want blk r d => flatNs (some (t, want)) blk ++ [⟨d, .pick, pickA t want r, g⟩]
def flatNs (g : Option (Nat × Bool)) : XNs → List XOp
  | .nil => []
  | .cons x l => flatN g x ++ flatNs g l
end
mutual
def dstN : XN → List Nat
  | .op d _ _ => d.toList
  | .sc _ _ blk _ d => dstNs blk ++ d.toList
def dstNs : XNs → List Nat
  | .nil => []
  | .cons x l => dstN x ++ dstNs l
end
/-- What is known of the other slots. -/
def dels (S : List Nat) : Env → Env
  | [] => []
  | (i, a) :: E => if S.contains i = true then dels S E else (i, a) :: dels (i :: S) E
mutual
/-- A block's condition is made in the block before it. -/
def wfN (s : List Nat) : XN → Bool
  | .op _ _ _ => true
  | .sc t _ blk _ _ => s.contains t && !(dstNs blk).contains t && wfNs [] blk
def wfNs (s : List Nat) : XNs → Bool
  | .nil => true
  | .cons x l => wfN s x && wfNs (s ++ dstN x) l
end
mutual
def xN (P : Program) : XN → Env → Nat → Heap → (Env → Nat → Heap → Prop) → Prop
  | .op d o as, E, n, H, K => xop P o (as.map (Opd.val E)) n H fun v n' H' => K (put E d v) n' H'
  | .sc t want blk r d, E, n, H, K => ((dstNs blk).contains t = false ∧ wfNs [] blk = true) ∧ ∃ c, val E t = .bool c ∧ ∃ b, (c = want → xNs P blk E n H fun E' n' H' => r.val E' = .bool b ∧ n' = n ∧ H' = H) ∧
      K (put (dels (dstNs blk) E) d (.bool (if c = want then b else !want))) n H
def xNs (P : Program) : XNs → Env → Nat → Heap → (Env → Nat → Heap → Prop) → Prop
  | .nil, E, n, H, K => K E n H
  | .cons x l, E, n, H, K => xN P x E n H fun E n H => xNs P l E n H K
end

/-- Outside D nothing turned. -/
def Same (D : List Nat) (E E' : Env) : Prop := ∀ i, i ∉ D → val E' i = val E i
theorem Same.refl (D : List Nat) (E : Env) : Same D E E := fun _ _ => rfl
theorem Same.trans {D D' : List Nat} {E E1 E2 : Env} (h : Same D E E1) (h' : Same D' E1 E2) : Same (D ++ D') E E2 := fun i hi => by
  rw [h' i (fun h => hi (List.mem_append_right _ h)), h i (fun h => hi (List.mem_append_left _ h))]
theorem Same.put (E : Env) (d : Option Nat) (v : AV) : Same d.toList E (Ab.put E d v) := fun i hi => by
  cases d with
  | none => rfl
  | some d => exact val_put_ne _ _ _ _ (fun e => hi (by simp [e]))
theorem dels_nil (D : List Nat) : dels D [] = [] := rfl
theorem dels_cons (D : List Nat) (i : Nat) (a : AV) (E : Env) : dels D ((i, a) :: E) = if D.contains i = true then dels D E else (i, a) :: dels (i :: D) E := rfl
theorem dels_mem : ∀ {D : List Nat} {E : Env} {p : Nat × AV}, p ∈ dels D E → p.1 ∉ D ∧ p.2 = val E p.1
  | D, [], p, h => by cases h
  | D, (i, a) :: E, p, h => by
    rw [dels_cons] at h
    by_cases hi : D.contains i = true
    · rw [if_pos hi] at h
      obtain ⟨h1, h2⟩ := dels_mem h
      refine ⟨h1, ?_⟩
      have : i ≠ p.1 := by rintro rfl; exact h1 (by simpa using hi)
      rw [val_cons, if_neg this]; exact h2
    · rw [if_neg hi, List.mem_cons] at h
      rcases h with rfl | h
      · exact ⟨by simpa using hi, by rw [val_cons, if_pos rfl]⟩
      · obtain ⟨h1, h2⟩ := dels_mem h
        rw [List.mem_cons, not_or] at h1
        refine ⟨h1.2, ?_⟩
        rw [val_cons, if_neg (fun e => h1.1 e.symm)]; exact h2
theorem val_dels : ∀ {D : List Nat} {E : Env} {i : Nat}, i ∉ D → val (dels D E) i = val E i
  | D, [], i, h => rfl
  | D, (j, a) :: E, i, h => by
    rw [dels_cons]
    by_cases hj : D.contains j = true
    · have hji : j ≠ i := by rintro rfl; exact h (by simpa using hj)
      rw [if_pos hj, val_cons, if_neg hji]
      exact val_dels h
    · rw [if_neg hj, val_cons, val_cons]
      by_cases hji : j = i
      · rw [if_pos hji, if_pos hji]
      · rw [if_neg hji, if_neg hji]
        exact val_dels (fun hm => by rw [List.mem_cons] at hm; rcases hm with e | hm; exact hji e.symm; exact h hm)
mutual
theorem xN_mono {P : Program} : ∀ {x : XN} {E : Env} {n : Nat} {H : Heap} {K K' : Env → Nat → Heap → Prop}, (∀ E' n H, Same (dstN x) E E' → K E' n H → K' E' n H) → xN P x E n H K → xN P x E n H K'
  | .op d o as, E, n, H, K, K', hk, h => by
    simp only [xN] at h ⊢
    exact xop_mono (fun v n H h => hk _ _ _ (Same.put E d v) h) h
  | .sc t want blk r d, E, n, H, K, K', hk, h => by
    simp only [xN] at h ⊢
    obtain ⟨h0, c, hc, b, h1, h2⟩ := h
    refine ⟨h0, c, hc, b, h1, hk _ _ _ ?_ h2⟩
    intro i hi
    simp only [dstN, List.mem_append, not_or] at hi
    rw [Same.put _ _ _ i hi.2, val_dels hi.1]
theorem xNs_mono {P : Program} : ∀ {l : XNs} {E : Env} {n : Nat} {H : Heap} {K K' : Env → Nat → Heap → Prop}, (∀ E' n H, Same (dstNs l) E E' → K E' n H → K' E' n H) → xNs P l E n H K → xNs P l E n H K'
  | .nil, E, n, H, K, K', hk, h => by simp only [xNs] at h ⊢; exact hk _ _ _ (Same.refl _ _) h
  | .cons x l, E, n, H, K, K', hk, h => by
    simp only [xNs] at h ⊢
    refine xN_mono (fun E1 n1 H1 hs1 h1 => xNs_mono (fun E2 n2 H2 hs2 h2 => hk _ _ _ ?_ h2) h1) h
    simp only [dstNs]
    exact hs1.trans hs2
end

/-- The guard is known not to hold. -/
def undef (E : Env) (g : Option (Nat × Bool)) : Prop := match g with
  | none => False
  | some (t, want) => val E t = .tup [] ∨ val E t = .bool (!want)
theorem xOps_app {P : Program} : ∀ {l m : List XOp} {E : Env} {n : Nat} {H : Heap} {K : Env → Nat → Heap → Prop}, xOps P l E n H (fun E n H => xOps P m E n H K) → xOps P (l ++ m) E n H K
  | [], m, E, n, H, K, h => h
  | x :: l, m, E, n, H, K, h => by
    simp only [List.cons_append]
    unfold xOps at h ⊢
    cases hg : x.guard with
    | none =>
      simp only [hg] at h ⊢
      exact xop_mono (fun v n H h => xOps_app h) h
    | some p =>
      obtain ⟨t, want⟩ := p
      simp only [hg, gd] at h ⊢
      split at h
      · exact ⟨fun e => xop_mono (fun v n H h => xOps_app h) (h.1 e), fun e => xOps_app (h.2 e)⟩
      · exact xOps_app h
      · exact h.elim
theorem sk_op {P : Program} {d : Option Nat} {o : XO} {as : List Opd} {g : Option (Nat × Bool)} {E : Env} {n : Nat} {H : Heap} {K : Env → Nat → Heap → Prop} (hu : undef E g) (h : K (put E d (.tup [])) n H) : xOps P [⟨d, o, as, g⟩] E n H K := by
  cases g with
  | none => exact hu.elim
  | some p =>
    obtain ⟨t, want⟩ := p
    simp only [undef] at hu
    simp only [xOps, gd]
    rcases hu with hu | hu
    · rw [hu]; exact h
    · rw [hu]
      exact ⟨fun e => by cases want <;> simp at e, fun _ => h⟩
theorem undef_same {D : List Nat} {E E' : Env} {g : Option (Nat × Bool)} (hs : Same D E E') (hd : ∀ t w, g = some (t, w) → t ∉ D) (hu : undef E g) : undef E' g := by
  cases g with
  | none => exact hu
  | some p =>
    obtain ⟨t, want⟩ := p
    simp only [undef] at hu ⊢
    rw [hs t (hd t want rfl)]; exact hu
mutual
theorem skN {P : Program} : ∀ {x : XN} {S : List Nat} {g : Option (Nat × Bool)} {E : Env} {n : Nat} {H : Heap} {K : Env → Nat → Heap → Prop}, wfN S x = true → (∀ s ∈ S, val E s = .tup []) → undef E g → (∀ t w, g = some (t, w) → t ∉ dstN x) →
    (∀ E', Same (dstN x) E E' → (∀ i ∈ dstN x, val E' i = .tup []) → K E' n H) → xOps P (flatN g x) E n H K
  | .op d o as, S, g, E, n, H, K, _, _, hu, _, hk => by
    refine sk_op hu (hk _ (Same.put E d _) fun i hi => ?_)
    cases d with
    | none => simp [dstN] at hi
    | some d => simp only [dstN, Option.toList_some, List.mem_singleton] at hi; subst hi; exact val_put_same _ _ _
  | .sc t want blk r d, S, g, E, n, H, K, hw, hS, hu, hd, hk => by
    simp only [wfN, Bool.and_eq_true, Bool.not_eq_true', List.contains_eq_mem, decide_eq_true_eq, decide_eq_false_iff_not] at hw
    obtain ⟨⟨h1, h2⟩, h3⟩ := hw
    simp only [flatN]
    refine xOps_app (skNs (S := []) h3 (fun s hs => by cases hs) (g := some (t, want)) (Or.inl (hS t h1)) (fun t' w' e => by cases e; exact h2) fun E' hs' ht' => ?_)
    have hg : ∀ t w, g = some (t, w) → t ∉ dstNs blk := fun t w e h => hd t w e (List.mem_append_left _ h)
    refine sk_op (undef_same hs' hg hu) (hk _ ?_ fun i hi => ?_)
    · simp only [dstN]
      exact hs'.trans (Same.put _ _ _)
    · simp only [dstN, List.mem_append] at hi
      cases d with
      | none => rcases hi with hi | hi
                · exact ht' i hi
                · simp at hi
      | some d =>
        by_cases e : i = d
        · subst e; exact val_put_same _ _ _
        · rw [val_put_ne _ _ _ _ e]
          rcases hi with hi | hi
          · exact ht' i hi
          · simp at hi; exact absurd hi e
theorem skNs {P : Program} : ∀ {l : XNs} {S : List Nat} {g : Option (Nat × Bool)} {E : Env} {n : Nat} {H : Heap} {K : Env → Nat → Heap → Prop}, wfNs S l = true → (∀ s ∈ S, val E s = .tup []) → undef E g → (∀ t w, g = some (t, w) → t ∉ dstNs l) →
    (∀ E', Same (dstNs l) E E' → (∀ i ∈ dstNs l, val E' i = .tup []) → K E' n H) → xOps P (flatNs g l) E n H K
  | .nil, S, g, E, n, H, K, _, _, _, _, hk => hk E (Same.refl _ _) (fun i hi => by simp [dstNs] at hi)
  | .cons x l, S, g, E, n, H, K, hw, hS, hu, hd, hk => by
    simp only [wfNs, Bool.and_eq_true] at hw
    simp only [flatNs]
    refine xOps_app (skN (S := S) hw.1 hS hu (fun t w e h => hd t w e (List.mem_append_left _ h)) fun E1 hs1 ht1 => ?_)
    refine skNs (S := S ++ dstN x) hw.2 ?_ (undef_same hs1 (fun t w e h => hd t w e (List.mem_append_left _ h)) hu) (fun t w e h => hd t w e (List.mem_append_right _ h)) fun E2 hs2 ht2 => hk E2 ?_ ?_
    · intro s hs
      rw [List.mem_append] at hs
      by_cases hx : s ∈ dstN x
      · exact ht1 s hx
      · rcases hs with hs | hs
        · rw [hs1 s hx]; exact hS s hs
        · exact absurd hs hx
    · simp only [dstNs]; exact hs1.trans hs2
    · intro i hi
      simp only [dstNs, List.mem_append] at hi
      by_cases hl : i ∈ dstNs l
      · exact ht2 i hl
      · rcases hi with hi | hi
        · rw [hs2 i hl]; exact ht1 i hi
        · exact absurd hi hl
end

variable {P : Program} {X : Ctx} {F : Cfg} {k : List XItem} {n : Nat} {H : Heap}
/-- The first operations of a region, then the others. -/
theorem XS.opsA {rest : List XOp} : ∀ {l : List XOp} {E : Env} {n : Nat} {H : Heap}, xOps P l E n H (fun E n H => XS P X F (.ops rest :: k) E n H) → XS P X F (.ops (l ++ rest) :: k) E n H
  | [], E, n, H, h => h
  | x :: l, E, n, H, h => by
    intro k' hk
    obtain ⟨y, ys, rfl, h1, h2⟩ := hk.cons
    cases y <;> first | exact h1.elim | skip
    rename_i ops idxs
    have h1' : (x :: (l ++ rest)).map some = idxs.map fun i => (ops[i]?).bind (cOper P X.fn.ntmps F.md ops) := h1
    cases idxs with
    | nil => simp at h1'
    | cons i is =>
      rw [List.map_cons, List.map_cons, List.cons.injEq] at h1'
      obtain ⟨hx, hl⟩ := h1'
      have hx' := hx.symm
      rw [Option.bind_eq_some_iff] at hx'
      obtain ⟨o, ho, hco⟩ := hx'
      obtain ⟨hd, hdst, hop, hargs, hguard⟩ := cOper_spec hco
      have rest' : ∀ {v : AV} {n' : Nat} {H' : Heap}, xOps P l (put E x.dst v) n' H' (fun E n H => XS P X F (.ops rest :: k) E n H) → SimK P X (.inRegion ops is :: ys) (put E o.dst v) n' H' := by
        intro v n' H' hv
        rw [hdst]
        exact XS.opsA hv (.inRegion ops is :: ys) ⟨hl, h2⟩
      have run : xop P x.op (x.args.map (Opd.val E)) n H (fun v n' H' => xOps P l (put E x.dst v) n' H' fun E n H => XS P X F (.ops rest :: k) E n H) → (∀ (g : Ghost) (w : World) (a : Act), ERel g n w E a.tmps → HRel g n H w → Region.wanted o (yielded ops a.tmps) = true) →
          SimK P X (.inRegion ops (i :: is) :: ys) E n H := by
        intro hrun hwant
        refine SimK.op ho hd (R := fun v n' H' => xOps P l (put E x.dst v) n' H' fun E n H => XS P X F (.ops rest :: k) E n H) (fun g w a he hh => ⟨hwant g w a he hh, ?_⟩) (fun v n' H' hr => rest' hr)
        refine xop_sound hop ?_ hh hrun
        rw [hargs]
        exact cOpds_rel he _
      unfold xOps at h
      rcases hguard with ⟨hg, hxg⟩ | ⟨j, want, t, hg, ht, hxg⟩
      · rw [hxg] at h
        exact run h (fun g w a _ _ => by simp [Region.wanted, hg])
      · rw [hxg] at h
        simp only [gd] at h
        split at h
        · rename_i b hb
          by_cases hbw : b = want
          · exact run (h.1 hbw) (fun g w a he _ => by rw [wanted_of hg ht he hb, hbw]; simp)
          · refine SimK.opSkip ho hd (fun g w a he => by rw [wanted_of hg ht he hb]; simpa using hbw) (rest' (h.2 hbw))
        · rename_i hb
          exact SimK.opSkip ho hd (fun g w a he => wanted_und hg ht he hb) (rest' h)
        · exact h.elim

def holds (E : Env) (g : Option (Nat × Bool)) : Prop := ∀ t w, g = some (t, w) → val E t = .bool w
theorem holds_same {D : List Nat} {E E' : Env} {g : Option (Nat × Bool)} (hs : Same D E E') (hd : ∀ t w, g = some (t, w) → t ∉ D) (hu : holds E g) : holds E' g := fun t w e => by rw [hs t (hd t w e)]; exact hu t w e
theorem run_op {d : Option Nat} {o : XO} {as : List Opd} {g : Option (Nat × Bool)} {E : Env} {K : Env → Nat → Heap → Prop} (hu : holds E g) (h : xop P o (as.map (Opd.val E)) n H fun v n' H' => K (put E d v) n' H') : xOps P [⟨d, o, as, g⟩] E n H K := by
  cases g with
  | none => exact h
  | some p =>
    obtain ⟨t, want⟩ := p
    simp only [xOps, gd]
    rw [hu t want rfl]
    exact ⟨fun _ => h, fun e => absurd rfl e⟩
theorem pick_val {t : Nat} {want c b : Bool} {r : Opd} {E : Env} {K : AV → Nat → Heap → Prop} (hc : val E t = .bool c) (hr : c = want → r.val E = .bool b) (h : K (.bool (if c = want then b else !want)) n H) : xop P .pick ((pickA t want r).map (Opd.val E)) n H K := by
  cases want <;> cases c <;> simp only [pickA, Bool.false_eq_true, if_false, if_true, List.map_cons, List.map_nil, reduceCtorEq] at h ⊢
  · have := hr rfl
    show xop P .pick [Ab.val E t, _, Opd.val E r] n H K
    rw [hc, this]; exact h
  · show xop P .pick [Ab.val E t, _, Opd.val E r] n H K
    rw [hc]; exact h
  · show xop P .pick [Ab.val E t, Opd.val E r, _] n H K
    rw [hc]; exact h
  · have := hr rfl
    show xop P .pick [Ab.val E t, Opd.val E r, _] n H K
    rw [hc, this]; exact h
mutual
theorem XS.node {rest : List XOp} : ∀ {x : XN} {g : Option (Nat × Bool)} {E : Env} {n : Nat} {H : Heap}, holds E g → (∀ t w, g = some (t, w) → t ∉ dstN x) → xN P x E n H (fun E n H => XS P X F (.ops rest :: k) E n H) → XS P X F (.ops (flatN g x ++ rest) :: k) E n H
  | .op d o as, g, E, n, H, hu, hd, h => by
    simp only [xN] at h
    exact XS.opsA (run_op hu h)
  | .sc t want blk r d, g, E, n, H, hu, hd, h => by
    simp only [xN] at h
    obtain ⟨⟨h0, hwf⟩, c, hc, b, h1, h2⟩ := h
    have h0' : t ∉ dstNs blk := by simpa using h0
    have hg : ∀ t w, g = some (t, w) → t ∉ dstNs blk := fun t w e h => hd t w e (List.mem_append_left _ h)
    simp only [flatN, List.append_assoc]
    have fin : ∀ (E' : Env), Same (dstNs blk) E E' → (c = want → r.val E' = .bool b) → XS P X F (.ops ([⟨d, .pick, pickA t want r, g⟩] ++ rest) :: k) E' n H := by
      intro E' hs hr
      refine XS.opsA (run_op (holds_same hs hg hu) (pick_val (c := c) (b := b) (by rw [hs t h0']; exact hc) hr ?_))
      refine XS.subv h2 fun p hp => ?_
      cases d with
      | none =>
        obtain ⟨q1, q2⟩ := dels_mem hp
        rw [q2]; exact (hs _ q1).symm
      | some d =>
        simp only [put, List.mem_cons, List.mem_filter] at hp
        rcases hp with rfl | ⟨hp, hne⟩
        · exact (val_put_same _ _ _).symm
        · obtain ⟨q1, q2⟩ := dels_mem hp
          rw [q2, val_put_ne _ _ _ _ (by simpa using hne)]
          exact (hs _ q1).symm
    by_cases hcw : c = want
    · have h1' := xNs_mono (K' := fun E' n' H' => XS P X F (.ops ([⟨d, .pick, pickA t want r, g⟩] ++ rest) :: k) E' n' H') (fun E' n' H' hs ⟨e1, e2, e3⟩ => by subst e2 e3; exact fin E' hs fun _ => e1) (h1 hcw)
      exact XS.nodes (g := some (t, want)) (fun t' w' e => by cases e; rw [hc, hcw]) (fun t' w' e => by cases e; exact h0') h1'
    · have : val E t = .bool (!want) := by rw [hc]; cases c <;> cases want <;> simp_all
      exact XS.opsA (skNs (S := []) hwf (fun s hs => by cases hs) (Or.inr this) (fun t' w' e => by cases e; exact h0') fun E' hs _ => fin E' hs fun e => absurd e hcw)
theorem XS.nodes {rest : List XOp} : ∀ {l : XNs} {g : Option (Nat × Bool)} {E : Env} {n : Nat} {H : Heap}, holds E g → (∀ t w, g = some (t, w) → t ∉ dstNs l) → xNs P l E n H (fun E n H => XS P X F (.ops rest :: k) E n H) → XS P X F (.ops (flatNs g l ++ rest) :: k) E n H
  | .nil, g, E, n, H, _, _, h => h
  | .cons x l, g, E, n, H, hu, hd, h => by
    simp only [xNs] at h
    simp only [flatNs, List.append_assoc]
    have hd1 : ∀ t w, g = some (t, w) → t ∉ dstN x := fun t w e h => hd t w e (List.mem_append_left _ h)
    refine XS.node hu hd1 (xN_mono (fun E' n' H' hs h' => ?_) h)
    exact XS.nodes (holds_same hs hd1 hu) (fun t w e h => hd t w e (List.mem_append_right _ h)) h'
end

/-- A region, its guarded operations in blocks. -/
theorem XS.regN {l : XNs} {ks : List Nat} {E : Env} (h : xNs P l E n H fun E n H => XS P X F k (keepE ks E) n H) : XS P X F (.code (.reg (flatNs none l) ks) :: k) E n H := by
  intro k' hk
  obtain ⟨y, ys, rfl, h1, h2⟩ := hk.cons
  obtain ⟨c, rfl, hc⟩ := h1.code_inv
  cases c with
  | region id ops d =>
    cases d with
    | true => simp [cCode] at hc
    | false =>
      simp only [cCode, Option.map_eq_some_iff] at hc
      obtain ⟨r, hr, he⟩ := hc
      injection he with he1 he2
      subst he1 he2
      have key : XS P X F (.ops (flatNs none l ++ []) :: k) E n H := XS.nodes (fun t w e => by cases e) (fun t w e => by cases e) (xNs_mono (fun E n H _ h => XS.opsNil (h.subv keepE_val)) h)
      rw [List.append_nil] at key
      refine SimK.region (key (.inRegion ops (List.range ops.size) :: ys) ⟨?_, h2⟩)
      show (flatNs none l).map some = _
      rw [allSome_spec hr, range_map_get]
  | seq a b => simp only [cCode] at hc; split at hc <;> simp at hc
  | cond c a b => simp only [cCode] at hc; split at hc <;> simp at hc
  | block id c => simp [cCode] at hc
  | loop c => simp [cCode] at hc
  | _ => simp [cCode] at hc

/-! ### Tagged -/
def Ns (P : Program) (l : XNs) (E : Env) (n : Nat) (H : Heap) (K : Env → Nat → Heap → Prop) (t : Tag K) : Prop := xNs P l E n H K
def Sc (v : AV) (want : Bool) (A : Bool → Prop) (B : Bool → Prop) (t : Tag (A, B)) : Prop := ∃ c, v = .bool c ∧ ∃ b, (c = want → A b) ∧ B (if c = want then b else !want)
theorem S.regN {l : XNs} {ks : List Nat} {E : Env} {t : Tag (X, F, XItem.code (.reg (flatNs none l) ks) :: k)} (h : Ns P l E n H (fun E n H => S P X F k Tag.mk (keepE ks E) n H) Tag.mk) : S P X F (.code (.reg (flatNs none l) ks) :: k) t E n H := XS.regN h
theorem tNs_nil (E : Env) (K : Env → Nat → Heap → Prop) (t : Tag K) : Ns P .nil E n H K t = K E n H := by simp only [Ns, xNs]
theorem tNs_op (d : Option Nat) (o : XO) (as : List Opd) (l : XNs) (E : Env) (K : Env → Nat → Heap → Prop) (t : Tag K) : Ns P (.cons (.op d o as) l) E n H K t = Xo P o (as.map (Opd.val E)) n H (fun v n' H' => Ns P l (put E d v) n' H' K Tag.mk) Tag.mk := by
  simp only [Ns, xNs, xN, Xo]
theorem Ns.sc {t : Nat} {want : Bool} {blk : XNs} {r : Opd} {d : Option Nat} {l : XNs} {E : Env} {K : Env → Nat → Heap → Prop} {tg : Tag K} {c b : Bool} (h0 : ((dstNs blk).contains t = false ∧ wfNs [] blk = true)) (hc : val E t = .bool c)
    (h1 : c = want → Ns P blk E n H (fun E' n' H' => r.val E' = .bool b ∧ n' = n ∧ H' = H) Tag.mk) (h2 : Ns P l (put (dels (dstNs blk) E) d (.bool (if c = want then b else !want))) n H K Tag.mk) : Ns P (.cons (.sc t want blk r d) l) E n H K tg := by
  simp only [Ns, xNs, xN] at h1 h2 ⊢
  exact ⟨h0, c, hc, b, h1, h2⟩
theorem sc_and (c b : Bool) : (if c = true then b else !true) = (c && b) := by cases c <;> rfl
theorem sc_or (c b : Bool) : (if c = false then b else !false) = (c || b) := by cases c <;> rfl
theorem sc_and2 (c b : Bool) : (if c = true then b else false) = (c && b) := by cases c <;> rfl
theorem sc_or2 (c b : Bool) : (if c = false then b else true) = (c || b) := by cases c <;> rfl
theorem Ns.go {l : XNs} {E : Env} {K : Env → Nat → Heap → Prop} {t : Tag K} (h : Ns P l E n H K t) : Ns P l E n H K t := h
end Go.Ab
