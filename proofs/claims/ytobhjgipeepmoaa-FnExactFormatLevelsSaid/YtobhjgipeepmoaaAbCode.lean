/- The abstract run of a whole body: rules for the shorter form's code. Over any program. -/
import Derived.Test.YtobhjgipeepmoaaAbAll
namespace Go.Ab
set_option linter.unusedVariables false
set_option linter.unusedSimpArgs false

inductive XItem where
  | code (c : XCode)
  | inBlock (id : Nat)
  | inLoop (c : XCode)
  | ops (l : List XOp)

structure Cfg where
  md : Nat → Nat
  kp : Nat → List Nat

def RI (P : Program) (N : Nat) (F : Cfg) : XItem → Item → Prop
  | .code x, .code c => cCode P N F.md F.kp c = some x
  | .inBlock i, .inBlock j => i = j
  | .inLoop x, .inLoop c => cCode P N F.md F.kp c = some x
  | .ops l, .inRegion ops idxs => l.map some = idxs.map fun i => (ops[i]?).bind (cOper P N F.md ops)
  | _, _ => False

def RIs (P : Program) (N : Nat) (F : Cfg) : List XItem → List Item → Prop
  | [], [] => True
  | x :: xs, y :: ys => RI P N F x y ∧ RIs P N F xs ys
  | _, _ => False

def XS (P : Program) (X : Ctx) (F : Cfg) (k : List XItem) (E : Env) (n : Nat) (H : Heap) : Prop := ∀ k', RIs P X.fn.ntmps F k k' → SimK P X k' E n H

variable {P : Program} {X : Ctx} {F : Cfg} {k : List XItem} {E : Env} {n : Nat} {H : Heap}

theorem RIs.cons {N : Nat} {x : XItem} {xs : List XItem} {k' : List Item} (h : RIs P N F (x :: xs) k') : ∃ y ys, k' = y :: ys ∧ RI P N F x y ∧ RIs P N F xs ys := by
  cases k' with
  | nil => exact h.elim
  | cons y ys => exact ⟨y, ys, rfl, h.1, h.2⟩

theorem RI.code_inv {N : Nat} {x : XCode} {y : Item} (h : RI P N F (.code x) y) : ∃ c, y = .code c ∧ cCode P N F.md F.kp c = some x := by
  cases y <;> first | exact h.elim | exact ⟨_, rfl, h⟩

theorem XS.skip (h : XS P X F k E n H) : XS P X F (.code .skip :: k) E n H := by
  intro k' hk
  obtain ⟨y, ys, rfl, h1, h2⟩ := hk.cons
  obtain ⟨c, rfl, hc⟩ := h1.code_inv
  cases c with
  | skip => exact (h ys h2).skip
  | region id ops d => cases d <;> simp [cCode] at hc
  | seq a b => simp only [cCode] at hc; split at hc <;> simp at hc
  | cond c a b => simp only [cCode] at hc; split at hc <;> simp at hc
  | block id c => simp [cCode] at hc
  | loop c => simp [cCode] at hc
  | _ => simp [cCode] at hc

theorem XS.seq {a b : XCode} (h : XS P X F (.code a :: .code b :: k) E n H) : XS P X F (.code (.seq a b) :: k) E n H := by
  intro k' hk
  obtain ⟨y, ys, rfl, h1, h2⟩ := hk.cons
  obtain ⟨c, rfl, hc⟩ := h1.code_inv
  cases c with
  | seq c d =>
    simp only [cCode] at hc
    split at hc
    · rename_i x y hx hy
      cases hc
      exact (h (.code c :: .code d :: ys) ⟨hx, hy, h2⟩).seq
    · cases hc
  | region id ops d => cases d <;> simp [cCode] at hc
  | cond c a b => simp only [cCode] at hc; split at hc <;> simp at hc
  | block id c => simp [cCode] at hc
  | loop c => simp [cCode] at hc
  | _ => simp [cCode] at hc

theorem XS.cond {c : Opd} {a b : XCode} {t : Bool} (hc : c.val E = .bool t) (h1 : t = true → XS P X F (.code a :: k) E n H) (h2 : t = false → XS P X F (.code b :: k) E n H) : XS P X F (.code (.cond c a b) :: k) E n H := by
  intro k' hk
  obtain ⟨y, ys, rfl, h3, h4⟩ := hk.cons
  obtain ⟨d, rfl, hd⟩ := h3.code_inv
  cases d with
  | cond o x z =>
    simp only [cCode] at hd
    split at hd
    · rename_i x' z' hx hz
      cases hd
      refine SimK.cond fun g w a he => ⟨t, ?_, ?_⟩
      · have := cOpd_rel he o
        rw [hc] at this
        generalize a.eval o = v at this
        cases this
        rfl
      · cases t
        · exact h2 rfl (.code z :: ys) ⟨hz, h4⟩
        · exact h1 rfl (.code x :: ys) ⟨hx, h4⟩
    · cases hd
  | region id ops d => cases d <;> simp [cCode] at hd
  | seq a b => simp only [cCode] at hd; split at hd <;> simp at hd
  | block id c => simp [cCode] at hd
  | loop c => simp [cCode] at hd
  | _ => simp [cCode] at hd

theorem XS.block {id : Nat} {a : XCode} (h : XS P X F (.code a :: .inBlock id :: k) E n H) : XS P X F (.code (.block id a) :: k) E n H := by
  intro k' hk
  obtain ⟨y, ys, rfl, h1, h2⟩ := hk.cons
  obtain ⟨c, rfl, hc⟩ := h1.code_inv
  cases c with
  | block id' c =>
    simp only [cCode, Option.map_eq_some_iff] at hc
    obtain ⟨x, hx, he⟩ := hc
    cases he
    exact (h (.code c :: .inBlock _ :: ys) ⟨hx, rfl, h2⟩).block
  | region id ops d => cases d <;> simp [cCode] at hc
  | seq a b => simp only [cCode] at hc; split at hc <;> simp at hc
  | cond c a b => simp only [cCode] at hc; split at hc <;> simp at hc
  | loop c => simp [cCode] at hc
  | _ => simp [cCode] at hc

theorem XS.inBlock {id : Nat} (h : XS P X F k E n H) : XS P X F (.inBlock id :: k) E n H := by
  intro k' hk
  obtain ⟨y, ys, rfl, h1, h2⟩ := hk.cons
  cases y <;> first | exact h1.elim | skip
  exact (h ys h2).inBlock

theorem XS.loop {a : XCode} (h : XS P X F (.inLoop a :: k) E n H) : XS P X F (.code (.loop a) :: k) E n H := by
  intro k' hk
  obtain ⟨y, ys, rfl, h1, h2⟩ := hk.cons
  obtain ⟨c, rfl, hc⟩ := h1.code_inv
  cases c with
  | loop c =>
    simp only [cCode, Option.map_eq_some_iff] at hc
    obtain ⟨x, hx, he⟩ := hc
    cases he
    exact (h (.inLoop c :: ys) ⟨hx, h2⟩).loop
  | region id ops d => cases d <;> simp [cCode] at hc
  | seq a b => simp only [cCode] at hc; split at hc <;> simp at hc
  | cond c a b => simp only [cCode] at hc; split at hc <;> simp at hc
  | block id c => simp [cCode] at hc
  | _ => simp [cCode] at hc

theorem XS.inLoop {a : XCode} (h : XS P X F (.code a :: .inLoop a :: k) E n H) : XS P X F (.inLoop a :: k) E n H := by
  intro k' hk
  obtain ⟨y, ys, rfl, h1, h2⟩ := hk.cons
  cases y <;> first | exact h1.elim | skip
  rename_i c
  exact (h (.code c :: .inLoop c :: ys) ⟨h1, h1, h2⟩).inLoop

def xexit (id : Nat) : List XItem → Option (List XItem)
  | .inBlock i :: k => if i = id then some k else xexit id k
  | _ :: k => xexit id k
  | [] => none

theorem xexit_rel {N : Nat} {id : Nat} : ∀ {k : List XItem} {k' : List Item} {r : List XItem}, RIs P N F k k' → xexit id k = some r → ∃ r', exitTo id k' = some r' ∧ RIs P N F r r'
  | [], _, r, _, he => by simp [xexit] at he
  | x :: k, k', r, h, he => by
    obtain ⟨y, ys, rfl, h1, h2⟩ := h.cons
    cases x <;> cases y <;> first | exact h1.elim | skip
    case inBlock.inBlock i j =>
      have hij : i = j := h1
      subst hij
      simp only [xexit] at he
      split at he
      · rename_i hid
        simp only [Option.some.injEq] at he
        subst he
        exact ⟨ys, by simp [exitTo, hid], h2⟩
      · rename_i hid
        obtain ⟨r', hr, hrel⟩ := xexit_rel h2 he
        exact ⟨r', by simp [exitTo, hid, hr], hrel⟩
    all_goals
      simp only [xexit] at he
      obtain ⟨r', hr, hrel⟩ := xexit_rel h2 he
      exact ⟨r', by simp [exitTo, hr], hrel⟩

theorem XS.exit {id : Nat} {r : List XItem} (he : xexit id k = some r) (h : XS P X F r E n H) : XS P X F (.code (.exit id) :: k) E n H := by
  intro k' hk
  obtain ⟨y, ys, rfl, h1, h2⟩ := hk.cons
  obtain ⟨c, rfl, hc⟩ := h1.code_inv
  cases c with
  | exit id' =>
    simp only [cCode, Option.some.injEq, XCode.exit.injEq] at hc
    subst hc
    obtain ⟨r', hr, hrel⟩ := xexit_rel h2 he
    exact (h r' hrel).exit hr
  | region id ops d => cases d <;> simp [cCode] at hc
  | seq a b => simp only [cCode] at hc; split at hc <;> simp at hc
  | cond c a b => simp only [cCode] at hc; split at hc <;> simp at hc
  | block id c => simp [cCode] at hc
  | loop c => simp [cCode] at hc
  | _ => simp [cCode] at hc

/-- Knowing less. -/
theorem XS.sub {E' : Env} {H' : Heap} {n' : Nat} (h : XS P X F k E' n' H') (hE : ∀ p ∈ E', p ∈ E) (hH : H'.Sublist H) (hn : n ≤ n') : XS P X F k E n H :=
  fun k' hk => (h k' hk).sub hE hH hn

theorem XS.subv {E' : Env} (h : XS P X F k E' n H) (hE : ∀ p ∈ E', p.2 = val E p.1) : XS P X F k E n H := fun k' hk => (h k' hk).subv hE

/-! ### Regions -/
def gd (v : AV) (want : Bool) (A B : Prop) : Prop := match v with
  | .bool b => (b = want → A) ∧ (b ≠ want → B)
  | .tup [] => B
  | _ => False

def xOps (P : Program) : List XOp → Env → Nat → Heap → (Env → Nat → Heap → Prop) → Prop
  | [], E, n, H, K => K E n H
  | x :: l, E, n, H, K => match x.guard with
    | none => xop P x.op (x.args.map (Opd.val E)) n H fun v n' H' => xOps P l (put E x.dst v) n' H' K
    | some (t, want) => gd (val E t) want (xop P x.op (x.args.map (Opd.val E)) n H fun v n' H' => xOps P l (put E x.dst v) n' H' K) (xOps P l (put E x.dst (.tup [])) n H K)

def keepE (ks : List Nat) (E : Env) : Env := ks.map fun k => (k, val E k)
theorem keepE_val {ks : List Nat} {E : Env} : ∀ p ∈ keepE ks E, p.2 = val E p.1 := fun p hp => by
  obtain ⟨k, _, rfl⟩ := List.mem_map.mp hp
  rfl

theorem cOper_spec {N : Nat} {md : Nat → Nat} {ops : Array Oper} {o : Oper} {x : XOp} (h : cOper P N md ops o = some x) :
    (∀ d, o.dst = some d → d < N) ∧ o.dst = x.dst ∧ cOp P (md (o.dst.getD 0)) o.op = some x.op ∧ x.args = o.op.operands.toList.map cOpd ∧
    ((o.guard = none ∧ x.guard = none) ∨ ∃ j want t, o.guard = some (j, want) ∧ (ops[j]?).bind (·.dst) = some t ∧ x.guard = some (t, want)) := by
  unfold cOper at h
  split at h
  · rename_i hd
    have hd' : ∀ d, o.dst = some d → d < N := fun d e => by rw [e] at hd; simpa using hd
    split at h
    · rename_i y hy hg
      cases h
      exact ⟨hd', rfl, hy, rfl, .inl ⟨hg, rfl⟩⟩
    · rename_i y j want hy hg
      split at h
      · rename_i t ht
        cases h
        exact ⟨hd', rfl, hy, rfl, .inr ⟨j, want, t, hg, ht, rfl⟩⟩
      · cases h
    · cases h
  · cases h

theorem wanted_of {ops : Array Oper} {o : Oper} {g : Ghost} {w : World} {a : Act} {j t : Nat} {want b : Bool} (hg : o.guard = some (j, want)) (ht : (ops[j]?).bind (·.dst) = some t) (he : ERel g n w E a.tmps) (hv : val E t = .bool b) :
    Region.wanted o (yielded ops a.tmps) = (b == want) := by
  have h1 := he.val t
  rw [hv] at h1
  have h2 : a.tmps[t]? = some (.bool b) := by
    rw [Array.getD_eq_getD_getElem?] at h1
    cases hq : a.tmps[t]? with
    | none => rw [hq] at h1; simp only [Option.getD_none] at h1; cases h1
    | some u => rw [hq] at h1; simp only [Option.getD_some] at h1; generalize u = u' at h1; cases h1; rfl
  unfold Region.wanted
  rw [hg]
  simp only [yielded, ht, Option.bind_some, h2]
  cases b <;> cases want <;> rfl

theorem wanted_und {ops : Array Oper} {o : Oper} {g : Ghost} {w : World} {a : Act} {j t : Nat} {want : Bool} (hg : o.guard = some (j, want)) (ht : (ops[j]?).bind (·.dst) = some t) (he : ERel g n w E a.tmps) (hv : val E t = .tup []) :
    Region.wanted o (yielded ops a.tmps) = false := by
  have h1 := he.val t
  rw [hv] at h1
  have h2 : a.tmps[t]? = none ∨ a.tmps[t]? = some (.tuple #[]) := by
    rw [Array.getD_eq_getD_getElem?] at h1
    cases hq : a.tmps[t]? with
    | none => exact .inl rfl
    | some u =>
      rw [hq] at h1
      simp only [Option.getD_some] at h1
      generalize u = u' at h1
      cases h1 with | tup _ vs h => cases h; exact .inr rfl
  unfold Region.wanted
  rw [hg]
  simp only [yielded, ht, Option.bind_some]
  rcases h2 with h2 | h2 <;> rw [h2] <;> rfl

theorem XS.opsNil (h : XS P X F k E n H) : XS P X F (.ops [] :: k) E n H := by
  intro k' hk
  obtain ⟨y, ys, rfl, h1, h2⟩ := hk.cons
  cases y <;> first | exact h1.elim | skip
  rename_i ops idxs
  have h1' : ([] : List XOp).map some = idxs.map fun i => (ops[i]?).bind (cOper P X.fn.ntmps F.md ops) := h1
  have : idxs = [] := by
    cases idxs with
    | nil => rfl
    | cons i is => simp at h1'
  subst this
  exact (h ys h2).regionEnd

theorem XS.ops : ∀ {l : List XOp} {E : Env} {n : Nat} {H : Heap}, xOps P l E n H (fun E n H => XS P X F k E n H) → XS P X F (.ops l :: k) E n H
  | [], E, n, H, h => XS.opsNil h
  | x :: l, E, n, H, h => by
    intro k' hk
    obtain ⟨y, ys, rfl, h1, h2⟩ := hk.cons
    cases y <;> first | exact h1.elim | skip
    rename_i ops idxs
    have h1' : (x :: l).map some = idxs.map fun i => (ops[i]?).bind (cOper P X.fn.ntmps F.md ops) := h1
    cases idxs with
    | nil => simp at h1'
    | cons i is =>
      simp only [List.map_cons, List.cons.injEq] at h1'
      obtain ⟨hx, hl⟩ := h1'
      have hx' := hx.symm
      rw [Option.bind_eq_some_iff] at hx'
      obtain ⟨o, ho, hco⟩ := hx'
      obtain ⟨hd, hdst, hop, hargs, hguard⟩ := cOper_spec hco
      have rest : ∀ {v : AV} {n' : Nat} {H' : Heap}, xOps P l (put E x.dst v) n' H' (fun E n H => XS P X F k E n H) → SimK P X (.inRegion ops is :: ys) (put E o.dst v) n' H' := by
        intro v n' H' hv
        rw [hdst]
        exact XS.ops hv (.inRegion ops is :: ys) ⟨hl, h2⟩
      have run : xop P x.op (x.args.map (Opd.val E)) n H (fun v n' H' => xOps P l (put E x.dst v) n' H' fun E n H => XS P X F k E n H) → (∀ (g : Ghost) (w : World) (a : Act), ERel g n w E a.tmps → HRel g n H w → Region.wanted o (yielded ops a.tmps) = true) →
          SimK P X (.inRegion ops (i :: is) :: ys) E n H := by
        intro hrun hwant
        refine SimK.op ho hd (R := fun v n' H' => xOps P l (put E x.dst v) n' H' fun E n H => XS P X F k E n H) (fun g w a he hh => ⟨hwant g w a he hh, ?_⟩) (fun v n' H' hr => rest hr)
        refine xop_sound hop ?_ hh hrun
        rw [hargs]
        exact cOpds_rel he _
      unfold xOps at h
      rcases hguard with ⟨hg, hxg⟩ | ⟨j, want, t, hg, ht, hxg⟩
      · rw [hxg] at h
        exact run h (fun g w a _ _ => by simp [Region.wanted, hg])
      · rw [hxg] at h
        simp only [gd] at h
        split at h
        · rename_i b hb
          by_cases hbw : b = want
          · exact run (h.1 hbw) (fun g w a he _ => by rw [wanted_of hg ht he hb, hbw]; simp)
          · refine SimK.opSkip ho hd (fun g w a he => by rw [wanted_of hg ht he hb]; simpa using hbw) (rest (h.2 hbw))
        · rename_i hb
          exact SimK.opSkip ho hd (fun g w a he => wanted_und hg ht he hb) (rest h)
        · exact h.elim

theorem allSome_spec {α : Type} : ∀ {l : List (Option α)} {r : List α}, allSome l = some r → r.map some = l
  | [], r, h => by simp [allSome] at h; subst h; rfl
  | none :: l, r, h => by simp [allSome] at h
  | some a :: l, r, h => by
    simp only [allSome, Option.map_eq_some_iff] at h
    obtain ⟨r', hr, rfl⟩ := h
    rw [List.map_cons, allSome_spec hr]

theorem range_map_get {α β : Type} (ops : Array α) (f : α → Option β) : ops.toList.map f = (List.range ops.size).map fun i => (ops[i]?).bind f := by
  apply List.ext_getElem?
  intro i
  simp only [List.getElem?_map, Array.getElem?_toList]
  by_cases h : i < ops.size
  · simp [h]
  · simp [h]

theorem xop_mono {P : Program} {o : XO} {vals : List AV} {n : Nat} {H : Heap} {K K' : AV → Nat → Heap → Prop} (hk : ∀ v n H, K v n H → K' v n H) (h : xop P o vals n H K) : xop P o vals n H K' := by
  have ok : ∀ {α : Type} {o : Option α} {A B : α → Prop}, (∀ a, A a → B a) → oK o A → oK o B := fun hab h => by
    obtain ⟨a, rfl, ha⟩ := oK_elim h; exact hab a ha
  unfold xop at h ⊢
  split at h
  · exact hk _ _ _ h
  · exact ok (fun _ => hk _ _ _) h
  · exact ok (fun _ h => ⟨h.1, hk _ _ _ h.2⟩) h
  · exact ok (fun _ h => ⟨h.1, hk _ _ _ h.2⟩) h
  · exact ok (fun _ h => ⟨h.1, hk _ _ _ h.2⟩) h
  · exact ok (fun _ h => ⟨h.1, hk _ _ _ h.2⟩) h
  · split at h
    · exact ok (fun _ => hk _ _ _) h
    · exact h.elim
  · split at h
    · exact ⟨h.1, hk _ _ _ h.2⟩
    · exact h.elim
  · exact ⟨hk _ _ _ h.1, fun e => hk _ _ _ (h.2 e)⟩
  · exact ⟨hk _ _ _ h.1, fun e => hk _ _ _ (h.2 e)⟩
  · exact hk _ _ _ h
  · refine ⟨h.1, ?_⟩
    have h2 := h.2
    split at h2
    · exact ⟨h2.1, hk _ _ _ h2.2⟩
    · exact hk _ _ _ h2
    · exact hk _ _ _ h2
    · exact hk _ _ _ h2
    · exact h2.elim
  · refine ⟨h.1, ok (fun ys h => ⟨h.1, ?_⟩) h.2⟩
    have h2 := h.2
    split at h2
    · exact ⟨h2.1, fun e => hk _ _ _ (h2.2.1 e), fun e => hk _ _ _ (h2.2.2 e)⟩
    · exact ⟨h2.1, hk _ _ _ h2.2⟩
    · exact h2.elim
  · exact vget_mono (fun _ _ h => ok (fun _ => hk _ _ _) h) h
  · exact vget_mono (fun _ _ h => ok (fun _ h => ⟨h.1, hk _ _ _ h.2⟩) h) h
  · exact vget_mono (fun _ _ h => hk _ _ _ h) h
  · exact vget_mono (fun _ _ h => ⟨h.1, hk _ _ _ h.2⟩) h
  · exact vget_mono (fun _ _ h => ok (fun _ h => ⟨h.1, hk _ _ _ h.2⟩) h) h
  · refine ⟨h.1, ok (fun ys h => ⟨h.1, ?_⟩) h.2⟩
    have h2 := h.2
    split at h2
    · exact ⟨h2.1, fun e => hk _ _ _ (h2.2.1 e), fun e => hk _ _ _ (h2.2.2 e)⟩
    · exact vget_mono (fun _ _ h => ⟨h.1, hk _ _ _ h.2⟩) h2
    · exact h2.elim
  · exact vget_mono (fun _ _ h => ⟨h.1, hk _ _ _ h.2⟩) h
  · exact vget_mono (fun _ _ h => hk _ _ _ h) h
  · exact h.mono hk
  · exact ok (fun _ => hk _ _ _) h
theorem xOps_mono {P : Program} : ∀ {l : List XOp} {E : Env} {n : Nat} {H : Heap} {K K' : Env → Nat → Heap → Prop}, (∀ E n H, K E n H → K' E n H) → xOps P l E n H K → xOps P l E n H K'
  | [], E, n, H, K, K', hk, h => hk _ _ _ h
  | x :: l, E, n, H, K, K', hk, h => by
    unfold xOps at h ⊢
    split at h
    · exact xop_mono (fun v n H h => xOps_mono hk h) h
    · simp only [gd] at h ⊢
      split at h
      · exact ⟨fun e => xop_mono (fun v n H h => xOps_mono hk h) (h.1 e), fun e => xOps_mono hk (h.2 e)⟩
      · exact xOps_mono hk h
      · exact h.elim

theorem XS.reg {l : List XOp} {ks : List Nat} (h : xOps P l E n H fun E n H => XS P X F k (keepE ks E) n H) : XS P X F (.code (.reg l ks) :: k) E n H := by
  intro k' hk
  obtain ⟨y, ys, rfl, h1, h2⟩ := hk.cons
  obtain ⟨c, rfl, hc⟩ := h1.code_inv
  cases c with
  | region id ops d =>
    cases d with
    | true => simp [cCode] at hc
    | false =>
      simp only [cCode, Option.map_eq_some_iff] at hc
      obtain ⟨r, hr, he⟩ := hc
      cases he
      refine SimK.region (XS.ops (l := l) (k := k) (X := X) (F := F) ?_ (.inRegion ops (List.range ops.size) :: ys) ⟨?_, h2⟩)
      · exact xOps_mono (fun E n H h => h.subv keepE_val) h
      · show l.map some = _
        rw [allSome_spec hr, range_map_get]
  | seq a b => simp only [cCode] at hc; split at hc <;> simp at hc
  | cond c a b => simp only [cCode] at hc; split at hc <;> simp at hc
  | block id c => simp [cCode] at hc
  | loop c => simp [cCode] at hc
  | _ => simp [cCode] at hc

end Go.Ab
