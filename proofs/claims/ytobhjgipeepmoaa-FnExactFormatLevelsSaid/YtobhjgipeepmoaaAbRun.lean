/- What a running function body comes to, told by abstract values: one rule for each piece of code. Over any program. -/
import Derived.Test.YtobhjgipeepmoaaAbBase
namespace Go.Ab
set_option linter.unusedVariables false

variable {P : Program}

/-- What a function hands back: some result, number and heap of R's, and the world holds them. -/
def Out (g : Ghost) (n : Nat) (w : World) (H : Heap) (R : AV → Nat → Heap → Prop) (c : Value) (w' : World) : Prop :=
  ∃ v n' H' g', R v n' H' ∧ n ≤ n' ∧ VRel g' n' w' v c ∧ HRel g' n' H' w' ∧ Grow n g w H g' w' H'

theorem Out.mono {g : Ghost} {n : Nat} {w : World} {H : Heap} {R R' : AV → Nat → Heap → Prop} {c : Value} {w' : World} (h : Out g n w H R c w') (hr : ∀ v n' H', R v n' H' → R' v n' H') : Out g n w H R' c w' := by
  obtain ⟨v, n', H', g', r, rest⟩ := h
  exact ⟨v, n', H', g', hr _ _ _ r, rest⟩

/-- A call of function f at the abstract arguments comes to R. -/
def SimCalls (P : Program) (f : FuncId) (args : List AV) (n : Nat) (H : Heap) (R : AV → Nat → Heap → Prop) : Prop :=
  ∀ (g : Ghost) (w : World) (cs : List Value), VRels g n w args cs → HRel g n H w →
    Calls P f cs.toArray w fun e w' => ∃ c, e = .returned c ∧ Out g n w H R c w'

theorem SimCalls.mono {f : FuncId} {args : List AV} {n : Nat} {H : Heap} {R R' : AV → Nat → Heap → Prop} (h : SimCalls P f args n H R) (hr : ∀ v n' H', R v n' H' → R' v n' H') : SimCalls P f args n H R' :=
  fun g w cs hv hh => (h g w cs hv hh).mono fun e w' ⟨c, he, ho⟩ => ⟨c, he, ho.mono hr⟩

/-- A function of by-value arguments that leaves the heap alone. -/
def SimF (P : Program) (f : FuncId) (args : List AV) (r : AV) : Prop := ∀ n H, SimCalls P f args n H fun v n' H' => v = r ∧ n' = n ∧ H' = H

theorem SimF.use {f : FuncId} {args : List AV} {r : AV} (h : SimF P f args r) {n : Nat} {H : Heap} {R : AV → Nat → Heap → Prop} (hr : R r n H) : SimCalls P f args n H R :=
  (h n H).mono fun v n' H' ⟨h1, h2, h3⟩ => by subst h1 h2 h3; exact hr

structure Ctx where
  fn : Func
  f : FuncId
  n0 : Nat
  R : AV → Nat → Heap → Prop

/-- From here on (todo list k, what E, n, H tell) the function returns, as X.R says. -/
def SimK (P : Program) (X : Ctx) (k : List Item) (E : Env) (n : Nat) (H : Heap) : Prop :=
  X.n0 ≤ n → ∀ (g : Ghost) (w : World) (a : Act) (b : Frame) (cs : List Frame), a.tmps.size = X.fn.ntmps → a.defers = [] → ERel g n w E a.tmps → HRel g n H w →
    ∃ c w' a' todo, Steps P (lone (b.at a k) cs w) (lone { b.at a' todo with mode := .returning } cs w') ∧ a'.defers = [] ∧
      (results X.fn a'.tmps).run P w' = .ok c w' ∧ Out g X.n0 w H X.R c w'

variable {X : Ctx} {k : List Item} {E : Env} {n : Nat} {H : Heap}

theorem SimK.of_step {k' : List Item} (h : SimK P X k' E n H) (hs : ∀ (a : Act) (b : Frame) (cs : List Frame) (w : World), step P (lone (b.at a k) cs w) = .next (lone (b.at a k') cs w)) : SimK P X k E n H := by
  intro hn0 g w a b cs ha hd he hh
  obtain ⟨c, w', a', todo, st, rest⟩ := h hn0 g w a b cs ha hd he hh
  exact ⟨c, w', a', todo, .head (hs a b cs w) st, rest⟩

theorem SimK.skip (h : SimK P X k E n H) : SimK P X (.code .skip :: k) E n H := h.of_step fun _ _ _ _ => step_skip
theorem SimK.seq {x y : Code} (h : SimK P X (.code x :: .code y :: k) E n H) : SimK P X (.code (.seq x y) :: k) E n H := h.of_step fun _ _ _ _ => step_seq
theorem SimK.block {id : Nat} {c : Code} (h : SimK P X (.code c :: .inBlock id :: k) E n H) : SimK P X (.code (.block id c) :: k) E n H := h.of_step fun _ _ _ _ => step_block
theorem SimK.inBlock {id : Nat} (h : SimK P X k E n H) : SimK P X (.inBlock id :: k) E n H := h.of_step fun _ _ _ _ => step_inBlock
theorem SimK.loop {c : Code} (h : SimK P X (.inLoop c :: k) E n H) : SimK P X (.code (.loop c) :: k) E n H := by
  intro hn0 g w a b cs ha hd he hh
  obtain ⟨r, w', a', todo, ⟨N, st⟩, rest⟩ := h hn0 g w a b cs ha hd he hh
  refine ⟨r, w', a', todo, ?_, rest⟩
  -- both items step to the same machine
  cases N with
  | zero =>
    simp only [runN] at st
    injection st with st
    have := congrArg (fun m : Machine => (m.gs[0]?).map (·.frame.mode)) st
    simp [lone, Frame.at] at this
  | succ N =>
    simp only [runN, step_inLoop] at st
    exact ⟨N + 1, by simp only [runN, step_loop]; exact st⟩
theorem SimK.inLoop {c : Code} (h : SimK P X (.code c :: .inLoop c :: k) E n H) : SimK P X (.inLoop c :: k) E n H := h.of_step fun _ _ _ _ => step_inLoop
theorem SimK.exit {id : Nat} {k' : List Item} (hk : exitTo id k = some k') (h : SimK P X k' E n H) : SimK P X (.code (.exit id) :: k) E n H := h.of_step fun _ _ _ _ => step_exit hk
theorem SimK.regionEnd {ops : Array Oper} (h : SimK P X k E n H) : SimK P X (.inRegion ops [] :: k) E n H := h.of_step fun _ _ _ _ => step_region_end
theorem SimK.region {id : Nat} {ops : Array Oper} (h : SimK P X (.inRegion ops (List.range ops.size) :: k) E n H) : SimK P X (.code (.region id ops false) :: k) E n H :=
  h.of_step fun _ _ _ _ => step_region

theorem HRel.drew {g : Ghost} {w w' : World} (h : HRel g n H w) (hw : w'.heap = w.heap) (hx : Ext n g w g w') : HRel g n H w' :=
  ⟨h.apart, fun p hp => ⟨(h.ent p hp).1, (h.ent p hp).2.ext hx (Nat.le_refl _) rfl rfl rfl (by rw [hw])⟩, fun b hb => hx.rooms _ _ (h.fsz b hb)⟩

theorem Ext.same {g : Ghost} {w w' : World} (hw : w'.heap = w.heap) : Ext n g w g w' :=
  ⟨fun b i _ => by simp [World.cell?, hw], fun _ => Nat.le_refl _, fun _ _ => .inl ⟨rfl, rfl⟩, fun b k ⟨c, el, fz, h1, h2⟩ => ⟨c, el, fz, by rw [hw]; exact h1, h2⟩⟩

theorem Grow.same {g : Ghost} {w w' : World} (hw : w'.heap = w.heap) (ho : Oth w w') : Grow n g w H g w' H :=
  { Ext.same hw with size := by rw [hw]; exact Nat.le_refl _, old := fun b _ _ => ⟨by rw [hw], rfl⟩, owns := fun p hp => .inl ⟨p, hp, rfl⟩, oth := ho }

theorem Out.grow {g g1 : Ghost} {n1 : Nat} {w w1 w' : World} {H1 : Heap} {R : AV → Nat → Heap → Prop} {c : Value} (h : Out g1 n1 w1 H1 R c w') (hn : n ≤ n1) (hg : Grow n g w H g1 w1 H1) : Out g n w H R c w' := by
  obtain ⟨v, n', H', g', r, hle, hv, hh, hgr⟩ := h
  exact ⟨v, n', H', g', r, Nat.le_trans hn hle, hv, hh, hg.trans hgr hn⟩

theorem Grow.le {n n' : Nat} {g g' : Ghost} {w w' : World} {H H' : Heap} (h : Grow n' g w H g' w' H') (hn : n ≤ n') : Grow n g w H g' w' H' :=
  ⟨h.toExt.le hn, h.size, h.old, h.owns, h.oth⟩

theorem SimK.regionDraw {id : Nat} {ops : Array Oper} (h : ∀ t, SimK P X (.inRegion ops (Region.schedule (P.follows .mixedOrders) ops t) :: k) E n H) : SimK P X (.code (.region id ops true) :: k) E n H := by
  intro hn0 g w a b cs ha hd he hh
  have hw : ({ w with drawn := w.drawn + 1 } : World).heap = w.heap := rfl
  obtain ⟨c, w', a', todo, st, h1, h2, h3⟩ := h (w.tape w.drawn (.order b.fn id)) hn0 g { w with drawn := w.drawn + 1 } a b cs ha hd
    (he.ext (Ext.same hw) (Nat.le_refl _)) (hh.drew hw (Ext.same hw))
  exact ⟨c, w', a', todo, .head step_region_draw st, h1, h2, h3.grow (Nat.le_refl _) (Grow.same hw ⟨rfl, rfl, rfl⟩)⟩

theorem SimK.cond {c : Operand} {x y : Code} (hc : ∀ (g : Ghost) (w : World) (a : Act), ERel g n w E a.tmps → ∃ t, a.eval c = .bool t ∧ SimK P X (.code (if t then x else y) :: k) E n H) :
    SimK P X (.code (.cond c x y) :: k) E n H := by
  intro hn0 g w a b cs ha hd he hh
  obtain ⟨t, ht, h⟩ := hc g w a he
  obtain ⟨c, w', a', todo, st, rest⟩ := h hn0 g w a b cs ha hd he hh
  exact ⟨c, w', a', todo, .head (step_cond ht) st, rest⟩

/-- The end of the body, or a return: the results are read. -/
theorem SimK.ret (h : ∀ (g : Ghost) (w : World) (a : Act), a.tmps.size = X.fn.ntmps → ERel g n w E a.tmps → HRel g n H w → ∃ c, (results X.fn a.tmps).run P w = .ok c w ∧ Out g X.n0 w H X.R c w) :
    SimK P X (.code .ret :: k) E n H := by
  intro hn0 g w a b cs ha hd he hh
  obtain ⟨c, h1, h2⟩ := h g w a ha he hh
  exact ⟨c, w, a, _, .one step_ret, hd, h1, h2⟩
theorem SimK.fin (h : ∀ (g : Ghost) (w : World) (a : Act), a.tmps.size = X.fn.ntmps → ERel g n w E a.tmps → HRel g n H w → ∃ c, (results X.fn a.tmps).run P w = .ok c w ∧ Out g X.n0 w H X.R c w) :
    SimK P X [] E n H := by
  intro hn0 g w a b cs ha hd he hh
  obtain ⟨c, h1, h2⟩ := h g w a ha he hh
  exact ⟨c, w, a, _, .one step_end, hd, h1, h2⟩

/-- One operation of a region. -/
def OpR (P : Program) (o : Oper) (ρ : Operand → Value) (g : Ghost) (n : Nat) (w : World) (H : Heap) (R : AV → Nat → Heap → Prop) : Prop :=
  match (execOp ρ o).run P w with
  | .ok (.value c) w' => Out g n w H R c w'
  | .ok .skip w' => Out g n w H R undef w'
  | .ok (.enter f args) w1 => Calls P f args w1 fun e w' => ∃ c, e = .returned c ∧ Out g n w H R c w'
  | _ => False

theorem SimK.op {ops : Array Oper} {i : Nat} {rest : List Nat} {o : Oper} (ho : ops[i]? = some o) (hd : ∀ d, o.dst = some d → d < X.fn.ntmps) {R : AV → Nat → Heap → Prop}
    (hw : ∀ (g : Ghost) (w : World) (a : Act), ERel g n w E a.tmps → HRel g n H w → Region.wanted o (yielded ops a.tmps) = true ∧ OpR P o a.eval g n w H R)
    (h : ∀ v n' H', R v n' H' → SimK P X (.inRegion ops rest :: k) (put E o.dst v) n' H') : SimK P X (.inRegion ops (i :: rest) :: k) E n H := by
  intro hn0 g w a b cs ha hdf he hh
  obtain ⟨hwant, hop⟩ := hw g w a he hh
  have hg := stepG_op (P := P) (b := b) (a := a) (k := k) (cs := cs) (w := w) (rest := rest) ho hwant
  have hfin : ∀ v, (b.at a (.inRegion ops (i :: rest) :: k)).finish v = b.at (a.put o.dst v) (.inRegion ops rest :: k) := by
    intro v; rw [Frame.finish_at, ho]; rfl
  have key : ∀ c w', Out g n w H R c w' → Steps P (lone (b.at a (.inRegion ops (i :: rest) :: k)) cs w) (lone (b.at (a.put o.dst c) (.inRegion ops rest :: k)) cs w') →
      ∃ c w' a' todo, Steps P (lone (b.at a (.inRegion ops (i :: rest) :: k)) cs w) (lone { b.at a' todo with mode := .returning } cs w') ∧ a'.defers = [] ∧
      (results X.fn a'.tmps).run P w' = .ok c w' ∧ Out g X.n0 w H X.R c w' := by
    rintro c w' ⟨v, n', H', g', hr, hle, hv, hh', hgr⟩ hst
    have he' : ERel g' n' w' (put E o.dst v) (a.put o.dst c).tmps := (he.ext hgr.toExt hle).put hv o.dst (fun i hi => by rw [ha]; exact hd i hi)
    obtain ⟨c2, w2, a2, todo, st, h1, h2, h3⟩ := h v n' H' hr (Nat.le_trans hn0 hle) g' w' (a.put o.dst c) b cs (by simpa using ha) (by simpa using hdf) he' hh'
    exact ⟨c2, w2, a2, todo, hst.trans st, h1, h2, h3.grow (Nat.le_refl _) (hgr.le hn0)⟩
  unfold OpR at hop
  split at hop
  · rename_i c w' hr
    refine key c w' hop (.one (step_lone_go ?_))
    rw [hg, ← hfin]; simp [stepG.apply, hr]
  · rename_i w' hr
    refine key undef w' hop (.one (step_lone_go ?_))
    rw [hg, ← hfin]; simp [stepG.apply, hr]
  · rename_i f args w1 hr
    obtain ⟨e, w2, fr, ⟨c, he2, hout⟩, hcomes, _, hleave⟩ := hop (b.at a (.inRegion ops (i :: rest) :: k) :: cs)
    subst he2
    have henter : step P (lone (b.at a (.inRegion ops (i :: rest) :: k)) cs w) =
        .next (lone (Frame.enter P f args .normal) (b.at a (.inRegion ops (i :: rest) :: k) :: cs) w1) :=
      step_lone_go (by rw [hg]; simp [stepG.apply, hr, Frame.at])
    refine key c w2 hout (.head henter (Steps.trans hcomes (.one ?_)))
    rw [← hfin]; exact step_leave_returned hleave
  · exact hop.elim

/-- An operation whose guard says no. -/
theorem SimK.opSkip {ops : Array Oper} {i : Nat} {rest : List Nat} {o : Oper} (ho : ops[i]? = some o) (hd : ∀ d, o.dst = some d → d < X.fn.ntmps)
    (hw : ∀ (g : Ghost) (w : World) (a : Act), ERel g n w E a.tmps → Region.wanted o (yielded ops a.tmps) = false)
    (h : SimK P X (.inRegion ops rest :: k) (put E o.dst (.tup [])) n H) : SimK P X (.inRegion ops (i :: rest) :: k) E n H := by
  intro hn0 g w a b cs ha hdf he hh
  have hwant := hw g w a he
  have hs := step_op_skip (P := P) (b := b) (a := a) (k := k) (cs := cs) (w := w) (ops := ops) (i := i) (rest := rest) (by simp [ho, hwant])
  simp only [ho, Option.bind_some] at hs
  obtain ⟨c2, w2, a2, todo, st, rest⟩ := h hn0 g w (a.put o.dst undef) b cs (by simpa using ha) (by simpa using hdf) (he.put (.tup [] [] .nil) o.dst (fun i hi => by rw [ha]; exact hd i hi)) hh
  exact ⟨c2, w2, a2, todo, .head hs st, rest⟩

/-- Knowing less of the temporaries, or of the heap. -/
theorem SimK.sub {E' : Env} {H' : Heap} {n' : Nat} (h : SimK P X k E' n' H') (hE : ∀ p ∈ E', p ∈ E) (hH : H'.Sublist H) (hn : n ≤ n') : SimK P X k E n H := by
  intro hn0 g w a b cs ha hd he hh
  have hs : ∀ p ∈ H', p ∈ H := fun p hp => hH.subset hp
  obtain ⟨c2, w2, a2, todo, st, h1, h2, h3⟩ := h (Nat.le_trans hn0 hn) g w a b cs ha hd ((he.sub hE).ext (Ext.refl _ _ _) hn)
    ⟨hh.apart.sublist hH, fun p hp => ⟨Nat.lt_of_lt_of_le (hh.ent p (hs p hp)).1 hn, (hh.ent p (hs p hp)).2.ext (Ext.refl _ _ _) hn rfl rfl rfl rfl⟩, hh.fsz⟩
  refine ⟨c2, w2, a2, todo, st, h1, h2, h3.grow (Nat.le_refl _) ?_⟩
  exact { Ext.refl X.n0 g w with size := Nat.le_refl _, old := fun b hb hno => ⟨rfl, rfl⟩, owns := fun p hp => .inl ⟨p, hs p hp, rfl⟩, oth := Oth.refl w }

theorem SimK.subv {E' : Env} (h : SimK P X k E' n H) (hE : ∀ p ∈ E', p.2 = val E p.1) : SimK P X k E n H := by
  intro hn0 g w a b cs ha hd he hh
  exact h hn0 g w a b cs ha hd (fun p hp => by rw [hE p hp]; exact he.val p.1) hh

/-- A call, from its body. -/
theorem SimCalls.of_body {f : FuncId} {fn : Func} {c : Code} {args : List AV} {R : AV → Nat → Heap → Prop} (hf : P.funcs[f]? = some fn) (hb : fn.body = some c) (hn : args.length ≤ fn.ntmps)
    (h : SimK P ⟨fn, f, n, R⟩ [.code c] ((List.range args.length).zip args) n H) : SimCalls P f args n H R := by
  intro g w cs hv hh cs0
  let b : Frame := { (default : Frame) with fn := f, kind := .normal }
  have hlen := hv.length
  have henter : Frame.enter P f cs.toArray .normal =
      b.at { tmps := cs.toArray ++ Array.replicate (fn.ntmps - cs.toArray.size) undef, defers := [] } [.code c] := by
    simp [Frame.enter, Frame.at, hf, hb, b]
  have he : ERel g n w ((List.range args.length).zip args) (cs.toArray ++ Array.replicate (fn.ntmps - cs.toArray.size) undef) := by
    rintro ⟨i, v⟩ hp
    obtain ⟨j, hj⟩ := List.getElem?_of_mem hp
    rw [List.getElem?_zip_eq_some] at hj
    obtain ⟨h1, h2⟩ := hj
    have hj' : j < args.length := by
      rcases Nat.lt_or_ge j args.length with h' | h'
      · exact h'
      · rw [List.getElem?_eq_none h'] at h2; cases h2
    have hji : j = i := by simpa [hj'] using h1
    subst hji
    have hrel : ∀ {as : List AV} {vs : List Value}, VRels g n w as vs → ∀ (i : Nat) (v : AV), as[i]? = some v → VRel g n w v (vs.getD i undef) := by
      intro as vs hr
      induction as generalizing vs with
      | nil => intro i v hi; simp at hi
      | cons x xs ih =>
        cases hr with
        | cons _ y _ ys h t =>
          intro i v hi
          cases i with
          | zero => simp at hi; subst hi; simpa using h
          | succ i => simp at hi; simpa using ih t i v hi
    have := hrel hv j v h2
    have e : (cs.toArray ++ Array.replicate (fn.ntmps - cs.toArray.size) undef).getD j undef = cs.getD j undef := by
      simp only [Array.getD_eq_getD_getElem?, List.getD_eq_getElem?_getD]
      rw [Array.getElem?_append_left (by simp; omega)]
      simp
    simp only
    rw [e]
    exact this
  have hsz : (cs.toArray ++ Array.replicate (fn.ntmps - cs.toArray.size) undef).size = fn.ntmps := by simp; omega
  obtain ⟨r, w', a', todo, st, h1, h2, h3⟩ := h (Nat.le_refl _) g w { tmps := cs.toArray ++ Array.replicate (fn.ntmps - cs.toArray.size) undef, defers := [] } b cs0 hsz rfl he hh
  rw [← henter] at st
  exact ⟨.returned r, w', _, ⟨r, rfl, h3⟩, st, rfl, rfl, h1, rfl, fn, hf, h2⟩

end Go.Ab
