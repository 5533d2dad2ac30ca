/- The abstract run of a whole body: returns, and calls from bodies. Over any program. -/
import Derived.Test.YtobhjgipeepmoaaAbCode
namespace Go.Ab
set_option linter.unusedVariables false
set_option linter.unusedSimpArgs false

variable {P : Program} {X : Ctx} {F : Cfg} {k : List XItem} {E : Env} {n : Nat} {H : Heap} {g : Ghost} {w : World}

mutual
def below (n : Nat) : AV → Bool
  | .fn _ cap => belows n cap
  | .agg cs => belows n cs
  | .tup cs => belows n cs
  | .acc id _ _ => decide (id < n)
  | .ptr id _ => decide (id < n)
  | .ref id _ _ _ => decide (id < n)
  | .vec id _ _ _ _ => decide (id < n)
  | .vptr id _ _ => decide (id < n)
  | _ => true
def belows (n : Nat) : List AV → Bool
  | [] => true
  | a :: as => below n a && belows n as
end

mutual
theorem VRel.isB {w : World} : ∀ {n : Nat} {a : AV} {c : Value}, VRel g n w a c → Ab.below n a = true
  | _, _, _, .junk v => by simp [Ab.below]
  | _, _, _, .bool b => by simp [Ab.below]
  | _, _, _, .int k i => by simp [Ab.below]
  | _, _, _, .str s => by simp [Ab.below]
  | _, _, _, .fn f cap vs h => by simp [Ab.below, h.isB]
  | _, _, _, .agg cs vs h => by simp [Ab.below, h.isB]
  | _, _, _, .tup cs vs h => by simp [Ab.below, h.isB]
  | _, _, _, .nilsl => by simp [Ab.below]
  | _, _, _, .sl rows s a b off cap vs ha hc hs hf hr hv => by simp [Ab.below]
  | _, _, _, .acc id s rows a b off cap vs ha hc hs hf hr hv hid hl => by simp [Ab.below, hid]
  | _, _, _, .fptr cs b off vs hf hr hv => by simp [Ab.below]
  | _, _, _, .ptr id off hid hk => by simp [Ab.below, hid]
  | _, _, _, .ref id s off len cap hid hk hc hr => by simp [Ab.below, hid]
  | _, _, _, .vec id ver s off len a cap hid hl => by simp [Ab.below, hid]
  | _, _, _, .vptr id ver off a hid hl => by simp [Ab.below, hid]
theorem VRels.isB {w : World} : ∀ {n : Nat} {as : List AV} {cs : List Value}, VRels g n w as cs → belows n as = true
  | _, _, _, .nil => by simp [belows]
  | _, _, _, .cons a v as vs h t => by simp [belows, h.isB, t.isB]
end

mutual
theorem VRel.lower {w : World} {m : Nat} : ∀ {n : Nat} {a : AV} {c : Value}, VRel g n w a c → Ab.below m a = true → VRel g m w a c
  | _, _, _, .junk v, _ => .junk v
  | _, _, _, .bool b, _ => .bool b
  | _, _, _, .int k i, _ => .int k i
  | _, _, _, .str s, _ => .str s
  | _, _, _, .fn f cap vs h, hb => .fn f cap vs (h.lower (by simpa [Ab.below] using hb))
  | _, _, _, .agg cs vs h, hb => .agg cs vs (h.lower (by simpa [Ab.below] using hb))
  | _, _, _, .tup cs vs h, hb => .tup cs vs (h.lower (by simpa [Ab.below] using hb))
  | _, _, _, .nilsl, _ => .nilsl
  | _, _, _, .sl rows s a b off cap vs ha hc hs hf hr hv, _ => .sl rows s a b off cap vs ha hc hs hf hr hv
  | _, _, _, .acc id s rows a b off cap vs ha hc hs hf hr hv hid hl, hb => .acc id s rows a b off cap vs ha hc hs hf hr hv (by simpa [Ab.below] using hb) hl
  | _, _, _, .fptr cs b off vs hf hr hv, _ => .fptr cs b off vs hf hr hv
  | _, _, _, .ptr id off hid hk, hb => .ptr id off (by simpa [Ab.below] using hb) hk
  | _, _, _, .ref id s off len cap hid hk hc hr, hb => .ref id s off len cap (by simpa [Ab.below] using hb) hk hc hr
  | _, _, _, .vec id ver s off len a cap hid hl, hb => .vec id ver s off len a cap (by simpa [Ab.below] using hb) hl
  | _, _, _, .vptr id ver off a hid hl, hb => .vptr id ver off a (by simpa [Ab.below] using hb) hl
theorem VRels.lower {w : World} {m : Nat} : ∀ {n : Nat} {as : List AV} {cs : List Value}, VRels g n w as cs → belows m as = true → VRels g m w as cs
  | _, _, _, .nil, _ => .nil
  | _, _, _, .cons a v as vs h t, hb => by
    simp only [belows, Bool.and_eq_true] at hb
    exact .cons a v as vs (h.lower hb.1) (t.lower hb.2)
end

def belowO (n : Nat) : HObj → Bool
  | .tok _ _ => true
  | .own cells => belows n cells
  | .vob _ _ cells => belows n cells
def HB (n : Nat) (H : Heap) : Prop := ∀ p ∈ H, p.1 < n ∧ belowO n p.2 = true

theorem HRel.hb (h : HRel g n H w) : HB n H := fun p hp => by
  obtain ⟨h1, h2⟩ := h.ent p hp
  refine ⟨h1, ?_⟩
  cases hp2 : p.2 with
  | tok s len => rfl
  | own cells => rw [hp2] at h2; obtain ⟨_, _, c, el, vs, _, _, h3⟩ := h2; exact h3.isB
  | vob ver s cells => rw [hp2] at h2; obtain ⟨_, _, c, el, vs, _, _, h3⟩ := h2; exact h3.isB

theorem HRel.lower {m : Nat} {H' : Heap} (h : HRel g n H w) (hs : H'.Sublist H) (hb : HB m H') : HRel g m H' w :=
  ⟨h.apart.sublist hs, fun p hp => by
    refine ⟨(hb p hp).1, ?_⟩
    have h1 := (h.ent p (hs.subset hp)).2
    have h2 := (hb p hp).2
    cases hp2 : p.2 with
    | tok s len => rw [hp2] at h1; exact h1
    | own cells =>
      rw [hp2] at h1 h2
      obtain ⟨a1, a2, c, el, vs, a3, a4, a5⟩ := h1
      exact ⟨a1, a2, c, el, vs, a3, a4, a5.lower h2⟩
    | vob ver s cells =>
      rw [hp2] at h1 h2
      obtain ⟨a1, a2, c, el, vs, a3, a4, a5⟩ := h1
      exact ⟨a1, a2, c, el, vs, a3, a4, a5.lower h2⟩, h.fsz⟩

/-! ### Returns -/
def ret1 (P : Program) (E : Env) (H : Heap) : ResultVar → Option AV
  | .tmp t => some (val E t)
  | .cell a t => match ldSize P t, val E a with
    | some s, .ptr id off => match hget H id with
      | some (.own cells) => ldc s (cells.drop off)
      | _ => none
    | some s, .fptr cs => ldc s cs
    | _, _ => none
def retsL (P : Program) (E : Env) (H : Heap) : List ResultVar → Option (List AV)
  | [] => some []
  | r :: rs => match ret1 P E H r, retsL P E H rs with
    | some v, some vs => some (v :: vs)
    | _, _ => none
def retV : List AV → AV
  | [v] => v
  | vs => .tup vs

/-- What is handed back, once the rest is forgotten. -/
def Fin (n0 n : Nat) (H : Heap) (v : AV) (R : AV → Nat → Heap → Prop) : Prop :=
  ∀ (g : Ghost) (w : World) (c : Value), n0 ≤ n → VRel g n w v c → HRel g n H w → Out g n0 w H R c w

theorem ret1_run {r : ResultVar} {v : AV} {a : Act} (he : ERel g n w E a.tmps) (hh : HRel g n H w) (h : ret1 P E H r = some v) :
    ∃ c, ((match r with | .tmp t => pure (a.tmps.getD t undef) | .cell x t => do loadVar t (← asAddr (a.tmps.getD x undef)) : Sem Value)).run P w = .ok c w ∧ VRel g n w v c := by
  cases r with
  | tmp t => simp only [ret1, Option.some.injEq] at h; subst h; exact ⟨_, rfl, he.val t⟩
  | cell x t =>
    simp only [ret1] at h
    have hv := he.val x
    split at h
    · rename_i s id off hs hval
      rw [hval] at hv
      generalize hc : a.tmps.getD x undef = u at hv
      cases hv with | ptr _ _ hid hk =>
      split at h
      · rename_i cells hg
        obtain ⟨vs, hr, hvs⟩ := own_run hh hg
        obtain ⟨c, hrun, hrel⟩ := run_loadVar hs (b := g.β id) (off := off) (vs := vs.drop off) (by have := hr.drop off; rwa [Nat.zero_add] at this) (hvs.drop off) h
        exact ⟨c, by simp [hc, asAddr, hrun], hrel⟩
      · cases h
    · rename_i s cs hs hval
      rw [hval] at hv
      generalize hc : a.tmps.getD x undef = u at hv
      cases hv with | fptr _ b off vs hf hr hvs =>
      obtain ⟨c, hrun, hrel⟩ := run_loadVar hs hr hvs h
      exact ⟨c, by simp [hc, asAddr, hrun], hrel.up⟩
    · cases h

theorem retsL_run {a : Act} (he : ERel g n w E a.tmps) (hh : HRel g n H w) : ∀ {rs : List ResultVar} {vs : List AV}, retsL P E H rs = some vs →
    ∃ cs, (rs.mapM fun r => (match r with | .tmp t => pure (a.tmps.getD t undef) | .cell x t => do loadVar t (← asAddr (a.tmps.getD x undef)) : Sem Value)).run P w = .ok cs w ∧ VRels g n w vs cs
  | [], vs, h => by simp only [retsL, Option.some.injEq] at h; subst h; exact ⟨[], by simp, .nil⟩
  | r :: rs, vs, h => by
    simp only [retsL] at h
    split at h
    · rename_i v vs' h1 h2
      simp only [Option.some.injEq] at h
      subst h
      obtain ⟨c, hc, hrel⟩ := ret1_run (P := P) he hh h1
      obtain ⟨cs, hcs, hrels⟩ := retsL_run he hh h2
      refine ⟨c :: cs, ?_, .cons _ _ _ _ hrel hrels⟩
      rw [List.mapM_cons, Sem.run_bind, hc, Result.andThen_ok, Sem.run_bind, hcs, Result.andThen_ok]
      rfl
    · cases h

theorem results_run {fn : Func} {a : Act} {vs : List AV} (he : ERel g n w E a.tmps) (hh : HRel g n H w) (h : retsL P E H fn.results.toList = some vs) :
    ∃ c, (results fn a.tmps).run P w = .ok c w ∧ VRel g n w (retV vs) c := by
  obtain ⟨cs, hcs, hrel⟩ := retsL_run (P := P) he hh h
  have hl := hrel.length
  have hm : (fn.results.mapM fun r => (match r with | .tmp t => pure (a.tmps.getD t undef) | .cell x t => do loadVar t (← asAddr (a.tmps.getD x undef)) : Sem Value)).run P w = .ok cs.toArray w := by
    rw [Array.mapM_eq_mapM_toList, Sem.run_map, hcs]; rfl
  unfold results
  rw [Sem.run_bind]
  erw [hm]
  rw [Result.andThen_ok]
  by_cases h1 : cs.length = 1
  · obtain ⟨c, rfl⟩ : ∃ c, cs = [c] := by
      cases cs with
      | nil => simp at h1
      | cons c t => cases t with
        | nil => exact ⟨c, rfl⟩
        | cons _ _ => simp at h1
    obtain ⟨v, rfl, hv⟩ := hrel.one
    exact ⟨c, by simp, hv⟩
  · refine ⟨.tuple cs.toArray, by simp [h1], ?_⟩
    have : retV vs = .tup vs := by
      cases vs with
      | nil => rfl
      | cons v t => cases t with
        | nil => simp at hl; omega
        | cons _ _ => rfl
    rw [this]
    exact .tup vs cs hrel

theorem XS.ret {vs : List AV} (hr : retsL P E H X.fn.results.toList = some vs) (hf : Fin X.n0 n H (retV vs) X.R) : XS P X F (.code .ret :: k) E n H := by
  intro k' hk
  obtain ⟨y, ys, rfl, h1, h2⟩ := hk.cons
  obtain ⟨c, rfl, hc⟩ := h1.code_inv
  cases c with
  | ret =>
    intro hn0
    refine SimK.ret (P := P) (X := X) (fun g w a _ he hh => ?_) hn0
    obtain ⟨c, h3, h4⟩ := results_run (P := P) he hh hr
    exact ⟨c, h3, hf g w c hn0 h4 hh⟩
  | region id ops d => cases d <;> simp [cCode] at hc
  | seq a b => simp only [cCode] at hc; split at hc <;> simp at hc
  | cond c a b => simp only [cCode] at hc; split at hc <;> simp at hc
  | block id c => simp [cCode] at hc
  | loop c => simp [cCode] at hc
  | _ => simp [cCode] at hc

theorem XS.fin {vs : List AV} (hr : retsL P E H X.fn.results.toList = some vs) (hf : Fin X.n0 n H (retV vs) X.R) : XS P X F [] E n H := by
  intro k' hk
  cases k' with
  | cons y ys => exact hk.elim
  | nil =>
    intro hn0
    refine SimK.fin (P := P) (X := X) (fun g w a _ he hh => ?_) hn0
    obtain ⟨c, h3, h4⟩ := results_run (P := P) he hh hr
    exact ⟨c, h3, hf g w c hn0 h4 hh⟩

variable {n0 : Nat} {v : AV} {R : AV → Nat → Heap → Prop}

theorem Fin.same (h : R v n H) : Fin n0 n H v R := fun g w c hn hv hh => ⟨v, n, H, g, h, hn, hv, hh, Grow.refl _ _ _ _⟩

theorem Grow.dropH {H' : Heap} (hs : H'.Sublist H) : Grow n g w H g w H' :=
  ⟨Ext.refl _ _ _, Nat.le_refl _, fun _ _ _ => ⟨rfl, rfl⟩, fun p hp => .inl ⟨p, hs.subset hp, rfl⟩, Oth.refl _⟩

theorem Fin.low {H0 : Heap} (hb : below n0 v = true) (hB : HB n0 H0) (hs : H0.Sublist H) (h : R v n0 H0) : Fin n0 n H v R :=
  fun g w c hn hv hh => ⟨v, n0, H0, g, h, Nat.le_refl _, hv.lower hb, hh.lower hs hB, Grow.dropH hs⟩

def fzt : AV → AV
  | .tup vs => .tup (vs.map fz)
  | .agg vs => .agg (vs.map fz)
  | v => fz v

theorem VRels.fzd {as : List AV} {vs : List Value} (h : VRels g n w as vs) : VRels g n w (as.map fz) vs := by
  induction as generalizing vs with
  | nil => cases h; exact .nil
  | cons a as ih => cases h with | cons _ v _ vs h t => exact .cons _ _ _ _ h.fzd (ih t)

theorem VRel.fztd {v : AV} {c : Value} (h : VRel g n w v c) : VRel g n w (fzt v) c := by
  cases v
  case tup vs => cases h with | tup _ cs h => exact .tup _ cs h.fzd
  case agg vs => cases h with | agg _ cs h => exact .agg _ cs h.fzd
  all_goals exact h.fzd

theorem Fin.fz (h : Fin n0 n H (fzt v) R) : Fin n0 n H v R := fun g w c hn hv hh => h g w c hn hv.fztd hh

/-- An accumulator of the function's own is handed back, under the caller's next number. -/
theorem accRename {id s : Nat} {rows : List (List AV)} {H0 : Heap} (hh : HRel g n H w) (hm : (id, HObj.tok s rows.length) ∈ H) (hid : n0 ≤ id) (hB : HB n0 H0) (hs : H0.Sublist H) :
    HRel ⟨upd g.β n0 (g.β id), upd g.fr n0 (g.fr id), g.φ⟩ (n0 + 1) ((n0, .tok s rows.length) :: H0) w ∧ Grow n0 g w H ⟨upd g.β n0 (g.β id), upd g.fr n0 (g.fr id), g.φ⟩ w ((n0, .tok s rows.length) :: H0) := by
  have hx : Ext n0 g w ⟨upd g.β n0 (g.β id), upd g.fr n0 (g.fr id), g.φ⟩ w :=
    ⟨fun _ _ _ => rfl, fun _ => Nat.le_refl _, fun i hi => .inl ⟨upd_ne _ _ (Nat.ne_of_lt hi), upd_ne _ _ (Nat.ne_of_lt hi)⟩, fun _ _ h => h⟩
  have hl := hh.lower hs hB
  have hne : ∀ p ∈ H0, g.β p.1 ≠ g.β id := fun p hp => apart_of hh (hs.subset hp) hm (by have := (hB p hp).1; omega)
  have hβ : ∀ p ∈ H0, upd g.β n0 (g.β id) p.1 = g.β p.1 := fun p hp => upd_ne _ _ (Nat.ne_of_lt (hB p hp).1)
  have hl2 : HRel ⟨upd g.β n0 (g.β id), upd g.fr n0 (g.fr id), g.φ⟩ n0 H0 w := by
    refine ⟨hl.apart.imp_of_mem ?_, fun p hp => ⟨(hB p hp).1, ?_⟩, hh.fsz⟩
    · intro p q hp hq h
      refine ⟨h.1, ?_⟩
      show upd g.β n0 (g.β id) p.1 ≠ upd g.β n0 (g.β id) q.1
      rw [hβ p hp, hβ q hq]; exact h.2
    · exact (hl.ent p hp).2.ext hx (Nat.le_refl _) (hβ p hp) (upd_ne _ _ (Nat.ne_of_lt (hB p hp).1)) rfl rfl
  refine ⟨hl2.add _ (fun p hp => ?_) ?_, ⟨hx, Nat.le_refl _, fun _ _ _ => ⟨rfl, rfl⟩, fun p hp => ?_, Oth.refl _⟩⟩
  · show upd g.β n0 (g.β id) p.1 ≠ upd g.β n0 (g.β id) n0
    rw [hβ p hp, upd_same]; exact hne p hp
  · obtain ⟨_, h1, h2, c, el, h3, h4⟩ := hh.ent _ hm
    refine ⟨?_, ?_, c, el, ?_, h4⟩
    · show upd g.fr n0 (g.fr id) n0 = _
      rw [upd_same]; exact h1
    · show g.φ (upd g.β n0 (g.β id) n0) = _
      rw [upd_same]; exact h2
    · show w.heap[upd g.β n0 (g.β id) n0]? = _
      rw [upd_same]; exact h3
  · rw [List.mem_cons] at hp
    rcases hp with rfl | hp
    · exact .inl ⟨_, hm, by show g.β id = upd g.β n0 (g.β id) n0; rw [upd_same]⟩
    · exact .inl ⟨p, hs.subset hp, (hβ p hp).symm⟩

theorem VRel.accRename {id s : Nat} {rows : List (List AV)} {c : Value} (hv : VRel g n w (.acc id s rows) c) :
    VRel ⟨upd g.β n0 (g.β id), upd g.fr n0 (g.fr id), g.φ⟩ (n0 + 1) w (.acc n0 s rows) c := by
  cases hv with | acc _ _ _ a b off cap vs ha hc hs hf hr hv hid hl =>
  have hx : Ext 0 g w ⟨upd g.β n0 (g.β id), upd g.fr n0 (g.fr id), g.φ⟩ w :=
    ⟨fun _ _ _ => rfl, fun _ => Nat.le_refl _, fun i hi => absurd hi (Nat.not_lt_zero _), fun _ _ h => h⟩
  refine .acc n0 s rows a b off cap vs ha hc hs hf hr (hv.ext hx (Nat.le_refl _)) (Nat.lt_succ_self _) (fun m hm => ?_)
  have hm' : upd g.fr n0 (g.fr id) n0 = some m := hm
  rw [upd_same] at hm'
  obtain ⟨h1, h2⟩ := hl m hm'
  refine ⟨h1, fun e => ?_⟩
  show a = some (Addr.mk (upd g.β n0 (g.β id) n0) 0 none) ∧ room w (upd g.β n0 (g.β id) n0) _
  rw [upd_same]
  exact h2 e

theorem Fin.acc {id s : Nat} {rows : List (List AV)} {H0 : Heap} (hm : (id, HObj.tok s rows.length) ∈ H) (hid : n0 ≤ id) (hB : HB n0 H0) (hs : H0.Sublist H) (h : R (.acc n0 s rows) (n0 + 1) ((n0, .tok s rows.length) :: H0)) : Fin n0 n H (.acc id s rows) R := by
  intro g w c hn hv hh
  obtain ⟨h1, h2⟩ := accRename hh hm hid hB hs
  exact ⟨_, _, _, _, h, Nat.le_succ _, hv.accRename, h1, h2⟩

theorem Fin.accT {id s : Nat} {rows : List (List AV)} {x : AV} {H0 : Heap} (hm : (id, HObj.tok s rows.length) ∈ H) (hid : n0 ≤ id) (hB : HB n0 H0) (hs : H0.Sublist H) (hx : below n0 x = true)
    (h : R (.tup [.acc n0 s rows, x]) (n0 + 1) ((n0, .tok s rows.length) :: H0)) : Fin n0 n H (.tup [.acc id s rows, x]) R := by
  intro g w c hn hv hh
  obtain ⟨h1, h2⟩ := accRename hh hm hid hB hs
  cases hv with | tup _ cs hcs =>
  obtain ⟨a, b, e, ha, hb⟩ : ∃ a b, cs = [a, b] ∧ VRel g n w (.acc id s rows) a ∧ VRel g n w x b := by
    cases hcs with | cons _ a _ _ h3 t => cases t with | cons _ b _ _ h4 t => cases t; exact ⟨a, b, rfl, h3, h4⟩
  subst e
  refine ⟨_, _, _, _, h, Nat.le_succ _, .tup _ [a, b] (.cons _ _ _ _ ha.accRename (.cons _ _ _ _ ?_ .nil)), h1, h2⟩
  exact (hb.lower hx).ext h2.toExt (Nat.le_succ _)

def env0 : Nat → List AV → Env
  | _, [] => []
  | i, a :: as => (i, a) :: env0 (i + 1) as
theorem env0_eq : ∀ (as : List AV) (i : Nat), env0 i as = (List.range' i as.length).zip as
  | [], i => rfl
  | a :: as, i => by rw [env0, env0_eq as (i + 1), List.length_cons, List.range'_succ, List.zip_cons_cons]

/-- A function with a body. -/
theorem Runs.of {f : FuncId} {fn : Func} {x : XCode} {args : List AV} (F : Cfg) (hf : P.funcs[f]? = some fn) (hx : fn.body.bind (cCode P fn.ntmps F.md F.kp) = some x) (hnm : (fn.name == "runtime.NumGoroutine") = false) (hn : Nat.ble args.length fn.ntmps = true)
    (h : HB n H → XS P ⟨fn, f, n, R⟩ F [.code x] (env0 0 args) n H) : Runs P f args n H R := by
  rw [Option.bind_eq_some_iff] at hx
  obtain ⟨c, hb, hc⟩ := hx
  refine SimCalls.runs (fn := fn) ?_ hf (by rw [hb]; rfl) hnm
  intro g w cs hv hh
  refine SimCalls.of_body hf hb (Nat.le_of_ble_eq_true hn) ?_ g w cs hv hh
  have := h hh.hb [.code c] ⟨hc, trivial⟩
  rwa [env0_eq, ← List.range_eq_range'] at this

theorem Runs.fz {f : FuncId} {args : List AV} (h : Runs P f (args.map Ab.fz) n H R) : Runs P f args n H R :=
  fun g w cs hv hh => h g w cs hv.fzd hh
theorem Runs.fzt {f : FuncId} {args : List AV} (h : Runs P f (args.map Ab.fzt) n H R) : Runs P f args n H R := by
  intro g w cs hv hh
  refine h g w cs ?_ hh
  clear h hh
  induction args generalizing cs with
  | nil => cases hv; exact .nil
  | cons a as ih => cases hv with | cons _ v _ vs h t => exact .cons _ _ _ _ h.fztd (ih vs t)

end Go.Ab
