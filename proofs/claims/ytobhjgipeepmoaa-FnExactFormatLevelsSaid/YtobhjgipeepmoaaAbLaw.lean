/- From the reading of a law's arguments to abstract values, and from an abstract run of the law's body to what its row says. Over any program. -/
import Derived.Test.YtobhjgipeepmoaaAbRet
import Derived.ChangeArms
import Derived.ChangeShapes
import Derived.ChangeOld
import Derived.Carry
import Derived.DataReads
namespace Go.Ab
set_option linter.unusedVariables false
set_option linter.unusedSimpArgs false

mutual
inductive TS where
  | bool
  | int (k : IntKind)
  | str
  | sl (z : Nat) (e : TS)
  | st (ps : TSs)
inductive TSs where
  | nil
  | cons (s : TS) (ps : TSs)
end

def shapeFs (P : Program) (z : Nat) (r : TypeId → Option TS) : Nat → List Field → Option TSs
  | off, [] => if off = z then some .nil else none
  | off, f :: fs => if f.offset = off then
      match r f.type, shapeFs P z r (off + P.cellsOf f.type) fs with
      | some s, some ps => some (.cons s ps)
      | _, _ => none
    else none

def shapeOf (P : Program) : Nat → TypeId → Option TS
  | 0, _ => none
  | m + 1, t => match P.underlying t with
    | some .bool => some .bool
    | some (.int k) => some (.int k)
    | some .string => some .str
    | some (.slice e) => if P.cellsOf e = 0 then none else (shapeOf P m e).map (.sl (P.cellsOf e))
    | some (.struct fs) => (shapeFs P (P.cellsOf t) (shapeOf P m) 0 fs.toList).map .st
    | _ => none

mutual
def HasS : TS → List AV → Prop
  | .bool, as => ∃ b, as = [.bool b]
  | .int k, as => ∃ n, as = [.int k n] ∧ (Lit.int k n).wf = true
  | .str, as => ∃ s, as = [.str s] ∧ s.length ≤ maxLen
  | .sl z e, as => ∃ rows, as = [.sl rows] ∧ rows.length ≤ maxLen ∧ ∀ r ∈ rows, r.length = z ∧ HasS e r
  | .st ps, as => HasP ps as
def HasP : TSs → List AV → Prop
  | .nil, as => as = []
  | .cons s ps, as => ∃ xs ys, as = xs ++ ys ∧ HasS s xs ∧ HasP ps ys
end

/-- An argument, from its cells. -/
def argAV : TS → List AV → AV
  | .st _, as => .agg as
  | _, as => as.headD .junk

def HasArgs : List TS → List AV → Prop
  | [], vs => vs = []
  | s :: ss, vs => ∃ as rest, vs = argAV s as :: rest ∧ HasS s as ∧ HasArgs ss rest

def phi0 (w : World) (b : Nat) : Nat := match w.heap[b]? with
  | some (.cells c _ _) => c.size
  | _ => 0
def g0 (w : World) : Ghost := ⟨fun _ => 0, fun _ => none, phi0 w⟩

theorem g0_rel (w : World) : HRel (g0 w) 0 [] w := by
  refine ⟨.nil, fun p hp => absurd hp (by simp), fun b hb => ?_⟩
  show room w b (phi0 w b)
  have hb' : 0 < phi0 w b := hb
  unfold phi0 at hb' ⊢
  cases h : w.heap[b]? with
  | none => rw [h] at hb'; simp at hb'
  | some o => cases o with
    | cells c el fz => exact ⟨c, el, fz, h, Nat.le_refl _⟩
    | _ => rw [h] at hb'; simp at hb'

theorem phi0_cell {w : World} {b i : Nat} {v : Value} (h : w.cell? ⟨b, i, none⟩ = some v) : i < phi0 w b := by
  unfold World.cell? at h
  unfold phi0
  cases h' : w.heap[b]? with
  | none => rw [h'] at h; cases h
  | some o => cases o with
    | cells c el fz =>
      rw [h'] at h
      simp only [Option.isSome_none, Bool.false_eq_true, if_false] at h
      rcases Nat.lt_or_ge i c.size with hlt | hge
      · exact hlt
      · simp [Array.getElem?_eq_none hge] at h
    | _ => rw [h'] at h; cases h

theorem cell_spot {w : World} {a : Addr} {v : Value} (h : w.cell? a = some v) : a.spot = none := by
  unfold World.cell? at h
  split at h
  · split at h
    · cases h
    · rename_i hn
      simpa using hn
  · cases h

section
variable {H : Type} {enc : TypeId × Value → H} {P : Program} {w : World} {spare : Nat → Bool} {held : Bool}

theorem fs_rel {z : Nat} {r : TypeId → Option TS} {cs : List Value} (hz : cs.length = z)
    (ih : ∀ t sh cs, r t = some sh → ∀ n x, DataW.trod enc P w 0 spare held n t cs = some x → ∃ as, VRels (g0 w) 0 w as cs ∧ HasS sh as) :
    ∀ (fs : List Field) (off : Nat) (ps : TSs), shapeFs P z r off fs = some ps → (∀ f ∈ fs, ∃ n x, DataW.trod enc P w 0 spare held n f.type ((cs.drop f.offset).take (P.cellsOf f.type)) = some x) →
      ∃ as, VRels (g0 w) 0 w as (cs.drop off) ∧ HasP ps as
  | [], off, ps, hs, _ => by
    unfold shapeFs at hs
    split at hs
    · rename_i h
      cases hs
      refine ⟨[], ?_, rfl⟩
      rw [List.drop_eq_nil_of_le (by omega)]
      exact .nil
    · cases hs
  | f :: fs, off, ps, hs, hr => by
    unfold shapeFs at hs
    split at hs
    · rename_i ho
      split at hs
      · rename_i s ps' h1 h2
        cases hs
        obtain ⟨n, x, hx⟩ := hr f (List.mem_cons_self ..)
        obtain ⟨xs, hxs, hsx⟩ := ih _ _ _ h1 n x hx
        obtain ⟨ys, hys, hpy⟩ := fs_rel hz ih fs _ _ h2 (fun f' hf' => hr f' (List.mem_cons_of_mem _ hf'))
        refine ⟨xs ++ ys, ?_, xs, ys, rfl, hsx, hpy⟩
        have e : cs.drop off = (cs.drop f.offset).take (P.cellsOf f.type) ++ cs.drop (off + P.cellsOf f.type) := by
          rw [ho, ← List.drop_drop, List.take_append_drop]
        rw [e]
        exact hxs.append hys
      · cases hs
    · cases hs

theorem arith1 {a q i l : Nat} (h : l = q) (h' : l ≤ i) : a + i = a + q + (i - l) := by omega

theorem trod_rel : ∀ (m : Nat) (t : TypeId) (sh : TS) (cs : List Value), shapeOf P m t = some sh → ∀ n x, DataW.trod enc P w 0 spare held n t cs = some x → ∃ as, VRels (g0 w) 0 w as cs ∧ HasS sh as
  | 0, t, sh, cs, hs, n, x, hx => by cases hs
  | m + 1, t, sh, cs, hs, n, x, hx => by
    unfold shapeOf at hs
    split at hs
    · rename_i ht
      cases hs
      obtain ⟨b, rfl, _⟩ := DataW.trod_bool ht hx
      exact ⟨[.bool b], .cons _ _ _ _ (.bool b) .nil, b, rfl⟩
    · rename_i k ht
      cases hs
      obtain ⟨i, rfl, _, hw⟩ := DataW.trod_int ht hx
      exact ⟨[.int k i], .cons _ _ _ _ (.int k i) .nil, i, rfl, hw⟩
    · rename_i ht
      cases hs
      obtain ⟨s, rfl, _, hw⟩ := DataW.trod_string ht hx
      refine ⟨[.str s.data.toList], .cons _ _ _ _ ?_ .nil, _, rfl, by simpa using hw⟩
      have := VRel.str (g := g0 w) (n := 0) (w := w) s.data.toList
      simpa using this
    · rename_i e ht
      split at hs
      · cases hs
      · rename_i hz
        rw [Option.map_eq_some_iff] at hs
        obtain ⟨se, he, rfl⟩ := hs
        rcases DataW.trod_slice ht hx with ⟨rfl, _⟩ | ⟨a, len, cap, elems, rest, n', rfl, rfl, _, _, hlc, hcm, hel, hg, _, _⟩
        · exact ⟨[.sl []], .cons _ _ _ _ VRel.nil0 .nil, [], rfl, Nat.zero_le _, fun r hr => absurd hr (by simp)⟩
        · have key : ∀ k, k ≤ len → ∃ (rows : List (List AV)) (vs : List Value), rows.length = k ∧ vs.length = k * P.cellsOf e ∧ VRels (g0 w) 0 w rows.flatten vs ∧ Run w a.block a.off vs ∧ (0 < k → a.spot = none) ∧
              ∀ r ∈ rows, r.length = P.cellsOf e ∧ HasS se r := by
            intro k
            induction k with
            | zero =>
              intro _
              exact ⟨[], [], rfl, by simp, .nil, fun i v h => by simp at h, fun h => absurd h (Nat.lt_irrefl _), fun r hr => by simp at hr⟩
            | succ k ihk =>
              intro hk
              obtain ⟨rows, vs, h1, h2, h3, h4, h5, h6⟩ := ihk (by omega)
              have h7 := hg k (by omega)
              have h8 : ∃ y, elems[k]? = some y := ⟨elems[k]'(by omega), List.getElem?_eq_getElem (by omega)⟩
              obtain ⟨y, hy⟩ := h8
              rw [hy, Option.bind_eq_some_iff] at h7
              obtain ⟨cs, hc, hty⟩ := h7
              obtain ⟨_, hcl, hcc⟩ := World.cells?_some hc
              obtain ⟨as, has, hsa⟩ := trod_rel m _ _ _ he _ _ hty
              have hal := has.length
              have hpos : 0 < P.cellsOf e := Nat.pos_of_ne_zero hz
              have hspot : a.spot = none := by
                have := hcc 0 hpos
                rw [List.getElem?_eq_getElem (by omega)] at this
                have h9 := cell_spot this
                rcases Nat.eq_zero_or_pos k with hk0 | hk0
                · subst hk0
                  simpa [Addr.add] using h9
                · exact h5 hk0
              refine ⟨rows ++ [as], vs ++ cs, by simp [h1], by simp only [List.length_append, h2, hcl, Nat.add_mul, Nat.one_mul], ?_, ?_, fun _ => hspot, ?_⟩
              · rw [List.flatten_append]
                refine h3.append ?_
                simpa using has
              · intro i v hi
                rw [List.getElem?_append] at hi
                split at hi
                · exact h4 i v hi
                · rename_i hge
                  have hlt : i - vs.length < cs.length := by
                    rcases Nat.lt_or_ge (i - vs.length) cs.length with h' | h'
                    · exact h'
                    · rw [List.getElem?_eq_none h'] at hi; cases hi
                  have := hcc (i - vs.length) (by omega)
                  rw [hi] at this
                  rw [← this]
                  congr 1
                  obtain ⟨ab, ao, asp⟩ := a
                  simp only at hspot
                  subst hspot
                  have h10 : vs.length ≤ i := Nat.le_of_not_lt hge
                  generalize hq : k * P.cellsOf e = q at h2
                  have ha : ∀ o j, (Addr.mk ab o none).add j = ⟨ab, o + j, none⟩ := fun o j => by
                    unfold Addr.add
                    split
                    · rename_i h; rw [h]; rfl
                    · rfl
                  rw [ha, ha]
                  show Addr.mk ab (ao + i) none = Addr.mk ab (ao + q + (i - vs.length)) none
                  congr 1
                  exact arith1 h2 h10
              · intro r hr
                rw [List.mem_append] at hr
                rcases hr with hr | hr
                · exact h6 r hr
                · rw [List.mem_singleton] at hr
                  subst hr
                  exact ⟨by omega, hsa⟩
          obtain ⟨rows, vs, h1, h2, h3, h4, h5, h6⟩ := key len (Nat.le_refl _)
          have hne : rows ≠ [] → 0 < len := fun h => by rw [← h1]; exact List.length_pos_iff.mpr h
          refine ⟨[.sl rows], .cons _ _ _ _ ?_ .nil, ⟨rows, rfl, by omega, h6⟩⟩
          rw [← h1]
          refine .sl rows (P.cellsOf e) (some a) a.block a.off cap vs (fun h => ?_) (by omega) (fun r hr => (h6 r hr).1) (fun h => ?_) h4 h3
          · obtain ⟨ab, ao, asp⟩ := a
            have : asp = none := h5 (hne h)
            subst this
            rfl
          · have hpos : 0 < len * P.cellsOf e := Nat.mul_pos (hne h) (Nat.pos_of_ne_zero hz)
            show a.off + rows.length * P.cellsOf e ≤ phi0 w a.block
            rw [h1]
            have hi : vs[len * P.cellsOf e - 1]? = some (vs[len * P.cellsOf e - 1]'(by omega)) := List.getElem?_eq_getElem (by omega)
            have := phi0_cell (h4 _ _ hi)
            omega
    · rename_i fs ht
      rw [Option.map_eq_some_iff] at hs
      obtain ⟨ps, hps, rfl⟩ := hs
      obtain ⟨xs, n', _, _, hl, hxl, hf⟩ := DataW.trod_struct ht hx
      obtain ⟨as, h1, h2⟩ := fs_rel hl (fun t sh cs h n x hx => trod_rel m t sh cs h n x hx) fs.toList 0 ps hps (fun f hf' => by
        obtain ⟨i, hi⟩ := List.getElem?_of_mem hf'
        have hi' : fs[i]? = some f := by simpa using hi
        have hlt : i < xs.length := by
          rw [hxl]
          rcases Nat.lt_or_ge i fs.size with h | h
          · exact h
          · rw [Array.getElem?_eq_none h] at hi'; cases hi'
        exact ⟨n', xs[i], by rw [hf i f hi', List.getElem?_eq_getElem hlt]⟩)
      exact ⟨as, by simpa using h1, h2⟩
    · cases hs

theorem arg_rel {m : Nat} {t : TypeId} {sh : TS} {v : Value} {r : Reach} {b0 : Nat} {d : DataW H} {ps : List MemPlace} (hs : shapeOf P m t = some sh) (hval : Value.okWide P w r b0 t v) (hd : DataW.Trod enc P w 0 spare held t v d ps) :
    ∃ as, VRel (g0 w) 0 w (argAV sh as) v ∧ HasS sh as := by
  obtain ⟨n, hn⟩ := hd
  obtain ⟨as, h1, h2⟩ := trod_rel m t sh _ hs n _ hn
  refine ⟨as, ?_, h2⟩
  cases m with
  | zero => cases hs
  | succ m =>
  have one : ∀ {k : Value → Prop}, (∀ u, Cell.okWide P w r b0 t u → ∀ cs, u ≠ .agg cs) → (∀ fs, P.underlying t ≠ some (.struct fs)) → (∀ n e, P.underlying t ≠ some (.array n e)) → VRel (g0 w) 0 w (as.headD .junk) v := by
    intro _ hna hs1 hs2
    have hc : Cell.okWide P w r b0 t v := by
      unfold Value.okWide at hval
      split at hval
      · rename_i h; exact absurd h (hs1 _)
      · rename_i h; exact absurd h (hs2 _ _)
      · exact hval
    have hcs : v.cells.toList = [v] := by
      cases v with
      | agg cs => exact absurd rfl (hna _ hc cs)
      | _ => rfl
    rw [hcs] at h1
    cases h1 with | cons a _ _ _ h t => exact h
  unfold shapeOf at hs
  split at hs
  · rename_i ht
    cases hs
    refine one (k := fun _ => True) (fun u hu cs e => ?_) (fun _ h => by rw [ht] at h; cases h) (fun _ _ h => by rw [ht] at h; cases h)
    subst e
    simp [Cell.okWide, Cell.ok, ht] at hu
  · rename_i ht
    cases hs
    refine one (k := fun _ => True) (fun u hu cs e => ?_) (fun _ h => by rw [ht] at h; cases h) (fun _ _ h => by rw [ht] at h; cases h)
    subst e
    simp [Cell.okWide, Cell.ok, ht] at hu
  · rename_i ht
    cases hs
    refine one (k := fun _ => True) (fun u hu cs e => ?_) (fun _ h => by rw [ht] at h; cases h) (fun _ _ h => by rw [ht] at h; cases h)
    subst e
    simp [Cell.okWide, Cell.ok, ht] at hu
  · rename_i e ht
    split at hs
    · cases hs
    · rw [Option.map_eq_some_iff] at hs
      obtain ⟨se, he, rfl⟩ := hs
      refine one (k := fun _ => True) (fun u hu cs e => ?_) (fun _ h => by rw [ht] at h; cases h) (fun _ _ h => by rw [ht] at h; cases h)
      subst e
      simp [Cell.okWide, Cell.ok, ht] at hu
  · rename_i fs ht
    rw [Option.map_eq_some_iff] at hs
    obtain ⟨ps', hps, rfl⟩ := hs
    unfold Value.okWide at hval
    rw [ht] at hval
    obtain ⟨cs, rfl, _, _⟩ := hval
    have := VRel.agg as cs.toList h1
    simpa [argAV] using this
  · cases hs

theorem args_rel {m : Nat} {r : Reach} {b0 : Nat} : ∀ {ts : List TypeId} {shs : List TS} {vs : List Value} {ds : List (DataW H)} {ps : List MemPlace}, ts.mapM (shapeOf P m) = some shs →
    (∀ (j : Nat) t v, ts[j]? = some t → vs[j]? = some v → Value.okWide P w r b0 t v) → DataW.TrodAll enc P w 0 spare held ts vs ds ps → ∃ avs, VRels (g0 w) 0 w avs vs ∧ HasArgs shs avs ∧ ds.length = ts.length
  | [], shs, vs, ds, ps, hs, hv, h => by
    simp only [List.mapM_nil] at hs
    cases hs
    match vs, ds, h with
    | [], [], _ => exact ⟨[], .nil, rfl, rfl⟩
  | t :: ts, shs, vs, ds, ps, hs, hv, h => by
    match vs, ds, h with
    | v :: vs, d :: ds, h =>
      obtain ⟨p, q, h1, h2, _⟩ := h
      rw [List.mapM_cons] at hs
      simp only [Option.bind_eq_bind, Option.bind_eq_some_iff, Option.pure_def, Option.some.injEq] at hs
      obtain ⟨s, hs1, ss, hs2, rfl⟩ := hs
      obtain ⟨as, ha, hsa⟩ := arg_rel hs1 (hv 0 t v rfl rfl) h1
      obtain ⟨avs, hav, hss, hl⟩ := args_rel hs2 (fun j t' v' e1 e2 => hv (j + 1) t' v' (by simpa using e1) (by simpa using e2)) h2
      exact ⟨argAV s as :: avs, .cons _ _ _ _ ha hav, ⟨as, avs, rfl, hsa, hss⟩, by simp [hl]⟩
end

section
variable {H : Type} {enc : TypeId × Value → H} {P : Program}

theorem Grow.below {g g' : Ghost} {w w' : World} {H' : Heap} (h : Grow 0 g w [] g' w' H') : RowKit.Below w.heap.size w w' :=
  ⟨h.oth.os, h.oth.tape, h.oth.out, h.size, fun k hk => (h.old k hk (fun p hp => absurd hp (by simp))).1⟩

theorem trodAll_below (hl : laidOutB P = true) {W W' : World} (hb : RowKit.Below W.heap.size W W') : ∀ {ts : List TypeId} {vs : List Value} {ds : List (DataW H)} {ps : List MemPlace},
    (ts.all fun t => P.readableRec t && decide (t < P.types.size)) = true → DataW.TrodAll enc P W 0 (fun _ => true) true ts vs ds ps → (∀ x ∈ ps, x.block < W.heap.size) →
    DataW.TrodAll enc P W' 0 (fun b => decide (b < W.heap.size)) true ts vs ds ps
  | [], vs, ds, ps, _, h, _ => by
    match vs, ds, h with
    | [], [], h => exact h
  | t :: ts, vs, ds, ps, hr, h, hlt => by
    match vs, ds, h with
    | v :: vs, d :: ds, h =>
      obtain ⟨p, q, h1, h2, rfl⟩ := h
      simp only [List.all_cons, Bool.and_eq_true, decide_eq_true_eq] at hr
      exact ⟨p, q, RowKit.Below.trod hl hr.1.1 hr.1.2 h1 hb (fun x hx => hlt x (List.mem_append_left _ hx)),
        trodAll_below hl hb (by simpa using hr.2) h2 (fun x hx => hlt x (List.mem_append_right _ hx)), rfl⟩

theorem law_calls {f : FuncId} {fn : Func} {s : ChangeSpec} {m : Nat} {shs : List TS} {tb : TypeId} {args : Array Value} {W : World} {b0 : Nat} {ds gs : List (DataW H)} {before : List MemPlace}
    (hl : laidOutB P = true) (hsh : fn.params.toList.mapM (shapeOf P m) = some shs) (hrd : (fn.params.toList.all fun t => P.readableRec t && decide (t < P.types.size)) = true)
    (hres : fn.resultTypes = #[tb]) (htb : P.underlying tb = some .bool) (hvars : s.vars = [])
    (hs : ∀ (H : Type) (ds : List (DataW H)), ds.length = fn.params.toList.length → s.fn H ds = { results := [.lit (.bool true)], args := ds })
    (hf : P.funcs[f]? = some fn) (hb : fn.body.isNone = false) (hnm : (fn.name == "runtime.NumGoroutine") = false)
    (core : ∀ avs, HasArgs shs avs → Runs P f avs 0 [] (fun v _ _ => v = .bool true))
    (hval : ∀ (j : Nat) t v, fn.params[j]? = some t → args[j]? = some v → Value.okWide P W .any b0 t v)
    (hW : DataW.Whole enc P fn.params.toList s.vars false W args.toList ds gs before) :
    Calls P f args W fun e W' => ∃ v, e = .returned v ∧ s.post enc P fn false true false false W args v W' := by
  have hW' := hW
  obtain ⟨p, q, hA, hV, rfl, hfz, hnd⟩ := hW
  rw [hvars] at hV
  obtain ⟨rfl, rfl⟩ : gs = [] ∧ q = [] := by
    cases gs with
    | nil => exact ⟨rfl, hV⟩
    | cons g gs => exact hV.elim
  obtain ⟨avs, h1, h2, h3⟩ := args_rel hsh (fun j t v e1 e2 => hval j t v (by simpa using e1) (by simpa using e2)) hA
  have hc := core avs h2 (g0 W) W args.toList h1 (g0_rel W)
  have e : (callFunc f args.toList.toArray).run P W = .ok (.enter f args.toList.toArray) W := by
    simp only [callFunc, Sem.run_bind, run_program, Result.andThen_ok, hf, hb, hnm, Bool.false_eq_true, if_false, Sem.run_pure]
  rw [e] at hc
  simp only [Array.toArray_toList] at hc
  refine Calls.mono hc fun e W' => ?_
  rintro ⟨c, rfl, v, n', H', g', rfl, _, hv, _, hg⟩
  cases hv
  have bel := hg.below
  refine ⟨_, rfl, ds, [], p ++ [], [], p, [], hW', ?_, ?_, ?_, bel.frame _, fun h => Bool.noConfusion h⟩
  · rw [hres, List.append_nil, hs H ds h3]
    exact ⟨[], [], ⟨1, by simp [DataW.trod, Value.cells, htb]⟩, rfl, rfl⟩
  · rw [List.append_nil, hs H ds h3]
    exact trodAll_below hl bel hrd hA hA.lt
  · rw [hvars, List.append_nil, hs H ds h3]
    rfl
end
end Go.Ab
