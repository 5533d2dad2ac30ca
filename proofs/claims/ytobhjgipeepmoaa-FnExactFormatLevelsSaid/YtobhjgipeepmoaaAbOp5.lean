/- Each operation does in the world what the abstract run says: slices that are built or made, lengths, calls, greatest and least, bytes to a string. Over any program. -/
import Derived.Test.YtobhjgipeepmoaaAbOp4
namespace Go.Ab
set_option linter.unusedVariables false
set_option linter.unusedSimpArgs false

variable {P : Program} {g : Ghost} {n : Nat} {w : World} {H : Heap} {ρ : Operand → Value} {K : AV → Nat → Heap → Prop}
  {dst : Option Tmp} {type : TypeId} {pos : String} {after : Array Edge} {guard : Option (Nat × Bool)}

theorem fill_rows (size : Nat) : ∀ (l : List (Nat × Value)) (k : Nat) (pre rest : List Value), l.map (·.1) = List.range' k l.length → (∀ p ∈ l, p.2.cells.size = size) → pre.length = k * size → rest.length = l.length * size →
    Instr.fill (fun i => some (i * size, size)) (pre ++ rest).toArray l = some (pre ++ (l.map fun p => p.2.cells.toList).flatten).toArray
  | [], k, pre, rest, _, _, _, hr => by
    have : rest = [] := List.eq_nil_of_length_eq_zero (by simpa using hr)
    subst this; simp [Instr.fill]
  | (i, v) :: l, k, pre, rest, hi, hs, hp, hr => by
    simp only [List.map_cons, List.length_cons, List.range'_succ, List.cons.injEq] at hi
    obtain ⟨rfl, hi⟩ := hi
    have h1 := hs (i, v) (List.mem_cons_self ..)
    simp only [List.length_cons, Nat.succ_mul] at hr
    rw [fill_step (off := i * size) (size := size) rfl h1 (by simp; omega)]
    have e1 : (pre ++ rest).take (i * size) = pre := by rw [← hp]; simp
    have e2 : (pre ++ rest).drop (i * size + size) = rest.drop size := by
      rw [List.drop_append, hp, List.drop_eq_nil_of_le (by omega)]
      simp
    rw [e1, e2, fill_rows size l (i + 1) (pre ++ v.cells.toList) (rest.drop size) hi (fun p hp => hs p (List.mem_cons_of_mem _ hp)) (by simp [hp, h1, Nat.succ_mul]) (by simp; omega)]
    simp

theorem rowsOf_rel : ∀ {as : List AV} {rows : List (List AV)} {vs : List Value}, VRels g n w as vs → rowsOf as = some rows → rows.length = as.length ∧ (∀ k, rowsOk k rows → VRels g 0 w rows.flatten (vs.map fun v => v.cells.toList).flatten ∧ ∀ v ∈ vs, v.cells.size = k)
  | [], rows, vs, h, hr => by
    cases h
    simp only [rowsOf, Option.some.injEq] at hr
    subst hr
    exact ⟨rfl, fun k _ => ⟨.nil, fun v hv => by cases hv⟩⟩
  | a :: as, rows, vs, h, hr => by
    cases h with | cons _ c _ cs h t =>
    simp only [rowsOf] at hr
    split at hr
    · rename_i r rs h1 h2
      simp only [Option.some.injEq] at hr
      subst hr
      obtain ⟨i2, i3⟩ := rowsOf_rel t h2
      refine ⟨by simp [i2], fun k hk => ?_⟩
      obtain ⟨i4, i5⟩ := i3 k (fun x hx => hk x (List.mem_cons_of_mem _ hx))
      obtain ⟨hk1, hk2⟩ := hk (r.map fz) (List.mem_cons_self ..)
      refine ⟨?_, fun v hv => ?_⟩
      · simp only [List.flatten_cons, List.map_cons]
        exact ((h.cellsOf h1).frz hk2).append i4
      · rw [List.mem_cons] at hv
        rcases hv with rfl | hv
        · rw [← cellsV_of h h1]; simpa using hk1
        · exact i5 v hv
    · cases hr

/-- A new block whose first cells are known, as frozen rows, as an accumulator, as an owned row. -/
theorem new_frozen {rows : List (List AV)} {size : Nat} {vs : List Value} {el : TypeId} {rest : Array Value} {len : Nat} (hH : HRel g n H w) (hs : ∀ r ∈ rows, r.length = size) (hv : VRels g 0 w rows.flatten vs) (hl : rows.length ≤ len) (hk : K (.sl rows) n H) :
    Out g n w H K (.slice (some ⟨w.heap.size, 0, none⟩) rows.length len) (w.alloc (.cells (vs.toArray ++ rest) el)) := by
  have hlen := hv.length
  rw [flatten_length hs] at hlen
  obtain ⟨hg, hH'⟩ := grow_alloc hH (vs.toArray ++ rest) el vs.length (by simp) none
  refine ⟨.sl rows, n, H, _, hk, Nat.le_refl _, ?_, hH', hg⟩
  refine .sl rows size _ w.heap.size 0 len vs (fun _ => rfl) hl hs (fun _ => ?_) Run_alloc (hv.ext (hg.toExt.le (Nat.zero_le _)) (Nat.le_refl _))
  show 0 + rows.length * size ≤ upd g.φ w.heap.size vs.length w.heap.size
  rw [upd_same]; omega

theorem new_acc {rows : List (List AV)} {size : Nat} {vs : List Value} {el : TypeId} {rest : Array Value} {len : Nat} (hH : HRel g n H w) (hs : ∀ r ∈ rows, r.length = size) (hv : VRels g 0 w rows.flatten vs) (hl : rows.length ≤ len) (hroom : len * size ≤ vs.length + rest.size)
    (hk : K (.acc n size rows) (n + 1) ((n, .tok size rows.length) :: H)) :
    Out g n w H K (.slice (some ⟨w.heap.size, 0, none⟩) rows.length len) (w.alloc (.cells (vs.toArray ++ rest) el)) := by
  have hlen := hv.length
  rw [flatten_length hs] at hlen
  obtain ⟨hg, hH'⟩ := grow_alloc hH (vs.toArray ++ rest) el vs.length (by simp) (some (rows.length * size))
  have hnew : ∀ p ∈ H, upd g.β n w.heap.size p.1 ≠ upd g.β n w.heap.size n := fun p hp => by
    rw [upd_ne _ _ (Nat.ne_of_lt (hH.ent p hp).1), upd_same]; exact Nat.ne_of_lt (hH.ent p hp).2.lt
  refine ⟨.acc n size rows, n + 1, _, _, hk, Nat.le_succ _, ?_, hH'.add (.tok size rows.length) hnew ?_, hg.add _ (by show w.heap.size ≤ upd g.β n w.heap.size n; rw [upd_same]; exact Nat.le_refl _)⟩
  · refine .acc n size rows _ w.heap.size 0 len vs (fun _ => rfl) hl hs (fun _ => ?_) Run_alloc (hv.ext (hg.toExt.le (Nat.zero_le _)) (Nat.le_refl _)) (Nat.lt_succ_self _) (fun m hm => ?_)
    · show 0 + rows.length * size ≤ upd g.φ w.heap.size vs.length w.heap.size
      rw [upd_same]; omega
    · have hm' : upd g.fr n (some (rows.length * size)) n = some m := hm
      rw [upd_same] at hm'
      cases hm'
      refine ⟨Nat.le_refl _, fun _ => ?_⟩
      show some _ = some (Addr.mk (upd g.β n w.heap.size n) 0 none) ∧ room _ (upd g.β n w.heap.size n) _
      rw [upd_same]
      exact ⟨rfl, _, el, _, heap_alloc_new, by simp; omega⟩
  · refine ⟨upd_same _ _ _, ?_, vs.toArray ++ rest, el, ?_, by simp; omega⟩
    · show upd g.φ w.heap.size vs.length (upd g.β n w.heap.size n) = _
      rw [upd_same, upd_same]; omega
    · show (w.alloc (.cells (vs.toArray ++ rest) el)).heap[upd g.β n w.heap.size n]? = _
      rw [upd_same]; exact heap_alloc_new

theorem new_own {rows : List (List AV)} {size : Nat} {vs : List Value} {el : TypeId} {rest : Array Value} {len : Nat} (hH : HRel g n H w) (hv : VRels g n w rows.flatten vs) (hl : rows.length ≤ len) (hroom : len * size ≤ vs.length + rest.size)
    (hk : K (.ref n size 0 rows.length) (n + 1) ((n, .own rows.flatten) :: H)) :
    Out g n w H K (.slice (some ⟨w.heap.size, 0, none⟩) rows.length len) (w.alloc (.cells (vs.toArray ++ rest) el)) := by
  obtain ⟨hg, hH'⟩ := grow_alloc hH (vs.toArray ++ rest) el 0 (Nat.zero_le _) none
  have hnew : ∀ p ∈ H, upd g.β n w.heap.size p.1 ≠ upd g.β n w.heap.size n := fun p hp => by
    rw [upd_ne _ _ (Nat.ne_of_lt (hH.ent p hp).1), upd_same]; exact Nat.ne_of_lt (hH.ent p hp).2.lt
  refine ⟨.ref n size 0 rows.length, n + 1, _, _, hk, Nat.le_succ _, ?_, hH'.add (.own rows.flatten) hnew ?_, hg.add _ (by show w.heap.size ≤ upd g.β n w.heap.size n; rw [upd_same]; exact Nat.le_refl _)⟩
  · have := VRel.ref (g := ⟨upd g.β n w.heap.size, upd g.fr n none, upd g.φ w.heap.size 0⟩) (n := n + 1) (w := w.alloc (.cells (vs.toArray ++ rest) el)) n size 0 rows.length len (Nat.lt_succ_self _) (upd_same _ _ _) hl
      (by show room _ (upd g.β n w.heap.size n) _; rw [upd_same]; exact ⟨_, el, _, heap_alloc_new, by simp; omega⟩)
    rwa [show (Ghost.mk (upd g.β n w.heap.size) (upd g.fr n none) (upd g.φ w.heap.size 0)).β n = w.heap.size from upd_same _ _ _] at this
  · refine ⟨upd_same _ _ _, ?_, vs.toArray ++ rest, el, vs, ?_, fun i v hi => ?_, hv.ext hg.toExt (Nat.le_succ _)⟩
    · show upd g.φ w.heap.size 0 (upd g.β n w.heap.size n) = 0
      rw [upd_same, upd_same]
    · show (w.alloc (.cells (vs.toArray ++ rest) el)).heap[upd g.β n w.heap.size n]? = _
      rw [upd_same]; exact heap_alloc_new
    · rw [Array.getElem?_append_left (by
        rcases Nat.lt_or_ge i vs.length with h | h
        · simpa using h
        · rw [List.getElem?_eq_none h] at hi; cases hi)]
      simpa using hi

theorem new_vec {cells : List AV} {size k : Nat} {vs : List Value} {el : TypeId} {rest : Array Value} {len : Nat} (hH : HRel g n H w) (hv : VRels g n w cells vs) (hl : k ≤ len) (hroom : len * size ≤ vs.length + rest.size)
    (hk : K (.vec n 0 size 0 k) (n + 1) ((n, .vob 0 size cells) :: H)) :
    Out g n w H K (.slice (some ⟨w.heap.size, 0, none⟩) k len) (w.alloc (.cells (vs.toArray ++ rest) el)) := by
  obtain ⟨hg, hH'⟩ := grow_alloc hH (vs.toArray ++ rest) el 0 (Nat.zero_le _) (some 0)
  have hnew : ∀ p ∈ H, upd g.β n w.heap.size p.1 ≠ upd g.β n w.heap.size n := fun p hp => by
    rw [upd_ne _ _ (Nat.ne_of_lt (hH.ent p hp).1), upd_same]; exact Nat.ne_of_lt (hH.ent p hp).2.lt
  refine ⟨.vec n 0 size 0 k, n + 1, _, _, hk, Nat.le_succ _, ?_, hH'.add (.vob 0 size cells) hnew ?_, hg.add _ (by show w.heap.size ≤ upd g.β n w.heap.size n; rw [upd_same]; exact Nat.le_refl _)⟩
  · refine .vec n 0 size 0 k _ len (Nat.lt_succ_self _) fun m hm => ?_
    have hm' : upd g.fr n (some 0) n = some m := hm
    rw [upd_same] at hm'
    cases hm'
    refine ⟨Nat.le_refl _, fun _ => ?_⟩
    show some _ = some (Addr.mk (upd g.β n w.heap.size n) 0 none) ∧ k ≤ len ∧ room _ (upd g.β n w.heap.size n) _
    rw [upd_same]
    exact ⟨rfl, hl, _, el, _, heap_alloc_new, by simp; omega⟩
  · refine ⟨upd_same _ _ _, ?_, vs.toArray ++ rest, el, vs, ?_, fun i v hi => ?_, hv.ext hg.toExt (Nat.le_succ _)⟩
    · show upd g.φ w.heap.size 0 (upd g.β n w.heap.size n) = 0
      rw [upd_same, upd_same]
    · show (w.alloc (.cells (vs.toArray ++ rest) el)).heap[upd g.β n w.heap.size n]? = _
      rw [upd_same]; exact heap_alloc_new
    · rw [Array.getElem?_append_left (by
        rcases Nat.lt_or_ge i vs.length with h | h
        · simpa using h
        · rw [List.getElem?_eq_none h] at hi; cases hi)]
      simpa using hi

theorem rawRows_rel : ∀ {as : List AV} {rows : List (List AV)} {vs : List Value}, VRels g n w as vs → rawRows as = some rows → rows.length = as.length ∧ (∀ k, rawOk k rows → VRels g n w rows.flatten (vs.map fun v => v.cells.toList).flatten ∧ ∀ v ∈ vs, v.cells.size = k)
  | [], rows, vs, h, hr => by
    cases h
    simp only [rawRows, Option.some.injEq] at hr
    subst hr
    exact ⟨rfl, fun k _ => ⟨.nil, fun v hv => by cases hv⟩⟩
  | a :: as, rows, vs, h, hr => by
    cases h with | cons _ c _ cs h t =>
    simp only [rawRows] at hr
    split at hr
    · rename_i r rs h1 h2
      simp only [Option.some.injEq] at hr
      subst hr
      obtain ⟨i2, i3⟩ := rawRows_rel t h2
      refine ⟨by simp [i2], fun k hk => ?_⟩
      obtain ⟨i4, i5⟩ := i3 k (fun x hx => hk x (List.mem_cons_of_mem _ hx))
      obtain ⟨hk1, hk2⟩ := hk r (List.mem_cons_self ..)
      refine ⟨?_, fun v hv => ?_⟩
      · simp only [List.flatten_cons, List.map_cons]
        exact (h.cellsOf h1).append i4
      · rw [List.mem_cons] at hv
        rcases hv with rfl | hv
        · rw [← cellsV_of h h1]; exact hk1
        · exact i5 v hv
    · cases hr

theorem OpR.out {o : Oper} {c : Value} {w' : World} (hr : (execOp ρ o).run P w = .ok (.value c) w') (h : Out g n w H K c w') : OpR P o ρ g n w H K := by
  unfold OpR; rw [hr]; exact h

theorem snd_bsl {t e : TypeId} {i : TypeInfo} {m len : Nat} {parts : Array (Nat × Operand)} {as : List AV} (ht : P.underlying t = some (.slice e)) (hi : P.info? e = some i) (hz : i.zero.isSome)
    (hzs : (i.zero.map fun z => z.cells.size) = some i.size) (hp : parts.toList.map (·.1) = List.range len) (hsz : len * i.size ≤ 16777216) (hm : m ≤ 4)
    (ha : VRels g n w as ((parts.toList.map (·.2)).map ρ)) (hH : HRel g n H w) (hx : xop P (.bsl m i.size) as n H K) : OpR P ⟨dst, .buildSlice t len parts, type, pos, after, guard⟩ ρ g n w H K := by
  obtain ⟨z, hz⟩ := Option.isSome_iff_exists.mp hz
  have hzz : z.cells.size = i.size := by simpa [hz] using hzs
  have hplen : parts.toList.length = len := by
    have := congrArg List.length hp
    simpa using this
  have hrun : ∀ (hvs : ∀ v ∈ ((parts.toList.map (·.2)).map ρ), v.cells.size = i.size) (vs : List Value), (((parts.toList.map (·.2)).map ρ).map fun v => v.cells.toList).flatten = vs →
      (execOp ρ ⟨dst, .buildSlice t len parts, type, pos, after, guard⟩).run P w = .ok (.value (.slice (some ⟨w.heap.size, 0, none⟩) len len)) (w.alloc (.cells (vs.toArray ++ #[]) e)) := by
    intro hvs vs hvs'
    have hcells : ∀ zs : List Value, zs.length = len * i.size → Instr.fill (fun j => some (j * i.size, i.size)) zs.toArray (parts.map fun (p : Nat × Operand) => (p.1, ρ p.2)).toList = some vs.toArray := by
      intro zs hzs
      have e0 : (parts.map fun (p : Nat × Operand) => (p.1, ρ p.2)).toList = parts.toList.map fun p => (p.1, ρ p.2) := by simp
      rw [e0]
      have := fill_rows i.size (parts.toList.map fun p => (p.1, ρ p.2)) 0 [] zs (by
        rw [List.map_map, List.length_map]
        have e1 : ((fun x => x.fst) ∘ fun (p : Nat × Operand) => (p.fst, ρ p.snd)) = fun p => p.1 := rfl
        rw [e1, hp, hplen, List.range_eq_range']) (fun p hp' => by
          obtain ⟨q, hq, rfl⟩ := List.mem_map.mp hp'
          exact hvs (ρ q.2) (List.mem_map.mpr ⟨q.2, List.mem_map.mpr ⟨q, hq, rfl⟩, rfl⟩)) (by simp) (by simpa [hplen] using hzs)
      simp only [List.nil_append] at this
      rw [this, ← hvs']
      simp [List.map_map, Function.comp_def]
    have hf := hcells ((Array.range (len * i.size)).map (z.cells[· % z.cells.size]!)).toList (by simp)
    simp only [Array.toArray_toList] at hf
    by_cases h0 : len * i.size = 0
    · have hf0 := hcells [] (by simp [h0])
      have hf0' : Instr.fill (fun j => some (j * i.size, i.size)) (Array.map (fun x => (#[] : Array Value)[x % 0]!) (Array.range 0)) (parts.map fun (p : Nat × Operand) => (p.1, ρ p.2)).toList = some vs.toArray := by
        simpa [Array.range_zero'] using hf0
      simp only [execOp, Instr.buildSlice, Sem.run_bind, run_underlying ht, Result.andThen_ok, sizeOf, typeInfo, run_program, hi, Sem.run_pure, h0]
      simp only [if_neg (show ¬ (0 > 2 ^ 24) by omega), if_true, Sem.run_pure, Result.andThen_ok, Array.size_empty, hf0', newRow, Sem.run_bind, run_newObj]
      simp [Sem.run_pure, World.alloc_eq]
    · simp only [execOp, Instr.buildSlice, Sem.run_bind, run_underlying ht, Result.andThen_ok, sizeOf, typeInfo, run_program, hi, Sem.run_pure]
      simp only [if_neg (show ¬ (len * i.size > 2 ^ 24) by omega), if_neg h0, Sem.run_bind, zeroValue, typeInfo, run_program, hi, Sem.run_pure, Result.andThen_ok, hz, hf, newRow, run_newObj]
      simp [Sem.run_pure, World.alloc_eq]
  have hal : as.length = len := by rw [ha.length]; simpa using hplen
  by_cases hm2 : m ≤ 2
  · obtain ⟨rows, hrows, hok, hcase⟩ : ∃ rows, rowsOf as = some rows ∧ rowsOk i.size rows ∧ ((m = 0 ∧ K (.sl rows) n H) ∨ (m = 1 ∧ K (.acc n i.size rows) (n + 1) ((n, .tok i.size rows.length) :: H)) ∨ (m = 2 ∧ K (.ref n i.size 0 rows.length) (n + 1) ((n, .own rows.flatten) :: H))) := by
      have h3 : m = 0 ∨ m = 1 ∨ m = 2 := by omega
      rcases h3 with rfl | rfl | rfl
      · have hx' : oK (frozenRows i.size as) fun v => K v n H := by
          cases as <;> simpa only [xop, fop] using hx
        obtain ⟨v, hv, hk⟩ := oK_elim hx'
        unfold frozenRows at hv
        split at hv
        · rename_i rows hr
          split at hv
          · rename_i hok
            simp only [Option.some.injEq] at hv; subst hv
            exact ⟨rows, hr, hok, .inl ⟨rfl, hk⟩⟩
          · cases hv
        · cases hv
      · have hx' : oK (rowsOf as) fun rows => rowsOk i.size rows ∧ K (.acc n i.size rows) (n + 1) ((n, .tok i.size rows.length) :: H) := by
          cases as <;> simpa only [xop] using hx
        obtain ⟨rows, hr, hok, hk⟩ := oK_elim hx'
        exact ⟨rows, hr, hok, .inr (.inl ⟨rfl, hk⟩)⟩
      · have hx' : oK (rowsOf as) fun rows => rowsOk i.size rows ∧ K (.ref n i.size 0 rows.length) (n + 1) ((n, .own rows.flatten) :: H) := by
          cases as <;> simpa only [xop] using hx
        obtain ⟨rows, hr, hok, hk⟩ := oK_elim hx'
        exact ⟨rows, hr, hok, .inr (.inr ⟨rfl, hk⟩)⟩
    obtain ⟨hlen, hrest⟩ := rowsOf_rel ha hrows
    obtain ⟨hrel, hvs⟩ := hrest i.size hok
    have hs : ∀ r ∈ rows, r.length = i.size := fun r hr => (hok r hr).1
    have hrl : rows.length = len := by rw [hlen, hal]
    have hr := hrun hvs _ rfl
    generalize (((parts.toList.map (·.2)).map ρ).map fun v => v.cells.toList).flatten = vs at hrel hr
    have hvl := hrel.length
    rw [flatten_length hs, hrl] at hvl
    subst hrl
    rcases hcase with ⟨rfl, hk⟩ | ⟨rfl, hk⟩ | ⟨rfl, hk⟩
    · exact OpR.out hr (new_frozen hH hs hrel (Nat.le_refl _) hk)
    · exact OpR.out hr (new_acc hH hs hrel (Nat.le_refl _) (by rw [hvl]; simp) hk)
    · exact OpR.out hr (new_own hH hrel.up (Nat.le_refl _) (by rw [hvl]; simp) hk)
  · obtain ⟨rows, hrows, hok, hcase⟩ : ∃ rows, rawRows as = some rows ∧ rawOk i.size rows ∧ ((m = 3 ∧ K (.vec n 0 i.size 0 rows.length) (n + 1) ((n, .vob 0 i.size rows.flatten) :: H)) ∨ (m = 4 ∧ K (.ref n i.size 0 rows.length) (n + 1) ((n, .own rows.flatten) :: H))) := by
      have h3 : m = 3 ∨ m = 4 := by omega
      rcases h3 with rfl | rfl
      · have hx' : oK (rawRows as) fun rows => rawOk i.size rows ∧ K (.vec n 0 i.size 0 rows.length) (n + 1) ((n, .vob 0 i.size rows.flatten) :: H) := by
          cases as <;> simpa only [xop] using hx
        obtain ⟨rows, hr, hok, hk⟩ := oK_elim hx'
        exact ⟨rows, hr, hok, .inl ⟨rfl, hk⟩⟩
      · have hx' : oK (rawRows as) fun rows => rawOk i.size rows ∧ K (.ref n i.size 0 rows.length) (n + 1) ((n, .own rows.flatten) :: H) := by
          cases as <;> simpa only [xop] using hx
        obtain ⟨rows, hr, hok, hk⟩ := oK_elim hx'
        exact ⟨rows, hr, hok, .inr ⟨rfl, hk⟩⟩
    obtain ⟨hlen, hrest⟩ := rawRows_rel ha hrows
    obtain ⟨hrel, hvs⟩ := hrest i.size hok
    have hs : ∀ r ∈ rows, r.length = i.size := fun r hr => (hok r hr).1
    have hrl : rows.length = len := by rw [hlen, hal]
    have hr := hrun hvs _ rfl
    generalize (((parts.toList.map (·.2)).map ρ).map fun v => v.cells.toList).flatten = vs at hrel hr
    have hvl := hrel.length
    rw [flatten_length hs, hrl] at hvl
    subst hrl
    rcases hcase with ⟨rfl, hk⟩ | ⟨rfl, hk⟩
    · exact OpR.out hr (new_vec hH hrel (Nat.le_refl _) (by rw [hvl]; simp) hk)
    · exact OpR.out hr (new_own hH hrel (Nat.le_refl _) (by rw [hvl]; simp) hk)

end Go.Ab
