/- Each operation does in the world what the abstract run says: make, append, lengths, calls, greatest and least, bytes to a string. Over any program. -/
import Derived.Test.YtobhjgipeepmoaaAbOp5
namespace Go.Ab
set_option linter.unusedVariables false
set_option linter.unusedSimpArgs false

variable {P : Program} {g : Ghost} {n : Nat} {w : World} {H : Heap} {ρ : Operand → Value} {K : AV → Nat → Heap → Prop}
  {dst : Option Tmp} {type : TypeId} {pos : String} {after : Array Edge} {guard : Option (Nat × Bool)}

theorem madeCells_toList (z : Array Value) (size : Nat) (hz : z.size = size) : ∀ c : Nat, (madeCells z (c * size)).toList = (List.replicate c z.toList).flatten
  | 0 => by simp [madeCells]
  | c + 1 => by
    have ih := madeCells_toList z size hz c
    unfold madeCells at ih ⊢
    simp only [Array.toList_map, Array.toList_range] at ih ⊢
    rw [List.replicate_succ, List.flatten_cons, ← ih, Nat.succ_mul, Nat.add_comm (c * size) size, List.range_add, List.map_append, List.map_map]
    congr 1
    · apply List.ext_getElem
      · simp [hz]
      · intro i h1 h2
        simp only [List.length_map, List.length_range] at h1
        simp only [List.getElem_map, List.getElem_range]
        rw [hz, Nat.mod_eq_of_lt h1, getElem!_pos z i (by omega)]
        simp
    · apply List.map_congr_left
      intro i _
      simp only [Function.comp]
      rw [hz, Nat.add_mod_left]

theorem VRels.replicate {as : List AV} {vs : List Value} (h : VRels g n w as vs) : ∀ c : Nat, VRels g n w (List.replicate c as).flatten (List.replicate c vs).flatten
  | 0 => by simpa using .nil
  | c + 1 => by
    rw [List.replicate_succ, List.replicate_succ, List.flatten_cons, List.flatten_cons]
    exact h.append (VRels.replicate h c)

theorem snd_mks {t e : TypeId} {i : TypeInfo} {z : Value} {m : Nat} {x y : Operand} {a b : AV} (ht : P.underlying t = some (.slice e)) (hi : P.info? e = some i) (hz : i.zero = some z) (hzs : z.cells.size = i.size)
    (ha : VRel g n w a (ρ x)) (hb : VRel g n w b (ρ y)) (hH : HRel g n H w) (hx : xop P (.mks m i.size i.bytes (z.cells.toList.map avCell)) [a, b] n H K) : OpR P ⟨dst, .makeSlice t x y, type, pos, after, guard⟩ ρ g n w H K := by
  generalize hx1 : ρ x = u at ha
  generalize hx2 : ρ y = v at hb
  cases ha <;> cases hb <;> simp only [xop, fop, oK_none] at hx
  rename_i k l k' c
  obtain ⟨⟨rfl, rfl, h0, h1, h2, h3, h4⟩, hcase⟩ := hx
  have hlm : lenMax = 4294967296 := rfl
  have hbytes : (i.bytes : Int) * c ≤ 281474976710656 := by
    have h5 : (i.bytes : Int) ≤ 4096 := by omega
    have h6 : c ≤ 4294967296 := by rw [hlm] at h2; omega
    calc (i.bytes : Int) * c ≤ 4096 * c := Int.mul_le_mul_of_nonneg_right h5 (by omega)
      _ ≤ 281474976710656 := by omega
  have hrun := run_make (P := P) w t e i z ht hi hz .i64 .i64 l c h0 h1 hbytes (by rw [hlm] at h2; omega)
  have hcells : (madeCells z.cells (c.toNat * i.size)) = (List.replicate c.toNat z.cells.toList).flatten.toArray ++ #[] := by
    apply Array.ext'
    rw [Array.append_empty, List.toList_toArray]
    exact madeCells_toList z.cells i.size hzs _
  have hfull : VRels g n w (List.replicate c.toNat (z.cells.toList.map avCell)).flatten (List.replicate c.toNat z.cells.toList).flatten := (avCells_rel _).replicate _
  have hexec : (execOp ρ ⟨dst, .makeSlice t x y, type, pos, after, guard⟩).run P w = .ok (.value (.slice (some ⟨w.heap.size, 0, none⟩) l.toNat c.toNat)) (w.alloc (.cells (madeCells z.cells (c.toNat * i.size)) e)) := by
    simp [execOp, hx1, hx2, hrun]
  have hzs' : z.cells.toList.length = i.size := by rw [Array.length_toList]; exact hzs
  have hsz : ∀ k, ((List.replicate k z.cells.toList).flatten).length = k * i.size := fun k => by
    rw [flatten_length (s := i.size) (fun r hr => by rw [List.eq_of_mem_replicate hr]; exact hzs'), List.length_replicate]
  split at hcase
  · obtain ⟨rfl, hk⟩ := hcase
    refine OpR.out hexec ?_
    rw [hcells]
    have := new_own (g := g) (n := n) (w := w) (H := H) (K := K) (rows := List.replicate l.toNat (z.cells.toList.map avCell)) (size := i.size) (vs := (List.replicate l.toNat z.cells.toList).flatten) (el := e) (rest := #[]) (len := l.toNat) hH hfull (by simp) (by rw [hsz]; simp) (by simpa using hk)
    simpa using this
  · refine OpR.out hexec ?_
    have hsplit : (madeCells z.cells (c.toNat * i.size)) = (List.replicate l.toNat z.cells.toList).flatten.toArray ++ (List.replicate (c.toNat - l.toNat) z.cells.toList).flatten.toArray := by
      rw [hcells]
      apply Array.ext'
      simp only [Array.append_empty, Array.toList_append, List.toList_toArray, ← List.flatten_append, List.replicate_append_replicate]
      congr 3
      omega
    rw [hsplit]
    have hl : l.toNat ≤ c.toNat := by omega
    have := new_acc (g := g) (n := n) (w := w) (H := H) (K := K) (rows := List.replicate l.toNat (z.cells.toList.map avCell)) (size := i.size) (vs := (List.replicate l.toNat z.cells.toList).flatten) (el := e) (rest := (List.replicate (c.toNat - l.toNat) z.cells.toList).flatten.toArray) (len := c.toNat) hH
      (fun r hr => by rw [List.eq_of_mem_replicate hr, List.length_map]; exact hzs') ((avCells_rel _).replicate _) (by simpa using hl) (by
        rw [hsz, List.size_toArray, hsz, ← Nat.add_mul]
        exact Nat.le_of_eq (by congr 1; omega)) (by simpa using hcase)
    simpa using this
  · refine OpR.out hexec ?_
    have hsplit : (madeCells z.cells (c.toNat * i.size)) = (List.replicate l.toNat z.cells.toList).flatten.toArray ++ (List.replicate (c.toNat - l.toNat) z.cells.toList).flatten.toArray := by
      rw [hcells]
      apply Array.ext'
      simp only [Array.append_empty, Array.toList_append, List.toList_toArray, ← List.flatten_append, List.replicate_append_replicate]
      congr 3
      omega
    rw [hsplit]
    have hl : l.toNat ≤ c.toNat := by omega
    have := new_frozen (g := g) (n := n) (w := w) (H := H) (K := K) (rows := List.replicate l.toNat (z.cells.toList.map avCell)) (size := i.size) (vs := (List.replicate l.toNat z.cells.toList).flatten) (el := e) (rest := (List.replicate (c.toNat - l.toNat) z.cells.toList).flatten.toArray) (len := c.toNat) hH
      (fun r hr => by rw [List.eq_of_mem_replicate hr, List.length_map]; exact hzs') ((avCells_rel _).replicate _) (by simpa using hl) (by simpa using hcase)
    simpa using this
  · refine OpR.out hexec ?_
    have hsplit : (madeCells z.cells (c.toNat * i.size)) = (List.replicate l.toNat z.cells.toList).flatten.toArray ++ (List.replicate (c.toNat - l.toNat) z.cells.toList).flatten.toArray := by
      rw [hcells]
      apply Array.ext'
      simp only [Array.append_empty, Array.toList_append, List.toList_toArray, ← List.flatten_append, List.replicate_append_replicate]
      congr 3
      omega
    rw [hsplit]
    have hl : l.toNat ≤ c.toNat := by omega
    have := new_vec (g := g) (n := n) (w := w) (H := H) (K := K) (cells := (List.replicate l.toNat (z.cells.toList.map avCell)).flatten) (size := i.size) (k := l.toNat) (vs := (List.replicate l.toNat z.cells.toList).flatten) (el := e) (rest := (List.replicate (c.toNat - l.toNat) z.cells.toList).flatten.toArray) (len := c.toNat) hH
      ((avCells_rel _).replicate _) hl (by
        rw [hsz, List.size_toArray, hsz, ← Nat.add_mul]
        exact Nat.le_of_eq (by congr 1; omega)) hcase
    simpa using this
  · exact hcase.elim

theorem run_builtin_len {ats : Array TypeId} {x : Operand} {k : Int} (hk : (Builtin.len_ ats type #[ρ x]).run P w = .ok (goInt k) w) :
    (execOp ρ ⟨dst, .call { callee := .builtin .len, args := #[x], argTypes := ats }, type, pos, after, guard⟩).run P w = .ok (.value (.int .i64 k)) w := by
  rw [BigFrame.execOp_builtin, BigFrame.builtin_len]
  simp [hk, goInt]

theorem one_arg {args : Array Operand} (hs : args.size = 1) : ∃ x, args = #[x] := by
  obtain ⟨l⟩ := args
  cases l with
  | nil => simp at hs
  | cons a l => cases l with
    | nil => exact ⟨a, rfl⟩
    | cons _ _ => simp at hs

theorem snd_lenS {t : TypeId} {args : Array Operand} {ats : Array TypeId} {as : List AV} (hat : ats[0]? = some t) (ht : P.underlying t = some .string) (hs : args.size = 1)
    (ha : VRels g n w as (args.toList.map ρ)) (hH : HRel g n H w) (hx : xop P .lenS as n H K) : OpR P ⟨dst, .call { callee := .builtin .len, args, argTypes := ats }, type, pos, after, guard⟩ ρ g n w H K := by
  obtain ⟨x, rfl⟩ := one_arg hs
  simp only [List.map_cons, List.map_nil] at ha
  generalize hx1 : ρ x = u at ha
  cases ha with | cons a _ _ _ h1 t1 =>
  cases t1
  cases h1 <;> simp only [xop, fop, oK_none, oK_some] at hx
  rename_i s
  refine OpR.value (run_builtin_len (k := s.length) ?_) (.int _ _) hH hx
  have : (⟨s.toArray⟩ : ByteArray).size = s.length := by simp [ByteArray.size]
  rw [hx1, ← this]
  simp [Builtin.len_, hat, run_underlying ht]

theorem snd_lenL {t e : TypeId} {args : Array Operand} {ats : Array TypeId} {as : List AV} (hat : ats[0]? = some t) (ht : P.underlying t = some (.slice e)) (hs : args.size = 1)
    (ha : VRels g n w as (args.toList.map ρ)) (hH : HRel g n H w) (hx : xop P .lenL as n H K) : OpR P ⟨dst, .call { callee := .builtin .len, args, argTypes := ats }, type, pos, after, guard⟩ ρ g n w H K := by
  obtain ⟨x, rfl⟩ := one_arg hs
  simp only [List.map_cons, List.map_nil] at ha
  generalize hx1 : ρ x = u at ha
  cases ha with | cons a _ _ _ h1 t1 =>
  cases t1
  cases h1 <;> simp only [xop, fop, oK_none, oK_some] at hx
  all_goals
    refine OpR.value (run_builtin_len (k := _) ?_) (.int _ _) hH hx
    rw [hx1]
    simp [Builtin.len_, hat, run_underlying ht]

/-! ### Calls -/
theorem snd_call {f : Operand} {args : Array Operand} {ats : Array TypeId} {as : List AV} (ha : VRels g n w as (ρ f :: args.toList.map ρ)) (hH : HRel g n H w) (hx : xop P .call as n H K) :
    OpR P ⟨dst, .call { callee := .value f, args, argTypes := ats }, type, pos, after, guard⟩ ρ g n w H K := by
  generalize hf : ρ f = u at ha
  cases ha with | cons a _ bs _ h1 t1 =>
  cases h1 <;> simp only [xop, fop, oK_none] at hx
  rename_i fn cap vs hc
  have := hx g w (args.toList.map ρ ++ vs) (t1.append hc) hH
  have hrun : (execOp ρ ⟨dst, .call { callee := .value f, args, argTypes := ats }, type, pos, after, guard⟩).run P w = (callFunc fn (args.toList.map ρ ++ vs).toArray).run P w := by
    have e1 : (args.toList.map ρ ++ vs).toArray = (#[] ++ args.map ρ) ++ vs.toArray := by
      apply Array.ext'; simp
    rw [e1]
    simp only [execOp, resolve, hf, Deferred.ofValue, Sem.run_bind, Sem.run_pure, Result.andThen_ok, invoke]
  unfold OpR
  rw [hrun]
  split at this
  · rename_i e; rw [e]; exact this
  · rename_i e; rw [e]; exact this
  · exact this.elim

/-! ### The greatest and the least -/
theorem run_mnx {k : IntKind} {mx : Bool} : ∀ (as : List AV) (vs : List Value) (a r : Int), VRels g n w as vs → mnxGo mx k a as = some r →
    (vs.foldlM (if mx then Builtin.max2 else Builtin.min2) (.int k a)).run P w = .ok (.int k r) w
  | [], vs, a, r, h, hr => by
    cases h
    simp only [mnxGo, Option.some.injEq] at hr
    subst hr
    simp
  | x :: as, vs, a, r, h, hr => by
    cases h with | cons _ c _ cs h t =>
    cases x <;> simp only [mnxGo, reduceCtorEq] at hr
    cases h
    rename_i k' b
    split at hr
    · rename_i hk; subst hk
      rw [List.foldlM_cons]
      have ih := run_mnx as cs _ r t hr
      cases mx
      · simp only [Bool.false_eq_true, if_false] at ih ⊢
        simp only [Builtin.min2, pure_bind]
        exact ih
      · simp only [if_true] at ih ⊢
        simp only [Builtin.max2, pure_bind]
        exact ih
    · cases hr

theorem snd_mnx {mx : Bool} {args : Array Operand} {ats : Array TypeId} {as : List AV} (ha : VRels g n w as (args.toList.map ρ)) (hH : HRel g n H w) (hx : xop P (.mnx mx) as n H K) :
    OpR P ⟨dst, .call { callee := .builtin (if mx then .max else .min), args, argTypes := ats }, type, pos, after, guard⟩ ρ g n w H K := by
  have hx' : oK (mnxI mx as) fun v => K v n H := by cases as <;> simpa only [xop, fop] using hx
  obtain ⟨v, hv, hk⟩ := oK_elim hx'
  cases as with
  | nil => simp [mnxI] at hv
  | cons a as =>
    generalize hl : args.toList.map ρ = l at ha
    cases ha with | cons _ c _ cs h t =>
    cases h <;> simp only [mnxI, reduceCtorEq] at hv
    rename_i k i
    rw [Option.map_eq_some_iff] at hv
    obtain ⟨r, hr, rfl⟩ := hv
    have hrun := run_mnx (P := P) as cs i r t hr
    refine OpR.value (c := .int k r) ?_ (.int _ _) hH hk
    have hl' : (args.map ρ).toList = .int k i :: cs := by simpa using hl
    cases mx
    · simp only [Bool.false_eq_true, if_false] at hrun ⊢
      rw [BigFrame.execOp_builtin, BigFrame.builtin_min]
      simp only [Builtin.min_, hl', Sem.run_bind, hrun, Result.andThen_ok, Sem.run_pure]
    · simp only [if_true] at hrun ⊢
      rw [BigFrame.execOp_builtin, BigFrame.builtin_max]
      simp only [Builtin.max_, hl', Sem.run_bind, hrun, Result.andThen_ok, Sem.run_pure]

end Go.Ab
