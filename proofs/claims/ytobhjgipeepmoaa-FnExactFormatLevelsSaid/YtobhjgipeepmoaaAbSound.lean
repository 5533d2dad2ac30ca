/- Each operation does in the world what the abstract run says: the operations that ask nothing of the heap. Over any program. -/
import Derived.Test.YtobhjgipeepmoaaAbComp
namespace Go.Ab
set_option linter.unusedVariables false
set_option linter.unusedSimpArgs false

variable {P : Program} {g : Ghost} {n : Nat} {w : World} {H : Heap}

theorem OpR.value {o : Oper} {ρ : Operand → Value} {K : AV → Nat → Heap → Prop} {c : Value} {v : AV} (hr : (execOp ρ o).run P w = .ok (.value c) w) (hv : VRel g n w v c) (hH : HRel g n H w) (hk : K v n H) : OpR P o ρ g n w H K := by
  unfold OpR; rw [hr]; exact ⟨v, n, H, g, hk, Nat.le_refl _, hv, hH, Grow.refl _ _ _ _⟩

theorem VRel.cellsOf {v : AV} {c : Value} {cs : List AV} (hv : VRel g n w v c) (h : Ab.cellsOf v = some cs) : VRels g n w cs c.cells.toList := by
  cases hv <;> simp only [Ab.cellsOf, Option.some.injEq, reduceCtorEq] at h <;> (try subst h) <;>
    first
    | (simp only [Value.cells]; assumption)
    | (simp only [Value.cells]; exact .cons _ _ _ _ (by constructor <;> assumption) .nil)
    | skip

theorem VRel.up {v : AV} {c : Value} (h : VRel g 0 w v c) : VRel g n w v c := h.ext (Ext.refl _ _ _) (Nat.zero_le _)
theorem VRels.up {v : List AV} {c : List Value} (h : VRels g 0 w v c) : VRels g n w v c := h.ext (Ext.refl _ _ _) (Nat.zero_le _)

theorem VRel.nil0 : VRel g n w (.sl []) (.slice none 0 0) :=
  .sl [] 0 none 0 0 0 [] (fun h => absurd rfl h) (Nat.le_refl _) (fun r hr => absurd hr (by simp)) (fun h => absurd rfl h) (fun i v hi => by simp at hi) .nil

/-- A cell without names, read only, holds whatever is allocated later. -/
theorem VRel.frz : ∀ {n : Nat} {v : AV} {c : Value}, VRel g n w v c → flat (fz v) = true → VRel g 0 w (fz v) c
  | _, _, _, .junk v, hfl => by simp [fz, flat] at hfl
  | _, _, _, .bool b, _ => .bool b
  | _, _, _, .int k i, _ => .int k i
  | _, _, _, .str s, _ => .str s
  | _, _, _, .fn f cap vs h, hfl => by
    have : cap = [] := by simpa [fz, flat] using hfl
    subst this
    cases h
    exact .fn f [] [] .nil
  | _, _, _, .agg cs vs h, hfl => by simp [fz, flat] at hfl
  | _, _, _, .tup cs vs h, hfl => by simp [fz, flat] at hfl
  | _, _, _, .nilsl, _ => VRel.nil0
  | _, _, _, .sl rows s a b off cap vs ha hc hs hf hr hv, _ => .sl rows s a b off cap vs ha hc hs hf hr hv
  | _, _, _, .acc id s rows a b off cap vs ha hc hs hf hr hv hid hl, _ => .sl rows s a b off cap vs ha hc hs hf hr hv
  | _, _, _, .fptr cs b off vs hf hr hv, _ => .fptr cs b off vs hf hr hv
  | _, _, _, .ptr id off hid hk, hfl => by simp [fz, flat] at hfl
  | _, _, _, .ref id s off len cap hid hk hc hr, hfl => by simp [fz, flat] at hfl
  | _, _, _, .vec id ver s off len a cap hid hl, hfl => by simp [fz, flat] at hfl
  | _, _, _, .vptr id ver off a hid hl, hfl => by simp [fz, flat] at hfl

theorem VRels.frz {as : List AV} {vs : List Value} (h : VRels g n w as vs) (hf : (as.map fz).all flat = true) : VRels g 0 w (as.map fz) vs := by
  induction as generalizing vs with
  | nil => cases h; exact .nil
  | cons a as ih => cases h with | cons _ v _ vs h t =>
    simp only [List.map_cons, List.all_cons, Bool.and_eq_true] at hf
    exact .cons _ _ _ _ (h.frz hf.1) (ih t hf.2)

theorem VRel.fzd : ∀ {n : Nat} {v : AV} {c : Value}, VRel g n w v c → VRel g n w (fz v) c
  | _, _, _, .junk v => .junk v
  | _, _, _, .bool b => .bool b
  | _, _, _, .int k i => .int k i
  | _, _, _, .str s => .str s
  | _, _, _, .fn f cap vs h => .fn f cap vs h
  | _, _, _, .agg cs vs h => .agg cs vs h
  | _, _, _, .tup cs vs h => .tup cs vs h
  | _, _, _, .nilsl => VRel.nil0
  | _, _, _, .sl rows s a b off cap vs ha hc hs hf hr hv => .sl rows s a b off cap vs ha hc hs hf hr hv
  | _, _, _, .acc id s rows a b off cap vs ha hc hs hf hr hv hid hl => .sl rows s a b off cap vs ha hc hs hf hr hv
  | _, _, _, .fptr cs b off vs hf hr hv => .fptr cs b off vs hf hr hv
  | _, _, _, .ptr id off hid hk => .ptr id off hid hk
  | _, _, _, .ref id s off len cap hid hk hc hr => .ref id s off len cap hid hk hc hr
  | _, _, _, .vec id ver s off len a cap hid hl => .vec id ver s off len a cap hid hl
  | _, _, _, .vptr id ver off a hid hl => .vptr id ver off a hid hl

theorem VRels.append {as bs : List AV} {vs us : List Value} (h : VRels g n w as vs) (h' : VRels g n w bs us) : VRels g n w (as ++ bs) (vs ++ us) := by
  induction as generalizing vs with
  | nil => cases h; simpa using h'
  | cons a as ih => cases h with | cons _ v _ vs h t => exact .cons _ _ _ _ h (ih t)

theorem VRels.take {as : List AV} {vs : List Value} (h : VRels g n w as vs) (k : Nat) : VRels g n w (as.take k) (vs.take k) := by
  induction as generalizing vs k with
  | nil => cases h; simpa using .nil
  | cons a as ih => cases h with | cons _ v _ vs h t => cases k with
    | zero => simpa using .nil
    | succ k => simpa using .cons _ _ _ _ h (ih t k)

theorem VRels.drop {as : List AV} {vs : List Value} (h : VRels g n w as vs) (k : Nat) : VRels g n w (as.drop k) (vs.drop k) := by
  induction as generalizing vs k with
  | nil => cases h; simpa using .nil
  | cons a as ih => cases h with | cons _ v _ vs h t => cases k with
    | zero => simpa using .cons _ _ _ _ h t
    | succ k => simpa using ih t k

theorem VRels.get {as : List AV} {vs : List Value} (h : VRels g n w as vs) : ∀ (i : Nat) (a : AV), as[i]? = some a → ∃ v, vs[i]? = some v ∧ VRel g n w a v := by
  induction as generalizing vs with
  | nil => intro i a hi; simp at hi
  | cons x as ih => cases h with | cons _ v _ vs h t =>
    intro i a hi
    cases i with
    | zero => simp at hi; subst hi; exact ⟨v, by simp, h⟩
    | succ i => simp at hi; simpa using ih t i a hi

theorem avCell_rel (v : Value) : VRel g n w (avCell v) v := by
  cases v <;> try exact .junk _
  case bool b => exact .bool b
  case int k n => exact .int k n
  case string s => exact .str s.data.toList
  case slice a l c => cases a with
    | none => cases l with
      | zero => cases c with
        | zero => exact .nilsl
        | succ c => exact .junk _
      | succ l => exact .junk _
    | some a => exact .junk _
  case func f a c => cases f with
    | func f =>
      simp only [avCell]
      by_cases h : a.size = 0 ∧ c.size = 0
      · rw [if_pos h]
        obtain ⟨h1, h2⟩ := h
        have e1 : a = #[] := Array.eq_empty_of_size_eq_zero h1
        have e2 : c = #[] := Array.eq_empty_of_size_eq_zero h2
        subst e1 e2
        exact .fn f [] [] .nil
      · rw [if_neg h]; exact .junk _
    | _ => exact .junk _

theorem avCells_rel (l : List Value) : VRels g n w (l.map avCell) l := by
  induction l with
  | nil => exact .nil
  | cons a l ih => exact .cons _ _ _ _ (avCell_rel a) ih

theorem avOf_rel (v : Value) : VRel g n w (avOf v) v := by
  match v with
  | .agg cs => exact .agg _ cs.toList (avCells_rel _)
  | .bool b => exact avCell_rel (.bool b)
  | .int k i => exact avCell_rel (.int k i)
  | .float k b => exact avCell_rel (.float k b)
  | .complex k a b => exact avCell_rel (.complex k a b)
  | .string s => exact avCell_rel (.string s)
  | .pointer a => exact avCell_rel (.pointer a)
  | .slice a b c => exact avCell_rel (.slice a b c)
  | .map r => exact avCell_rel (.map r)
  | .chan r => exact avCell_rel (.chan r)
  | .func f a b => exact avCell_rel (.func f a b)
  | .nilFunc => exact avCell_rel .nilFunc
  | .iface t v => exact avCell_rel (.iface t v)
  | .nilIface => exact avCell_rel .nilIface
  | .tuple vs => exact avCell_rel (.tuple vs)

theorem cOpd_rel {E : Env} {a : Act} (he : ERel g n w E a.tmps) (x : Operand) : VRel g n w ((cOpd x).val E) (a.eval x) := by
  cases x with
  | tmp t => exact he.val t
  | const v => exact avOf_rel v
  | global _ => exact .junk _
  | func f => exact .fn f [] [] .nil

theorem cOpds_rel {E : Env} {a : Act} (he : ERel g n w E a.tmps) (l : List Operand) : VRels g n w ((l.map cOpd).map (Opd.val E)) (l.map a.eval) := by
  induction l with
  | nil => exact .nil
  | cons x l ih => exact .cons _ _ _ _ (cOpd_rel he x) ih

theorem run_loadVar_agg {t : TypeId} {s : Nat} (hs : ldSize P t = some (some s)) {b off : Nat} {vs : List Value} (hr : Run w b off vs) (hl : s ≤ vs.length) :
    (loadVar t ⟨b, off, none⟩).run P w = .ok (.agg (vs.take s).toArray) w := by
  unfold ldSize at hs
  have hagg : (isAgg t).run P w = .ok true w ∧ P.cellsOf t = s := by
    cases hu : P.underlying t with
    | none => rw [hu] at hs; cases hs
    | some d => rw [hu] at hs; cases d <;> simp at hs <;> simp [isAgg, run_underlying hu, hs]
  have hinfo : ∃ i, P.info? t = some i := by
    cases hi : P.info? t with
    | some i => exact ⟨i, rfl⟩
    | none => cases hu : P.underlying t with
      | none => rw [hu] at hs; cases hs
      | some d => simp [Program.underlying, hi] at hu
  obtain ⟨i, hi⟩ := hinfo
  have hsz : i.size = s := by have := hagg.2; simpa [Program.cellsOf, hi] using this
  have hlc := run_loadCells_list (P := P) w ⟨b, off, none⟩ (vs.take s) (fun j v hj => by
    rw [Addr.add_lit]
    have hj' : vs[j]? = some v := by
      rw [List.getElem?_take] at hj
      by_cases h : j < s
      · rwa [if_pos h] at hj
      · rw [if_neg h] at hj; cases hj
    exact hr j v hj')
  have e : (vs.take s).length = s := by rw [List.length_take]; omega
  rw [e] at hlc
  simp [loadVar, hagg.1, sizeOf, typeInfo, hi, hsz, hlc]

theorem run_loadVar_one {t : TypeId} (hs : ldSize P t = some none) {b off : Nat} {v : Value} (hr : w.cell? ⟨b, off, none⟩ = some v) :
    (loadVar t ⟨b, off, none⟩).run P w = .ok v w := by
  unfold ldSize at hs
  have hagg : (isAgg t).run P w = .ok false w := by
    cases hu : P.underlying t with
    | none => rw [hu] at hs; cases hs
    | some d => rw [hu] at hs; cases d <;> simp at hs <;> simp [isAgg, run_underlying hu]
  simp [loadVar, hagg, hr]

/-- A load, wherever the cells lie. -/
theorem run_loadVar {t : TypeId} {s : Option Nat} (hs : ldSize P t = some s) {b off : Nat} {vs : List Value} (hr : Run w b off vs) {cs : List AV} (hv : VRels g n w cs vs) {v : AV} (hl : ldc s cs = some v) :
    ∃ c, (loadVar t ⟨b, off, none⟩).run P w = .ok c w ∧ VRel g n w v c := by
  cases s with
  | none =>
    cases cs with
    | nil => simp [ldc] at hl
    | cons a cs =>
      simp only [ldc, Option.some.injEq] at hl
      subst hl
      cases hv with | cons _ c _ vs h t =>
      exact ⟨c, run_loadVar_one hs (by simpa using hr 0 c (by simp)), h⟩
  | some s =>
    simp only [ldc] at hl
    split at hl
    · rename_i hle
      simp only [Option.some.injEq] at hl
      subst hl
      rw [hv.length] at hle
      exact ⟨_, run_loadVar_agg hs hr hle, .agg _ _ (hv.take s)⟩
    · cases hl

theorem Run.drop {b off : Nat} {vs : List Value} (h : Run w b off vs) (k : Nat) : Run w b (off + k) (vs.drop k) := by
  intro i v hi
  rw [List.getElem?_drop] at hi
  have := h (k + i) v hi
  rwa [show off + k + i = off + (k + i) by omega]

theorem Run.take {b off : Nat} {vs : List Value} (h : Run w b off vs) (k : Nat) : Run w b off (vs.take k) := by
  intro i v hi
  rw [List.getElem?_take] at hi
  split at hi
  · exact h i v hi
  · cases hi

theorem flatten_drop {α : Type} {s : Nat} : ∀ {rows : List (List α)} (_ : ∀ r ∈ rows, r.length = s) (k : Nat), rows.flatten.drop (k * s) = (rows.drop k).flatten
  | [], _, k => by simp
  | r :: rows, hs, 0 => by simp
  | r :: rows, hs, k + 1 => by
    have h1 := hs r (List.mem_cons_self ..)
    rw [List.flatten_cons, Nat.succ_mul, Nat.add_comm, List.drop_append, h1]
    rw [List.drop_eq_nil_of_le (by omega), List.nil_append]
    rw [show s + k * s - s = k * s by omega]
    rw [flatten_drop (fun x hx => hs x (List.mem_cons_of_mem _ hx)) k]
    simp

theorem flatten_take {α : Type} {s : Nat} : ∀ {rows : List (List α)} (_ : ∀ r ∈ rows, r.length = s) (k : Nat), rows.flatten.take (k * s) = (rows.take k).flatten
  | [], _, k => by simp
  | r :: rows, hs, 0 => by simp
  | r :: rows, hs, k + 1 => by
    have h1 := hs r (List.mem_cons_self ..)
    rw [List.flatten_cons, Nat.succ_mul, Nat.add_comm, List.take_append, h1]
    rw [List.take_of_length_le (by omega)]
    rw [show s + k * s - s = k * s by omega]
    rw [flatten_take (fun x hx => hs x (List.mem_cons_of_mem _ hx)) k]
    simp

theorem rowsOk_s {rows : List (List AV)} {s size : Nat} (h1 : ∀ r ∈ rows, r.length = s) (h2 : rowsOk size rows) (hne : rows ≠ []) : s = size := by
  cases rows with
  | nil => exact absurd rfl hne
  | cons r rs => rw [← h1 r (List.mem_cons_self ..), ← (h2 r (List.mem_cons_self ..)).1]

/-- Element number i of frozen rows: a pointer to its cells. -/
theorem row_ptr {rows : List (List AV)} {s size : Nat} {b off : Nat} {vs : List Value} (hs : ∀ r ∈ rows, r.length = s) (hok : rowsOk size rows)
    (hf : rows ≠ [] → off + rows.length * s ≤ g.φ b) (hr : Run w b off vs) (hv : VRels g 0 w rows.flatten vs) {i : Nat} (hi : i < rows.length) :
    VRel g n w (.fptr (rows.getD i [])) (.pointer (some ⟨b, off + i * size, none⟩)) := by
  have hne : rows ≠ [] := by intro e; subst e; simp at hi
  have e := rowsOk_s hs hok hne
  subst e
  have hrow : rows.getD i [] = (rows.drop i).flatten.take s := by
    rw [List.getD_eq_getElem?_getD, List.getElem?_eq_getElem hi, Option.getD_some]
    rw [List.drop_eq_getElem_cons hi, List.flatten_cons]
    rw [List.take_append_of_le_length (by rw [(hok _ (List.getElem_mem hi)).1]; exact Nat.le_refl _)]
    rw [List.take_of_length_le (by rw [(hok _ (List.getElem_mem hi)).1]; exact Nat.le_refl _)]
  have hlen : (rows.getD i []).length = s := by
    rw [List.getD_eq_getElem?_getD, List.getElem?_eq_getElem hi, Option.getD_some]
    exact (hok _ (List.getElem_mem hi)).1
  have hv2 : VRels g 0 w (rows.getD i []) ((vs.drop (i * s)).take s) := by
    rw [hrow, ← flatten_drop hs i]
    exact (hv.drop _).take _
  have hmul : (i + 1) * s ≤ rows.length * s := Nat.mul_le_mul_right s hi
  rw [Nat.succ_mul] at hmul
  refine .fptr _ b (off + i * s) _ ?_ ((hr.drop (i * s)).take s) hv2
  rw [hlen]
  have := hf hne
  omega

end Go.Ab
