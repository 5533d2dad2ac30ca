/- Each operation does in the world what the abstract run says: moves, arithmetic, strings, addresses, loads. Over any program. -/
import Derived.Test.YtobhjgipeepmoaaAbSound
namespace Go.Ab
set_option linter.unusedVariables false
set_option linter.unusedSimpArgs false

variable {P : Program} {g : Ghost} {n : Nat} {w : World} {H : Heap} {ρ : Operand → Value} {K : AV → Nat → Heap → Prop}
  {dst : Option Tmp} {type : TypeId} {pos : String} {after : Array Edge} {guard : Option (Nat × Bool)}

theorem snd_mv {x : Operand} {a : AV} (hv : VRel g n w a (ρ x)) (hH : HRel g n H w) (hx : xop P .mv [a] n H K) : OpR P ⟨dst, .move x, type, pos, after, guard⟩ ρ g n w H K := by
  simp only [xop, fop, oK_some] at hx
  exact OpR.value (by simp [execOp]) hv hH hx
theorem snd_as {x : Operand} {a : AV} (hv : VRel g n w a (ρ x)) (hH : HRel g n H w) (hx : xop P .mv [a] n H K) : OpR P ⟨dst, .assign x, type, pos, after, guard⟩ ρ g n w H K := by
  simp only [xop, fop, oK_some] at hx
  exact OpR.value (by simp [execOp]) hv hH hx

theorem snd_pick {c x y : Operand} {k a b : AV} (hk : VRel g n w k (ρ c)) (ha : VRel g n w a (ρ x)) (hb : VRel g n w b (ρ y)) (hH : HRel g n H w) (hx : xop P .pick [k, a, b] n H K) :
    OpR P ⟨dst, .pick c x y, type, pos, after, guard⟩ ρ g n w H K := by
  cases k <;> simp only [xop, fop, oK_some, oK_none] at hx
  rename_i t
  generalize hc : ρ c = cv at hk
  cases hk
  refine OpR.value (c := if t then ρ x else ρ y) (by simp [execOp, hc, asBool]) ?_ hH hx
  cases t
  · simpa using hb
  · simpa using ha

theorem cellsV_of {v : AV} {c : Value} {cs : List AV} (hv : VRel g n w v c) (h : cellsOf v = some cs) : cs.length = c.cells.size := by
  have := (hv.cellsOf h).length
  simpa using this

theorem snd_boxF {x : Operand} {e : TypeId} {a : AV} (hv : VRel g n w a (ρ x)) (hH : HRel g n H w) (hx : xop P .boxF [a] n H K) : OpR P ⟨dst, .box e x, type, pos, after, guard⟩ ρ g n w H K := by
  simp only [xop, fop] at hx
  obtain ⟨v, hv1, hk⟩ := oK_elim hx
  split at hv1
  · rename_i cs hcs
    split at hv1
    · rename_i hflat
      simp only [Option.some.injEq] at hv1
      subst hv1
      have hrel := (hv.cellsOf hcs).frz hflat
      have hlen := hrel.length
      obtain ⟨hg, hH'⟩ := grow_alloc hH (ρ x).cells e (ρ x).cells.size (Nat.le_refl _) none
      unfold OpR
      have hrun : (execOp ρ ⟨dst, .box e x, type, pos, after, guard⟩).run P w = .ok (.value (.pointer (some ⟨w.heap.size, 0, none⟩))) (w.alloc (.cells (ρ x).cells e)) := by
        simp [execOp, Instr.box, newVar, newRow]
      rw [hrun]
      refine ⟨.fptr (cs.map fz), n, H, _, hk, Nat.le_refl _, ?_, hH', hg⟩
      refine .fptr (cs.map fz) w.heap.size 0 (ρ x).cells.toList ?_ ?_ (hrel.ext (hg.toExt.le (Nat.zero_le _)) (Nat.le_refl _))
      · show 0 + (cs.map fz).length ≤ upd g.φ w.heap.size (ρ x).cells.size w.heap.size
        rw [upd_same, hlen]; simp
      · have := Run_alloc (w := w) (vs := (ρ x).cells.toList) (el := e) (rest := #[])
        simpa using this
    · cases hv1
  · cases hv1

theorem snd_boxO {x : Operand} {e : TypeId} {a : AV} (hv : VRel g n w a (ρ x)) (hH : HRel g n H w) (hx : xop P .boxO [a] n H K) : OpR P ⟨dst, .box e x, type, pos, after, guard⟩ ρ g n w H K := by
  simp only [xop] at hx
  obtain ⟨cs, hcs, hk⟩ := oK_elim hx
  have hrel := hv.cellsOf hcs
  obtain ⟨hg, hH'⟩ := grow_alloc hH (ρ x).cells e 0 (Nat.zero_le _) none
  unfold OpR
  have hrun : (execOp ρ ⟨dst, .box e x, type, pos, after, guard⟩).run P w = .ok (.value (.pointer (some ⟨w.heap.size, 0, none⟩))) (w.alloc (.cells (ρ x).cells e)) := by
    simp [execOp, Instr.box, newVar, newRow]
  rw [hrun]
  have hnew : ∀ p ∈ H, upd g.β n w.heap.size p.1 ≠ upd g.β n w.heap.size n := fun p hp => by
    rw [upd_ne _ _ (Nat.ne_of_lt (hH.ent p hp).1), upd_same]; exact Nat.ne_of_lt (hH.ent p hp).2.lt
  refine ⟨.ptr n 0, n + 1, _, _, hk, Nat.le_succ _, ?_, hH'.add (.own cs) hnew ?_, hg.add _ (by show w.heap.size ≤ upd g.β n w.heap.size n; rw [upd_same]; exact Nat.le_refl _)⟩
  · have := VRel.ptr (g := ⟨upd g.β n w.heap.size, upd g.fr n none, upd g.φ w.heap.size 0⟩) (n := n + 1) (w := w.alloc (.cells (ρ x).cells e)) n 0 (Nat.lt_succ_self _) (upd_same _ _ _)
    rwa [show (Ghost.mk (upd g.β n w.heap.size) (upd g.fr n none) (upd g.φ w.heap.size 0)).β n = w.heap.size from upd_same _ _ _] at this
  · refine ⟨upd_same _ _ _, ?_, (ρ x).cells, e, (ρ x).cells.toList, ?_, fun i v hi => by simpa using hi, hrel.ext (hg.toExt) (Nat.le_succ _)⟩
    · show upd g.φ w.heap.size 0 (upd g.β n w.heap.size n) = 0
      rw [upd_same, upd_same]
    · show (w.alloc (.cells (ρ x).cells e)).heap[upd g.β n w.heap.size n]? = _
      rw [upd_same]; exact heap_alloc_new

theorem zeroCells_some {e : TypeId} {z : List AV} (hc : zeroCellsOf P e = some z) : ∃ i v, P.info? e = some i ∧ i.zero = some v ∧ z = v.cells.toList.map avCell := by
  unfold zeroCellsOf at hc
  cases hi : P.info? e with
  | none => rw [hi] at hc; cases hc
  | some i =>
    rw [hi] at hc
    cases hz : i.zero with
    | none => simp [hz] at hc
    | some v => simp [hz] at hc; exact ⟨i, v, rfl, hz, hc.symm⟩

theorem snd_alloc {e : TypeId} {z : List AV} (hc : zeroCellsOf P e = some z) (hH : HRel g n H w) (hx : xop P (.alloc z) [] n H K) : OpR P ⟨dst, .alloc e, type, pos, after, guard⟩ ρ g n w H K := by
  simp only [xop] at hx
  obtain ⟨i, v, hi, hz, rfl⟩ := zeroCells_some hc
  obtain ⟨hg, hH'⟩ := grow_alloc hH v.cells e 0 (Nat.zero_le _) none
  unfold OpR
  have hrun : (execOp ρ ⟨dst, .alloc e, type, pos, after, guard⟩).run P w = .ok (.value (.pointer (some ⟨w.heap.size, 0, none⟩))) (w.alloc (.cells v.cells e)) := by
    simp [execOp, Instr.alloc, zeroValue, typeInfo, hi, hz, newVar, newRow]
  rw [hrun]
  have hnew : ∀ p ∈ H, upd g.β n w.heap.size p.1 ≠ upd g.β n w.heap.size n := fun p hp => by
    rw [upd_ne _ _ (Nat.ne_of_lt (hH.ent p hp).1), upd_same]; exact Nat.ne_of_lt (hH.ent p hp).2.lt
  refine ⟨.ptr n 0, n + 1, _, _, hx, Nat.le_succ _, ?_, hH'.add (.own _) hnew ?_, hg.add _ (by show w.heap.size ≤ upd g.β n w.heap.size n; rw [upd_same]; exact Nat.le_refl _)⟩
  · have := VRel.ptr (g := ⟨upd g.β n w.heap.size, upd g.fr n none, upd g.φ w.heap.size 0⟩) (n := n + 1) (w := w.alloc (.cells v.cells e)) n 0 (Nat.lt_succ_self _) (upd_same _ _ _)
    rwa [show (Ghost.mk (upd g.β n w.heap.size) (upd g.fr n none) (upd g.φ w.heap.size 0)).β n = w.heap.size from upd_same _ _ _] at this
  · refine ⟨upd_same _ _ _, ?_, v.cells, e, v.cells.toList, ?_, fun i v hi => by simpa using hi, avCells_rel _⟩
    · show upd g.φ w.heap.size 0 (upd g.β n w.heap.size n) = 0
      rw [upd_same, upd_same]
    · show (w.alloc (.cells v.cells e)).heap[upd g.β n w.heap.size n]? = _
      rw [upd_same]; exact heap_alloc_new

/-- An owned block, where its pointer leads. -/
theorem own_run {id : Nat} {cells : List AV} (hH : HRel g n H w) (hg : hget H id = some (.own cells)) : ∃ vs, Run w (g.β id) 0 vs ∧ VRels g n w cells vs := by
  obtain ⟨_, h1, h2, c, el, vs, h3, h4, h5⟩ := hH.ent _ (hget_mem hg)
  refine ⟨vs, fun i v hi => ?_, h5⟩
  simp [World.cell?, h3, h4 i v hi]

theorem vob_run {id ver s : Nat} {cells : List AV} (hH : HRel g n H w) (hg : hget H id = some (.vob ver s cells)) : g.fr id = some ver ∧ ∃ vs, Run w (g.β id) 0 vs ∧ VRels g n w cells vs := by
  obtain ⟨_, h1, h2, c, el, vs, h3, h4, h5⟩ := hH.ent _ (hget_mem hg)
  refine ⟨h1, vs, fun i v hi => ?_, h5⟩
  simp [World.cell?, h3, h4 i v hi]

theorem snd_ld {t : TypeId} {x : Operand} {s : Option Nat} {a : AV} (hc : ldSize P t = some s) (hv : VRel g n w a (ρ x)) (hH : HRel g n H w) (hx : xop P (.ld s) [a] n H K) :
    OpR P ⟨dst, .load t x, type, pos, after, guard⟩ ρ g n w H K := by
  cases a <;> simp only [xop, fop, oK_none] at hx
  case fptr cs =>
    obtain ⟨v, hl, hk⟩ := oK_elim hx
    generalize hρ : ρ x = c at hv
    cases hv with | fptr _ b off vs hf hr hvs =>
    obtain ⟨c, hrun, hrel⟩ := run_loadVar hc hr hvs hl
    exact OpR.value (by simp [execOp, Instr.loadAt, hρ, Instr.sureAddr, hrun]) hrel.up hH hk
  case ptr id off =>
    split at hx
    · rename_i cells hg
      obtain ⟨v, hl, hk⟩ := oK_elim hx
      generalize hρ : ρ x = c at hv
      cases hv with | ptr _ _ hid hk' =>
      obtain ⟨vs, hr, hvs⟩ := own_run hH hg
      obtain ⟨c, hrun, hrel⟩ := run_loadVar hc (b := g.β id) (off := off) (vs := vs.drop off) (by have := hr.drop off; rwa [Nat.zero_add] at this) (hvs.drop off) hl
      exact OpR.value (by simp [execOp, Instr.loadAt, hρ, Instr.sureAddr, hrun]) hrel hH hk
    · exact hx.elim
  case vptr id ver off =>
    obtain ⟨sz, cells, hg, hx⟩ := vget_elim hx
    obtain ⟨v, hl, hk⟩ := oK_elim hx
    generalize hρ : ρ x = c at hv
    cases hv with | vptr _ _ _ a hid hloc =>
    obtain ⟨hfr, vs, hr, hvs⟩ := vob_run hH hg
    obtain ⟨_, hloc⟩ := hloc _ hfr
    have had := hloc rfl
    subst had
    obtain ⟨c, hrun, hrel⟩ := run_loadVar hc (b := g.β id) (off := off) (vs := vs.drop off) (by have := hr.drop off; rwa [Nat.zero_add] at this) (hvs.drop off) hl
    exact OpR.value (by simp [execOp, Instr.loadAt, hρ, Instr.sureAddr, hrun]) hrel hH hk

theorem info_of_underlying {t : TypeId} {d : TypeDesc} (h : P.underlying t = some d) : ∃ i, P.info? t = some i := by
  cases hi : P.info? t with
  | some i => exact ⟨i, rfl⟩
  | none => simp [Program.underlying, hi] at h

theorem run_intArith {op : BinOp} {k : IntKind} {a b : Int} {v : AV} (h : ibin op k a b = some v) (t : TypeId) (hs : op ≠ .shl ∧ op ≠ .shr) :
    ∃ c, (binOp op t (.int k a) (.int k b)).run P w = .ok c w ∧ VRel g n w v c := by
  cases op <;> simp only [ibin, Option.some.injEq, reduceCtorEq] at h <;> try (exact absurd rfl hs.1) <;> try (exact absurd rfl hs.2)
  case add => subst h; exact ⟨_, by simp [binOp, Op.intArith], .int _ _⟩
  case sub => subst h; exact ⟨_, by simp [binOp, Op.intArith], .int _ _⟩
  case mul => subst h; exact ⟨_, by simp [binOp, Op.intArith], .int _ _⟩
  case quo =>
    split at h
    · cases h
    · rename_i hb
      simp only [Option.some.injEq] at h; subst h; exact ⟨_, by simp [binOp, Op.intDiv, hb], .int _ _⟩
  case rem =>
    split at h
    · cases h
    · rename_i hb
      simp only [Option.some.injEq] at h; subst h; exact ⟨_, by simp [binOp, Op.intDiv, hb], .int _ _⟩
  case and => subst h; exact ⟨_, by simp [binOp, Op.intBits], .int _ _⟩
  case or => subst h; exact ⟨_, by simp [binOp, Op.intBits], .int _ _⟩
  case eql => subst h; exact ⟨_, by simp [binOp, Op.intCmp], .bool _⟩
  case neq => subst h; exact ⟨_, by simp [binOp, Op.intCmp], .bool _⟩
  case lss => subst h; exact ⟨_, by simp [binOp, Op.intCmp], .bool _⟩
  case leq => subst h; exact ⟨_, by simp [binOp, Op.intCmp], .bool _⟩
  case gtr => subst h; exact ⟨_, by simp [binOp, Op.intCmp], .bool _⟩
  case geq => subst h; exact ⟨_, by simp [binOp, Op.intCmp], .bool _⟩

theorem run_ishift {op : BinOp} {k k' : IntKind} {a b : Int} {v : AV} (h : ishift op k a b = some v) (t : TypeId) (hs : op = .shl ∨ op = .shr) :
    ∃ c, (binOp op t (.int k a) (.int k' b)).run P w = .ok c w ∧ VRel g n w v c := by
  unfold ishift at h
  split at h
  · cases h
  · rename_i hb
    rcases hs with rfl | rfl
    · simp only [Option.some.injEq] at h; subst h; exact ⟨_, by simp [binOp, Op.shift, hb], .int _ _⟩
    · simp only [Option.some.injEq] at h; subst h; exact ⟨_, by simp [binOp, Op.shift, hb], .int _ _⟩

theorem run_sbin {op : BinOp} {a b : List UInt8} {v : AV} (h : sbin op a b = some v) (t : TypeId) :
    ∃ c, (binOp op t (.string ⟨a.toArray⟩) (.string ⟨b.toArray⟩)).run P w = .ok c w ∧ VRel g n w v c := by
  cases op <;> simp only [sbin, Option.some.injEq, reduceCtorEq] at h
  case add =>
    split at h
    · rename_i hl
      simp only [Option.some.injEq] at h; subst h
      have e : (⟨a.toArray⟩ ++ ⟨b.toArray⟩ : ByteArray) = ⟨(a ++ b).toArray⟩ := by
        apply ByteArray.ext; simp [ByteArray.data_append]
      have hsz : ¬ ((((⟨a.toArray⟩ : ByteArray).size + (⟨b.toArray⟩ : ByteArray).size : Nat) : Int) > IntKind.i64.max) := by
        have e1 : (⟨a.toArray⟩ : ByteArray).size = a.length := by simp [ByteArray.size]
        have e2 : (⟨b.toArray⟩ : ByteArray).size = b.length := by simp [ByteArray.size]
        rw [e1, e2, IntKind.max_i64]
        omega
      refine ⟨.string ⟨(a ++ b).toArray⟩, ?_, .str _⟩
      simp only [binOp, Op.stringOp]
      rw [if_neg hsz, e]
      rfl
    · cases h
  case eql => subst h; exact ⟨_, by simp [binOp, Op.stringOp], .bool _⟩
  case neq => subst h; exact ⟨_, by simp [binOp, Op.stringOp], .bool _⟩

end Go.Ab
