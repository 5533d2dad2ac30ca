/- Tools of the abstract walk: loops, and a library function without a Go body. Over any program. -/
import Derived.Test.YtobhjgipeepmoaaAbSimp
import Derived.Lib.Bytealg
namespace Go.Ab
set_option linter.unusedVariables false

variable {P : Program} {X : Ctx} {F : Cfg} {k : List XItem} {E : Env} {n : Nat} {H : Heap}

theorem Runs.indexByte {f : FuncId} {fn : Func} (hf : P.funcs[f]? = some fn) (hb : fn.body.isNone = true) (hnm : (fn.name == "runtime.NumGoroutine") = false)
    (h1 : (Extern.findNext fn).isNone = true) (h2 : Extern.find fn = some Extern.BytealgIndexByte.indexByte) (s : List UInt8) (c : Int) : RunsF P f [.str s, .int .u8 c] (.int .i64 (Lib.indexByte s c.toNat.toUInt8)) := by
  intro n H g w cs hv hh
  obtain ⟨a, b, rfl, ha, hb2⟩ : ∃ a b, cs = [a, b] ∧ VRel g n w (.str s) a ∧ VRel g n w (.int .u8 c) b := by
    cases hv with | cons _ a _ _ h3 t => cases t with | cons _ b _ _ h4 t => cases t; exact ⟨a, b, rfl, h3, h4⟩
  cases ha
  cases hb2
  have e1 : Extern.findNext fn = none := by
    cases he : Extern.findNext fn with
    | none => rfl
    | some _ => rw [he] at h1; cases h1
  have e : (callFunc f [Value.string ⟨s.toArray⟩, .int .u8 c].toArray).run P w = .ok (.value (.int .i64 (Lib.indexByte s c.toNat.toUInt8))) w := by
    simp only [callFunc, Sem.run_bind, run_program, Result.andThen_ok, hf, hb, hnm, Bool.false_eq_true, if_false, if_true, run_mark, e1, h2, Sem.run_pure]
    rw [show (Extern.BytealgIndexByte.indexByte [Value.string ⟨s.toArray⟩, .int .u8 c].toArray).run P w = _ from Lib.run_indexByteString (P := P) ⟨s.toArray⟩ c w]
    rfl
  rw [e]
  exact ⟨.int .i64 _, n, H, g, ⟨rfl, rfl, rfl⟩, Nat.le_refl _, .int _ _, hh, Grow.refl _ _ _ _⟩

/-! ### Loops -/
def emem : Env → Nat → AV → Prop
  | [], _, _ => False
  | (i, a) :: E, j, b => if i = j then a = b else emem E j b
def Esub : Env → Env → Prop
  | [], _ => True
  | (i, a) :: Es, E => emem E i a ∧ Esub Es E
theorem emem_mem : ∀ {E : Env} {i : Nat} {a : AV}, emem E i a → (i, a) ∈ E
  | [], _, _, h => h.elim
  | (j, b) :: E, i, a, h => by
    unfold emem at h
    split at h
    · rename_i e; subst e; subst h; exact List.mem_cons_self ..
    · exact List.mem_cons_of_mem _ (emem_mem h)
theorem Esub_mem : ∀ {Es E : Env}, Esub Es E → ∀ p ∈ Es, p ∈ E
  | [], _, _, p, hp => by cases hp
  | (i, a) :: Es, E, h, p, hp => by
    rw [List.mem_cons] at hp
    rcases hp with rfl | hp
    · exact emem_mem h.1
    · exact Esub_mem h.2 p hp
theorem emem_cons (i : Nat) (a : AV) (E : Env) (j : Nat) (b : AV) : emem ((i, a) :: E) j b = if i = j then a = b else emem E j b := rfl
theorem Esub_cons (i : Nat) (a : AV) (Es E : Env) : Esub ((i, a) :: Es) E = (emem E i a ∧ Esub Es E) := rfl
theorem Esub_nil (E : Env) : Esub [] E = True := rfl

theorem XS.to {E' : Env} {H' : Heap} {n' : Nat} (h : XS P X F k E' n' H') (hE : Esub E' E) (hn : n ≤ n') (hH : H'.Sublist H) : XS P X F k E n H := h.sub (Esub_mem hE) hH hn

/-- A loop: a state that holds at every round's head, and a measure that goes down. -/
theorem XS.while {σ : Type} (I : σ → Prop) (Es : σ → Env) (ns : σ → Nat) (Hs : σ → Heap) (μ : σ → Nat) (s0 : σ) {a : XCode} (h0 : I s0) (hE : Esub (Es s0) E) (hn : n ≤ ns s0) (hH : (Hs s0).Sublist H)
    (round : ∀ s, I s → (∀ s', I s' → μ s' < μ s → XS P X F (.inLoop a :: k) (Es s') (ns s') (Hs s')) → XS P X F (.code a :: .inLoop a :: k) (Es s) (ns s) (Hs s)) :
    XS P X F (.code (.loop a) :: k) E n H := by
  refine XS.loop ?_
  have key : ∀ m s, μ s = m → I s → XS P X F (.inLoop a :: k) (Es s) (ns s) (Hs s) := by
    intro m
    induction m using Nat.strongRecOn with
    | _ m ih =>
      intro s hs hI
      exact XS.inLoop (round s hI fun s' hI' hlt => ih (μ s') (hs ▸ hlt) s' rfl hI')
  exact (key _ s0 rfl h0).to hE hn hH

/-- What is left of the work on a 64 bit number that lies in its range. -/
theorem wrap_i64 {x : Int} (h1 : -9223372036854775808 ≤ x) (h2 : x ≤ 9223372036854775807) : IntKind.i64.wrap x = x := by
  rw [IntKind.wrap_i64]; omega
theorem wrap_u8 {x : Int} (h1 : 0 ≤ x) (h2 : x ≤ 255) : IntKind.u8.wrap x = x := by
  have e : IntKind.u8.wrap x = x % 256 := by simp [IntKind.wrap, IntKind.bits, IntKind.signed]
  rw [e]; omega

end Go.Ab
