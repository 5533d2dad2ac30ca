/- What a seat has to show of a function, and the rules of the walk that rest on it. Over any program. -/
import Derived.Test.YtobhjgipeepmoaaAbAB
namespace Go.Ab
set_option linter.unusedVariables false

inductive RV where
  | tmp (t : Nat)
  | cell (a : Nat) (s : Option Nat)
def cRes (P : Program) : ResultVar → Option RV
  | .tmp t => some (.tmp t)
  | .cell a t => (ldSize P t).map (.cell a)

structure FX where
  nt : Nat
  rs : List RV
  F : Cfg
  x : XCode

structure Has (P : Program) (k : FuncId) (A : FX) : Prop where
  mo : P.follows .mixedOrders = true
  ex : ∃ fn, P.funcs[k]? = some fn ∧ fn.body.bind (cCode P A.nt A.F.md A.F.kp) = some A.x ∧ (fn.name == "runtime.NumGoroutine") = false ∧ fn.ntmps = A.nt ∧ allSome (fn.results.toList.map (cRes P)) = some A.rs

def XR (P : Program) (fn : Func) (rs : List RV) : Prop := allSome (fn.results.toList.map (cRes P)) = some rs

def ret1R (E : Env) (H : Heap) : RV → Option AV
  | .tmp t => some (val E t)
  | .cell a s => match val E a with
    | .ptr id off => match hget H id with
      | some (.own cells) => ldc s (cells.drop off)
      | _ => none
    | .fptr cs => ldc s cs
    | _ => none
def retR (E : Env) (H : Heap) : List RV → Option (List AV)
  | [] => some []
  | r :: rs => match ret1R E H r, retR E H rs with
    | some v, some vs => some (v :: vs)
    | _, _ => none

variable {P : Program} {X : Ctx} {F : Cfg} {k : List XItem} {E : Env} {n : Nat} {H : Heap}

theorem ret1_of {r : ResultVar} {q : RV} (h : cRes P r = some q) : ret1 P E H r = ret1R E H q := by
  cases r with
  | tmp t => simp only [cRes, Option.some.injEq] at h; subst h; rfl
  | cell a t =>
    simp only [cRes, Option.map_eq_some_iff] at h
    obtain ⟨s, hs, rfl⟩ := h
    simp only [ret1, ret1R, hs]
    cases val E a <;> rfl

theorem retsL_of : ∀ {l : List ResultVar} {rs : List RV}, allSome (l.map (cRes P)) = some rs → retsL P E H l = retR E H rs
  | [], rs, h => by
    simp only [List.map_nil, allSome, Option.some.injEq] at h
    subst h; rfl
  | r :: l, rs, h => by
    simp only [List.map_cons] at h
    cases hr : cRes P r with
    | none => rw [hr] at h; simp [allSome] at h
    | some q =>
      rw [hr] at h
      simp only [allSome, Option.map_eq_some_iff] at h
      obtain ⟨qs, hq, rfl⟩ := h
      simp only [retsL, retR, ret1_of hr, retsL_of hq]
      cases ret1R E H q with
      | none => rfl
      | some _ => cases retR E H qs <;> rfl

theorem S.ofH {f : FuncId} {A : FX} {args : List AV} {R : AV → Nat → Heap → Prop} (hk : Has P f A) (hn : Nat.ble args.length A.nt = true)
    (h : HB n H → ∀ fn, XR P fn A.rs → S P ⟨fn, f, n, R⟩ A.F [.code A.x] Tag.mk (env0 0 args) n H) : Runs P f args n H R := by
  obtain ⟨fn, h1, h2, h3, h4, h5⟩ := hk.ex
  exact S.of A.F h1 (by rw [h4]; exact h2) h3 (by rw [h4]; exact hn) fun hB => h hB fn h5

theorem S.retH {rs : List RV} {vs : List AV} {t : Tag (X, F, XItem.code .ret :: k)} (hr : XR P X.fn rs) (hv : retR E H rs = some vs) (hf : Fin X.n0 n H (retV vs) X.R) : S P X F (.code .ret :: k) t E n H :=
  S.ret (by rw [retsL_of hr]; exact hv) hf
theorem S.finH {rs : List RV} {vs : List AV} {t : Tag (X, F, ([] : List XItem))} (hr : XR P X.fn rs) (hv : retR E H rs = some vs) (hf : Fin X.n0 n H (retV vs) X.R) : S P X F [] t E n H :=
  S.fin (by rw [retsL_of hr]; exact hv) hf

theorem S.ofX {f : FuncId} {nt : Nat} {rs : List RV} {F : Cfg} {x : XCode} {args : List AV} {R : AV → Nat → Heap → Prop} (hk : Has P f ⟨nt, rs, F, x⟩) (hn : Nat.ble args.length nt = true)
    (h : HB n H → ∀ fn, XR P fn rs → S P ⟨fn, f, n, R⟩ F [.code x] Tag.mk (env0 0 args) n H) : Runs P f args n H R := S.ofH hk hn h

theorem S.retK {rs : List RV} {t : Tag (X, F, XItem.code .ret :: k)} (hr : XR P X.fn rs) (h : OK (retR E H rs) (fun vs => Fin X.n0 n H (retV vs) X.R) Tag.mk) : S P X F (.code .ret :: k) t E n H := by
  obtain ⟨vs, hv, hf⟩ := oK_elim h
  exact S.retH hr hv hf
def retC (H : Heap) (v : AV) (s : Option Nat) (K : AV → Prop) (t : Tag K) : Prop := match v with
  | .ptr id off => withOwn (hget H id) (fun cells => OK (ldc s (cells.drop off)) K Tag.mk) Tag.mk
  | .fptr cs => OK (ldc s cs) K Tag.mk
  | _ => False
theorem retK_nil (K : List AV → Prop) (t : Tag K) : OK (retR E H []) K t = K [] := rfl
theorem retK_tmp (i : Nat) (rs : List RV) (K : List AV → Prop) (t : Tag K) : OK (retR E H (.tmp i :: rs)) K t = OK (retR E H rs) (fun vs => K (val E i :: vs)) Tag.mk := by
  simp only [retR, ret1R, OK]
  cases retR E H rs <;> rfl
theorem retK_cell (i : Nat) (s : Option Nat) (rs : List RV) (K : List AV → Prop) (t : Tag K) : OK (retR E H (.cell i s :: rs)) K t = retC H (val E i) s (fun v => OK (retR E H rs) (fun vs => K (v :: vs)) Tag.mk) Tag.mk := by
  simp only [retR, ret1R, OK, retC]
  cases val E i <;> simp only [oK_none]
  case fptr cs => cases ldc s cs <;> simp only [oK_none, oK_some] <;> cases retR E H rs <;> rfl
  case ptr id off =>
    cases hget H id with
    | none => rfl
    | some o => cases o with
      | tok a b => rfl
      | vob a b c => rfl
      | own cells => simp only [withOwn]; cases ldc s (cells.drop off) <;> simp only [oK_none, oK_some] <;> cases retR E H rs <;> rfl
theorem retC_ptr (id off : Nat) (s : Option Nat) (K : AV → Prop) (t : Tag K) : retC H (.ptr id off) s K t = withOwn (hget H id) (fun cells => OK (ldc s (cells.drop off)) K Tag.mk) Tag.mk := rfl
theorem retC_fptr (cs : List AV) (s : Option Nat) (K : AV → Prop) (t : Tag K) : retC H (.fptr cs) s K t = OK (ldc s cs) K Tag.mk := rfl

/-- A pure function's return: all that it made is forgotten. -/
theorem Fin.pure {n0 : Nat} {v r : AV} {H0 : Heap} (hB : HB n0 H0) (hs : H0.Sublist H) (hb : below n0 (fzt v) = true) (he : fzt v = r) : Fin n0 n H v (fun v' n' H' => v' = r ∧ n' = n0 ∧ H' = H0) :=
  Fin.fz (Fin.low hb hB hs ⟨he, rfl, rfl⟩)

theorem u8_eq (a b : UInt8) : ((a.toNat : Int) == (b.toNat : Int)) = (a == b) := by
  by_cases h : a = b
  · simp [h]
  · have h2 : a.toNat ≠ b.toNat := fun e => h (UInt8.toNat_inj.mp e)
    rw [beq_eq_false_iff_ne.mpr h, beq_eq_false_iff_ne]
    omega
theorem u8_lit (a : UInt8) (k : Nat) (h : k < 256) : ((a.toNat : Int) == no_index (OfNat.ofNat k : Int)) = (a == UInt8.ofNat k) := by
  rw [← u8_eq]
  have : ((UInt8.ofNat k).toNat : Int) = (OfNat.ofNat k : Int) := by
    have h2 : (UInt8.ofNat k).toNat = k := by simp [UInt8.toNat_ofNat']; omega
    rw [h2]; rfl
  rw [this]
theorem toNat_subl (m k : Nat) : ((m : Int) - no_index (OfNat.ofNat k : Int)).toNat = m - k := by
  have : (OfNat.ofNat k : Int) = (k : Int) := rfl
  rw [this]; omega
theorem toNat_addl (m k : Nat) : ((m : Int) + no_index (OfNat.ofNat k : Int)).toNat = m + k := by
  have : (OfNat.ofNat k : Int) = (k : Int) := rfl
  rw [this]; omega
theorem if_ne {α : Sort _} {a b : Nat} [Decidable (a = b)] {x y : α} (h : a ≠ b) : (if a = b then x else y) = y := if_neg h
theorem getD_drop {α : Type} (s : List α) (i : Nat) (d : α) (h : i < s.length) : s.drop i = s.getD i d :: s.drop (i + 1) := by
  rw [List.drop_eq_getElem_cons h, List.getD_eq_getElem?_getD, List.getElem?_eq_getElem h]; rfl

/-- Round again. -/
theorem S.again {E' : Env} {n' : Nat} {H' : Heap} {t t' : Tag (X, F, k)} (h : S P X F k t E' n' H') (hE : keepE (E'.map Prod.fst) E = E') (hn : n ≤ n') (hH : H'.Sublist H) : S P X F k t' E n H := by
  have h1 : XS P X F k E' n' H' := h
  have h2 : XS P X F k E n' H' := XS.subv h1 (by rw [← hE]; exact keepE_val)
  exact h2.sub (fun p hp => hp) hH hn
theorem S.loop {σ : Type} (I : σ → Prop) (Es : σ → Env) (ns : σ → Nat) (Hs : σ → Heap) (μ : σ → Nat) (s0 : σ) {a : XCode} {t : Tag (X, F, XItem.code (.loop a) :: k)} (hE : keepE ((Es s0).map Prod.fst) E = Es s0) (h0 : I s0) (hn : n ≤ ns s0) (hH : (Hs s0).Sublist H)
    (round : ∀ s, I s → (∀ s', I s' → μ s' < μ s → S P X F (.inLoop a :: k) Tag.mk (Es s') (ns s') (Hs s')) → S P X F (.code a :: .inLoop a :: k) Tag.mk (Es s) (ns s) (Hs s)) :
    S P X F (.code (.loop a) :: k) t E n H := by
  refine S.again (E' := Es s0) (n' := ns s0) (H' := Hs s0) (t := Tag.mk) ?_ hE hn hH
  have key : ∀ m s, μ s = m → I s → XS P X F (.inLoop a :: k) (Es s) (ns s) (Hs s) := by
    intro m
    induction m using Nat.strongRecOn with
    | _ m ih =>
      intro s hs hI
      exact XS.inLoop (round s hI fun s' hI' hlt => ih (μ s') (hs ▸ hlt) s' rfl hI')
  exact XS.loop (key _ s0 rfl h0)
end Go.Ab
