/- Every operation that the shorter form bears does in the world what the abstract run says. Over any program. -/
import Derived.Test.YtobhjgipeepmoaaAbOp8
namespace Go.Ab
set_option linter.unusedVariables false
set_option linter.unusedSimpArgs false

variable {P : Program} {g : Ghost} {n : Nat} {w : World} {H : Heap} {ρ : Operand → Value} {K : AV → Nat → Heap → Prop}

theorem VRels.one {as : List AV} {c : Value} (h : VRels g n w as [c]) : ∃ a, as = [a] ∧ VRel g n w a c := by
  cases h with | cons a _ _ _ h t => cases t; exact ⟨a, rfl, h⟩
theorem VRels.two {as : List AV} {c d : Value} (h : VRels g n w as [c, d]) : ∃ a b, as = [a, b] ∧ VRel g n w a c ∧ VRel g n w b d := by
  cases h with | cons a _ _ _ h t => obtain ⟨b, rfl, h2⟩ := t.one; exact ⟨a, b, rfl, h, h2⟩
theorem VRels.three {as : List AV} {c d e : Value} (h : VRels g n w as [c, d, e]) : ∃ a b k, as = [a, b, k] ∧ VRel g n w a c ∧ VRel g n w b d ∧ VRel g n w k e := by
  cases h with | cons a _ _ _ h t => obtain ⟨b, k, rfl, h2, h3⟩ := t.two; exact ⟨a, b, k, rfl, h, h2, h3⟩

theorem xop_sound {m : Nat} {o : Oper} {x : XO} (hc : cOp P m o.op = some x) {as : List AV} (hv : VRels g n w as (o.op.operands.toList.map ρ)) (hH : HRel g n H w) (hx : xop P x as n H K) : OpR P o ρ g n w H K := by
  obtain ⟨dst, op, type, pos, after, guard⟩ := o
  simp only at hc hv
  cases op <;> simp only [cOp, reduceCtorEq] at hc
  case move y =>
    cases hc
    obtain ⟨a, rfl, h⟩ := VRels.one (by simpa [Op.operands] using hv)
    exact snd_mv h hH hx
  case assign y =>
    cases hc
    obtain ⟨a, rfl, h⟩ := VRels.one (by simpa [Op.operands] using hv)
    exact snd_as h hH hx
  case pick c y z =>
    cases hc
    obtain ⟨a, b, k, rfl, h1, h2, h3⟩ := VRels.three (by simpa [Op.operands] using hv)
    exact snd_pick h1 h2 h3 hH hx
  case alloc e =>
    rw [Option.map_eq_some_iff] at hc
    obtain ⟨z, hz, rfl⟩ := hc
    have hnil : as = [] := by
      have : VRels g n w as [] := by simpa [Op.operands] using hv
      cases this; rfl
    subst hnil
    exact snd_alloc hz hH hx
  case box e y =>
    obtain ⟨a, rfl, h⟩ := VRels.one (by simpa [Op.operands] using hv)
    split at hc <;> cases hc
    · exact snd_boxO h hH hx
    · exact snd_boxF h hH hx
  case build t parts =>
    split at hc
    · rename_i fs z hfs hz
      split at hc
      · rename_i hcond
        cases hc
        simp only [Bool.and_eq_true] at hcond
        exact snd_build hfs hz hcond.1 hcond.2 (by simpa [Op.operands] using hv) hH hx
      · cases hc
    · cases hc
  case buildSlice t len parts =>
    split at hc
    · rename_i e he
      have ht : P.underlying t = some (.slice e) := by
        unfold elemOfSl at he; split at he
        · rename_i h; cases he; exact h
        · cases he
      split at hc
      · rename_i i hi
        split at hc
        · rename_i hcond
          cases hc
          exact snd_bsl ht hi hcond.1 hcond.2.1 hcond.2.2.1 hcond.2.2.2.1 hcond.2.2.2.2 (by simpa [Op.operands] using hv) hH hx
        · cases hc
      · cases hc
    · cases hc
  case load t y =>
    rw [Option.map_eq_some_iff] at hc
    obtain ⟨s, hs, rfl⟩ := hc
    obtain ⟨a, rfl, h⟩ := VRels.one (by simpa [Op.operands] using hv)
    exact snd_ld hs h hH hx
  case store t y z =>
    split at hc
    · rename_i s hs
      split at hc
      · rename_i hsz
        cases hc
        obtain ⟨a, b, rfl, h1, h2⟩ := VRels.two (by simpa [Op.operands] using hv)
        exact snd_st hs hsz h1 h2 hH hx
      · cases hc
    · cases hc
  case binOp op t y z yt =>
    obtain ⟨a, b, rfl, h1, h2⟩ := VRels.two (by simpa [Op.operands] using hv)
    split at hc
    · cases hc; exact snd_bin h1 h2 hH hx
    · cases hc; exact snd_bin h1 h2 hH hx
    · rename_i hu
      split at hc
      · rename_i hop; cases hc; exact snd_binB hu hop h1 h2 hH hx
      · cases hc
    · rename_i e hu
      split at hc
      · rename_i hop; subst hop; cases hc; exact snd_eqNil hu h1 h2 hH hx
      · cases hc
    · split at hc
      · rename_i hop
        rw [Option.map_eq_some_iff] at hc
        obtain ⟨k, hk, rfl⟩ := hc
        exact snd_eqS hk hop h1 h2 hH hx
      · cases hc
    · cases hc
  case unOp op t y =>
    split at hc
    · cases hc
      obtain ⟨a, rfl, h⟩ := VRels.one (by simpa [Op.operands] using hv)
      exact snd_un h hH hx
    · cases hc
  case convert src d y =>
    obtain ⟨a, rfl, h⟩ := VRels.one (by simpa [Op.operands] using hv)
    split at hc
    · rename_i h1 h2; cases hc; exact snd_cvI h1 h2 h hH hx
    · rename_i h1 h2; cases hc; exact snd_cvIS h1 h2 h hH hx
    · rename_i h1 h2; cases hc; exact snd_cvSS h1 h2 h hH hx
    · rename_i h1 h2
      split at hc
      · rename_i h3; cases hc; exact snd_cvBS h1 h3 h2 h hH hx
      · cases hc
    · cases hc
  case makeFunc fn first cap =>
    cases fn <;> simp only [reduceCtorEq] at hc
    split at hc
    · rename_i hf; cases hc; exact snd_mkfn hf (by simpa [Op.operands] using hv) hH hx
    · cases hc
  case makeSlice t l c =>
    obtain ⟨a, b, rfl, h1, h2⟩ := VRels.two (by simpa [Op.operands] using hv)
    split at hc
    · rename_i e he
      have ht : P.underlying t = some (.slice e) := by
        unfold elemOfSl at he; split at he
        · rename_i h; cases he; exact h
        · cases he
      split at hc
      · rename_i i hi
        split at hc
        · rename_i z hz
          split at hc
          · rename_i hzs; cases hc; exact snd_mks ht hi hz hzs h1 h2 hH hx
          · cases hc
        · cases hc
      · cases hc
    · cases hc
  case slice t y lo hi mx =>
    cases mx with
    | some _ => cases hc
    | none =>
      have hv' : VRels g n w as (ρ y :: (lo.toList ++ hi.toList).map ρ) := by
        have e : (Op.slice t y lo hi none).operands.toList.map ρ = ρ y :: (lo.toList ++ hi.toList).map ρ := by
          cases lo <;> cases hi <;> rfl
        rwa [e] at hv
      simp only at hc
      split at hc
      · rename_i hu; cases hc; exact snd_slS hu hv' hH hx
      · rename_i e hu
        rw [Option.map_eq_some_iff] at hc
        obtain ⟨i, hi', rfl⟩ := hc
        exact snd_slL hu hi' hv' hH hx
      · cases hc
  case fieldAddr t y f =>
    obtain ⟨a, rfl, h⟩ := VRels.one (by simpa [Op.operands] using hv)
    split at hc
    · rename_i fs hfs
      split at hc
      · rename_i fd hfd
        split at hc
        · rename_i hcond; cases hc; exact snd_fldA hfs hfd hcond.1 hcond.2 h hH hx
        · cases hc
      · cases hc
    · cases hc
  case field t y f =>
    obtain ⟨a, rfl, h⟩ := VRels.one (by simpa [Op.operands] using hv)
    split at hc
    · rename_i fs hfs
      split at hc
      · rename_i fd hfd
        rw [Option.map_eq_some_iff] at hc
        obtain ⟨s, hs, rfl⟩ := hc
        exact snd_fld hfs hfd hs h hH hx
      · cases hc
    · cases hc
  case indexAddr t y z =>
    obtain ⟨a, b, rfl, h1, h2⟩ := VRels.two (by simpa [Op.operands] using hv)
    split at hc
    · rename_i e he
      have ht : P.underlying t = some (.slice e) := by
        unfold elemOfSl at he; split at he
        · rename_i h; cases he; exact h
        · cases he
      rw [Option.map_eq_some_iff] at hc
      obtain ⟨i, hi, rfl⟩ := hc
      exact snd_idxA ht hi h1 h2 hH hx
    · cases hc
  case index t y z =>
    obtain ⟨a, b, rfl, h1, h2⟩ := VRels.two (by simpa [Op.operands] using hv)
    split at hc
    · rename_i hu; cases hc; exact snd_idxS hu h1 h2 hH hx
    · cases hc
  case extract y i =>
    cases hc
    obtain ⟨a, rfl, h⟩ := VRels.one (by simpa [Op.operands] using hv)
    exact snd_ext h hH hx
  case call c =>
    obtain ⟨callee, args, ats⟩ := c
    simp only at hc
    cases callee with
    | value f =>
      cases hc
      exact snd_call (by simpa [Op.operands, Call.operands] using hv) hH hx
    | invoke r m => cases hc
    | builtin b =>
      have hv' : VRels g n w as (args.toList.map ρ) := by simpa [Op.operands, Call.operands] using hv
      cases b <;> simp only [reduceCtorEq] at hc
      case len =>
        split at hc
        · rename_i t ht
          split at hc
          · rename_i hu
            split at hc
            · rename_i hs; cases hc; exact snd_lenS ht hu hs hv' hH hx
            · cases hc
          · rename_i e hu
            split at hc
            · rename_i hs; cases hc; exact snd_lenL ht hu hs hv' hH hx
            · cases hc
          · cases hc
        · cases hc
      case append =>
        split at hc
        · rename_i t u hat
          have hat' : ats = #[t, u] := by apply Array.ext'; simpa using hat
          subst hat'
          split at hc
          · rename_i htu
            subst htu
            split at hc
            · rename_i e he
              have ht : P.underlying t = some (.slice e) := by
                unfold elemOfSl at he; split at he
                · rename_i h; cases he; exact h
                · cases he
              split at hc
              · rename_i i hi
                split at hc
                · rename_i hcond
                  simp only [Option.some.injEq] at hc
                  split at hc
                  · cases hc; exact snd_appV ht hi hcond.1 hcond.2.1 hv' hH hx
                  · cases hc; exact snd_app ht hi hcond.1 hcond.2.1 hcond.2.2 hv' hH hx
                · cases hc
              · cases hc
            · cases hc
          · cases hc
        · cases hc
      case clear =>
        split at hc
        · rename_i t hat
          split at hc
          · rename_i e he
            have ht : P.underlying t = some (.slice e) := by
              unfold elemOfSl at he; split at he
              · rename_i h; cases he; exact h
              · cases he
            split at hc
            · rename_i i hi
              split at hc
              · rename_i z hz
                split at hc
                · rename_i hcond; cases hc; exact snd_clr hat ht hi hz hcond.1 hcond.2 hv' hH hx
                · cases hc
              · cases hc
            · cases hc
          · cases hc
        · cases hc
      case cap =>
        split at hc
        · rename_i t hat
          split at hc
          · rename_i hcond
            cases hc
            obtain ⟨e, he⟩ := Option.isSome_iff_exists.mp hcond.1
            have ht : P.underlying t = some (.slice e) := by
              unfold elemOfSl at he; split at he
              · rename_i h; cases he; exact h
              · cases he
            exact snd_capL hat ht hcond.2 hv' hH hx
          · cases hc
        · cases hc
      case max => cases hc; exact snd_mnx (mx := true) hv' hH hx
      case min => cases hc; exact snd_mnx (mx := false) hv' hH hx

end Go.Ab
