/- Each operation does in the world what the abstract run says: comparisons of structs, structs and slices that are built or made, stores, lengths. Over any program. -/
import Derived.Test.YtobhjgipeepmoaaAbOp2
namespace Go.Ab
set_option linter.unusedVariables false
set_option linter.unusedSimpArgs false

variable {P : Program} {g : Ghost} {n : Nat} {w : World} {H : Heap} {ρ : Operand → Value} {K : AV → Nat → Heap → Prop}
  {dst : Option Tmp} {type : TypeId} {pos : String} {after : Array Edge} {guard : Option (Nat × Bool)}

theorem underlying_fields {t : TypeId} {fs : Array Field} (ht : fieldsOf P t = some fs) : P.underlying t = some (.struct fs) := by
  unfold fieldsOf at ht
  split at ht
  · rename_i fs' h; simp only [Option.some.injEq] at ht; subst ht; exact h
  · cases ht

theorem run_isAgg_int {t : TypeId} {k : IntKind} (h : P.underlying t = some (.int k)) : (isAgg t).run P w = .ok false w := by simp [isAgg, run_underlying h]

theorem eqFields_ints : ∀ (fs : List Field) (i0 : Nat) (us vs : List Value) (as bs : List AV) (r : Bool),
    (fs.zipIdx i0).all (fun (f, i) => f.name != "_" && f.offset == i && (match P.underlying f.type with | some (.int _) => true | _ => false)) = true →
    VRels g n w (as.drop i0) (us.drop i0) → VRels g n w (bs.drop i0) (vs.drop i0) → (as.drop i0).length = fs.length → eqInts (as.drop i0) (bs.drop i0) = some r →
    (Op.eqFields 9999 us.toArray vs.toArray fs).run P w = .ok r w
  | [], i0, us, vs, as, bs, r, _, ha, hb, hl, he => by
    have e1 : as.drop i0 = [] := List.eq_nil_of_length_eq_zero hl
    rw [e1] at he
    cases hbs : bs.drop i0 with
    | nil => rw [hbs] at he; simp [eqInts] at he; subst he; simp [Op.eqFields]
    | cons x xs => rw [hbs] at he; simp [eqInts] at he
  | f :: fs, i0, us, vs, as, bs, r, hall, ha, hb, hl, he => by
    rw [List.zipIdx_cons, List.all_cons, Bool.and_eq_true] at hall
    obtain ⟨hf, hrest⟩ := hall
    simp only [Bool.and_eq_true, bne_iff_ne, ne_eq, beq_iff_eq] at hf
    obtain ⟨⟨hname, hoff⟩, hty⟩ := hf
    obtain ⟨k0, hk⟩ : ∃ k0, P.underlying f.type = some (.int k0) := by
      split at hty
      · rename_i k h; exact ⟨k, h⟩
      · cases hty
    cases hda : as.drop i0 with
    | nil => rw [hda] at hl; simp at hl
    | cons a as' =>
      cases hdb : bs.drop i0 with
      | nil => rw [hda, hdb] at he; cases a <;> simp [eqInts] at he
      | cons b bs' =>
        have ha0 := ha; have hb0 := hb
        rw [hda] at ha; rw [hdb] at hb
        generalize hu : us.drop i0 = u at ha
        generalize hv : vs.drop i0 = v at hb
        cases ha with | cons _ c1 _ us' h1 t1 =>
        cases hb with | cons _ c2 _ vs' h2 t2 =>
        rw [hda, hdb] at he
        cases a <;> cases b <;> simp only [eqInts, reduceCtorEq] at he
        rename_i k i k' i'
        cases h1; cases h2
        have eu : us[i0]? = some (.int k i) := by
          have := congrArg (fun l => l[0]?) hu
          simpa [List.getElem?_drop] using this
        have ev : vs[i0]? = some (.int k' i') := by
          have := congrArg (fun l => l[0]?) hv
          simpa [List.getElem?_drop] using this
        have pu : (part f.type us.toArray f.offset).run P w = .ok (.int k i) w := by
          simp [part, run_isAgg_int hk, hoff, eu]
        have pv : (part f.type vs.toArray f.offset).run P w = .ok (.int k' i') w := by
          simp [part, run_isAgg_int hk, hoff, ev]
        have hdrop : ∀ {α : Type} (l : List α) (x : α) (xs : List α), l.drop i0 = x :: xs → l.drop (i0 + 1) = xs := fun l x xs e => by
          have := congrArg (List.drop 1) e
          simpa [List.drop_drop] using this
        split at he
        · rename_i hkk; subst hkk
          split at he
          · rename_i hii; subst hii
            have ih := eqFields_ints fs (i0 + 1) us vs as bs r hrest (by rw [hdrop _ _ _ hda, hdrop _ _ _ hu]; exact t1) (by rw [hdrop _ _ _ hdb, hdrop _ _ _ hv]; exact t2)
              (by rw [hdrop _ _ _ hda]; rw [hda] at hl; simpa using hl) (by rw [hdrop _ _ _ hda, hdrop _ _ _ hdb]; exact he)
            rw [Op.eqFields]
            simp only [if_pos hname, Sem.run_bind, pu, pv, Result.andThen_ok, run_equalIn_int w 9998 f.type k k0 i i hk, beq_self_eq_true]
            simpa using ih
          · rename_i hii
            simp only [Option.some.injEq] at he; subst he
            rw [Op.eqFields]
            have hne : (i == i') = false := by simpa using hii
            simp [if_pos hname, pu, pv, run_equalIn_int w 9998 f.type k k0 i i' hk, hne]
        · cases he

theorem snd_eqS {op : BinOp} {t yt : TypeId} {x y : Operand} {a b : AV} {k : Nat} (ht : intStruct P t = some k) (hop : op = .eql ∨ op = .neq)
    (ha : VRel g n w a (ρ x)) (hb : VRel g n w b (ρ y)) (hH : HRel g n H w) (hx : xop P (.eqS (op == .neq) k) [a, b] n H K) : OpR P ⟨dst, .binOp op t x y yt, type, pos, after, guard⟩ ρ g n w H K := by
  unfold intStruct at ht
  split at ht
  · rename_i fs hfs
    split at ht
    · rename_i hc
      simp only [Option.some.injEq] at ht; subst ht
      simp only [Bool.and_eq_true, Bool.not_eq_true'] at hc
      obtain ⟨⟨hall, hp⟩, hm⟩ := hc
      have hu := underlying_fields hfs
      generalize hx1 : ρ x = u at ha
      generalize hx2 : ρ y = v at hb
      cases ha <;> cases hb <;> simp only [xop, fop, oK_none] at hx
      rename_i as us hus bs vs hvs
      obtain ⟨r, hr, hk⟩ := oK_elim hx
      split at hr
      · rename_i hlen
        rw [Option.map_eq_some_iff] at hr
        obtain ⟨q, hq, rfl⟩ := hr
        have hf : P.fieldsOf t = fs := by simp [Program.fieldsOf, hu]
        have h1 := eqFields_ints (P := P) (g := g) (n := n) (w := w) fs.toList 0 us vs as bs q hall (by simpa using hus) (by simpa using hvs) (by simpa using hlen.1) (by simpa using hq)
        have h2 : (Op.equalIn 10000 t (.agg us.toArray) (.agg vs.toArray)).run P w = .ok q w := by
          rw [run_equalIn_struct (P := P) w 9999 t _ _ (by rw [hf]; exact hu) hp, hf]; exact h1
        rcases hop with rfl | rfl
        · refine OpR.value (c := .bool q) ?_ (by rw [show (q != (BinOp.eql == BinOp.neq)) = q by cases q <;> rfl]; exact .bool q) hH hk
          simp [execOp, hx1, hx2, run_eqGuard_agg (P := P) w .eql t x y us.toArray vs.toArray hm, run_eql_struct (P := P) w t, h2]
        · refine OpR.value (c := .bool (!q)) ?_ (by rw [show (q != (BinOp.neq == BinOp.neq)) = !q by cases q <;> rfl]; exact .bool _) hH hk
          simp [execOp, hx1, hx2, run_eqGuard_agg (P := P) w .neq t x y us.toArray vs.toArray hm, run_neq_struct (P := P) w t, h2]
      · cases hr
    · cases ht
  · cases ht

/-! ### Filling cells -/
theorem foldl_set (vs : List Value) : ∀ (i0 : Nat) (cells : List Value) (off : Nat), off + i0 + vs.length ≤ cells.length →
    ((vs.zipIdx i0).foldl (fun (cs : Array Value) (p : Value × Nat) => cs.setIfInBounds (off + p.2) p.1) cells.toArray) = (cells.take (off + i0) ++ vs ++ cells.drop (off + i0 + vs.length)).toArray := by
  induction vs with
  | nil => intro i0 cells off h; simp
  | cons v vs ih =>
    intro i0 cells off h
    simp only [List.length_cons] at h
    rw [List.zipIdx_cons, List.foldl_cons, List.setIfInBounds_toArray, ih (i0 + 1) _ off (by simp; omega)]
    congr 1
    have h1 : (cells.set (off + i0) v).take (off + (i0 + 1)) = cells.take (off + i0) ++ [v] := by
      rw [show off + (i0 + 1) = off + i0 + 1 by omega, List.take_succ_eq_append_getElem (by simp; omega)]
      simp [List.take_set_of_le]
    have h2 : (cells.set (off + i0) v).drop (off + (i0 + 1) + vs.length) = cells.drop (off + i0 + (v :: vs).length) := by
      rw [List.drop_set_of_lt (by omega)]
      congr 1
      simp only [List.length_cons]; omega
    rw [h1, h2]
    simp

theorem fill_step {place : Nat → Option (Nat × Nat)} {cells : List Value} {i off size : Nat} {v : Value} {rest : List (Nat × Value)} (hp : place i = some (off, size)) (h1 : v.cells.size = size) (h2 : off + size ≤ cells.length) :
    Instr.fill place cells.toArray ((i, v) :: rest) = Instr.fill place (cells.take off ++ v.cells.toList ++ cells.drop (off + size)).toArray rest := by
  rw [Instr.fill]
  simp only [hp]
  rw [if_neg (by simp; omega)]
  congr 1
  rw [← Array.foldl_toList]
  have hz : (v.cells.zipIdx).toList = v.cells.toList.zipIdx 0 := by simp
  rw [hz]
  have h := foldl_set v.cells.toList 0 cells off (by simp; omega)
  simp only [Nat.add_zero, Array.length_toList, h1] at h
  exact h

theorem buildC_run {fs : Array Field} : ∀ (parts : List (Nat × Operand)) (zs : List AV) (zv : List Value) (as : List AV) (r : List AV), (∀ p ∈ parts, p.1 < fs.size) → VRels g n w zs zv →
    VRels g n w as (parts.map fun p => ρ p.2) → buildC zs (parts.map fun p => ((fs.getD p.1 default).offset, P.cellsOf (fs.getD p.1 default).type)) as = some r →
    ∃ rv, Instr.fill (fun i => (fs[i]?).map fun f => (f.offset, P.cellsOf f.type)) zv.toArray (parts.map fun p => (p.1, ρ p.2)) = some rv ∧ VRels g n w r rv.toList
  | [], zs, zv, as, r, _, hz, ha, hb => by
    cases ha
    simp only [List.map_nil, buildC, Option.some.injEq] at hb
    subst hb
    exact ⟨zv.toArray, by simp [Instr.fill], by simpa using hz⟩
  | (i, x) :: parts, zs, zv, as, r, hlt, hz, ha, hb => by
    simp only [List.map_cons] at ha hb ⊢
    cases ha with | cons a _ as' _ h1 t1 =>
    simp only [buildC] at hb
    split at hb
    · rename_i cs hcs
      split at hb
      · rename_i hle
        have hi : i < fs.size := hlt (i, x) (List.mem_cons_self ..)
        have hget : fs[i]? = some (fs.getD i default) := by simp [Array.getD_eq_getD_getElem?, hi]
        have hcl := cellsV_of h1 hcs
        have hzl := hz.length
        rw [fill_step (off := (fs.getD i default).offset) (size := P.cellsOf (fs.getD i default).type) (by rw [hget]; rfl) (by rw [← hcl]; exact hle.1) (by omega)]
        refine buildC_run parts _ _ as' r (fun p hp => hlt p (List.mem_cons_of_mem _ hp)) ?_ t1 hb
        unfold setCells
        rw [hle.1]
        exact ((hz.take _).append (h1.cellsOf hcs)).append (hz.drop _)
      · cases hb
    · cases hb

theorem run_mapM_sizes : ∀ (l : List Field), (∀ f ∈ l, (P.info? f.type).isSome) → (l.mapM fun f => (do pure (f.offset, ← sizeOf f.type) : Sem (Nat × Nat))).run P w = .ok (l.map fun f => (f.offset, P.cellsOf f.type)) w
  | [], _ => by simp
  | f :: l, h => by
    obtain ⟨i, hi⟩ := Option.isSome_iff_exists.mp (h f (List.mem_cons_self ..))
    have ih := run_mapM_sizes l (fun x hx => h x (List.mem_cons_of_mem _ hx))
    have h1 : (do pure (f.offset, ← sizeOf f.type) : Sem (Nat × Nat)).run P w = .ok (f.offset, P.cellsOf f.type) w := by
      simp [sizeOf, typeInfo, hi, Program.cellsOf]
    rw [List.mapM_cons, Sem.run_bind, h1, Result.andThen_ok, Sem.run_bind, ih, Result.andThen_ok]
    rfl

theorem snd_build {t : TypeId} {fs : Array Field} {z : List AV} {parts : Array (Nat × Operand)} {as : List AV} (ht : fieldsOf P t = some fs) (hz : zeroCellsOf P t = some z) (hp : parts.all (fun p => p.1 < fs.size) = true)
    (hin : fs.all (fun f => (P.info? f.type).isSome) = true)
    (ha : VRels g n w as ((parts.toList.map (·.2)).map ρ)) (hH : HRel g n H w) (hx : xop P (.build z (parts.toList.map fun p => ((fs.getD p.1 default).offset, P.cellsOf (fs.getD p.1 default).type))) as n H K) :
    OpR P ⟨dst, .build t parts, type, pos, after, guard⟩ ρ g n w H K := by
  obtain ⟨i, v, hi, hzv, rfl⟩ := zeroCells_some hz
  have hx' : oK ((buildC (v.cells.toList.map avCell) (parts.toList.map fun p => ((fs.getD p.1 default).offset, P.cellsOf (fs.getD p.1 default).type)) as).map .agg) fun v => K v n H := by
    cases as <;> simpa only [xop, fop] using hx
  obtain ⟨r, hr, hk⟩ := oK_elim hx'
  rw [Option.map_eq_some_iff] at hr
  obtain ⟨cs, hcs, rfl⟩ := hr
  have hu := underlying_fields ht
  have hlt : ∀ p ∈ parts.toList, p.1 < fs.size := fun p hp' => by
    have := Array.all_eq_true'.mp hp p (by simpa using hp')
    simpa using this
  obtain ⟨rv, hrun, hrel⟩ := buildC_run (P := P) (fs := fs) parts.toList _ v.cells.toList as cs hlt (avCells_rel _) (by rw [List.map_map] at ha; exact ha) hcs
  have hplaces : (fs.mapM fun f => (do pure (f.offset, ← sizeOf f.type) : Sem (Nat × Nat))).run P w = .ok (fs.map fun f => (f.offset, P.cellsOf f.type)) w := by
    rw [Array.mapM_eq_mapM_toList, Sem.run_map, run_mapM_sizes fs.toList (fun f hf => Array.all_eq_true'.mp hin f (by simpa using hf)), Result.andThen_ok]
    congr 1
    apply Array.ext'
    simp
  refine OpR.value (c := .agg rv) ?_ (by have := VRel.agg (g := g) (n := n) (w := w) cs rv.toList hrel; simpa using this) hH hk
  have hfun : (fun (i : Nat) => (fs.map fun (f : Field) => (f.offset, P.cellsOf f.type))[i]?) = fun (i : Nat) => (fs[i]?).map fun (f : Field) => (f.offset, P.cellsOf f.type) := by funext i; simp
  have hparts : (parts.map fun (p : Nat × Operand) => (p.1, ρ p.2)).toList = parts.toList.map fun p => (p.1, ρ p.2) := by simp
  have hrun' : Instr.fill (fun (i : Nat) => (fs.map fun (f : Field) => (f.offset, P.cellsOf f.type))[i]?) v.cells (parts.map fun (p : Nat × Operand) => (p.1, ρ p.2)).toList = some rv := by
    rw [hfun, hparts]; simpa using hrun
  simp only [execOp, Instr.build, Sem.run_bind, zeroValue, typeInfo, run_program, Result.andThen_ok, hi, hzv, Sem.run_pure, run_underlying hu, hplaces, hrun']

end Go.Ab
