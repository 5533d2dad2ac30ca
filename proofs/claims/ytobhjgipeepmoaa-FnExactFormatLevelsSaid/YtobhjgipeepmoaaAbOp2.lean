/- Each operation does in the world what the abstract run says: comparisons, conversions, slicing, fields, indexes, lengths. Over any program. -/
import Derived.Test.YtobhjgipeepmoaaAbOp1
namespace Go.Ab
set_option linter.unusedVariables false
set_option linter.unusedSimpArgs false

variable {P : Program} {g : Ghost} {n : Nat} {w : World} {H : Heap} {ρ : Operand → Value} {K : AV → Nat → Heap → Prop}
  {dst : Option Tmp} {type : TypeId} {pos : String} {after : Array Edge} {guard : Option (Nat × Bool)}

theorem eqGuard_plain {op : BinOp} {t : TypeId} {x y : Operand} {a b : Value} (h1 : a ≠ .nilIface) (h2 : ∀ cs, a ≠ .agg cs) : eqGuard op t x y a b = pure () := by
  cases a with
  | bool b => exact eqGuard_at_bool ..
  | int k i => exact eqGuard_at_int ..
  | float k i => exact eqGuard_at_float ..
  | complex k i j => exact eqGuard_at_complex ..
  | string s => exact eqGuard_at_string ..
  | pointer a => exact eqGuard_at_pointer ..
  | slice a n m => exact eqGuard_at_slice ..
  | map r => exact eqGuard_at_map ..
  | chan r => exact eqGuard_at_chan ..
  | func f a c => exact eqGuard_at_func ..
  | nilFunc => exact eqGuard_at_nilFunc ..
  | iface d u => exact eqGuard_at_iface ..
  | nilIface => exact absurd rfl h1
  | agg cs => exact absurd rfl (h2 cs)
  | tuple a => exact eqGuard_at_tuple ..

theorem run_equalIn_slice_nil (d : Nat) (t e : TypeId) (a : Option Addr) (l c : Nat) (h : P.underlying t = some (.slice e)) : (Op.equalIn (d + 1) t (.slice a l c) (.slice none 0 0)).run P w = .ok a.isNone w := by
  cases a <;> simp [Op.equalIn, run_underlying h]
theorem run_equal_slice_nil (t e : TypeId) (a : Option Addr) (l c : Nat) (h : P.underlying t = some (.slice e)) : (Op.equal t (.slice a l c) (.slice none 0 0)).run P w = .ok a.isNone w := run_equalIn_slice_nil 9999 t e a l c h
theorem run_eql_slice_nil (t e : TypeId) (a : Option Addr) (l c : Nat) (h : P.underlying t = some (.slice e)) : (binOp .eql t (.slice a l c) (.slice none 0 0)).run P w = .ok (.bool a.isNone) w := by
  simp [binOp, run_equal_slice_nil t e a l c h]

/-- Integers and strings. -/
theorem snd_bin {op : BinOp} {t yt : TypeId} {x y : Operand} {a b : AV}
    (ha : VRel g n w a (ρ x)) (hb : VRel g n w b (ρ y)) (hH : HRel g n H w) (hx : xop P (.bin op) [a, b] n H K) : OpR P ⟨dst, .binOp op t x y yt, type, pos, after, guard⟩ ρ g n w H K := by
  have fin : ∀ {u v : Value} {r : AV}, ρ x = u → ρ y = v → u ≠ .nilIface → (∀ cs, u ≠ .agg cs) → (∃ c, (binOp op t u v).run P w = .ok c w ∧ VRel g n w r c) → K r n H →
      OpR P ⟨dst, .binOp op t x y yt, type, pos, after, guard⟩ ρ g n w H K := by
    rintro u v r e1 e2 h1 h2 ⟨c, hrun, hrel⟩ hk
    exact OpR.value (by simp [execOp, e1, e2, eqGuard_plain h1 h2, hrun]) hrel hH hk
  generalize hx1 : ρ x = u at ha
  generalize hx2 : ρ y = v at hb
  cases ha <;> cases hb <;> (try (simp only [xop, fop, oK_none] at hx; done))
  case int.int k i k' i' =>
    by_cases hsh : op = .shl ∨ op = .shr
    · have hx' : oK (ishift op k i i') fun v => K v n H := by
        rcases hsh with rfl | rfl <;> simpa only [xop, fop] using hx
      obtain ⟨r, hr, hk⟩ := oK_elim hx'
      exact fin hx1 hx2 (by simp) (by simp) (run_ishift hr t hsh) hk
    · have hns : op ≠ .shl ∧ op ≠ .shr := ⟨fun e => hsh (.inl e), fun e => hsh (.inr e)⟩
      have hx' : oK (if k = k' then ibin op k i i' else none) fun v => K v n H := by
        cases op <;> first | (exact absurd rfl hns.1) | (exact absurd rfl hns.2) | simpa only [xop, fop] using hx
      obtain ⟨r, hr, hk⟩ := oK_elim hx'
      split at hr
      · rename_i hkk; subst hkk
        exact fin hx1 hx2 (by simp) (by simp) (run_intArith hr t hns) hk
      · cases hr
  case str.str p q =>
    have hx' : oK (sbin op p q) fun v => K v n H := by simpa only [xop, fop] using hx
    obtain ⟨r, hr, hk⟩ := oK_elim hx'
    exact fin hx1 hx2 (by simp) (by simp) (run_sbin hr t) hk

/-- Bools. -/
theorem snd_binB {op : BinOp} {t yt : TypeId} {x y : Operand} {a b : AV} (ht : P.underlying t = some .bool) (hop : op = .eql ∨ op = .neq)
    (ha : VRel g n w a (ρ x)) (hb : VRel g n w b (ρ y)) (hH : HRel g n H w) (hx : xop P (.binB (op == .neq)) [a, b] n H K) : OpR P ⟨dst, .binOp op t x y yt, type, pos, after, guard⟩ ρ g n w H K := by
  generalize hx1 : ρ x = u at ha
  generalize hx2 : ρ y = v at hb
  cases ha <;> cases hb <;> simp only [xop, fop, oK_none, oK_some] at hx
  rename_i p q
  rcases hop with rfl | rfl
  · refine OpR.value (c := .bool (p == q)) (by simp only [execOp, hx1, hx2, eqGuard_at_bool, Sem.run_bind, Sem.run_pure, Result.andThen_ok, run_eql_bool w t p q ht]) (.bool _) hH ?_
    simpa using hx
  · refine OpR.value (c := .bool (!(p == q))) (by simp only [execOp, hx1, hx2, eqGuard_at_bool, Sem.run_bind, Sem.run_pure, Result.andThen_ok, run_neq_bool w t p q ht]) (.bool _) hH ?_
    have e : (!(p == q)) = (p != q) := rfl
    rw [e]
    simpa using hx

/-- A slice against nil. -/
theorem snd_eqNil {t yt e : TypeId} {x y : Operand} {a b : AV} (he : P.underlying t = some (.slice e))
    (ha : VRel g n w a (ρ x)) (hb : VRel g n w b (ρ y)) (hH : HRel g n H w) (hx : xop P .eqNil [a, b] n H K) : OpR P ⟨dst, .binOp .eql t x y yt, type, pos, after, guard⟩ ρ g n w H K := by
  have nilcase : ∀ {ad l c}, ρ x = .slice ad l c → ρ y = .slice none 0 0 → (∃ u : Bool, K (.bool u) n H ∧ u = ad.isNone) → OpR P ⟨dst, .binOp .eql t x y yt, type, pos, after, guard⟩ ρ g n w H K := by
    rintro ad l c e1 e2 ⟨u, hu, rfl⟩
    exact OpR.value (c := .bool ad.isNone) (by simp only [execOp, e1, e2, eqGuard_at_slice, Sem.run_bind, Sem.run_pure, Result.andThen_ok, run_eql_slice_nil t e ad l c he]) (.bool _) hH hu
  generalize hx1 : ρ x = u at ha
  generalize hx2 : ρ y = v at hb
  cases ha <;> cases hb <;> simp only [xop, fop, oK_none] at hx
  case nilsl.nilsl => exact nilcase hx1 hx2 ⟨true, hx, rfl⟩
  case sl.nilsl rows s ad b off cap vs hne hc hs hf hr hv =>
    refine nilcase hx1 hx2 ⟨ad.isNone, ?_, rfl⟩
    cases ad with
    | some _ => exact hx.1
    | none => exact hx.2 (Classical.byContradiction fun h => by have := hne h; cases this)
  case acc.nilsl id s rows ad b off cap vs hne hc hs hf hr hv hid hl =>
    refine nilcase hx1 hx2 ⟨ad.isNone, ?_, rfl⟩
    cases ad with
    | some _ => exact hx.1
    | none => exact hx.2 (Classical.byContradiction fun h => by have := hne h; cases this)
  case vec.nilsl id ver s off len ad cap hid hl =>
    obtain ⟨sz, cells, hg, hk⟩ := vget_elim hx
    obtain ⟨_, hloc⟩ := hl _ (vob_run hH hg).1
    obtain ⟨had, _⟩ := hloc rfl
    subst had
    exact nilcase hx1 hx2 ⟨false, hk, rfl⟩

theorem snd_un {op : UnOp} {t : TypeId} {x : Operand} {a : AV} (ha : VRel g n w a (ρ x)) (hH : HRel g n H w) (hx : xop P (.un op) [a] n H K) : OpR P ⟨dst, .unOp op t x, type, pos, after, guard⟩ ρ g n w H K := by
  generalize hx1 : ρ x = u at ha
  cases ha <;> cases op <;> simp only [xop, fop, oK_none, oK_some] at hx
  · exact OpR.value (by simp [execOp, hx1, Op.unary]) (.bool _) hH hx
  · exact OpR.value (by simp [execOp, hx1, Op.unary, Op.intArith]) (.int _ _) hH hx

theorem snd_cvI {src d : TypeId} {sk k : IntKind} {x : Operand} {a : AV} (hs : P.underlying src = some (.int sk)) (hd : P.underlying d = some (.int k)) (ha : VRel g n w a (ρ x)) (hH : HRel g n H w)
    (hx : xop P (.cvI k) [a] n H K) : OpR P ⟨dst, .convert src d x, type, pos, after, guard⟩ ρ g n w H K := by
  generalize hx1 : ρ x = u at ha
  cases ha <;> simp only [xop, fop, oK_none, oK_some] at hx
  exact OpR.value (by simp [execOp, hx1, convert, run_underlying hs, run_underlying hd, Conv.intToInt]) (.int _ _) hH hx

theorem snd_cvIS {src d : TypeId} {sk : IntKind} {x : Operand} {a : AV} (hs : P.underlying src = some (.int sk)) (hd : P.underlying d = some .string) (ha : VRel g n w a (ρ x)) (hH : HRel g n H w)
    (hx : xop P .cvIS [a] n H K) : OpR P ⟨dst, .convert src d x, type, pos, after, guard⟩ ρ g n w H K := by
  generalize hx1 : ρ x = u at ha
  cases ha <;> simp only [xop, fop, oK_none, oK_some] at hx
  rename_i i
  refine OpR.value (c := .string (Utf8.encode i)) (by simp [execOp, hx1, convert, run_underlying hs, run_underlying hd, Conv.intToString]) ?_ hH hx
  exact .str (Utf8.encode i).data.toList

theorem snd_cvSS {src d : TypeId} {x : Operand} {a : AV} (hs : P.underlying src = some .string) (hd : P.underlying d = some .string) (ha : VRel g n w a (ρ x)) (hH : HRel g n H w)
    (hx : xop P .cvSS [a] n H K) : OpR P ⟨dst, .convert src d x, type, pos, after, guard⟩ ρ g n w H K := by
  generalize hx1 : ρ x = u at ha
  cases ha <;> simp only [xop, fop, oK_none, oK_some] at hx
  exact OpR.value (by simp [execOp, hx1, convert, run_underlying hs, run_underlying hd]) (.str _) hH hx

theorem snd_mkfn {f : FuncId} {first cap : Array Operand} {as : List AV} (hf : first.size = 0) (ha : VRels g n w as ((first ++ cap).toList.map ρ)) (hH : HRel g n H w)
    (hx : xop P (.mkfn f) as n H K) : OpR P ⟨dst, .makeFunc (.func f) first cap, type, pos, after, guard⟩ ρ g n w H K := by
  simp only [xop, fop, oK_some] at hx
  have e1 : first = #[] := Array.eq_empty_of_size_eq_zero hf
  subst e1
  refine OpR.value (c := .func (.func f) #[] (cap.map ρ)) (by simp [execOp, Instr.makeFunc]) ?_ hH hx
  have := VRel.fn (g := g) (n := n) (w := w) f as (cap.toList.map ρ) (by simpa using ha)
  rwa [show (cap.toList.map ρ).toArray = cap.map ρ by apply Array.ext'; simp] at this

/-- The bounds of a slice expression as the model takes them. -/
theorem bnds_run {lo hi : Option Operand} {bs : List AV} {len l h : Int} (hb : bnds lo.isSome hi.isSome len bs = some (l, h)) (hv : VRels g n w bs ((lo.toList ++ hi.toList).map ρ)) :
    (match lo.map ρ with | none => l = 0 | some v => ∃ k, v = .int k l) ∧ (match hi.map ρ with | none => h = len | some v => ∃ k, v = .int k h) := by
  cases lo with
  | none => cases hi with
    | none =>
      cases hv
      simp [bnds] at hb
      exact ⟨hb.1.symm, hb.2.symm⟩
    | some hi =>
      simp only [Option.toList, List.nil_append, List.map_cons, List.map_nil] at hv
      generalize hc : ρ hi = u at hv
      cases hv with | cons a _ _ _ h1 t =>
      cases t
      cases h1 <;> simp [bnds] at hb
      obtain ⟨rfl, rfl⟩ := hb
      exact ⟨rfl, by simp [hc]⟩
  | some lo => cases hi with
    | none =>
      simp only [Option.toList, List.append_nil, List.map_cons, List.map_nil] at hv
      generalize hc : ρ lo = u at hv
      cases hv with | cons a _ _ _ h1 t =>
      cases t
      cases h1 <;> simp [bnds] at hb
      obtain ⟨rfl, rfl⟩ := hb
      exact ⟨by simp [hc], rfl⟩
    | some hi =>
      simp only [Option.toList, List.cons_append, List.nil_append, List.map_cons, List.map_nil] at hv
      generalize hc : ρ lo = u at hv
      generalize hc2 : ρ hi = u2 at hv
      cases hv with | cons a _ _ _ h1 t =>
      cases t with | cons a2 _ _ _ h2 t =>
      cases t
      cases h1 <;> cases h2 <;> simp [bnds] at hb
      obtain ⟨rfl, rfl⟩ := hb
      exact ⟨by simp [hc], by simp [hc2]⟩

theorem run_bounds {isSl : Bool} {lo hi : Option Value} {len cap : Nat} {l h : Int} (hl : match lo with | none => l = 0 | some v => ∃ k, v = .int k l) (hh : match hi with | none => h = (len : Int) | some v => ∃ k, v = .int k h)
    (h0 : 0 ≤ l) (h1 : l ≤ h) (h2 : h ≤ cap) : (Instr.sliceBounds isSl len cap lo hi none).run P w = .ok (l.toNat, h.toNat, cap) w := by
  have e0 : 0 ≤ h := by omega
  have eh : ((h.toNat : Nat) : Int) = h := Int.toNat_of_nonneg e0
  cases lo <;> cases hi <;> simp only at hl hh
  · subst hl hh; simp [Instr.sliceBounds]
  · obtain ⟨k, rfl⟩ := hh; subst hl
    simp [Instr.sliceBounds, run_sliceBound, h2, e0]
  · obtain ⟨k, rfl⟩ := hl; subst hh
    simp [Instr.sliceBounds, run_sliceBound, h0, h1]
  · obtain ⟨k, rfl⟩ := hl; obtain ⟨k', rfl⟩ := hh
    simp [Instr.sliceBounds, run_sliceBound, h0, h1, h2, e0, eh]

theorem snd_slS {t : TypeId} {x : Operand} {lo hi : Option Operand} {as : List AV} (ht : P.underlying t = some .string) (ha : VRels g n w as (ρ x :: (lo.toList ++ hi.toList).map ρ)) (hH : HRel g n H w)
    (hx : xop P (.slS lo.isSome hi.isSome) as n H K) : OpR P ⟨dst, .slice t x lo hi none, type, pos, after, guard⟩ ρ g n w H K := by
  generalize hx1 : ρ x = u at ha
  cases ha with | cons a _ bs _ h1 tl =>
  cases h1 <;> simp only [xop, fop, oK_none] at hx
  rename_i s
  obtain ⟨v, hv1, hk⟩ := oK_elim hx
  split at hv1
  · rename_i l h hb
    split at hv1
    · rename_i hle
      simp only [Option.some.injEq] at hv1; subst hv1
      obtain ⟨c1, c2⟩ := bnds_run hb tl
      have hsz : (⟨s.toArray⟩ : ByteArray).size = s.length := by simp [ByteArray.size]
      have hrun := run_bounds (P := P) (w := w) (isSl := false) (len := (⟨s.toArray⟩ : ByteArray).size) (cap := (⟨s.toArray⟩ : ByteArray).size) c1 (by rw [hsz]; exact c2) hle.1 hle.2.1 (by rw [hsz]; exact hle.2.2)
      refine OpR.value (c := .string ((⟨s.toArray⟩ : ByteArray).extract l.toNat h.toNat)) ?_ ?_ hH hk
      · simp [execOp, hx1, Instr.sliceAt, run_underlying ht, Instr.slice, hrun]
      · have e : (⟨s.toArray⟩ : ByteArray).extract l.toNat h.toNat = ⟨((s.take h.toNat).drop l.toNat).toArray⟩ := by
          apply ByteArray.ext
          simp [ByteArray.data_extract, List.extract_eq_take_drop, List.drop_take]
        rw [e]
        exact .str _
    · cases hv1
  · cases hv1

theorem VRel.sl_part {rows : List (List AV)} {s size : Nat} {ad : Option Addr} {b off cap : Nat} {vs : List Value} (hne : rows ≠ [] → ad = some ⟨b, off, none⟩) (hc : rows.length ≤ cap)
    (hs : ∀ r ∈ rows, r.length = s) (hf : rows ≠ [] → off + rows.length * s ≤ g.φ b) (hr : Run w b off vs) (hv : VRels g 0 w rows.flatten vs) (hok : rowsOk size rows) {l h : Nat} (h1 : l ≤ h) (h2 : h ≤ rows.length) :
    VRel g n w (.sl ((rows.take h).drop l)) (sliced ad l h cap size) := by
  have hlen : ((rows.take h).drop l).length = h - l := by simp; omega
  unfold sliced
  rw [← hlen]
  by_cases he : (rows.take h).drop l = []
  · rw [he]
    exact .sl [] s _ 0 0 _ [] (fun e => absurd rfl e) (Nat.zero_le _) (by simp) (fun e => absurd rfl e) (fun i v hi => by simp at hi) .nil
  · have hrows : rows ≠ [] := by intro e; subst e; simp at he
    have hpos : l < h := by
      rcases Nat.lt_or_ge l h with h' | h'
      · exact h'
      · exact absurd (List.eq_nil_of_length_eq_zero (by rw [hlen]; omega)) he
    have hss := rowsOk_s hs hok hrows
    subst hss
    have had := hne hrows
    subst had
    rw [if_neg (by omega)]
    simp only [Option.map_some, Addr.add_lit]
    have hfl : ((rows.take h).drop l).flatten = (rows.flatten.take (h * s)).drop (l * s) := by
      rw [flatten_take hs h, flatten_drop (fun r hr => hs r (List.mem_of_mem_take hr)) l]
    refine .sl _ s _ b (off + l * s) _ ((vs.take (h * s)).drop (l * s)) (fun _ => rfl) (by rw [hlen]; omega) (fun r hr => hs r (List.mem_of_mem_take (List.mem_of_mem_drop hr))) (fun _ => ?_) ((hr.take _).drop _) ?_
    · have h3 := hf hrows
      have h4 : l * s + (h - l) * s = h * s := by rw [← Nat.add_mul]; congr 1; omega
      have h5 : h * s ≤ rows.length * s := Nat.mul_le_mul_right s h2
      rw [hlen]; omega
    · rw [hfl]; exact (hv.take _).drop _

theorem sliced_own {b off len cap l h s : Nat} (h1 : l ≤ h) (h2 : h ≤ len) (hc : len ≤ cap) (h3 : l = 0 ∨ l < len) : sliced (some ⟨b, off, none⟩) l h cap s = .slice (some ⟨b, off + l * s, none⟩) (h - l) (cap - l) := by
  unfold sliced
  by_cases hcl : cap = l
  · have : l = 0 := by omega
    subst this
    rw [if_pos hcl]
    simp
  · rw [if_neg hcl]; simp [Addr.add_lit]
theorem room_part {b off cap l s : Nat} (hr : room w b (off + cap * s)) (h : l ≤ cap) : room w b (off + l * s + (cap - l) * s) := by
  obtain ⟨c, el, fz, h1, h2⟩ := hr
  refine ⟨c, el, fz, h1, ?_⟩
  rw [Nat.add_assoc, ← Nat.add_mul]
  rwa [show l + (cap - l) = cap by omega]

theorem snd_slL {t e : TypeId} {i : TypeInfo} {x : Operand} {lo hi : Option Operand} {as : List AV} (ht : P.underlying t = some (.slice e)) (hi' : P.info? e = some i) (ha : VRels g n w as (ρ x :: (lo.toList ++ hi.toList).map ρ)) (hH : HRel g n H w)
    (hx : xop P (.slL i.size lo.isSome hi.isSome) as n H K) : OpR P ⟨dst, .slice t x lo hi none, type, pos, after, guard⟩ ρ g n w H K := by
  generalize hx1 : ρ x = u at ha
  cases ha with | cons a _ bs _ h1 tl =>
  have key : ∀ {rows : List (List AV)} {ad : Option Addr} {cap : Nat} {r : AV}, ρ x = .slice ad rows.length cap → rows.length ≤ cap →
      (∀ {l h : Nat}, l ≤ h → h ≤ rows.length → rowsOk i.size rows → VRel g n w (.sl ((rows.take h).drop l)) (sliced ad l h cap i.size)) →
      (match bnds lo.isSome hi.isSome rows.length bs with | some (l, h) => if rowsOk i.size rows then sliceRows rows l h else none | none => none) = some r → K r n H →
      OpR P ⟨dst, .slice t x lo hi none, type, pos, after, guard⟩ ρ g n w H K := by
    intro rows ad cap r hx1 hcap hpart hv1 hk
    split at hv1
    · rename_i l h hb
      split at hv1
      · rename_i hok
        unfold sliceRows at hv1
        split at hv1
        · rename_i hle
          simp only [Option.some.injEq] at hv1; subst hv1
          obtain ⟨c1, c2⟩ := bnds_run hb tl
          have hrun := run_bounds (P := P) (w := w) (isSl := true) (len := rows.length) (cap := cap) c1 c2 hle.1 hle.2.1 (by omega)
          refine OpR.value (c := sliced ad l.toNat h.toNat cap i.size) ?_ (hpart (by omega) (by omega) hok) hH hk
          simp [execOp, hx1, Instr.sliceAt, run_underlying ht, Instr.slice, hrun, sizeOf, typeInfo, hi', sliced]
        · cases hv1
      · cases hv1
    · cases hv1
  cases h1 <;> simp only [xop, fop, oK_none] at hx
  case sl rows s ad b off cap vs hne hc hs hf hr hv =>
    obtain ⟨v, hv1, hk⟩ := oK_elim hx
    exact key hx1 hc (fun h1 h2 hok => VRel.sl_part hne hc hs hf hr hv hok h1 h2) hv1 hk
  case acc id s rows ad b off cap vs hne hc hs hf hid hr hv hl =>
    obtain ⟨v, hv1, hk⟩ := oK_elim hx
    exact key hx1 hc (fun h1 h2 hok => VRel.sl_part hne hc hs hf hr hv hok h1 h2) hv1 hk
  case ref id s off len cap hk' hc hid hr =>
    obtain ⟨v, hv1, hk⟩ := oK_elim hx
    split at hv1
    · rename_i l h hb
      split at hv1
      · rename_i hle
        simp only [Option.some.injEq] at hv1; subst hv1
        obtain ⟨h1, h2, h3, h4, rfl⟩ := hle
        obtain ⟨c1, c2⟩ := bnds_run hb tl
        have hrun := run_bounds (P := P) (w := w) (isSl := true) (len := len) (cap := cap) c1 c2 h1 h2 (by omega)
        refine OpR.value (c := sliced (some ⟨g.β id, off, none⟩) l.toNat h.toNat cap i.size) ?_ ?_ hH hk
        · simp [execOp, hx1, Instr.sliceAt, run_underlying ht, Instr.slice, hrun, sizeOf, typeInfo, hi', sliced]
        · rw [sliced_own (len := len) (by omega) (by omega) hc (by omega)]
          have e : (h - l).toNat = h.toNat - l.toNat := by omega
          rw [e]
          exact .ref id i.size _ _ _ hid hk' (by omega) (room_part hr (by omega))
      · cases hv1
    · cases hv1
  case vec id ver s off len ad cap hid hl =>
    obtain ⟨sz, cells, hg, hx⟩ := vget_elim hx
    obtain ⟨⟨l, h⟩, hb, ⟨h1, h2, h3, h4, rfl⟩, hk⟩ := oK_elim hx
    dsimp only at h1 h2 h3 h4 hk
    have hfr := (vob_run hH hg).1
    obtain ⟨_, hloc⟩ := hl _ hfr
    obtain ⟨had, hc, hr⟩ := hloc rfl
    subst had
    obtain ⟨c1, c2⟩ := bnds_run hb tl
    have hrun := run_bounds (P := P) (w := w) (isSl := true) (len := len) (cap := cap) c1 c2 h1 h2 (by omega)
    refine OpR.value (c := sliced (some ⟨g.β id, off, none⟩) l.toNat h.toNat cap i.size) ?_ ?_ hH hk
    · simp [execOp, hx1, Instr.sliceAt, run_underlying ht, Instr.slice, hrun, sizeOf, typeInfo, hi', sliced]
    · rw [sliced_own (len := len) (by omega) (by omega) hc (by omega)]
      have e : (h - l).toNat = h.toNat - l.toNat := by omega
      rw [e]
      refine .vec id ver i.size _ _ _ _ hid fun m hm => ?_
      rw [hfr] at hm; cases hm
      exact ⟨Nat.le_refl _, fun _ => ⟨rfl, by omega, room_part hr (by omega)⟩⟩

theorem snd_fldA {t : TypeId} {fs : Array Field} {fd : Field} {f : Nat} {x : Operand} {a : AV} (ht : fieldsOf P t = some fs) (hf : fs[f]? = some fd) (hi : (P.info? fd.type).isSome) (hz : P.cellsOf fd.type ≠ 0)
    (ha : VRel g n w a (ρ x)) (hH : HRel g n H w) (hx : xop P (.fldA fd.offset) [a] n H K) : OpR P ⟨dst, .fieldAddr t x f, type, pos, after, guard⟩ ρ g n w H K := by
  have hu : P.underlying t = some (.struct fs) := by
    unfold fieldsOf at ht
    split at ht
    · rename_i fs' h; simp only [Option.some.injEq] at ht; subst ht; exact h
    · cases ht
  obtain ⟨i, hi⟩ := Option.isSome_iff_exists.mp hi
  have hz' : i.size ≠ 0 := by simpa [Program.cellsOf, hi] using hz
  have run : ∀ b o, ρ x = .pointer (some ⟨b, o, none⟩) → (execOp ρ ⟨dst, .fieldAddr t x f, type, pos, after, guard⟩).run P w = .ok (.value (.pointer (some ⟨b, o + fd.offset, none⟩))) w := by
    intro b o e
    simp [execOp, e, Instr.fieldAt, run_underlying hu, hf, Instr.sureAddr, fieldPlace, sizeOf, typeInfo, hi, hz', Addr.add_lit]
  generalize hx1 : ρ x = u at ha
  cases ha <;> simp only [xop, fop, oK_none, oK_some] at hx
  case fptr cs b off vs hf' hr hv =>
    obtain ⟨v, hv1, hk⟩ := oK_elim hx
    split at hv1
    · rename_i hle
      simp only [Option.some.injEq] at hv1; subst hv1
      refine OpR.value (run _ _ hx1) ?_ hH hk
      refine .fptr _ b (off + fd.offset) (vs.drop fd.offset) ?_ (hr.drop _) (hv.drop _)
      rw [List.length_drop]; omega
    · cases hv1
  case ptr id off hk' hid =>
    exact OpR.value (run _ _ hx1) (.ptr _ _ hid hk') hH hx
  case vptr id ver off a hl hid =>
    obtain ⟨sz, cells, hg, hk⟩ := vget_elim hx
    have hfr := (vob_run hH hg).1
    obtain ⟨_, hloc⟩ := hl _ hfr
    have had := hloc rfl
    subst had
    refine OpR.value (run _ _ hx1) (.vptr _ _ _ _ hid fun m hm => ?_) hH hk
    rw [hfr] at hm; cases hm
    exact ⟨Nat.le_refl _, fun _ => rfl⟩

theorem run_isAgg_of {t : TypeId} {s : Option Nat} (hs : ldSize P t = some s) : (isAgg t).run P w = .ok s.isSome w ∧ (∀ k, s = some k → ∃ i, P.info? t = some i ∧ i.size = k) := by
  unfold ldSize at hs
  cases hu : P.underlying t with
  | none => rw [hu] at hs; cases hs
  | some d =>
    rw [hu] at hs
    obtain ⟨i, hi⟩ := info_of_underlying hu
    cases d <;> simp at hs <;> subst hs <;> refine ⟨by simp [isAgg, run_underlying hu], fun k hk => ?_⟩ <;> (try cases hk) <;> exact ⟨i, hi, by simp [Program.cellsOf, hi]⟩

theorem snd_fld {t : TypeId} {fs : Array Field} {fd : Field} {f : Nat} {x : Operand} {a : AV} {s : Option Nat} (ht : fieldsOf P t = some fs) (hf : fs[f]? = some fd) (hs : ldSize P fd.type = some s)
    (ha : VRel g n w a (ρ x)) (hH : HRel g n H w) (hx : xop P (.fld fd.offset s) [a] n H K) : OpR P ⟨dst, .field t x f, type, pos, after, guard⟩ ρ g n w H K := by
  have hu : P.underlying t = some (.struct fs) := by
    unfold fieldsOf at ht
    split at ht
    · rename_i fs' h; simp only [Option.some.injEq] at ht; subst ht; exact h
    · cases ht
  obtain ⟨h1, h2⟩ := run_isAgg_of (w := w) hs
  generalize hx1 : ρ x = u at ha
  cases ha <;> cases s <;> simp only [xop, fop, oK_none, oK_some] at hx
  case agg.none cs vs hv =>
    obtain ⟨v, hv1, hk⟩ := oK_elim hx
    obtain ⟨c, hc, hrel⟩ := hv.get _ _ hv1
    exact OpR.value (by simp [execOp, hx1, Instr.field, run_underlying hu, hf, asAgg, part, h1, hc]) hrel hH hk
  case agg.some cs vs hv s =>
    obtain ⟨v, hv1, hk⟩ := oK_elim hx
    split at hv1
    · rename_i hle
      simp only [Option.some.injEq] at hv1; subst hv1
      obtain ⟨i, hi, hsz⟩ := h2 s rfl
      refine OpR.value (c := .agg ((vs.drop fd.offset).take s).toArray) ?_ (.agg _ _ ((hv.drop _).take _)) hH hk
      simp [execOp, hx1, Instr.field, run_underlying hu, hf, asAgg, part, h1, sizeOf, typeInfo, hi, hsz, List.extract_eq_take_drop]
    · cases hv1

theorem snd_idxA {t e : TypeId} {i : TypeInfo} {x y : Operand} {a b : AV} (ht : P.underlying t = some (.slice e)) (hi : P.info? e = some i) (ha : VRel g n w a (ρ x)) (hb : VRel g n w b (ρ y)) (hH : HRel g n H w)
    (hx : xop P (.idxA i.size) [a, b] n H K) : OpR P ⟨dst, .indexAddr t x y, type, pos, after, guard⟩ ρ g n w H K := by
  have run : ∀ bl o len cap k (j : Int), ρ x = .slice (some ⟨bl, o, none⟩) len cap → ρ y = .int k j → 0 ≤ j → j < len →
      (execOp ρ ⟨dst, .indexAddr t x y, type, pos, after, guard⟩).run P w = .ok (.value (.pointer (some ⟨bl, o + j.toNat * i.size, none⟩))) w := by
    intro bl o len cap k j e1 e2 h0 h1
    simp [execOp, e1, e2, Instr.indexAt, run_underlying ht, asIntOf, h0, h1, sizeOf, typeInfo, hi, Addr.add_lit]
  generalize hx1 : ρ x = u at ha
  generalize hx2 : ρ y = v at hb
  cases ha <;> cases hb <;> simp only [xop, fop, oK_none, oK_some] at hx
  case sl.int rows s ad b off cap vs hne hc hs hf hr hv k j =>
    obtain ⟨v, hv1, hk⟩ := oK_elim hx
    split at hv1
    · rename_i hle
      simp only [Option.some.injEq] at hv1; subst hv1
      have hne' : rows ≠ [] := by intro e; subst e; simp at hle; omega
      have had := hne hne'
      subst had
      exact OpR.value (run _ _ _ _ _ _ hx1 hx2 hle.1 hle.2.1) (row_ptr hs hle.2.2 hf hr hv (by omega)) hH hk
    · cases hv1
  case acc.int id s rows ad b off cap vs hne hc hs hf hid hr hv hl k j =>
    obtain ⟨v, hv1, hk⟩ := oK_elim hx
    split at hv1
    · rename_i hle
      simp only [Option.some.injEq] at hv1; subst hv1
      have hne' : rows ≠ [] := by intro e; subst e; simp at hle; omega
      have had := hne hne'
      subst had
      exact OpR.value (run _ _ _ _ _ _ hx1 hx2 hle.1 hle.2.1) (row_ptr hs hle.2.2 hf hr hv (by omega)) hH hk
    · cases hv1
  case ref.int id s off len cap hk' hc hid hr k j =>
    obtain ⟨v, hv1, hk⟩ := oK_elim hx
    split at hv1
    · rename_i hle
      simp only [Option.some.injEq] at hv1; subst hv1
      obtain ⟨h0, h1, rfl⟩ := hle
      exact OpR.value (run _ _ _ _ _ _ hx1 hx2 h0 h1) (.ptr _ _ hid hk') hH hk
    · cases hv1
  case vec.int id ver s off len ad cap hid hl k j =>
    obtain ⟨sz, cells, hg, ⟨h0, h1, rfl⟩, hk⟩ := vget_elim hx
    have hfr := (vob_run hH hg).1
    obtain ⟨_, hloc⟩ := hl _ hfr
    obtain ⟨had, _⟩ := hloc rfl
    subst had
    refine OpR.value (run _ _ _ _ _ _ hx1 hx2 h0 h1) (.vptr _ _ _ _ hid fun m hm => ?_) hH hk
    rw [hfr] at hm; cases hm
    exact ⟨Nat.le_refl _, fun _ => rfl⟩

theorem snd_idxS {t : TypeId} {x y : Operand} {a b : AV} (ht : P.underlying t = some .string) (ha : VRel g n w a (ρ x)) (hb : VRel g n w b (ρ y)) (hH : HRel g n H w)
    (hx : xop P .idxS [a, b] n H K) : OpR P ⟨dst, .index t x y, type, pos, after, guard⟩ ρ g n w H K := by
  generalize hx1 : ρ x = u at ha
  generalize hx2 : ρ y = v at hb
  cases ha <;> cases hb <;> simp only [xop, fop, oK_none, oK_some] at hx
  rename_i s k j
  obtain ⟨v, hv1, hk⟩ := oK_elim hx
  split at hv1
  · rename_i hle
    simp only [Option.some.injEq] at hv1; subst hv1
    have hsz : (⟨s.toArray⟩ : ByteArray).size = s.length := by simp [ByteArray.size]
    have hlt : j.toNat < s.length := by omega
    refine OpR.value (c := .int .u8 ((s.getD j.toNat 0).toNat : Int)) ?_ (.int _ _) hH hk
    have := run_index_string (P := P) w t (⟨s.toArray⟩ : ByteArray) k j ht
    rw [dif_pos (by rw [hsz]; exact hle)] at this
    have e : (⟨s.toArray⟩ : ByteArray)[j.toNat]'(by rw [hsz]; exact hlt) = s[j.toNat] := by
      show s.toArray[j.toNat] = _
      simp
    rw [e] at this
    simp [execOp, hx1, hx2, this, List.getElem?_eq_getElem hlt]
  · cases hv1

theorem snd_ext {x : Operand} {i : Nat} {a : AV} (ha : VRel g n w a (ρ x)) (hH : HRel g n H w) (hx : xop P (.ext i) [a] n H K) : OpR P ⟨dst, .extract x i, type, pos, after, guard⟩ ρ g n w H K := by
  generalize hx1 : ρ x = u at ha
  cases ha <;> simp only [xop, fop, oK_none, oK_some] at hx
  rename_i cs vs hv
  obtain ⟨v, hv1, hk⟩ := oK_elim hx
  obtain ⟨c, hc, hrel⟩ := hv.get _ _ hv1
  exact OpR.value (by simp [execOp, hx1, Instr.extract, hc]) hrel hH hk

end Go.Ab
