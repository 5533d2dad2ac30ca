/- Each operation does in the world what the abstract run says: append, bytes to a string. Over any program. -/
import Derived.Test.YtobhjgipeepmoaaAbOp6
namespace Go.Ab
set_option linter.unusedVariables false
set_option linter.unusedSimpArgs false

variable {P : Program} {g : Ghost} {n : Nat} {w : World} {H : Heap} {ρ : Operand → Value} {K : AV → Nat → Heap → Prop}
  {dst : Option Tmp} {type : TypeId} {pos : String} {after : Array Edge} {guard : Option (Nat × Bool)}

theorem run_append_empty {t ty e : TypeId} {i : TypeInfo} (ht : P.underlying t = some (.slice e)) (hi : P.info? e = some i) (b a : Option Addr) (l c c2 : Nat) (hc : l ≤ c) :
    (Builtin.append_ #[t, t] ty #[.slice b l c, .slice a 0 c2]).run P w = .ok (.slice b l c) w := by
  have hf : (Builtin.firstCells i.size 0 (.slice a 0 c2)).run P w = .ok #[] w := by
    cases a with
    | none => exact run_firstCells_none w _ _ _ _
    | some a => exact run_firstCells_some w i.size 0 a 0 c2 [] (by simp) (by simp)
  cases b <;> simp [Builtin.append_, run_underlying ht, sizeOf, typeInfo, hi, Builtin.lenOf, hc, hf, storeCells]

theorem run_append_room2 {t ty e : TypeId} {i : TypeInfo} (ht : P.underlying t = some (.slice e)) (hi : P.info? e = some i)
    {g0 sLen sCap : Nat} {cur : Array Value} {e' : TypeId} (hg : w.heap[g0]? = some (.cells cur e' (0, 0)))
    {a : Addr} {m c : Nat} {news : List Value} (hl : news.length = m * i.size) (hnews : ∀ j u, news[j]? = some u → w.cell? (a.add j) = some u) (h1 : ∀ u ∈ news, u.oneCell' = true)
    (hroom : sLen + m ≤ sCap) (hfit : sLen * i.size + news.length ≤ cur.size) :
    (Builtin.append_ #[t, t] ty #[.slice (some ⟨g0, 0, none⟩) sLen sCap, .slice (some a) m c]).run P w =
      .ok (.slice (some ⟨g0, 0, none⟩) (sLen + m) sCap) (w.setRow g0 (cur.toList.take (sLen * i.size) ++ news ++ cur.toList.drop (sLen * i.size + news.length)).toArray) := by
  have hf := run_firstCells_some (P := P) w i.size m a m c news hl hnews
  have hst := run_storeCells_at P g0 (sLen * i.size) e' news 0 cur w hg (by simpa using hfit) h1
  simp only [Nat.add_zero] at hst
  simp [Builtin.append_, run_underlying ht, sizeOf, typeInfo, hi, Builtin.lenOf, hroom, hf, Addr.add_lit, hst]

/-- The second operand of an append: rows that lie somewhere, or none. -/
theorem src_rows {y : AV} {c : Value} {ys : List (List AV)} {size : Nat} (hv : VRel g n w y c) (hr : rowsOfSl H y = some ys) (hok : rowsOk size ys) :
    ∃ a cap, c = .slice a ys.length cap ∧ (ys ≠ [] → ∃ b off vs, a = some ⟨b, off, none⟩ ∧ Run w b off vs ∧ VRels g 0 w ys.flatten vs) := by
  cases hv <;> simp only [rowsOfSl, Option.some.injEq, reduceCtorEq] at hr
  case nilsl => subst hr; exact ⟨none, 0, rfl, fun h => absurd rfl h⟩
  case sl rows s a b off cap vs hne hc hs hf hr' hv => subst hr; exact ⟨a, cap, rfl, fun h => ⟨b, off, vs, hne h, hr', hv⟩⟩
  case acc id s rows a b off cap vs hne hc hs hf hid hr' hv hl => subst hr; exact ⟨a, cap, rfl, fun h => ⟨b, off, vs, hne h, hr', hv⟩⟩

theorem Run.addr {b off : Nat} {vs : List Value} (h : Run w b off vs) : ∀ j v, vs[j]? = some v → w.cell? ((⟨b, off, none⟩ : Addr).add j) = some v := by
  intro j v hj
  rw [Addr.add_lit]
  exact h j v hj

theorem snd_app {t e : TypeId} {i : TypeInfo} {args : Array Operand} {as : List AV} (ht : P.underlying t = some (.slice e)) (hi : P.info? e = some i) (hz : i.zero.isSome) (hzs : (i.zero.map fun z => z.cells.size) = some i.size) (hz0 : i.size ≠ 0)
    (ha : VRels g n w as (args.toList.map ρ)) (hH : HRel g n H w) (hx : xop P (.app i.size i.bytes) as n H K) :
    OpR P ⟨dst, .call { callee := .builtin .append, args, argTypes := #[t, t] }, type, pos, after, guard⟩ ρ g n w H K := by
  obtain ⟨x, y, rfl⟩ : ∃ x y, as = [x, y] := by
    match as, hx with
    | [], hx => simp [xop, fop] at hx
    | [x], hx => simp [xop, fop] at hx
    | [x, y], hx => exact ⟨x, y, rfl⟩
    | _ :: _ :: _ :: _, hx => simp [xop, fop] at hx
  simp only [xop] at hx
  obtain ⟨hbytes, hx⟩ := hx
  have hx0 := oK_elim hx
  clear hx
  obtain ⟨ys, hys, hok, hx⟩ := hx0
  obtain ⟨z, hz⟩ := Option.isSome_iff_exists.mp hz
  have hzz : z.cells.size = i.size := by simpa [hz] using hzs
  obtain ⟨u, v, hargs, hu, hv⟩ : ∃ u v, args.map ρ = #[u, v] ∧ VRel g n w x u ∧ VRel g n w y v := by
    generalize hl : args.toList.map ρ = l at ha
    cases ha with | cons _ u _ _ h1 t1 =>
    cases t1 with | cons _ v _ _ h2 t2 =>
    cases t2
    exact ⟨u, v, by apply Array.ext'; simpa using hl, h1, h2⟩
  have exec : ∀ {c : Value} {w' : World}, (Builtin.append_ #[t, t] type #[u, v]).run P w = .ok c w' → (execOp ρ ⟨dst, .call { callee := .builtin .append, args, argTypes := #[t, t] }, type, pos, after, guard⟩).run P w = .ok (.value c) w' := by
    intro c w' h
    rw [BigFrame.execOp_builtin, BigFrame.builtin_append, hargs]
    simp [h]
  obtain ⟨ad2, cap2, rfl, hsrc⟩ := src_rows (H := H) hv hys hok
  have hlm : lenMax = 4294967296 := rfl
  have hys' : ∀ r ∈ ys, r.length = i.size := fun r hr => (hok r hr).1
  have hplain : ys.flatten.all flat = true := by
    rw [List.all_eq_true]
    intro c hc
    obtain ⟨r, hr, hcr⟩ := List.mem_flatten.mp hc
    exact List.all_eq_true.mp (hok r hr).2 c hcr
  cases x <;> simp only at hx
  case nilsl =>
    cases hu
    obtain ⟨hlen, h1, h2⟩ := hx
    by_cases he : ys = []
    · subst he
      exact OpR.value (exec (run_append_empty ht hi none ad2 0 0 cap2 (Nat.le_refl _))) .nilsl hH (h1 rfl)
    · obtain ⟨b, off, vs, rfl, hr, hvs⟩ := hsrc he
      have hl := hvs.length
      rw [flatten_length hys'] at hl
      have hpos : 0 < ys.length := List.length_pos_iff.mpr he
      have hb48 : ys.length * i.bytes ≤ 281474976710656 := Nat.le_trans (Nat.mul_le_mul hlen hbytes) (by rw [hlm]; omega)
      have hrun := run_append_nil (P := P) w t type e i z ht hi hz ⟨b, off, none⟩ ys.length cap2 vs hl.symm hr.addr hpos (by rw [hlm] at hlen; omega) hb48
      refine OpR.out (exec hrun) ?_
      have hcap := grownCap_ge w ys.length 0 e
      have hH2 : HRel g n H w.drew := hH.drew rfl (Ext.same rfl)
      have hzc : (Builtin.zeroCells z.cells (grownCap w ys.length 0 e - ys.length)).size = (grownCap w ys.length 0 e - ys.length) * i.size := by rw [size_zeroCells, hzz]
      refine Out.grow (n1 := n) ?_ (Nat.le_refl _) (Grow.same (w' := w.drew) rfl ⟨rfl, rfl, rfl⟩)
      refine new_acc (w := w.drew) hH2 hys' (hvs.ext (Ext.same (n := 0) (g := g) (w := w) (w' := w.drew) rfl) (Nat.le_refl _)) hcap ?_ (h2 he)
      rw [hzc, ← hl, ← Nat.add_mul]
      exact Nat.le_of_eq (by congr 1; omega)
  case acc id s rows =>
    obtain ⟨⟨hlen, rfl, hg⟩, hk⟩ := hx
    rw [hset_eq id _ hH.apart] at hk
    obtain ⟨hidn, hfr, hphi, c, el, hblk, hcsz⟩ := hH.ent _ (hget_mem hg)
    cases hu with | acc _ _ _ ad b off cap vs hne hcap hs hf hr hvs hid hloc =>
    obtain ⟨_, hloc2⟩ := hloc _ hfr
    obtain ⟨rfl, hroom⟩ := hloc2 rfl
    obtain ⟨c', el', fz, hblk', hcapsz⟩ := hroom
    rw [hblk] at hblk'
    cases hblk'
    have hvl := hvs.length
    rw [flatten_length hs] at hvl
    have hr0 : Run w (g.β id) 0 vs := by
      by_cases he : rows = []
      · subst he
        have : vs = [] := List.eq_nil_of_length_eq_zero (by simpa using hvl.symm)
        subst this
        intro j v hj; simp at hj
      · have := hne he
        simp only [Option.some.injEq, Addr.mk.injEq] at this
        obtain ⟨h1, h2, _⟩ := this
        rw [h1, h2]; exact hr
    by_cases he : ys = []
    · subst he
      refine OpR.out (exec (run_append_empty ht hi _ ad2 rows.length cap cap2 hcap)) ?_
      have hk' : K (.acc id i.size rows) n (hsetM H id (.tok i.size rows.length)) := by simpa using hk
      refine ⟨_, n, _, g, hk', Nat.le_refl _, .acc id i.size rows _ b off cap vs hne hcap hs hf hr hvs hid hloc, ?_, ?_⟩
      · exact hH.set (hget_mem hg) (Ext.refl _ _ _) (fun p hp hpi => ⟨rfl, rfl, rfl, rfl⟩) (.inl rfl) (hH.ent _ (hget_mem hg)).2 hH.fsz
      · refine ⟨Ext.refl n g w, Nat.le_refl _, fun _ _ _ => ⟨rfl, rfl⟩, fun p hp => ?_, Oth.refl w⟩
        rcases mem_hset hp with rfl | ⟨_, hp⟩
        · exact .inl ⟨_, hget_mem hg, rfl⟩
        · exact .inl ⟨p, hp, rfl⟩
    obtain ⟨b2, off2, vs2, rfl, hr2, hvs2⟩ := hsrc he
    have hl2 := hvs2.length
    rw [flatten_length hys'] at hl2
    have hpos : 0 < ys.length := List.length_pos_iff.mpr he
    have hrows' : ∀ r ∈ rows ++ ys, r.length = i.size := fun r hr => by
      rw [List.mem_append] at hr
      rcases hr with hr | hr
      · exact hs r hr
      · exact hys' r hr
    have hone := flat_all hvs2 hplain
    have hmul : (rows.length + ys.length) * i.size = rows.length * i.size + ys.length * i.size := Nat.add_mul _ _ _
    have hold : ∀ p ∈ H, p.1 ≠ id → g.β p.1 ≠ g.β id := fun p hp hpi => apart_of hH hp (hget_mem hg) hpi
    by_cases hfit : rows.length + ys.length ≤ cap
    · -- there is room
      have hfits : rows.length * i.size + vs2.length ≤ c.size := by
        rw [← hl2, ← hmul]
        exact Nat.le_trans (Nat.mul_le_mul_right _ hfit) hcapsz
      have hrun := run_append_room2 (P := P) (ty := type) (w := w) ht hi hblk (c := cap2) hl2.symm hr2.addr hone hfit hfits
      generalize hcs : (c.toList.take (rows.length * i.size) ++ vs2 ++ c.toList.drop (rows.length * i.size + vs2.length)).toArray = cs at hrun
      have hcssz : cs.size = c.size := by subst hcs; simp; omega
      have hcget : ∀ j, j < rows.length * i.size → cs[j]? = c[j]? := fun j hj => by
        subst hcs
        simp only [List.getElem?_toArray]
        rw [List.append_assoc, List.getElem?_append_left (by simp; omega), List.getElem?_take_of_lt hj]
        simp
      have hcnew : ∀ j v, vs2[j]? = some v → cs[rows.length * i.size + j]? = some v := fun j v hj => by
        have hjl : j < vs2.length := by
          rcases Nat.lt_or_ge j vs2.length with h | h
          · exact h
          · rw [List.getElem?_eq_none h] at hj; cases hj
        subst hcs
        simp only [List.getElem?_toArray]
        rw [List.append_assoc, List.getElem?_append_right (by simp; omega)]
        simp only [List.length_take, Array.length_toList]
        rw [show rows.length * i.size + j - min (rows.length * i.size) c.size = j by omega, List.getElem?_append_left hjl]
        exact hj
      refine OpR.out (exec hrun) ?_
      have hext : Ext n g w ⟨g.β, upd g.fr id (some ((rows.length + ys.length) * i.size)), upd g.φ (g.β id) ((rows.length + ys.length) * i.size)⟩ (w.setRow (g.β id) cs) := by
        refine ⟨fun b j hj => ?_, fun b => ?_, fun id' hid' => ?_, fun b k h => room_setRow hblk hcssz h⟩
        · by_cases hb : b = g.β id
          · subst hb
            rw [hphi] at hj
            rw [cell_setRow_same w (g.β id) j c cs el (0, 0) hblk, hcget j hj]
            simp [World.cell?, hblk]
          · exact cell_setRow_other w (g.β id) cs ⟨b, j, none⟩ hb
        · by_cases hb : b = g.β id
          · subst hb
            show g.φ (g.β id) ≤ upd g.φ (g.β id) _ (g.β id)
            rw [upd_same, hphi, hmul]; exact Nat.le_add_right _ _
          · show g.φ b ≤ upd g.φ (g.β id) _ b
            rw [upd_ne _ _ hb]; exact Nat.le_refl _
        · by_cases hi' : id' = id
          · subst hi'
            refine .inr ⟨_, _, hfr, upd_same _ _ _, ?_⟩
            rw [hmul]
            have := Nat.mul_pos hpos (Nat.pos_of_ne_zero hz0)
            omega
          · exact .inl ⟨rfl, upd_ne _ _ hi'⟩
      have hvs' := hvs.ext (hext.le (Nat.zero_le _)) (Nat.le_refl _)
      have hvs2' := hvs2.ext (hext.le (Nat.zero_le _)) (Nat.le_refl _)
      have hrun' : Run (w.setRow (g.β id) cs) (g.β id) 0 (vs ++ vs2) := by
        intro j v hj
        rw [Nat.zero_add, cell_setRow_same w (g.β id) j c cs el (0, 0) hblk]
        rw [List.getElem?_append] at hj
        split at hj
        · rename_i hjl
          rw [hcget j (by omega)]
          have := hr0 j v hj
          simpa [World.cell?, hblk] using this
        · rename_i hjl
          have := hcnew (j - vs.length) v hj
          rwa [show rows.length * i.size + (j - vs.length) = j by omega] at this
      have hcells : (rows ++ ys).flatten = rows.flatten ++ ys.flatten := by simp
      have hlen2 : (rows ++ ys).length = rows.length + ys.length := by simp
      refine ⟨.acc id i.size (rows ++ ys), n, _, ⟨g.β, upd g.fr id (some ((rows.length + ys.length) * i.size)), upd g.φ (g.β id) ((rows.length + ys.length) * i.size)⟩, hk, Nat.le_refl _, ?_, ?_, ?_⟩
      · refine Eq.mp (congrArg (fun k => VRel _ _ _ _ (Value.slice _ k _)) hlen2) ?_
        refine .acc id i.size (rows ++ ys) _ (g.β id) 0 cap (vs ++ vs2) (fun _ => rfl) (by rw [hlen2]; exact hfit) hrows' (fun _ => ?_) hrun' (by rw [hcells]; exact hvs'.append hvs2') hid (fun m hm => ?_)
        · show 0 + (rows ++ ys).length * i.size ≤ upd g.φ (g.β id) _ (g.β id)
          rw [upd_same, hlen2, Nat.zero_add]; exact Nat.le_refl _
        · have hm' : upd g.fr id (some ((rows.length + ys.length) * i.size)) id = some m := hm
          rw [upd_same] at hm'
          cases hm'
          rw [hlen2]
          exact ⟨Nat.le_refl _, fun _ => ⟨rfl, cs, el, (0, 0), setRow_heap w _ c cs el (0, 0) hblk, by omega⟩⟩
      · refine hH.set (hget_mem hg) hext (fun p hp hpi => ⟨rfl, upd_ne _ _ hpi, upd_ne _ _ (hold p hp hpi), setRow_other w _ _ cs (hold p hp hpi)⟩) (.inl rfl) ?_ (fun b hb => ?_)
        · refine ⟨upd_same _ _ _, upd_same _ _ _, cs, el, setRow_heap w _ c cs el (0, 0) hblk, ?_⟩
          rw [hcssz, hmul, hl2]; exact hfits
        · by_cases hbb : b = g.β id
          · subst hbb
            refine ⟨cs, el, (0, 0), setRow_heap w _ c cs el (0, 0) hblk, ?_⟩
            show upd g.φ (g.β id) _ (g.β id) ≤ cs.size
            rw [upd_same, hcssz, hmul, hl2]; exact hfits
          · have e1 : upd g.φ (g.β id) ((rows.length + ys.length) * i.size) b = g.φ b := upd_ne _ _ hbb
            have hb' : 0 < upd g.φ (g.β id) ((rows.length + ys.length) * i.size) b := hb
            show room _ b (upd g.φ (g.β id) ((rows.length + ys.length) * i.size) b)
            rw [e1] at hb' ⊢
            exact room_setRow hblk hcssz (hH.fsz b hb')
      · refine { hext with size := by simp, old := fun b hb hno => ?_, owns := fun p hp => ?_, oth := ⟨rfl, rfl, rfl⟩ }
        · have hne' : b ≠ g.β id := fun e => hno _ (hget_mem hg) e.symm
          exact ⟨setRow_other w _ _ cs hne', upd_ne _ _ hne'⟩
        · rcases mem_hset hp with rfl | ⟨_, hp⟩
          · exact .inl ⟨_, hget_mem hg, rfl⟩
          · exact .inl ⟨p, hp, rfl⟩
    · -- a new array
      have hneed : rows.length + ys.length ≤ 4294967296 := by rw [hlm] at hlen; exact hlen
      have hcap' : cap < rows.length + ys.length := by omega
      have hb47 : (rows.length + ys.length) * i.bytes ≤ 140737488355328 := Nat.le_trans (Nat.mul_le_mul hneed hbytes) (by omega)
      have hrun := run_append_grow (P := P) w t type e i z ht hi hz ⟨g.β id, 0, none⟩ rows.length cap vs hvl.symm hr0.addr ⟨b2, off2, none⟩ ys.length cap2 vs2 hl2.symm hr2.addr hcap' (by omega) (growslice_fits hcap' hb47)
      have hcapg := grownCap_ge w (rows.length + ys.length) cap e
      generalize grownCap w (rows.length + ys.length) cap e = nc at hrun hcapg
      have hzc : (Builtin.zeroCells z.cells (nc - (rows.length + ys.length))).size = (nc - (rows.length + ys.length)) * i.size := by rw [size_zeroCells, hzz]
      generalize Builtin.zeroCells z.cells (nc - (rows.length + ys.length)) = zc at hrun hzc
      refine OpR.out (exec hrun) ?_
      have hH2 : HRel g n H w.drew := hH.drew rfl (Ext.same rfl)
      refine Out.grow (n1 := n) ?_ (Nat.le_refl _) (Grow.same (w' := w.drew) rfl ⟨rfl, rfl, rfl⟩)
      have hbid : g.β id < w.heap.size := room_lt ⟨c, el, _, hblk, Nat.zero_le _⟩
      have hdh : ∀ j : Nat, w.drew.heap[j]? = w.heap[j]? := fun _ => rfl
      have hall : (vs.toArray ++ vs2.toArray ++ zc) = (vs ++ vs2).toArray ++ zc := by apply Array.ext'; simp
      rw [hall]
      generalize hw2 : w.drew.alloc (.cells ((vs ++ vs2).toArray ++ zc) e) = w2
      have hsz2 : w.drew.heap.size = w.heap.size := rfl
      have hnewblk : w2.heap[w.heap.size]? = some (.cells ((vs ++ vs2).toArray ++ zc) e (0, 0)) := by rw [← hw2, ← hsz2]; exact heap_alloc_new
      have holdblk : ∀ j : Nat, j < w.heap.size → w2.heap[j]? = w.heap[j]? := fun j hj => by rw [← hw2]; exact heap_alloc_lt (w := w.drew) hj
      have hext : Ext n g w.drew ⟨upd g.β id w.heap.size, upd g.fr id (some ((rows.length + ys.length) * i.size)), upd g.φ w.heap.size ((rows.length + ys.length) * i.size)⟩ w2 := by
        refine ⟨fun b j hj => ?_, fun b => ?_, fun id' hid' => ?_, fun b k ⟨c', el', fz, h1, h2⟩ => ?_⟩
        · have hb : b < w.heap.size := room_lt (hH.fsz b (by omega))
          rw [← hw2]; exact World.cell?_alloc_lt _ _ _ hb
        · by_cases hb : b = w.heap.size
          · subst hb; rw [hH.phi0 (Nat.le_refl _)]; exact Nat.zero_le _
          · show g.φ b ≤ upd g.φ w.heap.size _ b
            rw [upd_ne _ _ hb]; exact Nat.le_refl _
        · by_cases hi' : id' = id
          · subst hi'
            refine .inr ⟨_, _, hfr, upd_same _ _ _, ?_⟩
            rw [hmul]
            have := Nat.mul_pos hpos (Nat.pos_of_ne_zero hz0)
            omega
          · exact .inl ⟨upd_ne _ _ hi', upd_ne _ _ hi'⟩
        · have hb : b < w.heap.size := room_lt (w := w.drew) ⟨c', el', fz, h1, h2⟩
          exact ⟨c', el', fz, by rw [holdblk b hb]; exact h1, h2⟩
      have hvs' := (hvs.ext (Ext.same (n := 0) (g := g) (w := w) (w' := w.drew) rfl) (Nat.le_refl _)).ext (hext.le (Nat.zero_le _)) (Nat.le_refl _)
      have hvs2' := (hvs2.ext (Ext.same (n := 0) (g := g) (w := w) (w' := w.drew) rfl) (Nat.le_refl _)).ext (hext.le (Nat.zero_le _)) (Nat.le_refl _)
      have hcells : (rows ++ ys).flatten = rows.flatten ++ ys.flatten := by simp
      have hlen2 : (rows ++ ys).length = rows.length + ys.length := by simp
      have hvlen : (vs ++ vs2).length = (rows.length + ys.length) * i.size := by simp; omega
      have hrun' : Run w2 w.heap.size 0 (vs ++ vs2) := by
        have := Run_alloc (w := w.drew) (vs := vs ++ vs2) (el := e) (rest := zc)
        rw [hw2] at this; exact this
      have hcsz2 : ((vs ++ vs2).toArray ++ zc).size = nc * i.size := by
        rw [Array.size_append, List.size_toArray, hvlen, hzc, ← Nat.add_mul]
        congr 1; omega
      refine ⟨.acc id i.size (rows ++ ys), n, _, ⟨upd g.β id w.heap.size, upd g.fr id (some ((rows.length + ys.length) * i.size)), upd g.φ w.heap.size ((rows.length + ys.length) * i.size)⟩, hk, Nat.le_refl _, ?_, ?_, ?_⟩
      · refine Eq.mp (congrArg (fun k => VRel _ _ _ _ (Value.slice _ k _)) hlen2) ?_
        refine .acc id i.size (rows ++ ys) _ w.heap.size 0 nc (vs ++ vs2) (fun _ => rfl) (by rw [hlen2]; exact hcapg) hrows' (fun _ => ?_) hrun' (by rw [hcells]; exact hvs'.append hvs2') hid (fun m hm => ?_)
        · show 0 + (rows ++ ys).length * i.size ≤ upd g.φ w.heap.size _ w.heap.size
          rw [upd_same, hlen2, Nat.zero_add]; exact Nat.le_refl _
        · have hm' : upd g.fr id (some ((rows.length + ys.length) * i.size)) id = some m := hm
          rw [upd_same] at hm'
          cases hm'
          rw [hlen2]
          refine ⟨Nat.le_refl _, fun _ => ?_⟩
          show some _ = some (Addr.mk (upd g.β id w.heap.size id) 0 none) ∧ room _ (upd g.β id w.heap.size id) _
          rw [upd_same]
          exact ⟨rfl, _, e, (0, 0), hnewblk, by rw [hcsz2]; exact Nat.le_refl _⟩
      · refine hH2.set (hget_mem hg) hext (fun p hp hpi => ⟨upd_ne _ _ hpi, upd_ne _ _ hpi, upd_ne _ _ (Nat.ne_of_lt (hH.ent p hp).2.lt), holdblk _ (hH.ent p hp).2.lt⟩) (.inr ?_) ?_ (fun b hb => ?_)
        · show w.drew.heap.size ≤ upd g.β id w.heap.size id
          rw [upd_same]; exact Nat.le_refl _
        · refine ⟨upd_same _ _ _, ?_, (vs ++ vs2).toArray ++ zc, e, ?_, ?_⟩
          · show upd g.φ w.heap.size _ (upd g.β id w.heap.size id) = _
            rw [upd_same, upd_same]
          · show w2.heap[upd g.β id w.heap.size id]? = _
            rw [upd_same]; exact hnewblk
          · rw [hcsz2]; exact Nat.mul_le_mul_right _ hcapg
        · by_cases hbb : b = w.heap.size
          · subst hbb
            refine ⟨_, e, (0, 0), hnewblk, ?_⟩
            show upd g.φ w.heap.size _ w.heap.size ≤ _
            rw [upd_same, hcsz2]; exact Nat.mul_le_mul_right _ hcapg
          · have e1 : upd g.φ w.heap.size ((rows.length + ys.length) * i.size) b = g.φ b := upd_ne _ _ hbb
            have hb' : 0 < upd g.φ w.heap.size ((rows.length + ys.length) * i.size) b := hb
            show room _ b (upd g.φ w.heap.size ((rows.length + ys.length) * i.size) b)
            rw [e1] at hb' ⊢
            exact hext.rooms _ _ (hH2.fsz b hb')
      · refine { hext with size := by rw [← hw2, World.size_alloc]; exact Nat.le_succ _, old := fun b hb hno => ?_, owns := fun p hp => ?_, oth := by rw [← hw2]; exact ⟨rfl, rfl, rfl⟩ }
        · exact ⟨holdblk b hb, upd_ne _ _ (Nat.ne_of_lt hb)⟩
        · rcases mem_hset hp with rfl | ⟨hpi, hp⟩
          · right
            show w.drew.heap.size ≤ upd g.β id w.heap.size id
            rw [upd_same]; exact Nat.le_refl _
          · exact .inl ⟨p, hp, (upd_ne _ _ hpi).symm⟩

theorem bytesRows_rel : ∀ {rows : List (List AV)} {l : List UInt8} {vs : List Value}, bytesRows rows = some l → VRels g n w rows.flatten vs →
    ∃ ns : List Int, vs = ns.map (Value.int .u8) ∧ ns.length = rows.length ∧ ns.map (fun i => UInt8.ofNat i.toNat) = l
  | [], l, vs, hb, hv => by
    simp only [bytesRows, Option.some.injEq] at hb
    subst hb
    cases hv
    exact ⟨[], rfl, rfl, rfl⟩
  | r :: rs, l, vs, hb, hv => by
    match r, hb with
    | [.int .u8 i], hb =>
      simp only [bytesRows] at hb
      rw [Option.map_eq_some_iff] at hb
      obtain ⟨l', hl', rfl⟩ := hb
      rw [List.flatten_cons, List.singleton_append] at hv
      cases hv with | cons _ c _ cs h t =>
      cases h
      obtain ⟨ns, h1, h2, h3⟩ := bytesRows_rel hl' t
      exact ⟨i :: ns, by rw [h1]; rfl, by simp [h2], by simp [h3]⟩

theorem snd_cvBS {src d e : TypeId} {x : Operand} {a : AV} (hs : P.underlying src = some (.slice e)) (he : P.underlying e = some (.int .u8)) (hd : P.underlying d = some .string) (ha : VRel g n w a (ρ x)) (hH : HRel g n H w)
    (hx : xop P .cvBS [a] n H K) : OpR P ⟨dst, .convert src d x, type, pos, after, guard⟩ ρ g n w H K := by
  have key : ∀ {rows : List (List AV)} {s : Nat} {ad : Option Addr} {b off cap : Nat} {vs : List Value} {v : AV}, ρ x = .slice ad rows.length cap → (rows ≠ [] → ad = some ⟨b, off, none⟩) → Run w b off vs → VRels g n w rows.flatten vs →
      (bytesRows rows).map AV.str = some v → K v n H → OpR P ⟨dst, .convert src d x, type, pos, after, guard⟩ ρ g n w H K := by
    intro rows s ad b off cap vs v hx1 hne hr hv hb hk
    rw [Option.map_eq_some_iff] at hb
    obtain ⟨l, hl, rfl⟩ := hb
    obtain ⟨ns, rfl, h2, rfl⟩ := bytesRows_rel hl hv
    have hval : (convert src d (ρ x)).run P w = .ok (.string ⟨(ns.map fun i => UInt8.ofNat i.toNat).toArray⟩) w := by
      rw [hx1, run_convert_bytes_string w src d e ad rows.length cap hs he hd]
      cases ad with
      | none =>
        have hrows : rows = [] := Classical.byContradiction fun h => by have := hne h; cases this
        subst hrows
        have : ns = [] := List.eq_nil_of_length_eq_zero h2
        subst this
        simp [Conv.bytesToString]
        rfl
      | some a =>
        have hl2 : (loadCells a rows.length).run P w = .ok (ns.map (Value.int .u8)).toArray w := by
          by_cases hrows : rows = []
          · subst hrows
            have : ns = [] := List.eq_nil_of_length_eq_zero h2
            subst this
            simp [loadCells, loadCellsFrom]
          · have := hne hrows
            simp only [Option.some.injEq] at this
            subst this
            have := run_loadCells_list (P := P) w ⟨b, off, none⟩ (ns.map (Value.int .u8)) hr.addr
            rwa [List.length_map, h2] at this
        rw [run_bytesToString w a rows.length cap ns hl2, foldl_push_bytes]
        simp
    exact OpR.value (by simp [execOp, hval]) (.str _) hH hk
  generalize hx1 : ρ x = u at ha
  cases ha <;> simp only [xop, fop, oK_none, oK_some] at hx
  case sl rows s a b off cap vs hne hc hs hf hr hv =>
    obtain ⟨v, hv1, hk⟩ := oK_elim hx
    exact key (s := s) hx1 hne hr hv.up hv1 hk
  case acc id s rows a b off cap vs hne hc hs hf hid hr hv hl =>
    obtain ⟨v, hv1, hk⟩ := oK_elim hx
    exact key (s := s) hx1 hne hr hv.up hv1 hk
  case nilsl =>
    exact key (s := 0) (rows := []) (b := 0) (off := 0) (vs := []) (v := .str []) hx1 (fun h => absurd rfl h) (fun i v hi => by simp at hi) .nil rfl hx

end Go.Ab
