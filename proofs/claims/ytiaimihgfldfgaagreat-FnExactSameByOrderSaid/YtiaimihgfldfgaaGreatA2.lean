/- Each operation does in the world what the abstract run says: append, bytes to a string. Over any program. Each operation does in the world what the abstract run says: appends to owned growing vectors, clear, the room of nil. Over any program. Every operation that the shorter form bears does in the world what the abstract run says. Over any program. The abstract run of a whole body: rules for the shorter form's code. Over any program. The abstract run of a whole body: returns, and calls from bodies. Over any program. From the reading of a law's arguments to abstract values, and from an abstract run of the law's body to what its row says. Over any program. The rules by which simp runs the abstract run. Over any program. Tools of the abstract walk: loops, and a library function without a Go body. Over any program. The rules of the abstract run, tagged: simp is not to look into what comes after. Over any program. The rules by which simp runs what is done to owned growing vectors. Over any program. No condition. -/
import Derived.Test.YtiaimihgfldfgaaGreatA1
import Derived.ChangeArms
import Derived.ChangeShapes
import Derived.ChangeOld
import Derived.Carry
import Derived.DataReads
import Derived.Lib.Bytealg
section
namespace Go.Ab
set_option linter.unusedVariables false
set_option linter.unusedSimpArgs false

variable {P : Program} {g : Ghost} {n : Nat} {w : World} {H : Heap} {ρ : Operand → Value} {K : AV → Nat → Heap → Prop}
  {dst : Option Tmp} {type : TypeId} {pos : String} {after : Array Edge} {guard : Option (Nat × Bool)}

theorem run_append_empty {t ty e : TypeId} {i : TypeInfo} (ht : P.underlying t = some (.slice e)) (hi : P.info? e = some i) (b a : Option Addr) (l c c2 : Nat) (hc : l ≤ c) :
    (Builtin.append_ #[t, t] ty #[.slice b l c, .slice a 0 c2]).run P w = .ok (.slice b l c) w := by
  have hf : (Builtin.firstCells i.size 0 (.slice a 0 c2)).run P w = .ok #[] w := by
    cases a with
    | none => exact run_firstCells_none w _ _ _ _
    | some a => exact run_firstCells_some w i.size 0 a 0 c2 [] (by simp) (by simp)
  cases b <;> simp [Builtin.append_, run_underlying ht, sizeOf, typeInfo, hi, Builtin.lenOf, hc, hf, storeCells]

theorem run_append_room2 {t ty e : TypeId} {i : TypeInfo} (ht : P.underlying t = some (.slice e)) (hi : P.info? e = some i)
    {g0 sLen sCap : Nat} {cur : Array Value} {e' : TypeId} (hg : w.heap[g0]? = some (.cells cur e' (0, 0)))
    {a : Addr} {m c : Nat} {news : List Value} (hl : news.length = m * i.size) (hnews : ∀ j u, news[j]? = some u → w.cell? (a.add j) = some u) (h1 : ∀ u ∈ news, u.oneCell' = true)
    (hroom : sLen + m ≤ sCap) (hfit : sLen * i.size + news.length ≤ cur.size) :
    (Builtin.append_ #[t, t] ty #[.slice (some ⟨g0, 0, none⟩) sLen sCap, .slice (some a) m c]).run P w =
      .ok (.slice (some ⟨g0, 0, none⟩) (sLen + m) sCap) (w.setRow g0 (cur.toList.take (sLen * i.size) ++ news ++ cur.toList.drop (sLen * i.size + news.length)).toArray) := by
  have hf := run_firstCells_some (P := P) w i.size m a m c news hl hnews
  have hst := run_storeCells_at P g0 (sLen * i.size) e' news 0 cur w hg (by simpa using hfit) h1
  simp only [Nat.add_zero] at hst
  simp [Builtin.append_, run_underlying ht, sizeOf, typeInfo, hi, Builtin.lenOf, hroom, hf, Addr.add_lit, hst]

/-- The second operand of an append: rows that lie somewhere, or none. -/
theorem src_rows {y : AV} {c : Value} {ys : List (List AV)} {size : Nat} (hv : VRel g n w y c) (hr : rowsOfSl H y = some ys) (hok : rowsOk size ys) :
    ∃ a cap, c = .slice a ys.length cap ∧ (ys ≠ [] → ∃ b off vs, a = some ⟨b, off, none⟩ ∧ Run w b off vs ∧ VRels g 0 w ys.flatten vs) := by
  cases hv <;> simp only [rowsOfSl, Option.some.injEq, reduceCtorEq] at hr
  case nilsl => subst hr; exact ⟨none, 0, rfl, fun h => absurd rfl h⟩
  case sl rows s a b off cap vs hne hc hs hf hr' hv => subst hr; exact ⟨a, cap, rfl, fun h => ⟨b, off, vs, hne h, hr', hv⟩⟩
  case acc id s rows a b off cap vs hne hc hs hf hid hr' hv hl => subst hr; exact ⟨a, cap, rfl, fun h => ⟨b, off, vs, hne h, hr', hv⟩⟩

theorem Run.addr {b off : Nat} {vs : List Value} (h : Run w b off vs) : ∀ j v, vs[j]? = some v → w.cell? ((⟨b, off, none⟩ : Addr).add j) = some v := by
  intro j v hj
  rw [Addr.add_lit]
  exact h j v hj

theorem snd_app {t e : TypeId} {i : TypeInfo} {args : Array Operand} {as : List AV} (ht : P.underlying t = some (.slice e)) (hi : P.info? e = some i) (hz : i.zero.isSome) (hzs : (i.zero.map fun z => z.cells.size) = some i.size) (hz0 : i.size ≠ 0)
    (ha : VRels g n w as (args.toList.map ρ)) (hH : HRel g n H w) (hx : xop P (.app i.size i.bytes) as n H K) :
    OpR P ⟨dst, .call { callee := .builtin .append, args, argTypes := #[t, t] }, type, pos, after, guard⟩ ρ g n w H K := by
  obtain ⟨x, y, rfl⟩ : ∃ x y, as = [x, y] := by
    match as, hx with
    | [], hx => simp [xop, fop] at hx
    | [x], hx => simp [xop, fop] at hx
    | [x, y], hx => exact ⟨x, y, rfl⟩
    | _ :: _ :: _ :: _, hx => simp [xop, fop] at hx
  simp only [xop] at hx
  obtain ⟨hbytes, hx⟩ := hx
  have hx0 := oK_elim hx
  clear hx
  obtain ⟨ys, hys, hok, hx⟩ := hx0
  obtain ⟨z, hz⟩ := Option.isSome_iff_exists.mp hz
  have hzz : z.cells.size = i.size := by simpa [hz] using hzs
  obtain ⟨u, v, hargs, hu, hv⟩ : ∃ u v, args.map ρ = #[u, v] ∧ VRel g n w x u ∧ VRel g n w y v := by
    generalize hl : args.toList.map ρ = l at ha
    cases ha with | cons _ u _ _ h1 t1 =>
    cases t1 with | cons _ v _ _ h2 t2 =>
    cases t2
    exact ⟨u, v, by apply Array.ext'; simpa using hl, h1, h2⟩
  have exec : ∀ {c : Value} {w' : World}, (Builtin.append_ #[t, t] type #[u, v]).run P w = .ok c w' → (execOp ρ ⟨dst, .call { callee := .builtin .append, args, argTypes := #[t, t] }, type, pos, after, guard⟩).run P w = .ok (.value c) w' := by
    intro c w' h
    rw [BigFrame.execOp_builtin, BigFrame.builtin_append, hargs]
    simp [h]
  obtain ⟨ad2, cap2, rfl, hsrc⟩ := src_rows (H := H) hv hys hok
  have hlm : lenMax = 4294967296 := rfl
  have hys' : ∀ r ∈ ys, r.length = i.size := fun r hr => (hok r hr).1
  have hplain : ys.flatten.all flat = true := by
    rw [List.all_eq_true]
    intro c hc
    obtain ⟨r, hr, hcr⟩ := List.mem_flatten.mp hc
    exact List.all_eq_true.mp (hok r hr).2 c hcr
  cases x <;> simp only at hx
  case nilsl =>
    cases hu
    obtain ⟨hlen, h1, h2⟩ := hx
    by_cases he : ys = []
    · subst he
      exact OpR.value (exec (run_append_empty ht hi none ad2 0 0 cap2 (Nat.le_refl _))) .nilsl hH (h1 rfl)
    · obtain ⟨b, off, vs, rfl, hr, hvs⟩ := hsrc he
      have hl := hvs.length
      rw [flatten_length hys'] at hl
      have hpos : 0 < ys.length := List.length_pos_iff.mpr he
      have hb48 : ys.length * i.bytes ≤ 281474976710656 := Nat.le_trans (Nat.mul_le_mul hlen hbytes) (by rw [hlm]; omega)
      have hrun := run_append_nil (P := P) w t type e i z ht hi hz ⟨b, off, none⟩ ys.length cap2 vs hl.symm hr.addr hpos (by rw [hlm] at hlen; omega) hb48
      refine OpR.out (exec hrun) ?_
      have hcap := grownCap_ge w ys.length 0 e
      have hH2 : HRel g n H w.drew := hH.drew rfl (Ext.same rfl)
      have hzc : (Builtin.zeroCells z.cells (grownCap w ys.length 0 e - ys.length)).size = (grownCap w ys.length 0 e - ys.length) * i.size := by rw [size_zeroCells, hzz]
      refine Out.grow (n1 := n) ?_ (Nat.le_refl _) (Grow.same (w' := w.drew) rfl ⟨rfl, rfl, rfl⟩)
      refine new_acc (w := w.drew) hH2 hys' (hvs.ext (Ext.same (n := 0) (g := g) (w := w) (w' := w.drew) rfl) (Nat.le_refl _)) hcap ?_ (h2 he)
      rw [hzc, ← hl, ← Nat.add_mul]
      exact Nat.le_of_eq (by congr 1; omega)
  case acc id s rows =>
    obtain ⟨⟨hlen, rfl, hg⟩, hk⟩ := hx
    rw [hset_eq id _ hH.apart] at hk
    obtain ⟨hidn, hfr, hphi, c, el, hblk, hcsz⟩ := hH.ent _ (hget_mem hg)
    cases hu with | acc _ _ _ ad b off cap vs hne hcap hs hf hr hvs hid hloc =>
    obtain ⟨_, hloc2⟩ := hloc _ hfr
    obtain ⟨rfl, hroom⟩ := hloc2 rfl
    obtain ⟨c', el', fz, hblk', hcapsz⟩ := hroom
    rw [hblk] at hblk'
    cases hblk'
    have hvl := hvs.length
    rw [flatten_length hs] at hvl
    have hr0 : Run w (g.β id) 0 vs := by
      by_cases he : rows = []
      · subst he
        have : vs = [] := List.eq_nil_of_length_eq_zero (by simpa using hvl.symm)
        subst this
        intro j v hj; simp at hj
      · have := hne he
        simp only [Option.some.injEq, Addr.mk.injEq] at this
        obtain ⟨h1, h2, _⟩ := this
        rw [h1, h2]; exact hr
    by_cases he : ys = []
    · subst he
      refine OpR.out (exec (run_append_empty ht hi _ ad2 rows.length cap cap2 hcap)) ?_
      have hk' : K (.acc id i.size rows) n (hsetM H id (.tok i.size rows.length)) := by simpa using hk
      refine ⟨_, n, _, g, hk', Nat.le_refl _, .acc id i.size rows _ b off cap vs hne hcap hs hf hr hvs hid hloc, ?_, ?_⟩
      · exact hH.set (hget_mem hg) (Ext.refl _ _ _) (fun p hp hpi => ⟨rfl, rfl, rfl, rfl⟩) (.inl rfl) (hH.ent _ (hget_mem hg)).2 hH.fsz
      · refine ⟨Ext.refl n g w, Nat.le_refl _, fun _ _ _ => ⟨rfl, rfl⟩, fun p hp => ?_, Oth.refl w⟩
        rcases mem_hset hp with rfl | ⟨_, hp⟩
        · exact .inl ⟨_, hget_mem hg, rfl⟩
        · exact .inl ⟨p, hp, rfl⟩
    obtain ⟨b2, off2, vs2, rfl, hr2, hvs2⟩ := hsrc he
    have hl2 := hvs2.length
    rw [flatten_length hys'] at hl2
    have hpos : 0 < ys.length := List.length_pos_iff.mpr he
    have hrows' : ∀ r ∈ rows ++ ys, r.length = i.size := fun r hr => by
      rw [List.mem_append] at hr
      rcases hr with hr | hr
      · exact hs r hr
      · exact hys' r hr
    have hone := flat_all hvs2 hplain
    have hmul : (rows.length + ys.length) * i.size = rows.length * i.size + ys.length * i.size := Nat.add_mul _ _ _
    have hold : ∀ p ∈ H, p.1 ≠ id → g.β p.1 ≠ g.β id := fun p hp hpi => apart_of hH hp (hget_mem hg) hpi
    by_cases hfit : rows.length + ys.length ≤ cap
    · -- there is room
      have hfits : rows.length * i.size + vs2.length ≤ c.size := by
        rw [← hl2, ← hmul]
        exact Nat.le_trans (Nat.mul_le_mul_right _ hfit) hcapsz
      have hrun := run_append_room2 (P := P) (ty := type) (w := w) ht hi hblk (c := cap2) hl2.symm hr2.addr hone hfit hfits
      generalize hcs : (c.toList.take (rows.length * i.size) ++ vs2 ++ c.toList.drop (rows.length * i.size + vs2.length)).toArray = cs at hrun
      have hcssz : cs.size = c.size := by subst hcs; simp; omega
      have hcget : ∀ j, j < rows.length * i.size → cs[j]? = c[j]? := fun j hj => by
        subst hcs
        simp only [List.getElem?_toArray]
        rw [List.append_assoc, List.getElem?_append_left (by simp; omega), List.getElem?_take_of_lt hj]
        simp
      have hcnew : ∀ j v, vs2[j]? = some v → cs[rows.length * i.size + j]? = some v := fun j v hj => by
        have hjl : j < vs2.length := by
          rcases Nat.lt_or_ge j vs2.length with h | h
          · exact h
          · rw [List.getElem?_eq_none h] at hj; cases hj
        subst hcs
        simp only [List.getElem?_toArray]
        rw [List.append_assoc, List.getElem?_append_right (by simp; omega)]
        simp only [List.length_take, Array.length_toList]
        rw [show rows.length * i.size + j - min (rows.length * i.size) c.size = j by omega, List.getElem?_append_left hjl]
        exact hj
      refine OpR.out (exec hrun) ?_
      have hext : Ext n g w ⟨g.β, upd g.fr id (some ((rows.length + ys.length) * i.size)), upd g.φ (g.β id) ((rows.length + ys.length) * i.size)⟩ (w.setRow (g.β id) cs) := by
        refine ⟨fun b j hj => ?_, fun b => ?_, fun id' hid' => ?_, fun b k h => room_setRow hblk hcssz h⟩
        · by_cases hb : b = g.β id
          · subst hb
            rw [hphi] at hj
            rw [cell_setRow_same w (g.β id) j c cs el (0, 0) hblk, hcget j hj]
            simp [World.cell?, hblk]
          · exact cell_setRow_other w (g.β id) cs ⟨b, j, none⟩ hb
        · by_cases hb : b = g.β id
          · subst hb
            show g.φ (g.β id) ≤ upd g.φ (g.β id) _ (g.β id)
            rw [upd_same, hphi, hmul]; exact Nat.le_add_right _ _
          · show g.φ b ≤ upd g.φ (g.β id) _ b
            rw [upd_ne _ _ hb]; exact Nat.le_refl _
        · by_cases hi' : id' = id
          · subst hi'
            refine .inr ⟨_, _, hfr, upd_same _ _ _, ?_⟩
            rw [hmul]
            have := Nat.mul_pos hpos (Nat.pos_of_ne_zero hz0)
            omega
          · exact .inl ⟨rfl, upd_ne _ _ hi'⟩
      have hvs' := hvs.ext (hext.le (Nat.zero_le _)) (Nat.le_refl _)
      have hvs2' := hvs2.ext (hext.le (Nat.zero_le _)) (Nat.le_refl _)
      have hrun' : Run (w.setRow (g.β id) cs) (g.β id) 0 (vs ++ vs2) := by
        intro j v hj
        rw [Nat.zero_add, cell_setRow_same w (g.β id) j c cs el (0, 0) hblk]
        rw [List.getElem?_append] at hj
        split at hj
        · rename_i hjl
          rw [hcget j (by omega)]
          have := hr0 j v hj
          simpa [World.cell?, hblk] using this
        · rename_i hjl
          have := hcnew (j - vs.length) v hj
          rwa [show rows.length * i.size + (j - vs.length) = j by omega] at this
      have hcells : (rows ++ ys).flatten = rows.flatten ++ ys.flatten := by simp
      have hlen2 : (rows ++ ys).length = rows.length + ys.length := by simp
      refine ⟨.acc id i.size (rows ++ ys), n, _, ⟨g.β, upd g.fr id (some ((rows.length + ys.length) * i.size)), upd g.φ (g.β id) ((rows.length + ys.length) * i.size)⟩, hk, Nat.le_refl _, ?_, ?_, ?_⟩
      · refine Eq.mp (congrArg (fun k => VRel _ _ _ _ (Value.slice _ k _)) hlen2) ?_
        refine .acc id i.size (rows ++ ys) _ (g.β id) 0 cap (vs ++ vs2) (fun _ => rfl) (by rw [hlen2]; exact hfit) hrows' (fun _ => ?_) hrun' (by rw [hcells]; exact hvs'.append hvs2') hid (fun m hm => ?_)
        · show 0 + (rows ++ ys).length * i.size ≤ upd g.φ (g.β id) _ (g.β id)
          rw [upd_same, hlen2, Nat.zero_add]; exact Nat.le_refl _
        · have hm' : upd g.fr id (some ((rows.length + ys.length) * i.size)) id = some m := hm
          rw [upd_same] at hm'
          cases hm'
          rw [hlen2]
          exact ⟨Nat.le_refl _, fun _ => ⟨rfl, cs, el, (0, 0), setRow_heap w _ c cs el (0, 0) hblk, by omega⟩⟩
      · refine hH.set (hget_mem hg) hext (fun p hp hpi => ⟨rfl, upd_ne _ _ hpi, upd_ne _ _ (hold p hp hpi), setRow_other w _ _ cs (hold p hp hpi)⟩) (.inl rfl) ?_ (fun b hb => ?_)
        · refine ⟨upd_same _ _ _, upd_same _ _ _, cs, el, setRow_heap w _ c cs el (0, 0) hblk, ?_⟩
          rw [hcssz, hmul, hl2]; exact hfits
        · by_cases hbb : b = g.β id
          · subst hbb
            refine ⟨cs, el, (0, 0), setRow_heap w _ c cs el (0, 0) hblk, ?_⟩
            show upd g.φ (g.β id) _ (g.β id) ≤ cs.size
            rw [upd_same, hcssz, hmul, hl2]; exact hfits
          · have e1 : upd g.φ (g.β id) ((rows.length + ys.length) * i.size) b = g.φ b := upd_ne _ _ hbb
            have hb' : 0 < upd g.φ (g.β id) ((rows.length + ys.length) * i.size) b := hb
            show room _ b (upd g.φ (g.β id) ((rows.length + ys.length) * i.size) b)
            rw [e1] at hb' ⊢
            exact room_setRow hblk hcssz (hH.fsz b hb')
      · refine { hext with size := by simp, old := fun b hb hno => ?_, owns := fun p hp => ?_, oth := ⟨rfl, rfl, rfl⟩ }
        · have hne' : b ≠ g.β id := fun e => hno _ (hget_mem hg) e.symm
          exact ⟨setRow_other w _ _ cs hne', upd_ne _ _ hne'⟩
        · rcases mem_hset hp with rfl | ⟨_, hp⟩
          · exact .inl ⟨_, hget_mem hg, rfl⟩
          · exact .inl ⟨p, hp, rfl⟩
    · -- a new array
      have hneed : rows.length + ys.length ≤ 4294967296 := by rw [hlm] at hlen; exact hlen
      have hcap' : cap < rows.length + ys.length := by omega
      have hb47 : (rows.length + ys.length) * i.bytes ≤ 140737488355328 := Nat.le_trans (Nat.mul_le_mul hneed hbytes) (by omega)
      have hrun := run_append_grow (P := P) w t type e i z ht hi hz ⟨g.β id, 0, none⟩ rows.length cap vs hvl.symm hr0.addr ⟨b2, off2, none⟩ ys.length cap2 vs2 hl2.symm hr2.addr hcap' (by omega) (growslice_fits hcap' hb47)
      have hcapg := grownCap_ge w (rows.length + ys.length) cap e
      generalize grownCap w (rows.length + ys.length) cap e = nc at hrun hcapg
      have hzc : (Builtin.zeroCells z.cells (nc - (rows.length + ys.length))).size = (nc - (rows.length + ys.length)) * i.size := by rw [size_zeroCells, hzz]
      generalize Builtin.zeroCells z.cells (nc - (rows.length + ys.length)) = zc at hrun hzc
      refine OpR.out (exec hrun) ?_
      have hH2 : HRel g n H w.drew := hH.drew rfl (Ext.same rfl)
      refine Out.grow (n1 := n) ?_ (Nat.le_refl _) (Grow.same (w' := w.drew) rfl ⟨rfl, rfl, rfl⟩)
      have hbid : g.β id < w.heap.size := room_lt ⟨c, el, _, hblk, Nat.zero_le _⟩
      have hdh : ∀ j : Nat, w.drew.heap[j]? = w.heap[j]? := fun _ => rfl
      have hall : (vs.toArray ++ vs2.toArray ++ zc) = (vs ++ vs2).toArray ++ zc := by apply Array.ext'; simp
      rw [hall]
      generalize hw2 : w.drew.alloc (.cells ((vs ++ vs2).toArray ++ zc) e) = w2
      have hsz2 : w.drew.heap.size = w.heap.size := rfl
      have hnewblk : w2.heap[w.heap.size]? = some (.cells ((vs ++ vs2).toArray ++ zc) e (0, 0)) := by rw [← hw2, ← hsz2]; exact heap_alloc_new
      have holdblk : ∀ j : Nat, j < w.heap.size → w2.heap[j]? = w.heap[j]? := fun j hj => by rw [← hw2]; exact heap_alloc_lt (w := w.drew) hj
      have hext : Ext n g w.drew ⟨upd g.β id w.heap.size, upd g.fr id (some ((rows.length + ys.length) * i.size)), upd g.φ w.heap.size ((rows.length + ys.length) * i.size)⟩ w2 := by
        refine ⟨fun b j hj => ?_, fun b => ?_, fun id' hid' => ?_, fun b k ⟨c', el', fz, h1, h2⟩ => ?_⟩
        · have hb : b < w.heap.size := room_lt (hH.fsz b (by omega))
          rw [← hw2]; exact World.cell?_alloc_lt _ _ _ hb
        · by_cases hb : b = w.heap.size
          · subst hb; rw [hH.phi0 (Nat.le_refl _)]; exact Nat.zero_le _
          · show g.φ b ≤ upd g.φ w.heap.size _ b
            rw [upd_ne _ _ hb]; exact Nat.le_refl _
        · by_cases hi' : id' = id
          · subst hi'
            refine .inr ⟨_, _, hfr, upd_same _ _ _, ?_⟩
            rw [hmul]
            have := Nat.mul_pos hpos (Nat.pos_of_ne_zero hz0)
            omega
          · exact .inl ⟨upd_ne _ _ hi', upd_ne _ _ hi'⟩
        · have hb : b < w.heap.size := room_lt (w := w.drew) ⟨c', el', fz, h1, h2⟩
          exact ⟨c', el', fz, by rw [holdblk b hb]; exact h1, h2⟩
      have hvs' := (hvs.ext (Ext.same (n := 0) (g := g) (w := w) (w' := w.drew) rfl) (Nat.le_refl _)).ext (hext.le (Nat.zero_le _)) (Nat.le_refl _)
      have hvs2' := (hvs2.ext (Ext.same (n := 0) (g := g) (w := w) (w' := w.drew) rfl) (Nat.le_refl _)).ext (hext.le (Nat.zero_le _)) (Nat.le_refl _)
      have hcells : (rows ++ ys).flatten = rows.flatten ++ ys.flatten := by simp
      have hlen2 : (rows ++ ys).length = rows.length + ys.length := by simp
      have hvlen : (vs ++ vs2).length = (rows.length + ys.length) * i.size := by simp; omega
      have hrun' : Run w2 w.heap.size 0 (vs ++ vs2) := by
        have := Run_alloc (w := w.drew) (vs := vs ++ vs2) (el := e) (rest := zc)
        rw [hw2] at this; exact this
      have hcsz2 : ((vs ++ vs2).toArray ++ zc).size = nc * i.size := by
        rw [Array.size_append, List.size_toArray, hvlen, hzc, ← Nat.add_mul]
        congr 1; omega
      refine ⟨.acc id i.size (rows ++ ys), n, _, ⟨upd g.β id w.heap.size, upd g.fr id (some ((rows.length + ys.length) * i.size)), upd g.φ w.heap.size ((rows.length + ys.length) * i.size)⟩, hk, Nat.le_refl _, ?_, ?_, ?_⟩
      · refine Eq.mp (congrArg (fun k => VRel _ _ _ _ (Value.slice _ k _)) hlen2) ?_
        refine .acc id i.size (rows ++ ys) _ w.heap.size 0 nc (vs ++ vs2) (fun _ => rfl) (by rw [hlen2]; exact hcapg) hrows' (fun _ => ?_) hrun' (by rw [hcells]; exact hvs'.append hvs2') hid (fun m hm => ?_)
        · show 0 + (rows ++ ys).length * i.size ≤ upd g.φ w.heap.size _ w.heap.size
          rw [upd_same, hlen2, Nat.zero_add]; exact Nat.le_refl _
        · have hm' : upd g.fr id (some ((rows.length + ys.length) * i.size)) id = some m := hm
          rw [upd_same] at hm'
          cases hm'
          rw [hlen2]
          refine ⟨Nat.le_refl _, fun _ => ?_⟩
          show some _ = some (Addr.mk (upd g.β id w.heap.size id) 0 none) ∧ room _ (upd g.β id w.heap.size id) _
          rw [upd_same]
          exact ⟨rfl, _, e, (0, 0), hnewblk, by rw [hcsz2]; exact Nat.le_refl _⟩
      · refine hH2.set (hget_mem hg) hext (fun p hp hpi => ⟨upd_ne _ _ hpi, upd_ne _ _ hpi, upd_ne _ _ (Nat.ne_of_lt (hH.ent p hp).2.lt), holdblk _ (hH.ent p hp).2.lt⟩) (.inr ?_) ?_ (fun b hb => ?_)
        · show w.drew.heap.size ≤ upd g.β id w.heap.size id
          rw [upd_same]; exact Nat.le_refl _
        · refine ⟨upd_same _ _ _, ?_, (vs ++ vs2).toArray ++ zc, e, ?_, ?_⟩
          · show upd g.φ w.heap.size _ (upd g.β id w.heap.size id) = _
            rw [upd_same, upd_same]
          · show w2.heap[upd g.β id w.heap.size id]? = _
            rw [upd_same]; exact hnewblk
          · rw [hcsz2]; exact Nat.mul_le_mul_right _ hcapg
        · by_cases hbb : b = w.heap.size
          · subst hbb
            refine ⟨_, e, (0, 0), hnewblk, ?_⟩
            show upd g.φ w.heap.size _ w.heap.size ≤ _
            rw [upd_same, hcsz2]; exact Nat.mul_le_mul_right _ hcapg
          · have e1 : upd g.φ w.heap.size ((rows.length + ys.length) * i.size) b = g.φ b := upd_ne _ _ hbb
            have hb' : 0 < upd g.φ w.heap.size ((rows.length + ys.length) * i.size) b := hb
            show room _ b (upd g.φ w.heap.size ((rows.length + ys.length) * i.size) b)
            rw [e1] at hb' ⊢
            exact hext.rooms _ _ (hH2.fsz b hb')
      · refine { hext with size := by rw [← hw2, World.size_alloc]; exact Nat.le_succ _, old := fun b hb hno => ?_, owns := fun p hp => ?_, oth := by rw [← hw2]; exact ⟨rfl, rfl, rfl⟩ }
        · exact ⟨holdblk b hb, upd_ne _ _ (Nat.ne_of_lt hb)⟩
        · rcases mem_hset hp with rfl | ⟨hpi, hp⟩
          · right
            show w.drew.heap.size ≤ upd g.β id w.heap.size id
            rw [upd_same]; exact Nat.le_refl _
          · exact .inl ⟨p, hp, (upd_ne _ _ hpi).symm⟩

theorem bytesRows_rel : ∀ {rows : List (List AV)} {l : List UInt8} {vs : List Value}, bytesRows rows = some l → VRels g n w rows.flatten vs →
    ∃ ns : List Int, vs = ns.map (Value.int .u8) ∧ ns.length = rows.length ∧ ns.map (fun i => UInt8.ofNat i.toNat) = l
  | [], l, vs, hb, hv => by
    simp only [bytesRows, Option.some.injEq] at hb
    subst hb
    cases hv
    exact ⟨[], rfl, rfl, rfl⟩
  | r :: rs, l, vs, hb, hv => by
    match r, hb with
    | [.int .u8 i], hb =>
      simp only [bytesRows] at hb
      rw [Option.map_eq_some_iff] at hb
      obtain ⟨l', hl', rfl⟩ := hb
      rw [List.flatten_cons, List.singleton_append] at hv
      cases hv with | cons _ c _ cs h t =>
      cases h
      obtain ⟨ns, h1, h2, h3⟩ := bytesRows_rel hl' t
      exact ⟨i :: ns, by rw [h1]; rfl, by simp [h2], by simp [h3]⟩

theorem snd_cvBS {src d e : TypeId} {x : Operand} {a : AV} (hs : P.underlying src = some (.slice e)) (he : P.underlying e = some (.int .u8)) (hd : P.underlying d = some .string) (ha : VRel g n w a (ρ x)) (hH : HRel g n H w)
    (hx : xop P .cvBS [a] n H K) : OpR P ⟨dst, .convert src d x, type, pos, after, guard⟩ ρ g n w H K := by
  have key : ∀ {rows : List (List AV)} {s : Nat} {ad : Option Addr} {b off cap : Nat} {vs : List Value} {v : AV}, ρ x = .slice ad rows.length cap → (rows ≠ [] → ad = some ⟨b, off, none⟩) → Run w b off vs → VRels g n w rows.flatten vs →
      (bytesRows rows).map AV.str = some v → K v n H → OpR P ⟨dst, .convert src d x, type, pos, after, guard⟩ ρ g n w H K := by
    intro rows s ad b off cap vs v hx1 hne hr hv hb hk
    rw [Option.map_eq_some_iff] at hb
    obtain ⟨l, hl, rfl⟩ := hb
    obtain ⟨ns, rfl, h2, rfl⟩ := bytesRows_rel hl hv
    have hval : (convert src d (ρ x)).run P w = .ok (.string ⟨(ns.map fun i => UInt8.ofNat i.toNat).toArray⟩) w := by
      rw [hx1, run_convert_bytes_string w src d e ad rows.length cap hs he hd]
      cases ad with
      | none =>
        have hrows : rows = [] := Classical.byContradiction fun h => by have := hne h; cases this
        subst hrows
        have : ns = [] := List.eq_nil_of_length_eq_zero h2
        subst this
        simp [Conv.bytesToString]
        rfl
      | some a =>
        have hl2 : (loadCells a rows.length).run P w = .ok (ns.map (Value.int .u8)).toArray w := by
          by_cases hrows : rows = []
          · subst hrows
            have : ns = [] := List.eq_nil_of_length_eq_zero h2
            subst this
            simp [loadCells, loadCellsFrom]
          · have := hne hrows
            simp only [Option.some.injEq] at this
            subst this
            have := run_loadCells_list (P := P) w ⟨b, off, none⟩ (ns.map (Value.int .u8)) hr.addr
            rwa [List.length_map, h2] at this
        rw [run_bytesToString w a rows.length cap ns hl2, foldl_push_bytes]
        simp
    exact OpR.value (by simp [execOp, hval]) (.str _) hH hk
  generalize hx1 : ρ x = u at ha
  cases ha <;> simp only [xop, fop, oK_none, oK_some] at hx
  case sl rows s a b off cap vs hne hc hs hf hr hv =>
    obtain ⟨v, hv1, hk⟩ := oK_elim hx
    exact key (s := s) hx1 hne hr hv.up hv1 hk
  case acc id s rows a b off cap vs hne hc hs hf hid hr hv hl =>
    obtain ⟨v, hv1, hk⟩ := oK_elim hx
    exact key (s := s) hx1 hne hr hv.up hv1 hk
  case nilsl =>
    exact key (s := 0) (rows := []) (b := 0) (off := 0) (vs := []) (v := .str []) hx1 (fun h => absurd rfl h) (fun i v hi => by simp at hi) .nil rfl hx

end Go.Ab
end
section
namespace Go.Ab
set_option linter.unusedVariables false
set_option linter.unusedSimpArgs false

variable {P : Program} {g : Ghost} {n : Nat} {w : World} {H : Heap} {ρ : Operand → Value} {K : AV → Nat → Heap → Prop}
  {dst : Option Tmp} {type : TypeId} {pos : String} {after : Array Edge} {guard : Option (Nat × Bool)}

theorem get_lt {α : Type} {l : List α} {i : Nat} {v : α} (h : l[i]? = some v) : i < l.length := by
  rcases Nat.lt_or_ge i l.length with h' | h'
  · exact h'
  · rw [List.getElem?_eq_none h'] at h; cases h

theorem srcV_rel {y : AV} {c : Value} {m size : Nat} {ys : List AV} (hv : VRel g n w y c) (hH : HRel g n H w) (h : srcV H size y = some (m, ys)) :
    ∃ a cap, c = .slice a m cap ∧ ys.length = m * size ∧ (m ≠ 0 → ∃ b off vs, a = some ⟨b, off, none⟩ ∧ Run w b off vs ∧ VRels g n w ys vs) := by
  cases hv <;> simp only [srcV, reduceCtorEq] at h
  case nilsl => simp only [Option.some.injEq, Prod.mk.injEq] at h; obtain ⟨rfl, rfl⟩ := h; exact ⟨none, 0, rfl, by simp, fun h => absurd rfl h⟩
  case sl rows s a b off cap vs hne hc hs hf hr hv =>
    split at h
    · rename_i hok
      simp only [Option.some.injEq, Prod.mk.injEq] at h; obtain ⟨rfl, rfl⟩ := h
      exact ⟨a, cap, rfl, flatten_length (fun r hr => (hok r hr).1), fun h => ⟨b, off, vs, hne (by rintro rfl; simp at h), hr, hv.up⟩⟩
    · cases h
  case acc id s rows a b off cap vs hne hc hs hf hid hr hv hl =>
    split at h
    · rename_i hok
      simp only [Option.some.injEq, Prod.mk.injEq] at h; obtain ⟨rfl, rfl⟩ := h
      exact ⟨a, cap, rfl, flatten_length (fun r hr => (hok r hr).1), fun h => ⟨b, off, vs, hne (by rintro rfl; simp at h), hr, hv.up⟩⟩
    · cases h
  case ref id s off len cap hk hc hid hr =>
    split at h
    · rename_i cells hg
      split at h
      · rename_i hle
        simp only [Option.some.injEq, Prod.mk.injEq] at h; obtain ⟨rfl, rfl⟩ := h
        obtain ⟨rfl, hle⟩ := hle
        obtain ⟨vs, hrun, hvs⟩ := own_run hH hg
        refine ⟨_, cap, rfl, by rw [List.length_take, List.length_drop]; omega, fun _ => ⟨g.β id, off, (vs.drop off).take (len * s), rfl, ?_, (hvs.drop _).take _⟩⟩
        have := (hrun.drop off).take (len * s)
        rwa [Nat.zero_add] at this
      · cases h
    · cases h
  case vec id ver s off len a cap hid hl =>
    split at h
    · rename_i v z cells hg
      split at h
      · rename_i hle
        simp only [Option.some.injEq, Prod.mk.injEq] at h; obtain ⟨rfl, rfl⟩ := h
        obtain ⟨rfl, rfl, hle⟩ := hle
        obtain ⟨hfr, vs, hrun, hvs⟩ := vob_run hH hg
        obtain ⟨_, hloc⟩ := hl _ hfr
        obtain ⟨rfl, _, _⟩ := hloc rfl
        refine ⟨_, cap, rfl, by rw [List.length_take, List.length_drop]; omega, fun _ => ⟨g.β id, off, (vs.drop off).take (len * s), rfl, ?_, (hvs.drop _).take _⟩⟩
        have := (hrun.drop off).take (len * s)
        rwa [Nat.zero_add] at this
      · cases h
    · cases h

/-- The owned vector lies in block b from now on, under a greater version. -/
theorem vec_moved {H : Heap} {w' : World} {id ver s s0 len cap b : Nat} {cells cells' : List AV} {cs : Array Value} {el : TypeId} {vs' : List Value} (hH : HRel g n H w) (hg : hget H id = some (.vob ver s0 cells))
    (hb : b = g.β id ∨ w.heap.size ≤ b) (hsz : w.heap.size ≤ w'.heap.size) (hold : ∀ j, j < w.heap.size → j ≠ g.β id → w'.heap[j]? = w.heap[j]?) (hroom : ∀ b k, room w b k → room w' b k) (ho : Oth w w')
    (hblk : w'.heap[b]? = some (.cells cs el (0, 0))) (hcs : cap * s ≤ cs.size) (hlen : len ≤ cap) (hcv : ∀ (i : Nat) (v : Value), vs'[i]? = some v → cs[i]? = some v)
    (hvs : ∀ g', Ext n g w g' w' → VRels g' n w' cells' vs') (hk : K (.vec id (ver + 1) s 0 len) n (hset H id (.vob (ver + 1) s cells'))) : Out g n w H K (.slice (some ⟨b, 0, none⟩) len cap) w' := by
  rw [hset_eq id _ hH.apart] at hk
  obtain ⟨hidn, hfr, hphi, c0, el0, vs0, hblk0, _, _⟩ := hH.ent _ (hget_mem hg)
  have hphib : g.φ b = 0 := by
    rcases hb with rfl | hb
    · exact hphi
    · exact hH.phi0 hb
  have hext : Ext n g w ⟨upd g.β id b, upd g.fr id (some (ver + 1)), g.φ⟩ w' := by
    refine ⟨fun b' j hj => ?_, fun _ => Nat.le_refl _, fun id' hid' => ?_, hroom⟩
    · have hlt : b' < w.heap.size := room_lt (hH.fsz b' (by omega))
      have hne : b' ≠ g.β id := by rintro rfl; rw [hphi] at hj; omega
      simp only [World.cell?, hold b' hlt hne]
    · by_cases hi : id' = id
      · subst hi
        exact .inr ⟨_, _, hfr, upd_same _ _ _, Nat.lt_succ_self _⟩
      · exact .inl ⟨upd_ne _ _ hi, upd_ne _ _ hi⟩
  refine ⟨.vec id (ver + 1) s 0 len, n, _, ⟨upd g.β id b, upd g.fr id (some (ver + 1)), g.φ⟩, hk, Nat.le_refl _, ?_, ?_, ?_⟩
  · have e : (some (Addr.mk b 0 none)) = some (Addr.mk ((upd g.β id b) id) 0 none) := by rw [upd_same]
    refine .vec id (ver + 1) s 0 len _ cap hidn (fun m hm => ?_)
    have hm' : upd g.fr id (some (ver + 1)) id = some m := hm
    rw [upd_same] at hm'; cases hm'
    refine ⟨Nat.le_refl _, fun _ => ⟨e, hlen, ?_⟩⟩
    show room w' (upd g.β id b id) _
    rw [upd_same, Nat.zero_add]
    exact ⟨cs, el, _, hblk, hcs⟩
  · refine hH.set (hget_mem hg) hext (fun p hp hpi => ⟨upd_ne _ _ hpi, upd_ne _ _ hpi, rfl, hold _ (hH.ent p hp).2.lt (apart_of hH hp (hget_mem hg) hpi)⟩) ?_ ?_ (fun b' hb' => hext.rooms _ _ (hH.fsz b' hb'))
    · show upd g.β id b id = g.β id ∨ w.heap.size ≤ upd g.β id b id
      rw [upd_same]; exact hb
    · refine ⟨upd_same _ _ _, ?_, cs, el, vs', ?_, hcv, hvs _ hext⟩
      · show g.φ (upd g.β id b id) = 0
        rw [upd_same]; exact hphib
      · show w'.heap[upd g.β id b id]? = _
        rw [upd_same]; exact hblk
  · refine { hext with size := hsz, old := fun b' hb' hno => ⟨hold b' hb' (fun e => hno _ (hget_mem hg) e.symm), rfl⟩, owns := fun p hp => ?_, oth := ho }
    rcases mem_hset hp with rfl | ⟨hpi, hp⟩
    · show (∃ q ∈ H, g.β q.1 = upd g.β id b id) ∨ w.heap.size ≤ upd g.β id b id
      rw [upd_same]
      rcases hb with rfl | hb
      · exact .inl ⟨_, hget_mem hg, rfl⟩
      · exact .inr hb
    · exact .inl ⟨p, hp, (upd_ne _ _ hpi).symm⟩

theorem snd_appV {t e : TypeId} {i : TypeInfo} {args : Array Operand} {as : List AV} (ht : P.underlying t = some (.slice e)) (hi : P.info? e = some i) (hz : i.zero.isSome) (hzs : (i.zero.map fun z => z.cells.size) = some i.size)
    (ha : VRels g n w as (args.toList.map ρ)) (hH : HRel g n H w) (hx : xop P (.appV i.size i.bytes) as n H K) :
    OpR P ⟨dst, .call { callee := .builtin .append, args, argTypes := #[t, t] }, type, pos, after, guard⟩ ρ g n w H K := by
  obtain ⟨x, y, rfl⟩ : ∃ x y, as = [x, y] := by
    match as, hx with
    | [], hx => simp [xop, fop] at hx
    | [x], hx => simp [xop, fop] at hx
    | [x, y], hx => exact ⟨x, y, rfl⟩
    | _ :: _ :: _ :: _, hx => simp [xop, fop] at hx
  simp only [xop] at hx
  obtain ⟨hbytes, hx⟩ := hx
  have hx0 := oK_elim hx
  clear hx
  obtain ⟨⟨m, ys⟩, hys, hpl, hx⟩ := hx0
  dsimp only at hpl hx
  obtain ⟨z, hz⟩ := Option.isSome_iff_exists.mp hz
  have hzz : z.cells.size = i.size := by simpa [hz] using hzs
  obtain ⟨u, v, hargs, hu, hv⟩ : ∃ u v, args.map ρ = #[u, v] ∧ VRel g n w x u ∧ VRel g n w y v := by
    generalize hl : args.toList.map ρ = l at ha
    cases ha with | cons _ u _ _ h1 t1 =>
    cases t1 with | cons _ v _ _ h2 t2 =>
    cases t2
    exact ⟨u, v, by apply Array.ext'; simpa using hl, h1, h2⟩
  have exec : ∀ {c : Value} {w' : World}, (Builtin.append_ #[t, t] type #[u, v]).run P w = .ok c w' → (execOp ρ ⟨dst, .call { callee := .builtin .append, args, argTypes := #[t, t] }, type, pos, after, guard⟩).run P w = .ok (.value c) w' := by
    intro c w' h
    rw [BigFrame.execOp_builtin, BigFrame.builtin_append, hargs]
    simp [h]
  obtain ⟨ad2, cap2, rfl, hyl, hsrc⟩ := srcV_rel hv hH hys
  have hlm : lenMax = 4294967296 := rfl
  have hH2 : HRel g n H w.drew := hH.drew rfl (Ext.same rfl)
  cases x <;> simp only at hx
  case nilsl =>
    cases hu
    obtain ⟨hlen, h1, h2⟩ := hx
    by_cases he : m = 0
    · subst he
      exact OpR.value (exec (run_append_empty ht hi none ad2 0 0 cap2 (Nat.le_refl _))) .nilsl hH (h1 rfl)
    · obtain ⟨b, off, vs, rfl, hr, hvs⟩ := hsrc he
      have hl := hvs.length
      rw [hyl] at hl
      have hb48 : m * i.bytes ≤ 281474976710656 := Nat.le_trans (Nat.mul_le_mul hlen hbytes) (by rw [hlm]; omega)
      have hrun := run_append_nil (P := P) w t type e i z ht hi hz ⟨b, off, none⟩ m cap2 vs hl.symm hr.addr (by omega) (by rw [hlm] at hlen; omega) hb48
      refine OpR.out (exec hrun) ?_
      have hcap := grownCap_ge w m 0 e
      have hzc : (Builtin.zeroCells z.cells (grownCap w m 0 e - m)).size = (grownCap w m 0 e - m) * i.size := by rw [size_zeroCells, hzz]
      refine Out.grow (n1 := n) ?_ (Nat.le_refl _) (Grow.same (w' := w.drew) rfl ⟨rfl, rfl, rfl⟩)
      refine new_vec (w := w.drew) hH2 (hvs.ext (Ext.same (n := n) (g := g) (w := w) (w' := w.drew) rfl) (Nat.le_refl _)) hcap ?_ (h2 he)
      rw [hzc, ← hl, ← Nat.add_mul]
      exact Nat.le_of_eq (by congr 1; omega)
  case vec id ver s off len =>
    obtain ⟨sz, cells, hg, ⟨rfl, rfl, hfit, hlen⟩, hk⟩ := vget_elim hx
    obtain ⟨hidn, hfr, hphi, c, el, vs, hblk, hcv, hvs⟩ := hH.ent _ (hget_mem hg)
    cases hu with | vec _ _ _ _ _ ad cap hid hloc =>
    obtain ⟨_, hloc2⟩ := hloc _ hfr
    obtain ⟨rfl, hcap, c', el', fz, hblk', hcapsz⟩ := hloc2 rfl
    rw [hblk] at hblk'
    cases hblk'
    rw [Nat.zero_add] at hcapsz
    have hvl := hvs.length
    have hcs : vs.length ≤ c.size := by
      rcases Nat.lt_or_ge c.size vs.length with h' | h'
      · have := hcv c.size vs[c.size] (by rw [List.getElem?_eq_getElem h'])
        simp at this
      · exact h'
    have hx1 := hvs.take (len * i.size)
    have hvtl : (vs.take (len * i.size)).length = len * i.size := by rw [List.length_take]; omega
    have hcvt : ∀ (j : Nat) (v : Value), (vs.take (len * i.size))[j]? = some v → c[j]? = some v := fun j v hj => by
      rw [List.getElem?_take] at hj
      split at hj
      · exact hcv j v hj
      · cases hj
    by_cases he : m = 0
    · subst he
      have hys0 : ys = [] := List.eq_nil_of_length_eq_zero (by simpa using hyl)
      subst hys0
      refine OpR.out (exec (run_append_empty ht hi _ ad2 len cap cap2 hcap)) ?_
      exact vec_moved (cells' := cells.take (len * i.size) ++ []) (vs' := vs.take (len * i.size)) hH hg (.inl rfl) (Nat.le_refl _) (fun _ _ _ => rfl) (fun _ _ h => h) (Oth.refl w) hblk hcapsz hcap hcvt
        (fun g' hx => by rw [List.append_nil]; exact hx1.ext hx (Nat.le_refl _)) hk
    obtain ⟨b2, off2, vs2, rfl, hr2, hvs2⟩ := hsrc he
    have hl2 := hvs2.length
    rw [hyl] at hl2
    have hone := plain_all hvs2 hpl
    have hcells : ∀ (g' : Ghost) (w' : World), Ext n g w g' w' → VRels g' n w' (cells.take (len * i.size) ++ ys) (vs.take (len * i.size) ++ vs2) := fun g' w' hx =>
      (hx1.append hvs2).ext hx (Nat.le_refl _)
    by_cases hroom : len + m ≤ cap
    · have hmul : (len + m) * i.size ≤ cap * i.size := Nat.mul_le_mul_right _ hroom
      rw [Nat.add_mul] at hmul
      have hfits : len * i.size + vs2.length ≤ c.size := by omega
      have hrun := run_append_room2 (P := P) (ty := type) (w := w) ht hi hblk (c := cap2) hl2.symm hr2.addr hone hroom hfits
      generalize hcs2 : (c.toList.take (len * i.size) ++ vs2 ++ c.toList.drop (len * i.size + vs2.length)).toArray = cs at hrun
      have hcssz : cs.size = c.size := by subst hcs2; simp; omega
      refine OpR.out (exec hrun) ?_
      refine vec_moved (cs := cs) (vs' := vs.take (len * i.size) ++ vs2) hH hg (.inl rfl) (by simp) (fun j _ hj => setRow_other w _ _ cs hj) (fun b k h => room_setRow hblk hcssz h) ⟨rfl, rfl, rfl⟩ (setRow_heap w _ c cs el (0, 0) hblk) (by omega) hroom ?_ (fun g' hx => hcells g' _ hx) hk
      intro j v hj
      subst hcs2
      simp only [List.getElem?_toArray]
      rw [List.append_assoc]
      rw [List.getElem?_append] at hj ⊢
      rw [hvtl] at hj
      have htl : (c.toList.take (len * i.size)).length = len * i.size := by rw [List.length_take, Array.length_toList]; omega
      rw [htl]
      split at hj
      · rename_i hlt
        rw [if_pos hlt, List.getElem?_take_of_lt hlt]
        have := hcvt j v hj
        simpa using this
      · rename_i hlt
        rw [if_neg hlt, List.getElem?_append_left (get_lt hj)]
        exact hj
    · have hneed : len + m ≤ 4294967296 := by rw [hlm] at hlen; exact hlen
      have hcap' : cap < len + m := by omega
      have hb47 : (len + m) * i.bytes ≤ 140737488355328 := Nat.le_trans (Nat.mul_le_mul hneed hbytes) (by omega)
      have hr0 : ∀ (j : Nat) (v : Value), (vs.take (len * i.size))[j]? = some v → w.cell? ((⟨g.β id, 0, none⟩ : Addr).add j) = some v := fun j v hj => by
        rw [Addr.add_lit, Nat.zero_add]
        have := hcvt j v hj
        simpa [World.cell?, hblk] using this
      have hrun := run_append_grow (P := P) w t type e i z ht hi hz ⟨g.β id, 0, none⟩ len cap (vs.take (len * i.size)) hvtl hr0 ⟨b2, off2, none⟩ m cap2 vs2 hl2.symm hr2.addr hcap' (by omega) (growslice_fits hcap' hb47)
      have hcapg := grownCap_ge w (len + m) cap e
      generalize grownCap w (len + m) cap e = nc at hrun hcapg
      have hzc : (Builtin.zeroCells z.cells (nc - (len + m))).size = (nc - (len + m)) * i.size := by rw [size_zeroCells, hzz]
      generalize Builtin.zeroCells z.cells (nc - (len + m)) = zc at hrun hzc
      refine OpR.out (exec hrun) ?_
      refine Out.grow (n1 := n) ?_ (Nat.le_refl _) (Grow.same (w' := w.drew) rfl ⟨rfl, rfl, rfl⟩)
      have hsz2 : w.drew.heap.size = w.heap.size := rfl
      have hall : ((vs.take (len * i.size)).toArray ++ vs2.toArray ++ zc) = (vs.take (len * i.size) ++ vs2).toArray ++ zc := by apply Array.ext'; simp
      rw [hall]
      generalize hw2 : w.drew.alloc (.cells ((vs.take (len * i.size) ++ vs2).toArray ++ zc) e) = w2
      have hnewblk : w2.heap[w.heap.size]? = some (.cells ((vs.take (len * i.size) ++ vs2).toArray ++ zc) e (0, 0)) := by rw [← hw2, ← hsz2]; exact heap_alloc_new
      have hvlen : (vs.take (len * i.size) ++ vs2).length = (len + m) * i.size := by rw [List.length_append, hvtl, ← hl2, Nat.add_mul]
      refine vec_moved (w := w.drew) (cs := (vs.take (len * i.size) ++ vs2).toArray ++ zc) (vs' := vs.take (len * i.size) ++ vs2) hH2 hg (.inr (Nat.le_refl _)) (by rw [← hw2, World.size_alloc]; exact Nat.le_succ _)
        (fun j hj _ => by rw [← hw2]; exact heap_alloc_lt (w := w.drew) hj) (fun b k h => ?_) (by rw [← hw2]; exact ⟨rfl, rfl, rfl⟩) hnewblk ?_ hcapg ?_ (fun g' hx => ?_) hk
      · obtain ⟨c', el', fz, h1, h2⟩ := h
        exact ⟨c', el', fz, by rw [← hw2, heap_alloc_lt (w := w.drew) (room_lt (w := w.drew) ⟨c', el', fz, h1, h2⟩)]; exact h1, h2⟩
      · rw [Array.size_append, List.size_toArray, hvlen, hzc, ← Nat.add_mul]
        exact Nat.le_of_eq (by congr 1; omega)
      · intro j v hj
        rw [Array.getElem?_append_left (by simpa using get_lt hj)]
        simpa using hj
      · exact ((hx1.append hvs2).ext (Ext.same (n := n) (g := g) (w := w) (w' := w.drew) rfl) (Nat.le_refl _)).ext hx (Nat.le_refl _)

theorem vob_store {id ver s off : Nat} {cells xs : List AV} {news : List Value} {c : Array Value} {el : TypeId} {vs : List Value} (hH : HRel g n H w) (hg : hget H id = some (.vob ver s cells)) (hblk : w.heap[g.β id]? = some (.cells c el (0, 0)))
    (hcv : ∀ (i : Nat) (v : Value), vs[i]? = some v → c[i]? = some v) (hvs : VRels g n w cells vs) (hrel : VRels g n w xs news) (hle : off + xs.length ≤ cells.length) :
    HRel g n (hsetM H id (.vob ver s (setCells cells off xs))) (w.setRow (g.β id) (c.toList.take off ++ news ++ c.toList.drop (off + news.length)).toArray) ∧
    Grow n g w H g (w.setRow (g.β id) (c.toList.take off ++ news ++ c.toList.drop (off + news.length)).toArray) (hsetM H id (.vob ver s (setCells cells off xs))) := by
  obtain ⟨hlt, hfr, hphi, c0, el0, vs0, hblk0, _, _⟩ := hH.ent _ (hget_mem hg)
  have hlen := hrel.length
  have hvl := hvs.length
  have hcl : vs.length ≤ c.size := by
    rcases Nat.lt_or_ge c.size vs.length with h' | h'
    · have := hcv c.size vs[c.size] (by rw [List.getElem?_eq_getElem h'])
      simp at this
    · exact h'
  generalize hcs : (c.toList.take off ++ news ++ c.toList.drop (off + news.length)).toArray = cs
  have hcssz : cs.size = c.size := by subst hcs; simp; omega
  have hcell0 : ∀ b i, i < g.φ b → (w.setRow (g.β id) cs).cell? ⟨b, i, none⟩ = w.cell? ⟨b, i, none⟩ := fun b i hi => by
    refine cell_setRow_other w (g.β id) cs ⟨b, i, none⟩ ?_
    rintro rfl
    rw [hphi] at hi; exact absurd hi (Nat.not_lt_zero _)
  have hext : Ext n g w g (w.setRow (g.β id) cs) :=
    ⟨hcell0, fun _ => Nat.le_refl _, fun _ _ => .inl ⟨rfl, rfl⟩, fun b k h => room_setRow hblk hcssz h⟩
  refine ⟨?_, { hext with size := by simp, old := fun b hb hno => ?_, owns := fun p hp => ?_, oth := ⟨rfl, rfl, rfl⟩ }⟩
  · refine hH.set (hget_mem hg) hext (fun p hp hpi => ⟨rfl, rfl, rfl, setRow_other w _ _ cs (apart_of hH hp (hget_mem hg) hpi)⟩) (.inl rfl) ?_ (fun b hb => room_setRow hblk hcssz (hH.fsz b hb))
    refine ⟨hfr, hphi, cs, el, vs.take off ++ news ++ vs.drop (off + news.length), setRow_heap w _ c cs el (0, 0) hblk, ?_, ?_⟩
    · intro j v hj
      subst hcs
      simp only [List.getElem?_toArray]
      rw [List.append_assoc] at hj ⊢
      rw [List.getElem?_append] at hj ⊢
      simp only [List.length_take, Array.length_toList] at hj ⊢
      by_cases h1 : j < off
      · rw [if_pos (by omega)] at hj ⊢
        rw [List.getElem?_take_of_lt h1] at hj ⊢
        have := hcv j v hj
        simpa using this
      · rw [if_neg (by omega)] at hj ⊢
        have e2 : min off vs.length = off := by omega
        have e3 : min off c.size = off := by omega
        rw [e2] at hj; rw [e3]
        rw [List.getElem?_append] at hj ⊢
        by_cases h2 : j - off < news.length
        · rw [if_pos h2] at hj ⊢; exact hj
        · rw [if_neg h2] at hj ⊢
          rw [List.getElem?_drop] at hj ⊢
          have := hcv _ v hj
          simpa using this
    · have := ((hvs.take off).append hrel).append (hvs.drop (off + news.length))
      unfold setCells
      rw [hlen]
      exact this.ext hext (Nat.le_refl _)
  · exact ⟨setRow_other w _ _ cs (fun e => hno _ (hget_mem hg) e.symm), rfl⟩
  · rcases mem_hset hp with rfl | ⟨_, hp⟩
    · exact .inl ⟨_, hget_mem hg, rfl⟩
    · exact .inl ⟨p, hp, rfl⟩

/-- clear, of an owned vector. -/
theorem snd_clr {t e : TypeId} {i : TypeInfo} {z : Value} {args : Array Operand} {ats : Array TypeId} {as : List AV} (hat : ats[0]? = some t) (ht : P.underlying t = some (.slice e)) (hi : P.info? e = some i) (hz : i.zero = some z) (hzs : z.cells.size = i.size) (hs : args.size = 1)
    (ha : VRels g n w as (args.toList.map ρ)) (hH : HRel g n H w) (hx : xop P (.clr i.size (z.cells.toList.map avCell)) as n H K) : OpR P ⟨dst, .call { callee := .builtin .clear, args, argTypes := ats }, type, pos, after, guard⟩ ρ g n w H K := by
  obtain ⟨x, rfl⟩ := one_arg hs
  simp only [List.map_cons, List.map_nil] at ha
  generalize hx1 : ρ x = u at ha
  cases ha with | cons a _ _ _ h1 t1 =>
  cases t1
  cases h1 <;> simp only [xop, fop, oK_none, oK_some] at hx
  case vec id ver s off len a cap hid hl =>
    obtain ⟨zz, cells, hg, ⟨rfl, hzl, hle, hpl⟩, hk⟩ := vget_elim hx
    rw [hset_eq id _ hH.apart] at hk
    obtain ⟨hidn, hfr, hphi, c, el, vs, hblk, hcv, hvs⟩ := hH.ent _ (hget_mem hg)
    obtain ⟨_, hloc⟩ := hl _ hfr
    obtain ⟨rfl, hcap, hroom⟩ := hloc rfl
    have hvl := hvs.length
    have hcl : vs.length ≤ c.size := by
      rcases Nat.lt_or_ge c.size vs.length with h' | h'
      · have := hcv c.size vs[c.size] (by rw [List.getElem?_eq_getElem h'])
        simp at this
      · exact h'
    have hzl' : z.cells.toList.length = i.size := by rw [Array.length_toList]; exact hzs
    have hnl : ((List.replicate len z.cells.toList).flatten).length = len * i.size := by
      rw [flatten_length (s := i.size) (fun r hr => by rw [List.eq_of_mem_replicate hr]; exact hzl'), List.length_replicate]
    have hrel : VRels g n w (List.replicate len (z.cells.toList.map avCell)).flatten (List.replicate len z.cells.toList).flatten := (avCells_rel _).replicate _
    have hxl := hrel.length
    rw [hnl] at hxl
    have hone : ∀ u ∈ (List.replicate len z.cells.toList).flatten, u.oneCell' = true := by
      intro u hu
      obtain ⟨r, hr, hur⟩ := List.mem_flatten.mp hu
      rw [List.eq_of_mem_replicate hr] at hur
      exact plain_all (avCells_rel (g := g) (n := n) (w := w) z.cells.toList) hpl u hur
    obtain ⟨hH', hG⟩ := vob_store (off := off) (xs := (List.replicate len (z.cells.toList.map avCell)).flatten) (news := (List.replicate len z.cells.toList).flatten) hH hg hblk hcv hvs hrel (by rw [hxl]; exact hle)
    by_cases h0 : len = 0
    · subst h0
      have hrun : (execOp ρ ⟨dst, .call { callee := .builtin .clear, args := #[x], argTypes := ats }, type, pos, after, guard⟩).run P w = .ok (.value (.tuple #[])) w := by
        rw [BigFrame.execOp_builtin, BigFrame.builtin_clear]
        simp [Builtin.clear_, hat, run_underlying ht, hx1]
      refine OpR.out hrun ?_
      have e : setCells cells off (List.replicate 0 (z.cells.toList.map avCell)).flatten = cells := by simp [setCells]
      rw [e] at hk
      refine ⟨.tup [], n, _, g, hk, Nat.le_refl _, .tup [] [] .nil, ?_, { Ext.refl n g w with size := Nat.le_refl _, old := fun _ _ _ => ⟨rfl, rfl⟩, owns := fun p hp => ?_, oth := Oth.refl w }⟩
      · exact hH.set (hget_mem hg) (Ext.refl _ _ _) (fun p hp hpi => ⟨rfl, rfl, rfl, rfl⟩) (.inl rfl) (hH.ent _ (hget_mem hg)).2 hH.fsz
      · rcases mem_hset hp with rfl | ⟨_, hp⟩
        · exact .inl ⟨_, hget_mem hg, rfl⟩
        · exact .inl ⟨p, hp, rfl⟩
    · have hst := run_storeCells_at P (g.β id) off el (List.replicate len z.cells.toList).flatten 0 c w hblk (by simp only [Nat.add_zero]; omega) hone
      simp only [Nat.add_zero] at hst
      have hzc : (Builtin.zeroCells z.cells len).toList = (List.replicate len z.cells.toList).flatten := by
        have := madeCells_toList z.cells i.size hzs len
        rw [← this, ← hzs]; rfl
      have hrun : (execOp ρ ⟨dst, .call { callee := .builtin .clear, args := #[x], argTypes := ats }, type, pos, after, guard⟩).run P w = .ok (.value (.tuple #[])) (w.setRow (g.β id) (c.toList.take off ++ (List.replicate len z.cells.toList).flatten ++ c.toList.drop (off + ((List.replicate len z.cells.toList).flatten).length)).toArray) := by
        rw [BigFrame.execOp_builtin, BigFrame.builtin_clear]
        simp only [List.map_toArray, List.map_cons, List.map_nil, Builtin.clear_, hat, hx1]
        obtain ⟨len, rfl⟩ : ∃ k, len = k + 1 := ⟨len - 1, by omega⟩
        simp [run_underlying ht, zeroValue, typeInfo, hi, hz, hzc, hst]
      exact OpR.out hrun ⟨.tup [], n, _, g, hk, Nat.le_refl _, .tup [] [] .nil, hH', hG⟩

theorem snd_capL {t e : TypeId} {args : Array Operand} {ats : Array TypeId} {as : List AV} (hat : ats[0]? = some t) (ht : P.underlying t = some (.slice e)) (hs : args.size = 1)
    (ha : VRels g n w as (args.toList.map ρ)) (hH : HRel g n H w) (hx : xop P .capL as n H K) : OpR P ⟨dst, .call { callee := .builtin .cap, args, argTypes := ats }, type, pos, after, guard⟩ ρ g n w H K := by
  obtain ⟨x, rfl⟩ := one_arg hs
  simp only [List.map_cons, List.map_nil] at ha
  generalize hx1 : ρ x = u at ha
  cases ha with | cons a _ _ _ h1 t1 =>
  cases t1
  cases h1 <;> simp only [xop, fop, oK_none, oK_some] at hx
  refine OpR.value (c := .int .i64 0) ?_ (.int _ _) hH hx
  rw [BigFrame.execOp_builtin, BigFrame.builtin_cap]
  simp [Builtin.cap_, hat, run_underlying ht, hx1, goInt]
end Go.Ab
end
section
namespace Go.Ab
set_option linter.unusedVariables false
set_option linter.unusedSimpArgs false

variable {P : Program} {g : Ghost} {n : Nat} {w : World} {H : Heap} {ρ : Operand → Value} {K : AV → Nat → Heap → Prop}

theorem VRels.one {as : List AV} {c : Value} (h : VRels g n w as [c]) : ∃ a, as = [a] ∧ VRel g n w a c := by
  cases h with | cons a _ _ _ h t => cases t; exact ⟨a, rfl, h⟩
theorem VRels.two {as : List AV} {c d : Value} (h : VRels g n w as [c, d]) : ∃ a b, as = [a, b] ∧ VRel g n w a c ∧ VRel g n w b d := by
  cases h with | cons a _ _ _ h t => obtain ⟨b, rfl, h2⟩ := t.one; exact ⟨a, b, rfl, h, h2⟩
theorem VRels.three {as : List AV} {c d e : Value} (h : VRels g n w as [c, d, e]) : ∃ a b k, as = [a, b, k] ∧ VRel g n w a c ∧ VRel g n w b d ∧ VRel g n w k e := by
  cases h with | cons a _ _ _ h t => obtain ⟨b, k, rfl, h2, h3⟩ := t.two; exact ⟨a, b, k, rfl, h, h2, h3⟩

theorem xop_sound {m : Nat} {o : Oper} {x : XO} (hc : cOp P m o.op = some x) {as : List AV} (hv : VRels g n w as (o.op.operands.toList.map ρ)) (hH : HRel g n H w) (hx : xop P x as n H K) : OpR P o ρ g n w H K := by
  obtain ⟨dst, op, type, pos, after, guard⟩ := o
  simp only at hc hv
  cases op <;> simp only [cOp, reduceCtorEq] at hc
  case move y =>
    cases hc
    obtain ⟨a, rfl, h⟩ := VRels.one (by simpa [Op.operands] using hv)
    exact snd_mv h hH hx
  case assign y =>
    cases hc
    obtain ⟨a, rfl, h⟩ := VRels.one (by simpa [Op.operands] using hv)
    exact snd_as h hH hx
  case pick c y z =>
    cases hc
    obtain ⟨a, b, k, rfl, h1, h2, h3⟩ := VRels.three (by simpa [Op.operands] using hv)
    exact snd_pick h1 h2 h3 hH hx
  case alloc e =>
    rw [Option.map_eq_some_iff] at hc
    obtain ⟨z, hz, rfl⟩ := hc
    have hnil : as = [] := by
      have : VRels g n w as [] := by simpa [Op.operands] using hv
      cases this; rfl
    subst hnil
    exact snd_alloc hz hH hx
  case box e y =>
    obtain ⟨a, rfl, h⟩ := VRels.one (by simpa [Op.operands] using hv)
    split at hc <;> cases hc
    · exact snd_boxO h hH hx
    · exact snd_boxF h hH hx
  case build t parts =>
    split at hc
    · rename_i fs z hfs hz
      split at hc
      · rename_i hcond
        cases hc
        simp only [Bool.and_eq_true] at hcond
        exact snd_build hfs hz hcond.1 hcond.2 (by simpa [Op.operands] using hv) hH hx
      · cases hc
    · cases hc
  case buildSlice t len parts =>
    split at hc
    · rename_i e he
      have ht : P.underlying t = some (.slice e) := by
        unfold elemOfSl at he; split at he
        · rename_i h; cases he; exact h
        · cases he
      split at hc
      · rename_i i hi
        split at hc
        · rename_i hcond
          cases hc
          exact snd_bsl ht hi hcond.1 hcond.2.1 hcond.2.2.1 hcond.2.2.2.1 hcond.2.2.2.2 (by simpa [Op.operands] using hv) hH hx
        · cases hc
      · cases hc
    · cases hc
  case load t y =>
    rw [Option.map_eq_some_iff] at hc
    obtain ⟨s, hs, rfl⟩ := hc
    obtain ⟨a, rfl, h⟩ := VRels.one (by simpa [Op.operands] using hv)
    exact snd_ld hs h hH hx
  case store t y z =>
    split at hc
    · rename_i s hs
      split at hc
      · rename_i hsz
        cases hc
        obtain ⟨a, b, rfl, h1, h2⟩ := VRels.two (by simpa [Op.operands] using hv)
        exact snd_st hs hsz h1 h2 hH hx
      · cases hc
    · cases hc
  case binOp op t y z yt =>
    obtain ⟨a, b, rfl, h1, h2⟩ := VRels.two (by simpa [Op.operands] using hv)
    split at hc
    · cases hc; exact snd_bin h1 h2 hH hx
    · cases hc; exact snd_bin h1 h2 hH hx
    · rename_i hu
      split at hc
      · rename_i hop; cases hc; exact snd_binB hu hop h1 h2 hH hx
      · cases hc
    · rename_i e hu
      split at hc
      · rename_i hop; subst hop; cases hc; exact snd_eqNil hu h1 h2 hH hx
      · cases hc
    · split at hc
      · rename_i hop
        rw [Option.map_eq_some_iff] at hc
        obtain ⟨k, hk, rfl⟩ := hc
        exact snd_eqS hk hop h1 h2 hH hx
      · cases hc
    · cases hc
  case unOp op t y =>
    split at hc
    · cases hc
      obtain ⟨a, rfl, h⟩ := VRels.one (by simpa [Op.operands] using hv)
      exact snd_un h hH hx
    · cases hc
  case convert src d y =>
    obtain ⟨a, rfl, h⟩ := VRels.one (by simpa [Op.operands] using hv)
    split at hc
    · rename_i h1 h2; cases hc; exact snd_cvI h1 h2 h hH hx
    · rename_i h1 h2; cases hc; exact snd_cvIS h1 h2 h hH hx
    · rename_i h1 h2; cases hc; exact snd_cvSS h1 h2 h hH hx
    · rename_i h1 h2
      split at hc
      · rename_i h3; cases hc; exact snd_cvBS h1 h3 h2 h hH hx
      · cases hc
    · cases hc
  case makeFunc fn first cap =>
    cases fn <;> simp only [reduceCtorEq] at hc
    split at hc
    · rename_i hf; cases hc; exact snd_mkfn hf (by simpa [Op.operands] using hv) hH hx
    · cases hc
  case makeSlice t l c =>
    obtain ⟨a, b, rfl, h1, h2⟩ := VRels.two (by simpa [Op.operands] using hv)
    split at hc
    · rename_i e he
      have ht : P.underlying t = some (.slice e) := by
        unfold elemOfSl at he; split at he
        · rename_i h; cases he; exact h
        · cases he
      split at hc
      · rename_i i hi
        split at hc
        · rename_i z hz
          split at hc
          · rename_i hzs; cases hc; exact snd_mks ht hi hz hzs h1 h2 hH hx
          · cases hc
        · cases hc
      · cases hc
    · cases hc
  case slice t y lo hi mx =>
    cases mx with
    | some _ => cases hc
    | none =>
      have hv' : VRels g n w as (ρ y :: (lo.toList ++ hi.toList).map ρ) := by
        have e : (Op.slice t y lo hi none).operands.toList.map ρ = ρ y :: (lo.toList ++ hi.toList).map ρ := by
          cases lo <;> cases hi <;> rfl
        rwa [e] at hv
      simp only at hc
      split at hc
      · rename_i hu; cases hc; exact snd_slS hu hv' hH hx
      · rename_i e hu
        rw [Option.map_eq_some_iff] at hc
        obtain ⟨i, hi', rfl⟩ := hc
        exact snd_slL hu hi' hv' hH hx
      · cases hc
  case fieldAddr t y f =>
    obtain ⟨a, rfl, h⟩ := VRels.one (by simpa [Op.operands] using hv)
    split at hc
    · rename_i fs hfs
      split at hc
      · rename_i fd hfd
        split at hc
        · rename_i hcond; cases hc; exact snd_fldA hfs hfd hcond.1 hcond.2 h hH hx
        · cases hc
      · cases hc
    · cases hc
  case field t y f =>
    obtain ⟨a, rfl, h⟩ := VRels.one (by simpa [Op.operands] using hv)
    split at hc
    · rename_i fs hfs
      split at hc
      · rename_i fd hfd
        rw [Option.map_eq_some_iff] at hc
        obtain ⟨s, hs, rfl⟩ := hc
        exact snd_fld hfs hfd hs h hH hx
      · cases hc
    · cases hc
  case indexAddr t y z =>
    obtain ⟨a, b, rfl, h1, h2⟩ := VRels.two (by simpa [Op.operands] using hv)
    split at hc
    · rename_i e he
      have ht : P.underlying t = some (.slice e) := by
        unfold elemOfSl at he; split at he
        · rename_i h; cases he; exact h
        · cases he
      rw [Option.map_eq_some_iff] at hc
      obtain ⟨i, hi, rfl⟩ := hc
      exact snd_idxA ht hi h1 h2 hH hx
    · cases hc
  case index t y z =>
    obtain ⟨a, b, rfl, h1, h2⟩ := VRels.two (by simpa [Op.operands] using hv)
    split at hc
    · rename_i hu; cases hc; exact snd_idxS hu h1 h2 hH hx
    · cases hc
  case extract y i =>
    cases hc
    obtain ⟨a, rfl, h⟩ := VRels.one (by simpa [Op.operands] using hv)
    exact snd_ext h hH hx
  case call c =>
    obtain ⟨callee, args, ats⟩ := c
    simp only at hc
    cases callee with
    | value f =>
      cases hc
      exact snd_call (by simpa [Op.operands, Call.operands] using hv) hH hx
    | invoke r m => cases hc
    | builtin b =>
      have hv' : VRels g n w as (args.toList.map ρ) := by simpa [Op.operands, Call.operands] using hv
      cases b <;> simp only [reduceCtorEq] at hc
      case len =>
        split at hc
        · rename_i t ht
          split at hc
          · rename_i hu
            split at hc
            · rename_i hs; cases hc; exact snd_lenS ht hu hs hv' hH hx
            · cases hc
          · rename_i e hu
            split at hc
            · rename_i hs; cases hc; exact snd_lenL ht hu hs hv' hH hx
            · cases hc
          · cases hc
        · cases hc
      case append =>
        split at hc
        · rename_i t u hat
          have hat' : ats = #[t, u] := by apply Array.ext'; simpa using hat
          subst hat'
          split at hc
          · rename_i htu
            subst htu
            split at hc
            · rename_i e he
              have ht : P.underlying t = some (.slice e) := by
                unfold elemOfSl at he; split at he
                · rename_i h; cases he; exact h
                · cases he
              split at hc
              · rename_i i hi
                split at hc
                · rename_i hcond
                  simp only [Option.some.injEq] at hc
                  split at hc
                  · cases hc; exact snd_appV ht hi hcond.1 hcond.2.1 hv' hH hx
                  · cases hc; exact snd_app ht hi hcond.1 hcond.2.1 hcond.2.2 hv' hH hx
                · cases hc
              · cases hc
            · cases hc
          · cases hc
        · cases hc
      case clear =>
        split at hc
        · rename_i t hat
          split at hc
          · rename_i e he
            have ht : P.underlying t = some (.slice e) := by
              unfold elemOfSl at he; split at he
              · rename_i h; cases he; exact h
              · cases he
            split at hc
            · rename_i i hi
              split at hc
              · rename_i z hz
                split at hc
                · rename_i hcond; cases hc; exact snd_clr hat ht hi hz hcond.1 hcond.2 hv' hH hx
                · cases hc
              · cases hc
            · cases hc
          · cases hc
        · cases hc
      case cap =>
        split at hc
        · rename_i t hat
          split at hc
          · rename_i hcond
            cases hc
            obtain ⟨e, he⟩ := Option.isSome_iff_exists.mp hcond.1
            have ht : P.underlying t = some (.slice e) := by
              unfold elemOfSl at he; split at he
              · rename_i h; cases he; exact h
              · cases he
            exact snd_capL hat ht hcond.2 hv' hH hx
          · cases hc
        · cases hc
      case max => cases hc; exact snd_mnx (mx := true) hv' hH hx
      case min => cases hc; exact snd_mnx (mx := false) hv' hH hx

end Go.Ab
end
section
namespace Go.Ab
set_option linter.unusedVariables false
set_option linter.unusedSimpArgs false

inductive XItem where
  | code (c : XCode)
  | inBlock (id : Nat)
  | inLoop (c : XCode)
  | ops (l : List XOp)

structure Cfg where
  md : Nat → Nat
  kp : Nat → List Nat

def RI (P : Program) (N : Nat) (F : Cfg) : XItem → Item → Prop
  | .code x, .code c => cCode P N F.md F.kp c = some x
  | .inBlock i, .inBlock j => i = j
  | .inLoop x, .inLoop c => cCode P N F.md F.kp c = some x
  | .ops l, .inRegion ops idxs => l.map some = idxs.map fun i => (ops[i]?).bind (cOper P N F.md ops)
  | _, _ => False

def RIs (P : Program) (N : Nat) (F : Cfg) : List XItem → List Item → Prop
  | [], [] => True
  | x :: xs, y :: ys => RI P N F x y ∧ RIs P N F xs ys
  | _, _ => False

def XS (P : Program) (X : Ctx) (F : Cfg) (k : List XItem) (E : Env) (n : Nat) (H : Heap) : Prop := ∀ k', RIs P X.fn.ntmps F k k' → SimK P X k' E n H

variable {P : Program} {X : Ctx} {F : Cfg} {k : List XItem} {E : Env} {n : Nat} {H : Heap}

theorem RIs.cons {N : Nat} {x : XItem} {xs : List XItem} {k' : List Item} (h : RIs P N F (x :: xs) k') : ∃ y ys, k' = y :: ys ∧ RI P N F x y ∧ RIs P N F xs ys := by
  cases k' with
  | nil => exact h.elim
  | cons y ys => exact ⟨y, ys, rfl, h.1, h.2⟩

theorem RI.code_inv {N : Nat} {x : XCode} {y : Item} (h : RI P N F (.code x) y) : ∃ c, y = .code c ∧ cCode P N F.md F.kp c = some x := by
  cases y <;> first | exact h.elim | exact ⟨_, rfl, h⟩

theorem XS.skip (h : XS P X F k E n H) : XS P X F (.code .skip :: k) E n H := by
  intro k' hk
  obtain ⟨y, ys, rfl, h1, h2⟩ := hk.cons
  obtain ⟨c, rfl, hc⟩ := h1.code_inv
  cases c with
  | skip => exact (h ys h2).skip
  | region id ops d => cases d <;> simp [cCode] at hc
  | seq a b => simp only [cCode] at hc; split at hc <;> simp at hc
  | cond c a b => simp only [cCode] at hc; split at hc <;> simp at hc
  | block id c => simp [cCode] at hc
  | loop c => simp [cCode] at hc
  | _ => simp [cCode] at hc

theorem XS.seq {a b : XCode} (h : XS P X F (.code a :: .code b :: k) E n H) : XS P X F (.code (.seq a b) :: k) E n H := by
  intro k' hk
  obtain ⟨y, ys, rfl, h1, h2⟩ := hk.cons
  obtain ⟨c, rfl, hc⟩ := h1.code_inv
  cases c with
  | seq c d =>
    simp only [cCode] at hc
    split at hc
    · rename_i x y hx hy
      cases hc
      exact (h (.code c :: .code d :: ys) ⟨hx, hy, h2⟩).seq
    · cases hc
  | region id ops d => cases d <;> simp [cCode] at hc
  | cond c a b => simp only [cCode] at hc; split at hc <;> simp at hc
  | block id c => simp [cCode] at hc
  | loop c => simp [cCode] at hc
  | _ => simp [cCode] at hc

theorem XS.cond {c : Opd} {a b : XCode} {t : Bool} (hc : c.val E = .bool t) (h1 : t = true → XS P X F (.code a :: k) E n H) (h2 : t = false → XS P X F (.code b :: k) E n H) : XS P X F (.code (.cond c a b) :: k) E n H := by
  intro k' hk
  obtain ⟨y, ys, rfl, h3, h4⟩ := hk.cons
  obtain ⟨d, rfl, hd⟩ := h3.code_inv
  cases d with
  | cond o x z =>
    simp only [cCode] at hd
    split at hd
    · rename_i x' z' hx hz
      cases hd
      refine SimK.cond fun g w a he => ⟨t, ?_, ?_⟩
      · have := cOpd_rel he o
        rw [hc] at this
        generalize a.eval o = v at this
        cases this
        rfl
      · cases t
        · exact h2 rfl (.code z :: ys) ⟨hz, h4⟩
        · exact h1 rfl (.code x :: ys) ⟨hx, h4⟩
    · cases hd
  | region id ops d => cases d <;> simp [cCode] at hd
  | seq a b => simp only [cCode] at hd; split at hd <;> simp at hd
  | block id c => simp [cCode] at hd
  | loop c => simp [cCode] at hd
  | _ => simp [cCode] at hd

theorem XS.block {id : Nat} {a : XCode} (h : XS P X F (.code a :: .inBlock id :: k) E n H) : XS P X F (.code (.block id a) :: k) E n H := by
  intro k' hk
  obtain ⟨y, ys, rfl, h1, h2⟩ := hk.cons
  obtain ⟨c, rfl, hc⟩ := h1.code_inv
  cases c with
  | block id' c =>
    simp only [cCode, Option.map_eq_some_iff] at hc
    obtain ⟨x, hx, he⟩ := hc
    cases he
    exact (h (.code c :: .inBlock _ :: ys) ⟨hx, rfl, h2⟩).block
  | region id ops d => cases d <;> simp [cCode] at hc
  | seq a b => simp only [cCode] at hc; split at hc <;> simp at hc
  | cond c a b => simp only [cCode] at hc; split at hc <;> simp at hc
  | loop c => simp [cCode] at hc
  | _ => simp [cCode] at hc

theorem XS.inBlock {id : Nat} (h : XS P X F k E n H) : XS P X F (.inBlock id :: k) E n H := by
  intro k' hk
  obtain ⟨y, ys, rfl, h1, h2⟩ := hk.cons
  cases y <;> first | exact h1.elim | skip
  exact (h ys h2).inBlock

theorem XS.loop {a : XCode} (h : XS P X F (.inLoop a :: k) E n H) : XS P X F (.code (.loop a) :: k) E n H := by
  intro k' hk
  obtain ⟨y, ys, rfl, h1, h2⟩ := hk.cons
  obtain ⟨c, rfl, hc⟩ := h1.code_inv
  cases c with
  | loop c =>
    simp only [cCode, Option.map_eq_some_iff] at hc
    obtain ⟨x, hx, he⟩ := hc
    cases he
    exact (h (.inLoop c :: ys) ⟨hx, h2⟩).loop
  | region id ops d => cases d <;> simp [cCode] at hc
  | seq a b => simp only [cCode] at hc; split at hc <;> simp at hc
  | cond c a b => simp only [cCode] at hc; split at hc <;> simp at hc
  | block id c => simp [cCode] at hc
  | _ => simp [cCode] at hc

theorem XS.inLoop {a : XCode} (h : XS P X F (.code a :: .inLoop a :: k) E n H) : XS P X F (.inLoop a :: k) E n H := by
  intro k' hk
  obtain ⟨y, ys, rfl, h1, h2⟩ := hk.cons
  cases y <;> first | exact h1.elim | skip
  rename_i c
  exact (h (.code c :: .inLoop c :: ys) ⟨h1, h1, h2⟩).inLoop

def xexit (id : Nat) : List XItem → Option (List XItem)
  | .inBlock i :: k => if i = id then some k else xexit id k
  | _ :: k => xexit id k
  | [] => none

theorem xexit_rel {N : Nat} {id : Nat} : ∀ {k : List XItem} {k' : List Item} {r : List XItem}, RIs P N F k k' → xexit id k = some r → ∃ r', exitTo id k' = some r' ∧ RIs P N F r r'
  | [], _, r, _, he => by simp [xexit] at he
  | x :: k, k', r, h, he => by
    obtain ⟨y, ys, rfl, h1, h2⟩ := h.cons
    cases x <;> cases y <;> first | exact h1.elim | skip
    case inBlock.inBlock i j =>
      have hij : i = j := h1
      subst hij
      simp only [xexit] at he
      split at he
      · rename_i hid
        simp only [Option.some.injEq] at he
        subst he
        exact ⟨ys, by simp [exitTo, hid], h2⟩
      · rename_i hid
        obtain ⟨r', hr, hrel⟩ := xexit_rel h2 he
        exact ⟨r', by simp [exitTo, hid, hr], hrel⟩
    all_goals
      simp only [xexit] at he
      obtain ⟨r', hr, hrel⟩ := xexit_rel h2 he
      exact ⟨r', by simp [exitTo, hr], hrel⟩

theorem XS.exit {id : Nat} {r : List XItem} (he : xexit id k = some r) (h : XS P X F r E n H) : XS P X F (.code (.exit id) :: k) E n H := by
  intro k' hk
  obtain ⟨y, ys, rfl, h1, h2⟩ := hk.cons
  obtain ⟨c, rfl, hc⟩ := h1.code_inv
  cases c with
  | exit id' =>
    simp only [cCode, Option.some.injEq, XCode.exit.injEq] at hc
    subst hc
    obtain ⟨r', hr, hrel⟩ := xexit_rel h2 he
    exact (h r' hrel).exit hr
  | region id ops d => cases d <;> simp [cCode] at hc
  | seq a b => simp only [cCode] at hc; split at hc <;> simp at hc
  | cond c a b => simp only [cCode] at hc; split at hc <;> simp at hc
  | block id c => simp [cCode] at hc
  | loop c => simp [cCode] at hc
  | _ => simp [cCode] at hc

/-- Knowing less. -/
theorem XS.sub {E' : Env} {H' : Heap} {n' : Nat} (h : XS P X F k E' n' H') (hE : ∀ p ∈ E', p ∈ E) (hH : H'.Sublist H) (hn : n ≤ n') : XS P X F k E n H :=
  fun k' hk => (h k' hk).sub hE hH hn

theorem XS.subv {E' : Env} (h : XS P X F k E' n H) (hE : ∀ p ∈ E', p.2 = val E p.1) : XS P X F k E n H := fun k' hk => (h k' hk).subv hE

/-! ### Regions -/
def gd (v : AV) (want : Bool) (A B : Prop) : Prop := match v with
  | .bool b => (b = want → A) ∧ (b ≠ want → B)
  | .tup [] => B
  | _ => False

def xOps (P : Program) : List XOp → Env → Nat → Heap → (Env → Nat → Heap → Prop) → Prop
  | [], E, n, H, K => K E n H
  | x :: l, E, n, H, K => match x.guard with
    | none => xop P x.op (x.args.map (Opd.val E)) n H fun v n' H' => xOps P l (put E x.dst v) n' H' K
    | some (t, want) => gd (val E t) want (xop P x.op (x.args.map (Opd.val E)) n H fun v n' H' => xOps P l (put E x.dst v) n' H' K) (xOps P l (put E x.dst (.tup [])) n H K)

def keepE (ks : List Nat) (E : Env) : Env := ks.map fun k => (k, val E k)
theorem keepE_val {ks : List Nat} {E : Env} : ∀ p ∈ keepE ks E, p.2 = val E p.1 := fun p hp => by
  obtain ⟨k, _, rfl⟩ := List.mem_map.mp hp
  rfl

theorem cOper_spec {N : Nat} {md : Nat → Nat} {ops : Array Oper} {o : Oper} {x : XOp} (h : cOper P N md ops o = some x) :
    (∀ d, o.dst = some d → d < N) ∧ o.dst = x.dst ∧ cOp P (md (o.dst.getD 0)) o.op = some x.op ∧ x.args = o.op.operands.toList.map cOpd ∧
    ((o.guard = none ∧ x.guard = none) ∨ ∃ j want t, o.guard = some (j, want) ∧ (ops[j]?).bind (·.dst) = some t ∧ x.guard = some (t, want)) := by
  unfold cOper at h
  split at h
  · rename_i hd
    have hd' : ∀ d, o.dst = some d → d < N := fun d e => by rw [e] at hd; simpa using hd
    split at h
    · rename_i y hy hg
      cases h
      exact ⟨hd', rfl, hy, rfl, .inl ⟨hg, rfl⟩⟩
    · rename_i y j want hy hg
      split at h
      · rename_i t ht
        cases h
        exact ⟨hd', rfl, hy, rfl, .inr ⟨j, want, t, hg, ht, rfl⟩⟩
      · cases h
    · cases h
  · cases h

theorem wanted_of {ops : Array Oper} {o : Oper} {g : Ghost} {w : World} {a : Act} {j t : Nat} {want b : Bool} (hg : o.guard = some (j, want)) (ht : (ops[j]?).bind (·.dst) = some t) (he : ERel g n w E a.tmps) (hv : val E t = .bool b) :
    Region.wanted o (yielded ops a.tmps) = (b == want) := by
  have h1 := he.val t
  rw [hv] at h1
  have h2 : a.tmps[t]? = some (.bool b) := by
    rw [Array.getD_eq_getD_getElem?] at h1
    cases hq : a.tmps[t]? with
    | none => rw [hq] at h1; simp only [Option.getD_none] at h1; cases h1
    | some u => rw [hq] at h1; simp only [Option.getD_some] at h1; generalize u = u' at h1; cases h1; rfl
  unfold Region.wanted
  rw [hg]
  simp only [yielded, ht, Option.bind_some, h2]
  cases b <;> cases want <;> rfl

theorem wanted_und {ops : Array Oper} {o : Oper} {g : Ghost} {w : World} {a : Act} {j t : Nat} {want : Bool} (hg : o.guard = some (j, want)) (ht : (ops[j]?).bind (·.dst) = some t) (he : ERel g n w E a.tmps) (hv : val E t = .tup []) :
    Region.wanted o (yielded ops a.tmps) = false := by
  have h1 := he.val t
  rw [hv] at h1
  have h2 : a.tmps[t]? = none ∨ a.tmps[t]? = some (.tuple #[]) := by
    rw [Array.getD_eq_getD_getElem?] at h1
    cases hq : a.tmps[t]? with
    | none => exact .inl rfl
    | some u =>
      rw [hq] at h1
      simp only [Option.getD_some] at h1
      generalize u = u' at h1
      cases h1 with | tup _ vs h => cases h; exact .inr rfl
  unfold Region.wanted
  rw [hg]
  simp only [yielded, ht, Option.bind_some]
  rcases h2 with h2 | h2 <;> rw [h2] <;> rfl

theorem XS.opsNil (h : XS P X F k E n H) : XS P X F (.ops [] :: k) E n H := by
  intro k' hk
  obtain ⟨y, ys, rfl, h1, h2⟩ := hk.cons
  cases y <;> first | exact h1.elim | skip
  rename_i ops idxs
  have h1' : ([] : List XOp).map some = idxs.map fun i => (ops[i]?).bind (cOper P X.fn.ntmps F.md ops) := h1
  have : idxs = [] := by
    cases idxs with
    | nil => rfl
    | cons i is => simp at h1'
  subst this
  exact (h ys h2).regionEnd

theorem XS.ops : ∀ {l : List XOp} {E : Env} {n : Nat} {H : Heap}, xOps P l E n H (fun E n H => XS P X F k E n H) → XS P X F (.ops l :: k) E n H
  | [], E, n, H, h => XS.opsNil h
  | x :: l, E, n, H, h => by
    intro k' hk
    obtain ⟨y, ys, rfl, h1, h2⟩ := hk.cons
    cases y <;> first | exact h1.elim | skip
    rename_i ops idxs
    have h1' : (x :: l).map some = idxs.map fun i => (ops[i]?).bind (cOper P X.fn.ntmps F.md ops) := h1
    cases idxs with
    | nil => simp at h1'
    | cons i is =>
      simp only [List.map_cons, List.cons.injEq] at h1'
      obtain ⟨hx, hl⟩ := h1'
      have hx' := hx.symm
      rw [Option.bind_eq_some_iff] at hx'
      obtain ⟨o, ho, hco⟩ := hx'
      obtain ⟨hd, hdst, hop, hargs, hguard⟩ := cOper_spec hco
      have rest : ∀ {v : AV} {n' : Nat} {H' : Heap}, xOps P l (put E x.dst v) n' H' (fun E n H => XS P X F k E n H) → SimK P X (.inRegion ops is :: ys) (put E o.dst v) n' H' := by
        intro v n' H' hv
        rw [hdst]
        exact XS.ops hv (.inRegion ops is :: ys) ⟨hl, h2⟩
      have run : xop P x.op (x.args.map (Opd.val E)) n H (fun v n' H' => xOps P l (put E x.dst v) n' H' fun E n H => XS P X F k E n H) → (∀ (g : Ghost) (w : World) (a : Act), ERel g n w E a.tmps → HRel g n H w → Region.wanted o (yielded ops a.tmps) = true) →
          SimK P X (.inRegion ops (i :: is) :: ys) E n H := by
        intro hrun hwant
        refine SimK.op ho hd (R := fun v n' H' => xOps P l (put E x.dst v) n' H' fun E n H => XS P X F k E n H) (fun g w a he hh => ⟨hwant g w a he hh, ?_⟩) (fun v n' H' hr => rest hr)
        refine xop_sound hop ?_ hh hrun
        rw [hargs]
        exact cOpds_rel he _
      unfold xOps at h
      rcases hguard with ⟨hg, hxg⟩ | ⟨j, want, t, hg, ht, hxg⟩
      · rw [hxg] at h
        exact run h (fun g w a _ _ => by simp [Region.wanted, hg])
      · rw [hxg] at h
        simp only [gd] at h
        split at h
        · rename_i b hb
          by_cases hbw : b = want
          · exact run (h.1 hbw) (fun g w a he _ => by rw [wanted_of hg ht he hb, hbw]; simp)
          · refine SimK.opSkip ho hd (fun g w a he => by rw [wanted_of hg ht he hb]; simpa using hbw) (rest (h.2 hbw))
        · rename_i hb
          exact SimK.opSkip ho hd (fun g w a he => wanted_und hg ht he hb) (rest h)
        · exact h.elim

theorem allSome_spec {α : Type} : ∀ {l : List (Option α)} {r : List α}, allSome l = some r → r.map some = l
  | [], r, h => by simp [allSome] at h; subst h; rfl
  | none :: l, r, h => by simp [allSome] at h
  | some a :: l, r, h => by
    simp only [allSome, Option.map_eq_some_iff] at h
    obtain ⟨r', hr, rfl⟩ := h
    rw [List.map_cons, allSome_spec hr]

theorem range_map_get {α β : Type} (ops : Array α) (f : α → Option β) : ops.toList.map f = (List.range ops.size).map fun i => (ops[i]?).bind f := by
  apply List.ext_getElem?
  intro i
  simp only [List.getElem?_map, Array.getElem?_toList]
  by_cases h : i < ops.size
  · simp [h]
  · simp [h]

theorem xop_mono {P : Program} {o : XO} {vals : List AV} {n : Nat} {H : Heap} {K K' : AV → Nat → Heap → Prop} (hk : ∀ v n H, K v n H → K' v n H) (h : xop P o vals n H K) : xop P o vals n H K' := by
  have ok : ∀ {α : Type} {o : Option α} {A B : α → Prop}, (∀ a, A a → B a) → oK o A → oK o B := fun hab h => by
    obtain ⟨a, rfl, ha⟩ := oK_elim h; exact hab a ha
  unfold xop at h ⊢
  split at h
  · exact hk _ _ _ h
  · exact ok (fun _ => hk _ _ _) h
  · exact ok (fun _ h => ⟨h.1, hk _ _ _ h.2⟩) h
  · exact ok (fun _ h => ⟨h.1, hk _ _ _ h.2⟩) h
  · exact ok (fun _ h => ⟨h.1, hk _ _ _ h.2⟩) h
  · exact ok (fun _ h => ⟨h.1, hk _ _ _ h.2⟩) h
  · split at h
    · exact ok (fun _ => hk _ _ _) h
    · exact h.elim
  · split at h
    · exact ⟨h.1, hk _ _ _ h.2⟩
    · exact h.elim
  · exact ⟨hk _ _ _ h.1, fun e => hk _ _ _ (h.2 e)⟩
  · exact ⟨hk _ _ _ h.1, fun e => hk _ _ _ (h.2 e)⟩
  · exact hk _ _ _ h
  · refine ⟨h.1, ?_⟩
    have h2 := h.2
    split at h2
    · exact ⟨h2.1, hk _ _ _ h2.2⟩
    · exact hk _ _ _ h2
    · exact hk _ _ _ h2
    · exact hk _ _ _ h2
    · exact h2.elim
  · refine ⟨h.1, ok (fun ys h => ⟨h.1, ?_⟩) h.2⟩
    have h2 := h.2
    split at h2
    · exact ⟨h2.1, fun e => hk _ _ _ (h2.2.1 e), fun e => hk _ _ _ (h2.2.2 e)⟩
    · exact ⟨h2.1, hk _ _ _ h2.2⟩
    · exact h2.elim
  · exact vget_mono (fun _ _ h => ok (fun _ => hk _ _ _) h) h
  · exact vget_mono (fun _ _ h => ok (fun _ h => ⟨h.1, hk _ _ _ h.2⟩) h) h
  · exact vget_mono (fun _ _ h => hk _ _ _ h) h
  · exact vget_mono (fun _ _ h => ⟨h.1, hk _ _ _ h.2⟩) h
  · exact vget_mono (fun _ _ h => ok (fun _ h => ⟨h.1, hk _ _ _ h.2⟩) h) h
  · refine ⟨h.1, ok (fun ys h => ⟨h.1, ?_⟩) h.2⟩
    have h2 := h.2
    split at h2
    · exact ⟨h2.1, fun e => hk _ _ _ (h2.2.1 e), fun e => hk _ _ _ (h2.2.2 e)⟩
    · exact vget_mono (fun _ _ h => ⟨h.1, hk _ _ _ h.2⟩) h2
    · exact h2.elim
  · exact vget_mono (fun _ _ h => ⟨h.1, hk _ _ _ h.2⟩) h
  · exact vget_mono (fun _ _ h => hk _ _ _ h) h
  · exact h.mono hk
  · exact ok (fun _ => hk _ _ _) h
theorem xOps_mono {P : Program} : ∀ {l : List XOp} {E : Env} {n : Nat} {H : Heap} {K K' : Env → Nat → Heap → Prop}, (∀ E n H, K E n H → K' E n H) → xOps P l E n H K → xOps P l E n H K'
  | [], E, n, H, K, K', hk, h => hk _ _ _ h
  | x :: l, E, n, H, K, K', hk, h => by
    unfold xOps at h ⊢
    split at h
    · exact xop_mono (fun v n H h => xOps_mono hk h) h
    · simp only [gd] at h ⊢
      split at h
      · exact ⟨fun e => xop_mono (fun v n H h => xOps_mono hk h) (h.1 e), fun e => xOps_mono hk (h.2 e)⟩
      · exact xOps_mono hk h
      · exact h.elim

theorem XS.reg {l : List XOp} {ks : List Nat} (h : xOps P l E n H fun E n H => XS P X F k (keepE ks E) n H) : XS P X F (.code (.reg l ks) :: k) E n H := by
  intro k' hk
  obtain ⟨y, ys, rfl, h1, h2⟩ := hk.cons
  obtain ⟨c, rfl, hc⟩ := h1.code_inv
  cases c with
  | region id ops d =>
    cases d with
    | true => simp [cCode] at hc
    | false =>
      simp only [cCode, Option.map_eq_some_iff] at hc
      obtain ⟨r, hr, he⟩ := hc
      cases he
      refine SimK.region (XS.ops (l := l) (k := k) (X := X) (F := F) ?_ (.inRegion ops (List.range ops.size) :: ys) ⟨?_, h2⟩)
      · exact xOps_mono (fun E n H h => h.subv keepE_val) h
      · show l.map some = _
        rw [allSome_spec hr, range_map_get]
  | seq a b => simp only [cCode] at hc; split at hc <;> simp at hc
  | cond c a b => simp only [cCode] at hc; split at hc <;> simp at hc
  | block id c => simp [cCode] at hc
  | loop c => simp [cCode] at hc
  | _ => simp [cCode] at hc

end Go.Ab
end
section
namespace Go.Ab
set_option linter.unusedVariables false
set_option linter.unusedSimpArgs false

variable {P : Program} {X : Ctx} {F : Cfg} {k : List XItem} {E : Env} {n : Nat} {H : Heap} {g : Ghost} {w : World}

mutual
def below (n : Nat) : AV → Bool
  | .fn _ cap => belows n cap
  | .agg cs => belows n cs
  | .tup cs => belows n cs
  | .acc id _ _ => decide (id < n)
  | .ptr id _ => decide (id < n)
  | .ref id _ _ _ => decide (id < n)
  | .vec id _ _ _ _ => decide (id < n)
  | .vptr id _ _ => decide (id < n)
  | _ => true
def belows (n : Nat) : List AV → Bool
  | [] => true
  | a :: as => below n a && belows n as
end

mutual
theorem VRel.isB {w : World} : ∀ {n : Nat} {a : AV} {c : Value}, VRel g n w a c → Ab.below n a = true
  | _, _, _, .junk v => by simp [Ab.below]
  | _, _, _, .bool b => by simp [Ab.below]
  | _, _, _, .int k i => by simp [Ab.below]
  | _, _, _, .str s => by simp [Ab.below]
  | _, _, _, .fn f cap vs h => by simp [Ab.below, h.isB]
  | _, _, _, .agg cs vs h => by simp [Ab.below, h.isB]
  | _, _, _, .tup cs vs h => by simp [Ab.below, h.isB]
  | _, _, _, .nilsl => by simp [Ab.below]
  | _, _, _, .sl rows s a b off cap vs ha hc hs hf hr hv => by simp [Ab.below]
  | _, _, _, .acc id s rows a b off cap vs ha hc hs hf hr hv hid hl => by simp [Ab.below, hid]
  | _, _, _, .fptr cs b off vs hf hr hv => by simp [Ab.below]
  | _, _, _, .ptr id off hid hk => by simp [Ab.below, hid]
  | _, _, _, .ref id s off len cap hid hk hc hr => by simp [Ab.below, hid]
  | _, _, _, .vec id ver s off len a cap hid hl => by simp [Ab.below, hid]
  | _, _, _, .vptr id ver off a hid hl => by simp [Ab.below, hid]
theorem VRels.isB {w : World} : ∀ {n : Nat} {as : List AV} {cs : List Value}, VRels g n w as cs → belows n as = true
  | _, _, _, .nil => by simp [belows]
  | _, _, _, .cons a v as vs h t => by simp [belows, h.isB, t.isB]
end

mutual
theorem VRel.lower {w : World} {m : Nat} : ∀ {n : Nat} {a : AV} {c : Value}, VRel g n w a c → Ab.below m a = true → VRel g m w a c
  | _, _, _, .junk v, _ => .junk v
  | _, _, _, .bool b, _ => .bool b
  | _, _, _, .int k i, _ => .int k i
  | _, _, _, .str s, _ => .str s
  | _, _, _, .fn f cap vs h, hb => .fn f cap vs (h.lower (by simpa [Ab.below] using hb))
  | _, _, _, .agg cs vs h, hb => .agg cs vs (h.lower (by simpa [Ab.below] using hb))
  | _, _, _, .tup cs vs h, hb => .tup cs vs (h.lower (by simpa [Ab.below] using hb))
  | _, _, _, .nilsl, _ => .nilsl
  | _, _, _, .sl rows s a b off cap vs ha hc hs hf hr hv, _ => .sl rows s a b off cap vs ha hc hs hf hr hv
  | _, _, _, .acc id s rows a b off cap vs ha hc hs hf hr hv hid hl, hb => .acc id s rows a b off cap vs ha hc hs hf hr hv (by simpa [Ab.below] using hb) hl
  | _, _, _, .fptr cs b off vs hf hr hv, _ => .fptr cs b off vs hf hr hv
  | _, _, _, .ptr id off hid hk, hb => .ptr id off (by simpa [Ab.below] using hb) hk
  | _, _, _, .ref id s off len cap hid hk hc hr, hb => .ref id s off len cap (by simpa [Ab.below] using hb) hk hc hr
  | _, _, _, .vec id ver s off len a cap hid hl, hb => .vec id ver s off len a cap (by simpa [Ab.below] using hb) hl
  | _, _, _, .vptr id ver off a hid hl, hb => .vptr id ver off a (by simpa [Ab.below] using hb) hl
theorem VRels.lower {w : World} {m : Nat} : ∀ {n : Nat} {as : List AV} {cs : List Value}, VRels g n w as cs → belows m as = true → VRels g m w as cs
  | _, _, _, .nil, _ => .nil
  | _, _, _, .cons a v as vs h t, hb => by
    simp only [belows, Bool.and_eq_true] at hb
    exact .cons a v as vs (h.lower hb.1) (t.lower hb.2)
end

def belowO (n : Nat) : HObj → Bool
  | .tok _ _ => true
  | .own cells => belows n cells
  | .vob _ _ cells => belows n cells
def HB (n : Nat) (H : Heap) : Prop := ∀ p ∈ H, p.1 < n ∧ belowO n p.2 = true

theorem HRel.hb (h : HRel g n H w) : HB n H := fun p hp => by
  obtain ⟨h1, h2⟩ := h.ent p hp
  refine ⟨h1, ?_⟩
  cases hp2 : p.2 with
  | tok s len => rfl
  | own cells => rw [hp2] at h2; obtain ⟨_, _, c, el, vs, _, _, h3⟩ := h2; exact h3.isB
  | vob ver s cells => rw [hp2] at h2; obtain ⟨_, _, c, el, vs, _, _, h3⟩ := h2; exact h3.isB

theorem HRel.lower {m : Nat} {H' : Heap} (h : HRel g n H w) (hs : H'.Sublist H) (hb : HB m H') : HRel g m H' w :=
  ⟨h.apart.sublist hs, fun p hp => by
    refine ⟨(hb p hp).1, ?_⟩
    have h1 := (h.ent p (hs.subset hp)).2
    have h2 := (hb p hp).2
    cases hp2 : p.2 with
    | tok s len => rw [hp2] at h1; exact h1
    | own cells =>
      rw [hp2] at h1 h2
      obtain ⟨a1, a2, c, el, vs, a3, a4, a5⟩ := h1
      exact ⟨a1, a2, c, el, vs, a3, a4, a5.lower h2⟩
    | vob ver s cells =>
      rw [hp2] at h1 h2
      obtain ⟨a1, a2, c, el, vs, a3, a4, a5⟩ := h1
      exact ⟨a1, a2, c, el, vs, a3, a4, a5.lower h2⟩, h.fsz⟩

/-! ### Returns -/
def ret1 (P : Program) (E : Env) (H : Heap) : ResultVar → Option AV
  | .tmp t => some (val E t)
  | .cell a t => match ldSize P t, val E a with
    | some s, .ptr id off => match hget H id with
      | some (.own cells) => ldc s (cells.drop off)
      | _ => none
    | some s, .fptr cs => ldc s cs
    | _, _ => none
def retsL (P : Program) (E : Env) (H : Heap) : List ResultVar → Option (List AV)
  | [] => some []
  | r :: rs => match ret1 P E H r, retsL P E H rs with
    | some v, some vs => some (v :: vs)
    | _, _ => none
def retV : List AV → AV
  | [v] => v
  | vs => .tup vs

/-- What is handed back, once the rest is forgotten. -/
def Fin (n0 n : Nat) (H : Heap) (v : AV) (R : AV → Nat → Heap → Prop) : Prop :=
  ∀ (g : Ghost) (w : World) (c : Value), n0 ≤ n → VRel g n w v c → HRel g n H w → Out g n0 w H R c w

theorem ret1_run {r : ResultVar} {v : AV} {a : Act} (he : ERel g n w E a.tmps) (hh : HRel g n H w) (h : ret1 P E H r = some v) :
    ∃ c, ((match r with | .tmp t => pure (a.tmps.getD t undef) | .cell x t => do loadVar t (← asAddr (a.tmps.getD x undef)) : Sem Value)).run P w = .ok c w ∧ VRel g n w v c := by
  cases r with
  | tmp t => simp only [ret1, Option.some.injEq] at h; subst h; exact ⟨_, rfl, he.val t⟩
  | cell x t =>
    simp only [ret1] at h
    have hv := he.val x
    split at h
    · rename_i s id off hs hval
      rw [hval] at hv
      generalize hc : a.tmps.getD x undef = u at hv
      cases hv with | ptr _ _ hid hk =>
      split at h
      · rename_i cells hg
        obtain ⟨vs, hr, hvs⟩ := own_run hh hg
        obtain ⟨c, hrun, hrel⟩ := run_loadVar hs (b := g.β id) (off := off) (vs := vs.drop off) (by have := hr.drop off; rwa [Nat.zero_add] at this) (hvs.drop off) h
        exact ⟨c, by simp [hc, asAddr, hrun], hrel⟩
      · cases h
    · rename_i s cs hs hval
      rw [hval] at hv
      generalize hc : a.tmps.getD x undef = u at hv
      cases hv with | fptr _ b off vs hf hr hvs =>
      obtain ⟨c, hrun, hrel⟩ := run_loadVar hs hr hvs h
      exact ⟨c, by simp [hc, asAddr, hrun], hrel.up⟩
    · cases h

theorem retsL_run {a : Act} (he : ERel g n w E a.tmps) (hh : HRel g n H w) : ∀ {rs : List ResultVar} {vs : List AV}, retsL P E H rs = some vs →
    ∃ cs, (rs.mapM fun r => (match r with | .tmp t => pure (a.tmps.getD t undef) | .cell x t => do loadVar t (← asAddr (a.tmps.getD x undef)) : Sem Value)).run P w = .ok cs w ∧ VRels g n w vs cs
  | [], vs, h => by simp only [retsL, Option.some.injEq] at h; subst h; exact ⟨[], by simp, .nil⟩
  | r :: rs, vs, h => by
    simp only [retsL] at h
    split at h
    · rename_i v vs' h1 h2
      simp only [Option.some.injEq] at h
      subst h
      obtain ⟨c, hc, hrel⟩ := ret1_run (P := P) he hh h1
      obtain ⟨cs, hcs, hrels⟩ := retsL_run he hh h2
      refine ⟨c :: cs, ?_, .cons _ _ _ _ hrel hrels⟩
      rw [List.mapM_cons, Sem.run_bind, hc, Result.andThen_ok, Sem.run_bind, hcs, Result.andThen_ok]
      rfl
    · cases h

theorem results_run {fn : Func} {a : Act} {vs : List AV} (he : ERel g n w E a.tmps) (hh : HRel g n H w) (h : retsL P E H fn.results.toList = some vs) :
    ∃ c, (results fn a.tmps).run P w = .ok c w ∧ VRel g n w (retV vs) c := by
  obtain ⟨cs, hcs, hrel⟩ := retsL_run (P := P) he hh h
  have hl := hrel.length
  have hm : (fn.results.mapM fun r => (match r with | .tmp t => pure (a.tmps.getD t undef) | .cell x t => do loadVar t (← asAddr (a.tmps.getD x undef)) : Sem Value)).run P w = .ok cs.toArray w := by
    rw [Array.mapM_eq_mapM_toList, Sem.run_map, hcs]; rfl
  unfold results
  rw [Sem.run_bind]
  erw [hm]
  rw [Result.andThen_ok]
  by_cases h1 : cs.length = 1
  · obtain ⟨c, rfl⟩ : ∃ c, cs = [c] := by
      cases cs with
      | nil => simp at h1
      | cons c t => cases t with
        | nil => exact ⟨c, rfl⟩
        | cons _ _ => simp at h1
    obtain ⟨v, rfl, hv⟩ := hrel.one
    exact ⟨c, by simp, hv⟩
  · refine ⟨.tuple cs.toArray, by simp [h1], ?_⟩
    have : retV vs = .tup vs := by
      cases vs with
      | nil => rfl
      | cons v t => cases t with
        | nil => simp at hl; omega
        | cons _ _ => rfl
    rw [this]
    exact .tup vs cs hrel

theorem XS.ret {vs : List AV} (hr : retsL P E H X.fn.results.toList = some vs) (hf : Fin X.n0 n H (retV vs) X.R) : XS P X F (.code .ret :: k) E n H := by
  intro k' hk
  obtain ⟨y, ys, rfl, h1, h2⟩ := hk.cons
  obtain ⟨c, rfl, hc⟩ := h1.code_inv
  cases c with
  | ret =>
    intro hn0
    refine SimK.ret (P := P) (X := X) (fun g w a _ he hh => ?_) hn0
    obtain ⟨c, h3, h4⟩ := results_run (P := P) he hh hr
    exact ⟨c, h3, hf g w c hn0 h4 hh⟩
  | region id ops d => cases d <;> simp [cCode] at hc
  | seq a b => simp only [cCode] at hc; split at hc <;> simp at hc
  | cond c a b => simp only [cCode] at hc; split at hc <;> simp at hc
  | block id c => simp [cCode] at hc
  | loop c => simp [cCode] at hc
  | _ => simp [cCode] at hc

theorem XS.fin {vs : List AV} (hr : retsL P E H X.fn.results.toList = some vs) (hf : Fin X.n0 n H (retV vs) X.R) : XS P X F [] E n H := by
  intro k' hk
  cases k' with
  | cons y ys => exact hk.elim
  | nil =>
    intro hn0
    refine SimK.fin (P := P) (X := X) (fun g w a _ he hh => ?_) hn0
    obtain ⟨c, h3, h4⟩ := results_run (P := P) he hh hr
    exact ⟨c, h3, hf g w c hn0 h4 hh⟩

variable {n0 : Nat} {v : AV} {R : AV → Nat → Heap → Prop}

theorem Fin.same (h : R v n H) : Fin n0 n H v R := fun g w c hn hv hh => ⟨v, n, H, g, h, hn, hv, hh, Grow.refl _ _ _ _⟩

theorem Grow.dropH {H' : Heap} (hs : H'.Sublist H) : Grow n g w H g w H' :=
  ⟨Ext.refl _ _ _, Nat.le_refl _, fun _ _ _ => ⟨rfl, rfl⟩, fun p hp => .inl ⟨p, hs.subset hp, rfl⟩, Oth.refl _⟩

theorem Fin.low {H0 : Heap} (hb : below n0 v = true) (hB : HB n0 H0) (hs : H0.Sublist H) (h : R v n0 H0) : Fin n0 n H v R :=
  fun g w c hn hv hh => ⟨v, n0, H0, g, h, Nat.le_refl _, hv.lower hb, hh.lower hs hB, Grow.dropH hs⟩

def fzt : AV → AV
  | .tup vs => .tup (vs.map fz)
  | .agg vs => .agg (vs.map fz)
  | v => fz v

theorem VRels.fzd {as : List AV} {vs : List Value} (h : VRels g n w as vs) : VRels g n w (as.map fz) vs := by
  induction as generalizing vs with
  | nil => cases h; exact .nil
  | cons a as ih => cases h with | cons _ v _ vs h t => exact .cons _ _ _ _ h.fzd (ih t)

theorem VRel.fztd {v : AV} {c : Value} (h : VRel g n w v c) : VRel g n w (fzt v) c := by
  cases v
  case tup vs => cases h with | tup _ cs h => exact .tup _ cs h.fzd
  case agg vs => cases h with | agg _ cs h => exact .agg _ cs h.fzd
  all_goals exact h.fzd

theorem Fin.fz (h : Fin n0 n H (fzt v) R) : Fin n0 n H v R := fun g w c hn hv hh => h g w c hn hv.fztd hh

/-- An accumulator of the function's own is handed back, under the caller's next number. -/
theorem accRename {id s : Nat} {rows : List (List AV)} {H0 : Heap} (hh : HRel g n H w) (hm : (id, HObj.tok s rows.length) ∈ H) (hid : n0 ≤ id) (hB : HB n0 H0) (hs : H0.Sublist H) :
    HRel ⟨upd g.β n0 (g.β id), upd g.fr n0 (g.fr id), g.φ⟩ (n0 + 1) ((n0, .tok s rows.length) :: H0) w ∧ Grow n0 g w H ⟨upd g.β n0 (g.β id), upd g.fr n0 (g.fr id), g.φ⟩ w ((n0, .tok s rows.length) :: H0) := by
  have hx : Ext n0 g w ⟨upd g.β n0 (g.β id), upd g.fr n0 (g.fr id), g.φ⟩ w :=
    ⟨fun _ _ _ => rfl, fun _ => Nat.le_refl _, fun i hi => .inl ⟨upd_ne _ _ (Nat.ne_of_lt hi), upd_ne _ _ (Nat.ne_of_lt hi)⟩, fun _ _ h => h⟩
  have hl := hh.lower hs hB
  have hne : ∀ p ∈ H0, g.β p.1 ≠ g.β id := fun p hp => apart_of hh (hs.subset hp) hm (by have := (hB p hp).1; omega)
  have hβ : ∀ p ∈ H0, upd g.β n0 (g.β id) p.1 = g.β p.1 := fun p hp => upd_ne _ _ (Nat.ne_of_lt (hB p hp).1)
  have hl2 : HRel ⟨upd g.β n0 (g.β id), upd g.fr n0 (g.fr id), g.φ⟩ n0 H0 w := by
    refine ⟨hl.apart.imp_of_mem ?_, fun p hp => ⟨(hB p hp).1, ?_⟩, hh.fsz⟩
    · intro p q hp hq h
      refine ⟨h.1, ?_⟩
      show upd g.β n0 (g.β id) p.1 ≠ upd g.β n0 (g.β id) q.1
      rw [hβ p hp, hβ q hq]; exact h.2
    · exact (hl.ent p hp).2.ext hx (Nat.le_refl _) (hβ p hp) (upd_ne _ _ (Nat.ne_of_lt (hB p hp).1)) rfl rfl
  refine ⟨hl2.add _ (fun p hp => ?_) ?_, ⟨hx, Nat.le_refl _, fun _ _ _ => ⟨rfl, rfl⟩, fun p hp => ?_, Oth.refl _⟩⟩
  · show upd g.β n0 (g.β id) p.1 ≠ upd g.β n0 (g.β id) n0
    rw [hβ p hp, upd_same]; exact hne p hp
  · obtain ⟨_, h1, h2, c, el, h3, h4⟩ := hh.ent _ hm
    refine ⟨?_, ?_, c, el, ?_, h4⟩
    · show upd g.fr n0 (g.fr id) n0 = _
      rw [upd_same]; exact h1
    · show g.φ (upd g.β n0 (g.β id) n0) = _
      rw [upd_same]; exact h2
    · show w.heap[upd g.β n0 (g.β id) n0]? = _
      rw [upd_same]; exact h3
  · rw [List.mem_cons] at hp
    rcases hp with rfl | hp
    · exact .inl ⟨_, hm, by show g.β id = upd g.β n0 (g.β id) n0; rw [upd_same]⟩
    · exact .inl ⟨p, hs.subset hp, (hβ p hp).symm⟩

theorem VRel.accRename {id s : Nat} {rows : List (List AV)} {c : Value} (hv : VRel g n w (.acc id s rows) c) :
    VRel ⟨upd g.β n0 (g.β id), upd g.fr n0 (g.fr id), g.φ⟩ (n0 + 1) w (.acc n0 s rows) c := by
  cases hv with | acc _ _ _ a b off cap vs ha hc hs hf hr hv hid hl =>
  have hx : Ext 0 g w ⟨upd g.β n0 (g.β id), upd g.fr n0 (g.fr id), g.φ⟩ w :=
    ⟨fun _ _ _ => rfl, fun _ => Nat.le_refl _, fun i hi => absurd hi (Nat.not_lt_zero _), fun _ _ h => h⟩
  refine .acc n0 s rows a b off cap vs ha hc hs hf hr (hv.ext hx (Nat.le_refl _)) (Nat.lt_succ_self _) (fun m hm => ?_)
  have hm' : upd g.fr n0 (g.fr id) n0 = some m := hm
  rw [upd_same] at hm'
  obtain ⟨h1, h2⟩ := hl m hm'
  refine ⟨h1, fun e => ?_⟩
  show a = some (Addr.mk (upd g.β n0 (g.β id) n0) 0 none) ∧ room w (upd g.β n0 (g.β id) n0) _
  rw [upd_same]
  exact h2 e

theorem Fin.acc {id s : Nat} {rows : List (List AV)} {H0 : Heap} (hm : (id, HObj.tok s rows.length) ∈ H) (hid : n0 ≤ id) (hB : HB n0 H0) (hs : H0.Sublist H) (h : R (.acc n0 s rows) (n0 + 1) ((n0, .tok s rows.length) :: H0)) : Fin n0 n H (.acc id s rows) R := by
  intro g w c hn hv hh
  obtain ⟨h1, h2⟩ := accRename hh hm hid hB hs
  exact ⟨_, _, _, _, h, Nat.le_succ _, hv.accRename, h1, h2⟩

theorem Fin.accT {id s : Nat} {rows : List (List AV)} {x : AV} {H0 : Heap} (hm : (id, HObj.tok s rows.length) ∈ H) (hid : n0 ≤ id) (hB : HB n0 H0) (hs : H0.Sublist H) (hx : below n0 x = true)
    (h : R (.tup [.acc n0 s rows, x]) (n0 + 1) ((n0, .tok s rows.length) :: H0)) : Fin n0 n H (.tup [.acc id s rows, x]) R := by
  intro g w c hn hv hh
  obtain ⟨h1, h2⟩ := accRename hh hm hid hB hs
  cases hv with | tup _ cs hcs =>
  obtain ⟨a, b, e, ha, hb⟩ : ∃ a b, cs = [a, b] ∧ VRel g n w (.acc id s rows) a ∧ VRel g n w x b := by
    cases hcs with | cons _ a _ _ h3 t => cases t with | cons _ b _ _ h4 t => cases t; exact ⟨a, b, rfl, h3, h4⟩
  subst e
  refine ⟨_, _, _, _, h, Nat.le_succ _, .tup _ [a, b] (.cons _ _ _ _ ha.accRename (.cons _ _ _ _ ?_ .nil)), h1, h2⟩
  exact (hb.lower hx).ext h2.toExt (Nat.le_succ _)

def env0 : Nat → List AV → Env
  | _, [] => []
  | i, a :: as => (i, a) :: env0 (i + 1) as
theorem env0_eq : ∀ (as : List AV) (i : Nat), env0 i as = (List.range' i as.length).zip as
  | [], i => rfl
  | a :: as, i => by rw [env0, env0_eq as (i + 1), List.length_cons, List.range'_succ, List.zip_cons_cons]

/-- A function with a body. -/
theorem Runs.of {f : FuncId} {fn : Func} {x : XCode} {args : List AV} (F : Cfg) (hf : P.funcs[f]? = some fn) (hx : fn.body.bind (cCode P fn.ntmps F.md F.kp) = some x) (hnm : (fn.name == "runtime.NumGoroutine") = false) (hn : Nat.ble args.length fn.ntmps = true)
    (h : HB n H → XS P ⟨fn, f, n, R⟩ F [.code x] (env0 0 args) n H) : Runs P f args n H R := by
  rw [Option.bind_eq_some_iff] at hx
  obtain ⟨c, hb, hc⟩ := hx
  refine SimCalls.runs (fn := fn) ?_ hf (by rw [hb]; rfl) hnm
  intro g w cs hv hh
  refine SimCalls.of_body hf hb (Nat.le_of_ble_eq_true hn) ?_ g w cs hv hh
  have := h hh.hb [.code c] ⟨hc, trivial⟩
  rwa [env0_eq, ← List.range_eq_range'] at this

theorem Runs.fz {f : FuncId} {args : List AV} (h : Runs P f (args.map Ab.fz) n H R) : Runs P f args n H R :=
  fun g w cs hv hh => h g w cs hv.fzd hh
theorem Runs.fzt {f : FuncId} {args : List AV} (h : Runs P f (args.map Ab.fzt) n H R) : Runs P f args n H R := by
  intro g w cs hv hh
  refine h g w cs ?_ hh
  clear h hh
  induction args generalizing cs with
  | nil => cases hv; exact .nil
  | cons a as ih => cases hv with | cons _ v _ vs h t => exact .cons _ _ _ _ h.fztd (ih vs t)

end Go.Ab
end
section
namespace Go.Ab
set_option linter.unusedVariables false
set_option linter.unusedSimpArgs false

mutual
inductive TS where
  | bool
  | int (k : IntKind)
  | str
  | sl (z : Nat) (e : TS)
  | st (ps : TSs)
inductive TSs where
  | nil
  | cons (s : TS) (ps : TSs)
end

def shapeFs (P : Program) (z : Nat) (r : TypeId → Option TS) : Nat → List Field → Option TSs
  | off, [] => if off = z then some .nil else none
  | off, f :: fs => if f.offset = off then
      match r f.type, shapeFs P z r (off + P.cellsOf f.type) fs with
      | some s, some ps => some (.cons s ps)
      | _, _ => none
    else none

def shapeOf (P : Program) : Nat → TypeId → Option TS
  | 0, _ => none
  | m + 1, t => match P.underlying t with
    | some .bool => some .bool
    | some (.int k) => some (.int k)
    | some .string => some .str
    | some (.slice e) => if P.cellsOf e = 0 then none else (shapeOf P m e).map (.sl (P.cellsOf e))
    | some (.struct fs) => (shapeFs P (P.cellsOf t) (shapeOf P m) 0 fs.toList).map .st
    | _ => none

mutual
def HasS : TS → List AV → Prop
  | .bool, as => ∃ b, as = [.bool b]
  | .int k, as => ∃ n, as = [.int k n] ∧ (Lit.int k n).wf = true
  | .str, as => ∃ s, as = [.str s] ∧ s.length ≤ maxLen
  | .sl z e, as => ∃ rows, as = [.sl rows] ∧ rows.length ≤ maxLen ∧ ∀ r ∈ rows, r.length = z ∧ HasS e r
  | .st ps, as => HasP ps as
def HasP : TSs → List AV → Prop
  | .nil, as => as = []
  | .cons s ps, as => ∃ xs ys, as = xs ++ ys ∧ HasS s xs ∧ HasP ps ys
end

/-- An argument, from its cells. -/
def argAV : TS → List AV → AV
  | .st _, as => .agg as
  | _, as => as.headD .junk

def HasArgs : List TS → List AV → Prop
  | [], vs => vs = []
  | s :: ss, vs => ∃ as rest, vs = argAV s as :: rest ∧ HasS s as ∧ HasArgs ss rest

def phi0 (w : World) (b : Nat) : Nat := match w.heap[b]? with
  | some (.cells c _ _) => c.size
  | _ => 0
def g0 (w : World) : Ghost := ⟨fun _ => 0, fun _ => none, phi0 w⟩

theorem g0_rel (w : World) : HRel (g0 w) 0 [] w := by
  refine ⟨.nil, fun p hp => absurd hp (by simp), fun b hb => ?_⟩
  show room w b (phi0 w b)
  have hb' : 0 < phi0 w b := hb
  unfold phi0 at hb' ⊢
  cases h : w.heap[b]? with
  | none => rw [h] at hb'; simp at hb'
  | some o => cases o with
    | cells c el fz => exact ⟨c, el, fz, h, Nat.le_refl _⟩
    | _ => rw [h] at hb'; simp at hb'

theorem phi0_cell {w : World} {b i : Nat} {v : Value} (h : w.cell? ⟨b, i, none⟩ = some v) : i < phi0 w b := by
  unfold World.cell? at h
  unfold phi0
  cases h' : w.heap[b]? with
  | none => rw [h'] at h; cases h
  | some o => cases o with
    | cells c el fz =>
      rw [h'] at h
      simp only [Option.isSome_none, Bool.false_eq_true, if_false] at h
      rcases Nat.lt_or_ge i c.size with hlt | hge
      · exact hlt
      · simp [Array.getElem?_eq_none hge] at h
    | _ => rw [h'] at h; cases h

theorem cell_spot {w : World} {a : Addr} {v : Value} (h : w.cell? a = some v) : a.spot = none := by
  unfold World.cell? at h
  split at h
  · split at h
    · cases h
    · rename_i hn
      simpa using hn
  · cases h

section
variable {H : Type} {enc : TypeId × Value → H} {P : Program} {w : World} {spare : Nat → Bool} {held : Bool}

theorem fs_rel {z : Nat} {r : TypeId → Option TS} {cs : List Value} (hz : cs.length = z)
    (ih : ∀ t sh cs, r t = some sh → ∀ n x, DataW.trod enc P w 0 spare held n t cs = some x → ∃ as, VRels (g0 w) 0 w as cs ∧ HasS sh as) :
    ∀ (fs : List Field) (off : Nat) (ps : TSs), shapeFs P z r off fs = some ps → (∀ f ∈ fs, ∃ n x, DataW.trod enc P w 0 spare held n f.type ((cs.drop f.offset).take (P.cellsOf f.type)) = some x) →
      ∃ as, VRels (g0 w) 0 w as (cs.drop off) ∧ HasP ps as
  | [], off, ps, hs, _ => by
    unfold shapeFs at hs
    split at hs
    · rename_i h
      cases hs
      refine ⟨[], ?_, rfl⟩
      rw [List.drop_eq_nil_of_le (by omega)]
      exact .nil
    · cases hs
  | f :: fs, off, ps, hs, hr => by
    unfold shapeFs at hs
    split at hs
    · rename_i ho
      split at hs
      · rename_i s ps' h1 h2
        cases hs
        obtain ⟨n, x, hx⟩ := hr f (List.mem_cons_self ..)
        obtain ⟨xs, hxs, hsx⟩ := ih _ _ _ h1 n x hx
        obtain ⟨ys, hys, hpy⟩ := fs_rel hz ih fs _ _ h2 (fun f' hf' => hr f' (List.mem_cons_of_mem _ hf'))
        refine ⟨xs ++ ys, ?_, xs, ys, rfl, hsx, hpy⟩
        have e : cs.drop off = (cs.drop f.offset).take (P.cellsOf f.type) ++ cs.drop (off + P.cellsOf f.type) := by
          rw [ho, ← List.drop_drop, List.take_append_drop]
        rw [e]
        exact hxs.append hys
      · cases hs
    · cases hs

theorem arith1 {a q i l : Nat} (h : l = q) (h' : l ≤ i) : a + i = a + q + (i - l) := by omega

theorem trod_rel : ∀ (m : Nat) (t : TypeId) (sh : TS) (cs : List Value), shapeOf P m t = some sh → ∀ n x, DataW.trod enc P w 0 spare held n t cs = some x → ∃ as, VRels (g0 w) 0 w as cs ∧ HasS sh as
  | 0, t, sh, cs, hs, n, x, hx => by cases hs
  | m + 1, t, sh, cs, hs, n, x, hx => by
    unfold shapeOf at hs
    split at hs
    · rename_i ht
      cases hs
      obtain ⟨b, rfl, _⟩ := DataW.trod_bool ht hx
      exact ⟨[.bool b], .cons _ _ _ _ (.bool b) .nil, b, rfl⟩
    · rename_i k ht
      cases hs
      obtain ⟨i, rfl, _, hw⟩ := DataW.trod_int ht hx
      exact ⟨[.int k i], .cons _ _ _ _ (.int k i) .nil, i, rfl, hw⟩
    · rename_i ht
      cases hs
      obtain ⟨s, rfl, _, hw⟩ := DataW.trod_string ht hx
      refine ⟨[.str s.data.toList], .cons _ _ _ _ ?_ .nil, _, rfl, by simpa using hw⟩
      have := VRel.str (g := g0 w) (n := 0) (w := w) s.data.toList
      simpa using this
    · rename_i e ht
      split at hs
      · cases hs
      · rename_i hz
        rw [Option.map_eq_some_iff] at hs
        obtain ⟨se, he, rfl⟩ := hs
        rcases DataW.trod_slice ht hx with ⟨rfl, _⟩ | ⟨a, len, cap, elems, rest, n', rfl, rfl, _, _, hlc, hcm, hel, hg, _, _⟩
        · exact ⟨[.sl []], .cons _ _ _ _ VRel.nil0 .nil, [], rfl, Nat.zero_le _, fun r hr => absurd hr (by simp)⟩
        · have key : ∀ k, k ≤ len → ∃ (rows : List (List AV)) (vs : List Value), rows.length = k ∧ vs.length = k * P.cellsOf e ∧ VRels (g0 w) 0 w rows.flatten vs ∧ Run w a.block a.off vs ∧ (0 < k → a.spot = none) ∧
              ∀ r ∈ rows, r.length = P.cellsOf e ∧ HasS se r := by
            intro k
            induction k with
            | zero =>
              intro _
              exact ⟨[], [], rfl, by simp, .nil, fun i v h => by simp at h, fun h => absurd h (Nat.lt_irrefl _), fun r hr => by simp at hr⟩
            | succ k ihk =>
              intro hk
              obtain ⟨rows, vs, h1, h2, h3, h4, h5, h6⟩ := ihk (by omega)
              have h7 := hg k (by omega)
              have h8 : ∃ y, elems[k]? = some y := ⟨elems[k]'(by omega), List.getElem?_eq_getElem (by omega)⟩
              obtain ⟨y, hy⟩ := h8
              rw [hy, Option.bind_eq_some_iff] at h7
              obtain ⟨cs, hc, hty⟩ := h7
              obtain ⟨_, hcl, hcc⟩ := World.cells?_some hc
              obtain ⟨as, has, hsa⟩ := trod_rel m _ _ _ he _ _ hty
              have hal := has.length
              have hpos : 0 < P.cellsOf e := Nat.pos_of_ne_zero hz
              have hspot : a.spot = none := by
                have := hcc 0 hpos
                rw [List.getElem?_eq_getElem (by omega)] at this
                have h9 := cell_spot this
                rcases Nat.eq_zero_or_pos k with hk0 | hk0
                · subst hk0
                  simpa [Addr.add] using h9
                · exact h5 hk0
              refine ⟨rows ++ [as], vs ++ cs, by simp [h1], by simp only [List.length_append, h2, hcl, Nat.add_mul, Nat.one_mul], ?_, ?_, fun _ => hspot, ?_⟩
              · rw [List.flatten_append]
                refine h3.append ?_
                simpa using has
              · intro i v hi
                rw [List.getElem?_append] at hi
                split at hi
                · exact h4 i v hi
                · rename_i hge
                  have hlt : i - vs.length < cs.length := by
                    rcases Nat.lt_or_ge (i - vs.length) cs.length with h' | h'
                    · exact h'
                    · rw [List.getElem?_eq_none h'] at hi; cases hi
                  have := hcc (i - vs.length) (by omega)
                  rw [hi] at this
                  rw [← this]
                  congr 1
                  obtain ⟨ab, ao, asp⟩ := a
                  simp only at hspot
                  subst hspot
                  have h10 : vs.length ≤ i := Nat.le_of_not_lt hge
                  generalize hq : k * P.cellsOf e = q at h2
                  have ha : ∀ o j, (Addr.mk ab o none).add j = ⟨ab, o + j, none⟩ := fun o j => by
                    unfold Addr.add
                    split
                    · rename_i h; rw [h]; rfl
                    · rfl
                  rw [ha, ha]
                  show Addr.mk ab (ao + i) none = Addr.mk ab (ao + q + (i - vs.length)) none
                  congr 1
                  exact arith1 h2 h10
              · intro r hr
                rw [List.mem_append] at hr
                rcases hr with hr | hr
                · exact h6 r hr
                · rw [List.mem_singleton] at hr
                  subst hr
                  exact ⟨by omega, hsa⟩
          obtain ⟨rows, vs, h1, h2, h3, h4, h5, h6⟩ := key len (Nat.le_refl _)
          have hne : rows ≠ [] → 0 < len := fun h => by rw [← h1]; exact List.length_pos_iff.mpr h
          refine ⟨[.sl rows], .cons _ _ _ _ ?_ .nil, ⟨rows, rfl, by omega, h6⟩⟩
          rw [← h1]
          refine .sl rows (P.cellsOf e) (some a) a.block a.off cap vs (fun h => ?_) (by omega) (fun r hr => (h6 r hr).1) (fun h => ?_) h4 h3
          · obtain ⟨ab, ao, asp⟩ := a
            have : asp = none := h5 (hne h)
            subst this
            rfl
          · have hpos : 0 < len * P.cellsOf e := Nat.mul_pos (hne h) (Nat.pos_of_ne_zero hz)
            show a.off + rows.length * P.cellsOf e ≤ phi0 w a.block
            rw [h1]
            have hi : vs[len * P.cellsOf e - 1]? = some (vs[len * P.cellsOf e - 1]'(by omega)) := List.getElem?_eq_getElem (by omega)
            have := phi0_cell (h4 _ _ hi)
            omega
    · rename_i fs ht
      rw [Option.map_eq_some_iff] at hs
      obtain ⟨ps, hps, rfl⟩ := hs
      obtain ⟨xs, n', _, _, hl, hxl, hf⟩ := DataW.trod_struct ht hx
      obtain ⟨as, h1, h2⟩ := fs_rel hl (fun t sh cs h n x hx => trod_rel m t sh cs h n x hx) fs.toList 0 ps hps (fun f hf' => by
        obtain ⟨i, hi⟩ := List.getElem?_of_mem hf'
        have hi' : fs[i]? = some f := by simpa using hi
        have hlt : i < xs.length := by
          rw [hxl]
          rcases Nat.lt_or_ge i fs.size with h | h
          · exact h
          · rw [Array.getElem?_eq_none h] at hi'; cases hi'
        exact ⟨n', xs[i], by rw [hf i f hi', List.getElem?_eq_getElem hlt]⟩)
      exact ⟨as, by simpa using h1, h2⟩
    · cases hs

theorem arg_rel {m : Nat} {t : TypeId} {sh : TS} {v : Value} {r : Reach} {b0 : Nat} {d : DataW H} {ps : List MemPlace} (hs : shapeOf P m t = some sh) (hval : Value.okWide P w r b0 t v) (hd : DataW.Trod enc P w 0 spare held t v d ps) :
    ∃ as, VRel (g0 w) 0 w (argAV sh as) v ∧ HasS sh as := by
  obtain ⟨n, hn⟩ := hd
  obtain ⟨as, h1, h2⟩ := trod_rel m t sh _ hs n _ hn
  refine ⟨as, ?_, h2⟩
  cases m with
  | zero => cases hs
  | succ m =>
  have one : ∀ {k : Value → Prop}, (∀ u, Cell.okWide P w r b0 t u → ∀ cs, u ≠ .agg cs) → (∀ fs, P.underlying t ≠ some (.struct fs)) → (∀ n e, P.underlying t ≠ some (.array n e)) → VRel (g0 w) 0 w (as.headD .junk) v := by
    intro _ hna hs1 hs2
    have hc : Cell.okWide P w r b0 t v := by
      unfold Value.okWide at hval
      split at hval
      · rename_i h; exact absurd h (hs1 _)
      · rename_i h; exact absurd h (hs2 _ _)
      · exact hval
    have hcs : v.cells.toList = [v] := by
      cases v with
      | agg cs => exact absurd rfl (hna _ hc cs)
      | _ => rfl
    rw [hcs] at h1
    cases h1 with | cons a _ _ _ h t => exact h
  unfold shapeOf at hs
  split at hs
  · rename_i ht
    cases hs
    refine one (k := fun _ => True) (fun u hu cs e => ?_) (fun _ h => by rw [ht] at h; cases h) (fun _ _ h => by rw [ht] at h; cases h)
    subst e
    simp [Cell.okWide, Cell.ok, ht] at hu
  · rename_i ht
    cases hs
    refine one (k := fun _ => True) (fun u hu cs e => ?_) (fun _ h => by rw [ht] at h; cases h) (fun _ _ h => by rw [ht] at h; cases h)
    subst e
    simp [Cell.okWide, Cell.ok, ht] at hu
  · rename_i ht
    cases hs
    refine one (k := fun _ => True) (fun u hu cs e => ?_) (fun _ h => by rw [ht] at h; cases h) (fun _ _ h => by rw [ht] at h; cases h)
    subst e
    simp [Cell.okWide, Cell.ok, ht] at hu
  · rename_i e ht
    split at hs
    · cases hs
    · rw [Option.map_eq_some_iff] at hs
      obtain ⟨se, he, rfl⟩ := hs
      refine one (k := fun _ => True) (fun u hu cs e => ?_) (fun _ h => by rw [ht] at h; cases h) (fun _ _ h => by rw [ht] at h; cases h)
      subst e
      simp [Cell.okWide, Cell.ok, ht] at hu
  · rename_i fs ht
    rw [Option.map_eq_some_iff] at hs
    obtain ⟨ps', hps, rfl⟩ := hs
    unfold Value.okWide at hval
    rw [ht] at hval
    obtain ⟨cs, rfl, _, _⟩ := hval
    have := VRel.agg as cs.toList h1
    simpa [argAV] using this
  · cases hs

theorem args_rel {m : Nat} {r : Reach} {b0 : Nat} : ∀ {ts : List TypeId} {shs : List TS} {vs : List Value} {ds : List (DataW H)} {ps : List MemPlace}, ts.mapM (shapeOf P m) = some shs →
    (∀ (j : Nat) t v, ts[j]? = some t → vs[j]? = some v → Value.okWide P w r b0 t v) → DataW.TrodAll enc P w 0 spare held ts vs ds ps → ∃ avs, VRels (g0 w) 0 w avs vs ∧ HasArgs shs avs ∧ ds.length = ts.length
  | [], shs, vs, ds, ps, hs, hv, h => by
    simp only [List.mapM_nil] at hs
    cases hs
    match vs, ds, h with
    | [], [], _ => exact ⟨[], .nil, rfl, rfl⟩
  | t :: ts, shs, vs, ds, ps, hs, hv, h => by
    match vs, ds, h with
    | v :: vs, d :: ds, h =>
      obtain ⟨p, q, h1, h2, _⟩ := h
      rw [List.mapM_cons] at hs
      simp only [Option.bind_eq_bind, Option.bind_eq_some_iff, Option.pure_def, Option.some.injEq] at hs
      obtain ⟨s, hs1, ss, hs2, rfl⟩ := hs
      obtain ⟨as, ha, hsa⟩ := arg_rel hs1 (hv 0 t v rfl rfl) h1
      obtain ⟨avs, hav, hss, hl⟩ := args_rel hs2 (fun j t' v' e1 e2 => hv (j + 1) t' v' (by simpa using e1) (by simpa using e2)) h2
      exact ⟨argAV s as :: avs, .cons _ _ _ _ ha hav, ⟨as, avs, rfl, hsa, hss⟩, by simp [hl]⟩
end

section
variable {H : Type} {enc : TypeId × Value → H} {P : Program}

theorem Grow.below {g g' : Ghost} {w w' : World} {H' : Heap} (h : Grow 0 g w [] g' w' H') : RowKit.Below w.heap.size w w' :=
  ⟨h.oth.os, h.oth.tape, h.oth.out, h.size, fun k hk => (h.old k hk (fun p hp => absurd hp (by simp))).1⟩

theorem trodAll_below (hl : laidOutB P = true) {W W' : World} (hb : RowKit.Below W.heap.size W W') : ∀ {ts : List TypeId} {vs : List Value} {ds : List (DataW H)} {ps : List MemPlace},
    (ts.all fun t => P.readableRec t && decide (t < P.types.size)) = true → DataW.TrodAll enc P W 0 (fun _ => true) true ts vs ds ps → (∀ x ∈ ps, x.block < W.heap.size) →
    DataW.TrodAll enc P W' 0 (fun b => decide (b < W.heap.size)) true ts vs ds ps
  | [], vs, ds, ps, _, h, _ => by
    match vs, ds, h with
    | [], [], h => exact h
  | t :: ts, vs, ds, ps, hr, h, hlt => by
    match vs, ds, h with
    | v :: vs, d :: ds, h =>
      obtain ⟨p, q, h1, h2, rfl⟩ := h
      simp only [List.all_cons, Bool.and_eq_true, decide_eq_true_eq] at hr
      exact ⟨p, q, RowKit.Below.trod hl hr.1.1 hr.1.2 h1 hb (fun x hx => hlt x (List.mem_append_left _ hx)),
        trodAll_below hl hb (by simpa using hr.2) h2 (fun x hx => hlt x (List.mem_append_right _ hx)), rfl⟩

theorem law_calls {f : FuncId} {fn : Func} {s : ChangeSpec} {m : Nat} {shs : List TS} {tb : TypeId} {args : Array Value} {W : World} {b0 : Nat} {ds gs : List (DataW H)} {before : List MemPlace}
    (hl : laidOutB P = true) (hsh : fn.params.toList.mapM (shapeOf P m) = some shs) (hrd : (fn.params.toList.all fun t => P.readableRec t && decide (t < P.types.size)) = true)
    (hres : fn.resultTypes = #[tb]) (htb : P.underlying tb = some .bool) (hvars : s.vars = [])
    (hs : ∀ (H : Type) (ds : List (DataW H)), ds.length = fn.params.toList.length → s.fn H ds = { results := [.lit (.bool true)], args := ds })
    (hf : P.funcs[f]? = some fn) (hb : fn.body.isNone = false) (hnm : (fn.name == "runtime.NumGoroutine") = false)
    (core : ∀ avs, HasArgs shs avs → Runs P f avs 0 [] (fun v _ _ => v = .bool true))
    (hval : ∀ (j : Nat) t v, fn.params[j]? = some t → args[j]? = some v → Value.okWide P W .any b0 t v)
    (hW : DataW.Whole enc P fn.params.toList s.vars false W args.toList ds gs before) :
    Calls P f args W fun e W' => ∃ v, e = .returned v ∧ s.post enc P fn false true false false W args v W' := by
  have hW' := hW
  obtain ⟨p, q, hA, hV, rfl, hfz, hnd⟩ := hW
  rw [hvars] at hV
  obtain ⟨rfl, rfl⟩ : gs = [] ∧ q = [] := by
    cases gs with
    | nil => exact ⟨rfl, hV⟩
    | cons g gs => exact hV.elim
  obtain ⟨avs, h1, h2, h3⟩ := args_rel hsh (fun j t v e1 e2 => hval j t v (by simpa using e1) (by simpa using e2)) hA
  have hc := core avs h2 (g0 W) W args.toList h1 (g0_rel W)
  have e : (callFunc f args.toList.toArray).run P W = .ok (.enter f args.toList.toArray) W := by
    simp only [callFunc, Sem.run_bind, run_program, Result.andThen_ok, hf, hb, hnm, Bool.false_eq_true, if_false, Sem.run_pure]
  rw [e] at hc
  simp only [Array.toArray_toList] at hc
  refine Calls.mono hc fun e W' => ?_
  rintro ⟨c, rfl, v, n', H', g', rfl, _, hv, _, hg⟩
  cases hv
  have bel := hg.below
  refine ⟨_, rfl, ds, [], p ++ [], [], p, [], hW', ?_, ?_, ?_, bel.frame _, fun h => Bool.noConfusion h⟩
  · rw [hres, List.append_nil, hs H ds h3]
    exact ⟨[], [], ⟨1, by simp [DataW.trod, Value.cells, htb]⟩, rfl, rfl⟩
  · rw [List.append_nil, hs H ds h3]
    exact trodAll_below hl bel hrd hA hA.lt
  · rw [hvars, List.append_nil, hs H ds h3]
    rfl
end
end Go.Ab
end
section
namespace Go.Ab
set_option linter.unusedVariables false

variable {P : Program} {n : Nat} {H : Heap} {K : AV → Nat → Heap → Prop}

/-! ### Environments -/
def del (E : Env) (d : Nat) : Env := E.filter fun p => p.1 != d
theorem put_none (E : Env) (v : AV) : put E none v = E := rfl
theorem put_some (E : Env) (d : Nat) (v : AV) : put E (some d) v = (d, v) :: del E d := rfl
theorem del_nil (d : Nat) : del [] d = [] := rfl
theorem del_cons (i : Nat) (a : AV) (E : Env) (d : Nat) : del ((i, a) :: E) d = if i = d then del E d else (i, a) :: del E d := by
  by_cases h : i = d <;> simp [del, h]
theorem val_nil (j : Nat) : val [] j = .junk := rfl
theorem val_cons (i : Nat) (a : AV) (E : Env) (j : Nat) : val ((i, a) :: E) j = if i = j then a else val E j := by
  by_cases h : i = j <;> simp [val, h]
theorem keepE_nil (E : Env) : keepE [] E = [] := rfl
theorem keepE_cons (k : Nat) (ks : List Nat) (E : Env) : keepE (k :: ks) E = (k, val E k) :: keepE ks E := rfl
theorem env0_nil (i : Nat) : env0 i [] = [] := rfl
theorem env0_cons (i : Nat) (a : AV) (as : List AV) : env0 i (a :: as) = (i, a) :: env0 (i + 1) as := rfl
theorem opd_t (E : Env) (i : Nat) : (Opd.t i).val E = val E i := rfl
theorem opd_k (E : Env) (v : AV) : (Opd.k v).val E = v := rfl

/-! ### Heaps -/
theorem hget_cons (i : Nat) (o : HObj) (H : Heap) (j : Nat) : hget ((i, o) :: H) j = if i = j then some o else hget H j := by
  by_cases h : i = j <;> simp [hget, h]
theorem hset_cons (i : Nat) (o : HObj) (H : Heap) (j : Nat) (o' : HObj) : hset ((i, o) :: H) j o' = if i = j then (j, o') :: H else (i, o) :: hset H j o' := rfl

/-! ### Operations -/
theorem x_mv (x : AV) : xop P .mv [x] n H K = K x n H := rfl
theorem x_pick (c : Bool) (a b : AV) : xop P .pick [.bool c, a, b] n H K = K (if c then a else b) n H := rfl
theorem ite_bool (c : Bool) (a b : Bool) : (if c = true then AV.bool a else AV.bool b) = .bool (if c = true then a else b) := by cases c <;> rfl
theorem x_alloc (z : List AV) : xop P (.alloc z) [] n H K = K (.ptr n 0) (n + 1) ((n, .own z) :: H) := rfl
theorem x_boxF_agg (cs : List AV) : xop P .boxF [.agg cs] n H K = ((cs.map fz).all flat = true ∧ K (.fptr (cs.map fz)) n H) := by
  simp only [xop, fop, cellsOf]
  by_cases h : (cs.map fz).all flat = true <;> simp [h]
theorem x_boxF_int (k : IntKind) (i : Int) : xop P .boxF [.int k i] n H K = K (.fptr [.int k i]) n H := rfl
theorem x_boxF_str (s : List UInt8) : xop P .boxF [.str s] n H K = K (.fptr [.str s]) n H := rfl
theorem x_boxF_bool (b : Bool) : xop P .boxF [.bool b] n H K = K (.fptr [.bool b]) n H := rfl
theorem x_boxF_sl (r : List (List AV)) : xop P .boxF [.sl r] n H K = K (.fptr [.sl r]) n H := rfl
theorem x_boxF_acc (i s : Nat) (r : List (List AV)) : xop P .boxF [.acc i s r] n H K = K (.fptr [.sl r]) n H := rfl
theorem x_boxO_agg (cs : List AV) : xop P .boxO [.agg cs] n H K = K (.ptr n 0) (n + 1) ((n, .own cs) :: H) := rfl
theorem x_boxO_int (k : IntKind) (i : Int) : xop P .boxO [.int k i] n H K = K (.ptr n 0) (n + 1) ((n, .own [.int k i]) :: H) := rfl
theorem x_boxO_str (s : List UInt8) : xop P .boxO [.str s] n H K = K (.ptr n 0) (n + 1) ((n, .own [.str s]) :: H) := rfl
theorem x_boxO_sl (r : List (List AV)) : xop P .boxO [.sl r] n H K = K (.ptr n 0) (n + 1) ((n, .own [.sl r]) :: H) := rfl
theorem x_boxO_acc (i s : Nat) (r : List (List AV)) : xop P .boxO [.acc i s r] n H K = K (.ptr n 0) (n + 1) ((n, .own [.acc i s r]) :: H) := rfl
theorem x_boxO_bool (b : Bool) : xop P .boxO [.bool b] n H K = K (.ptr n 0) (n + 1) ((n, .own [.bool b]) :: H) := rfl
theorem x_build (z : List AV) (pl : List (Nat × Nat)) (xs : List AV) : xop P (.build z pl) xs n H K = oK (buildC z pl xs) fun cs => K (.agg cs) n H := by
  have : xop P (.build z pl) xs n H K = oK ((buildC z pl xs).map .agg) fun v => K v n H := by
    cases xs <;> rfl
  rw [this]
  cases buildC z pl xs <;> rfl
theorem buildC_nil (z : List AV) : buildC z [] [] = some z := rfl
theorem buildC_agg (z : List AV) (off s : Nat) (pl : List (Nat × Nat)) (cs xs : List AV) : buildC z ((off, s) :: pl) (.agg cs :: xs) = if cs.length = s ∧ off + s ≤ z.length then buildC (setCells z off cs) pl xs else none := rfl
theorem buildC_one (z : List AV) (off : Nat) (pl : List (Nat × Nat)) (x : AV) (xs : List AV) (hx : cellsOf x = some [x]) : buildC z ((off, 1) :: pl) (x :: xs) = if off < z.length then buildC (setCells z off [x]) pl xs else none := by
  simp [buildC, hx, Nat.succ_le_iff]
theorem x_bslF (s : Nat) (xs : List AV) : xop P (.bsl 0 s) xs n H K = oK (rowsOf xs) fun rows => rowsOk s rows ∧ K (.sl rows) n H := by
  have : xop P (.bsl 0 s) xs n H K = oK (frozenRows s xs) fun v => K v n H := by cases xs <;> rfl
  rw [this]
  unfold frozenRows
  cases rowsOf xs with
  | none => rfl
  | some rows => simp only [oK_some]; by_cases h : rowsOk s rows <;> simp [h]
theorem x_bslA (s : Nat) (xs : List AV) : xop P (.bsl 1 s) xs n H K = oK (rowsOf xs) fun rows => rowsOk s rows ∧ K (.acc n s rows) (n + 1) ((n, .tok s rows.length) :: H) := by cases xs <;> rfl
theorem x_bslO (s : Nat) (xs : List AV) : xop P (.bsl 2 s) xs n H K = oK (rowsOf xs) fun rows => rowsOk s rows ∧ K (.ref n s 0 rows.length) (n + 1) ((n, .own rows.flatten) :: H) := by cases xs <;> rfl
theorem rowsOf_nil : rowsOf [] = some [] := rfl
theorem rowsOf_agg (cs xs : List AV) : rowsOf (.agg cs :: xs) = (rowsOf xs).map (cs.map fz :: ·) := by simp only [rowsOf, cellsOf]; cases rowsOf xs <;> rfl
theorem rowsOf_int (k : IntKind) (i : Int) (xs : List AV) : rowsOf (.int k i :: xs) = (rowsOf xs).map ([.int k i] :: ·) := by simp only [rowsOf, cellsOf]; cases rowsOf xs <;> rfl
theorem rowsOf_str (s : List UInt8) (xs : List AV) : rowsOf (.str s :: xs) = (rowsOf xs).map ([.str s] :: ·) := by simp only [rowsOf, cellsOf]; cases rowsOf xs <;> rfl
theorem rowsOf_bool (b : Bool) (xs : List AV) : rowsOf (.bool b :: xs) = (rowsOf xs).map ([.bool b] :: ·) := by simp only [rowsOf, cellsOf]; cases rowsOf xs <;> rfl
theorem rowsOf_sl (r : List (List AV)) (xs : List AV) : rowsOf (.sl r :: xs) = (rowsOf xs).map ([.sl r] :: ·) := by simp only [rowsOf, cellsOf]; cases rowsOf xs <;> rfl
theorem rowsOf_nilsl (xs : List AV) : rowsOf (.nilsl :: xs) = (rowsOf xs).map ([AV.sl []] :: ·) := by simp only [rowsOf, cellsOf]; cases rowsOf xs <;> rfl
theorem rowsOf_acc (i s : Nat) (r : List (List AV)) (xs : List AV) : rowsOf (.acc i s r :: xs) = (rowsOf xs).map ([.sl r] :: ·) := by simp only [rowsOf, cellsOf]; cases rowsOf xs <;> rfl
theorem rowsOk_nil (s : Nat) : rowsOk s [] = True := by simp [rowsOk]
theorem rowsOk_cons (s : Nat) (r : List AV) (rs : List (List AV)) : rowsOk s (r :: rs) = ((r.length = s ∧ r.all flat = true) ∧ rowsOk s rs) := by simp [rowsOk]
theorem rowsOk_app (s : Nat) (r rs : List (List AV)) : rowsOk s (r ++ rs) = (rowsOk s r ∧ rowsOk s rs) := by
  simp only [rowsOk, List.mem_append, eq_iff_iff]
  exact ⟨fun h => ⟨fun r hr => h r (.inl hr), fun r hr => h r (.inr hr)⟩, fun h r hr => hr.elim (h.1 r) (h.2 r)⟩
theorem x_ldF (s : Option Nat) (cs : List AV) : xop P (.ld s) [.fptr cs] n H K = oK (ldc s cs) fun v => K v n H := rfl
theorem x_ldO (s : Option Nat) (id off : Nat) : xop P (.ld s) [.ptr id off] n H K = match hget H id with
    | some (.own cells) => oK (ldc s (cells.drop off)) fun v => K v n H
    | _ => False := rfl
theorem ldc_one (c : AV) (cs : List AV) : ldc none (c :: cs) = some c := rfl
theorem ldc_agg (s : Nat) (cs : List AV) : ldc (some s) cs = if s ≤ cs.length then some (.agg (cs.take s)) else none := rfl
theorem x_st (s : Option Nat) (id off : Nat) (x : AV) : xop P (.st s) [.ptr id off, x] n H K = match hget H id, cellsOf x with
    | some (.own cells), some xs => (xs.length = s.getD 1 ∧ off + xs.length ≤ cells.length ∧ xs.all plain = true) ∧ K .junk n (hset H id (.own (setCells cells off xs)))
    | _, _ => False := rfl
theorem x_add (k : IntKind) (a b : Int) : xop P (.bin .add) [.int k a, .int k b] n H K = K (.int k (k.wrap (a + b))) n H := by simp [xop, fop, ibin]
theorem x_sub (k : IntKind) (a b : Int) : xop P (.bin .sub) [.int k a, .int k b] n H K = K (.int k (k.wrap (a - b))) n H := by simp [xop, fop, ibin]
theorem x_mul (k : IntKind) (a b : Int) : xop P (.bin .mul) [.int k a, .int k b] n H K = K (.int k (k.wrap (a * b))) n H := by simp [xop, fop, ibin]
theorem x_quo (k : IntKind) (a b : Int) : xop P (.bin .quo) [.int k a, .int k b] n H K = (b ≠ 0 ∧ K (.int k (k.wrap (a.tdiv b))) n H) := by
  by_cases h : b = 0 <;> simp [xop, fop, ibin, h]
theorem x_rem (k : IntKind) (a b : Int) : xop P (.bin .rem) [.int k a, .int k b] n H K = (b ≠ 0 ∧ K (.int k (a.tmod b)) n H) := by
  by_cases h : b = 0 <;> simp [xop, fop, ibin, h]
theorem x_lss (k : IntKind) (a b : Int) : xop P (.bin .lss) [.int k a, .int k b] n H K = K (.bool (decide (a < b))) n H := by simp [xop, fop, ibin]
theorem x_leq (k : IntKind) (a b : Int) : xop P (.bin .leq) [.int k a, .int k b] n H K = K (.bool (decide (a ≤ b))) n H := by simp [xop, fop, ibin]
theorem x_gtr (k : IntKind) (a b : Int) : xop P (.bin .gtr) [.int k a, .int k b] n H K = K (.bool (decide (b < a))) n H := by simp [xop, fop, ibin]
theorem x_geq (k : IntKind) (a b : Int) : xop P (.bin .geq) [.int k a, .int k b] n H K = K (.bool (decide (b ≤ a))) n H := by simp [xop, fop, ibin]
theorem x_eql (k : IntKind) (a b : Int) : xop P (.bin .eql) [.int k a, .int k b] n H K = K (.bool (a == b)) n H := by simp [xop, fop, ibin]
theorem x_neq (k : IntKind) (a b : Int) : xop P (.bin .neq) [.int k a, .int k b] n H K = K (.bool (a != b)) n H := by simp [xop, fop, ibin]
theorem x_sadd (a b : List UInt8) : xop P (.bin .add) [.str a, .str b] n H K = (a.length + b.length ≤ 9223372036854775807 ∧ K (.str (a ++ b)) n H) := by
  by_cases h : a.length + b.length ≤ 9223372036854775807 <;> simp [xop, fop, sbin, h]
theorem x_seql (a b : List UInt8) : xop P (.bin .eql) [.str a, .str b] n H K = K (.bool (a == b)) n H := rfl
theorem x_sneq (a b : List UInt8) : xop P (.bin .neq) [.str a, .str b] n H K = K (.bool !(a == b)) n H := rfl
theorem x_binB (neg a b : Bool) : xop P (.binB neg) [.bool a, .bool b] n H K = K (.bool (if neg then a != b else a == b)) n H := rfl
theorem x_nilsl : xop P .eqNil [.nilsl, .nilsl] n H K = K (.bool true) n H := rfl
theorem x_nil_sl (r : List (List AV)) : xop P .eqNil [.sl r, .nilsl] n H K = (K (.bool false) n H ∧ (r = [] → K (.bool true) n H)) := rfl
theorem x_nil_acc (i s : Nat) (r : List (List AV)) : xop P .eqNil [.acc i s r, .nilsl] n H K = (K (.bool false) n H ∧ (r = [] → K (.bool true) n H)) := rfl
theorem x_eqS (neg : Bool) (k : Nat) (xs ys : List AV) : xop P (.eqS neg k) [.agg xs, .agg ys] n H K = ((xs.length = k ∧ ys.length = k) ∧ oK (eqInts xs ys) fun b => K (.bool (b != neg)) n H) := by
  simp only [xop, fop]
  by_cases h : xs.length = k ∧ ys.length = k
  · rw [if_pos h]; cases eqInts xs ys <;> simp [h]
  · rw [if_neg h]; simp [h]
theorem x_not (b : Bool) : xop P (.un .not) [.bool b] n H K = K (.bool !b) n H := rfl
theorem x_neg (k : IntKind) (i : Int) : xop P (.un .neg) [.int k i] n H K = K (.int k (k.wrap (0 - i))) n H := rfl
theorem x_cvI (k k' : IntKind) (i : Int) : xop P (.cvI k) [.int k' i] n H K = K (.int k (k.wrap i)) n H := rfl
theorem x_cvIS (k' : IntKind) (i : Int) : xop P .cvIS [.int k' i] n H K = K (.str (Utf8.encode i).data.toList) n H := rfl
theorem x_cvSS (s : List UInt8) : xop P .cvSS [.str s] n H K = K (.str s) n H := rfl
theorem x_cvBS (r : List (List AV)) : xop P .cvBS [.sl r] n H K = oK (bytesRows r) fun s => K (.str s) n H := by simp only [xop, fop]; cases bytesRows r <;> rfl
theorem x_cvBS_acc (i s : Nat) (r : List (List AV)) : xop P .cvBS [.acc i s r] n H K = oK (bytesRows r) fun s => K (.str s) n H := by simp only [xop, fop]; cases bytesRows r <;> rfl
theorem x_cvBS_nil : xop P .cvBS [.nilsl] n H K = K (.str []) n H := rfl
theorem x_mkfn (f : FuncId) (cap : List AV) : xop P (.mkfn f) cap n H K = K (.fn f cap) n H := by cases cap <;> rfl
theorem x_mksO (s b : Nat) (z : List AV) (l c : Int) : xop P (.mks 2 s b z) [.int .i64 l, .int .i64 c] n H K = ((0 ≤ l ∧ l ≤ c ∧ c ≤ lenMax ∧ b ≤ 4096 ∧ z.length = s) ∧ l = c ∧ K (.ref n s 0 l.toNat) (n + 1) ((n, .own (List.replicate l.toNat z).flatten) :: H)) := by
  simp [xop, and_assoc]
theorem x_mksA (s b : Nat) (z : List AV) (l c : Int) : xop P (.mks 1 s b z) [.int .i64 l, .int .i64 c] n H K = ((0 ≤ l ∧ l ≤ c ∧ c ≤ lenMax ∧ b ≤ 4096 ∧ z.length = s) ∧ K (.acc n s (List.replicate l.toNat z)) (n + 1) ((n, .tok s l.toNat) :: H)) := by
  simp [xop, and_assoc]
theorem x_slS_n (s : List UInt8) : xop P (.slS false false) [.str s] n H K = K (.str s) n H := by
  simp [xop, fop, bnds]
theorem x_slS_l (s : List UInt8) (k : IntKind) (l : Int) : xop P (.slS true false) [.str s, .int k l] n H K = ((0 ≤ l ∧ l ≤ s.length) ∧ K (.str (s.drop l.toNat)) n H) := by
  simp only [xop, fop, bnds, Bool.not_false, Bool.and_self, if_true, Int.toNat_natCast, List.take_length]
  by_cases h : 0 ≤ l ∧ l ≤ s.length
  · rw [if_pos ⟨h.1, h.2, Int.le_refl _⟩]; simp [h]
  · rw [if_neg (fun h' => h ⟨h'.1, h'.2.1⟩)]; simp [h]
theorem x_slS_h (s : List UInt8) (k : IntKind) (l : Int) : xop P (.slS false true) [.str s, .int k l] n H K = ((0 ≤ l ∧ l ≤ s.length) ∧ K (.str (s.take l.toNat)) n H) := by
  simp only [xop, fop, bnds, Bool.false_and, Bool.false_eq_true, if_false, Bool.not_false, Bool.and_self, if_true]
  by_cases h : 0 ≤ l ∧ l ≤ s.length
  · rw [if_pos ⟨Int.le_refl _, h.1, h.2⟩]; simp [h]
  · rw [if_neg (fun h' => h ⟨h'.2.1, h'.2.2⟩)]; simp [h]
theorem x_slS_lh (s : List UInt8) (k k' : IntKind) (l h : Int) : xop P (.slS true true) [.str s, .int k l, .int k' h] n H K = ((0 ≤ l ∧ l ≤ h ∧ h ≤ s.length) ∧ K (.str ((s.take h.toNat).drop l.toNat)) n H) := by
  simp only [xop, fop, bnds, Bool.and_self, if_true]
  by_cases c : 0 ≤ l ∧ l ≤ h ∧ h ≤ s.length <;> simp [c]
theorem x_slL_n (z : Nat) (r : List (List AV)) : xop P (.slL z false false) [.sl r] n H K = (rowsOk z r ∧ K (.sl r) n H) := by
  simp only [xop, fop, bnds, sliceRows]
  by_cases h : rowsOk z r <;> simp [h]
theorem x_slL_l (z : Nat) (r : List (List AV)) (k : IntKind) (l : Int) : xop P (.slL z true false) [.sl r, .int k l] n H K = (rowsOk z r ∧ (0 ≤ l ∧ l ≤ r.length) ∧ K (.sl (r.drop l.toNat)) n H) := by
  simp only [xop, fop, bnds, sliceRows, Bool.not_false, Bool.and_self, if_true, Int.toNat_natCast, List.take_length]
  by_cases h0 : rowsOk z r
  · rw [if_pos h0]
    by_cases h : 0 ≤ l ∧ l ≤ r.length
    · rw [if_pos ⟨h.1, h.2, Int.le_refl _⟩]; simp [h, h0]
    · rw [if_neg (fun h' => h ⟨h'.1, h'.2.1⟩)]; simp [h]
  · simp [h0]
theorem x_slL_h (z : Nat) (r : List (List AV)) (k : IntKind) (l : Int) : xop P (.slL z false true) [.sl r, .int k l] n H K = (rowsOk z r ∧ (0 ≤ l ∧ l ≤ r.length) ∧ K (.sl (r.take l.toNat)) n H) := by
  simp only [xop, fop, bnds, sliceRows, Bool.false_and, Bool.false_eq_true, if_false, Bool.not_false, Bool.and_self, if_true]
  by_cases h0 : rowsOk z r
  · rw [if_pos h0]
    by_cases h : 0 ≤ l ∧ l ≤ r.length
    · rw [if_pos ⟨Int.le_refl _, h.1, h.2⟩]; simp [h, h0]
    · rw [if_neg (fun h' => h ⟨h'.2.1, h'.2.2⟩)]; simp [h]
  · simp [h0]
theorem x_slL_lh (z : Nat) (r : List (List AV)) (k k' : IntKind) (l h : Int) : xop P (.slL z true true) [.sl r, .int k l, .int k' h] n H K = (rowsOk z r ∧ (0 ≤ l ∧ l ≤ h ∧ h ≤ r.length) ∧ K (.sl ((r.take h.toNat).drop l.toNat)) n H) := by
  simp only [xop, fop, bnds, sliceRows, Bool.and_self, if_true]
  by_cases h0 : rowsOk z r
  · rw [if_pos h0]
    by_cases c : 0 ≤ l ∧ l ≤ h ∧ h ≤ r.length <;> simp [c, h0]
  · simp [h0]
theorem x_slA (z : Nat) (lo hi : Bool) (i s : Nat) (r : List (List AV)) (bs : List AV) : xop P (.slL z lo hi) (.acc i s r :: bs) n H K = xop P (.slL z lo hi) (.sl r :: bs) n H K := rfl
theorem x_fldF (off : Nat) (cs : List AV) : xop P (.fldA off) [.fptr cs] n H K = (off ≤ cs.length ∧ K (.fptr (cs.drop off)) n H) := by
  simp only [xop, fop]; by_cases h : off ≤ cs.length <;> simp [h]
theorem x_fldO (off id o : Nat) : xop P (.fldA off) [.ptr id o] n H K = K (.ptr id (o + off)) n H := rfl
theorem x_fld1 (off : Nat) (cs : List AV) : xop P (.fld off none) [.agg cs] n H K = oK cs[off]? fun v => K v n H := rfl
theorem x_fldS (off s : Nat) (cs : List AV) : xop P (.fld off (some s)) [.agg cs] n H K = (off + s ≤ cs.length ∧ K (.agg ((cs.drop off).take s)) n H) := by
  simp only [xop, fop]; by_cases h : off + s ≤ cs.length <;> simp [h]
theorem x_idxA (z : Nat) (r : List (List AV)) (k : IntKind) (i : Int) : xop P (.idxA z) [.sl r, .int k i] n H K = ((0 ≤ i ∧ i < r.length ∧ rowsOk z r) ∧ K (.fptr (r.getD i.toNat [])) n H) := by
  simp only [xop, fop]; by_cases h : 0 ≤ i ∧ i < r.length ∧ rowsOk z r <;> simp [h]
theorem x_idxA_acc (z id s : Nat) (r : List (List AV)) (k : IntKind) (i : Int) : xop P (.idxA z) [.acc id s r, .int k i] n H K = ((0 ≤ i ∧ i < r.length ∧ rowsOk z r) ∧ K (.fptr (r.getD i.toNat [])) n H) := by
  simp only [xop, fop]; by_cases h : 0 ≤ i ∧ i < r.length ∧ rowsOk z r <;> simp [h]
theorem x_idxA_ref (z id s off len : Nat) (k : IntKind) (i : Int) : xop P (.idxA z) [.ref id s off len, .int k i] n H K = ((0 ≤ i ∧ i < len ∧ s = z) ∧ K (.ptr id (off + i.toNat * s)) n H) := by
  simp only [xop, fop]; by_cases h : 0 ≤ i ∧ i < len ∧ s = z
  · rw [if_pos h]; simp [h]
  · rw [if_neg h]; simp [h]
theorem x_idxS (s : List UInt8) (k : IntKind) (i : Int) : xop P .idxS [.str s, .int k i] n H K = ((0 ≤ i ∧ i < s.length) ∧ K (.int .u8 ((s.getD i.toNat 0).toNat : Int)) n H) := by
  simp only [xop, fop]; by_cases h : 0 ≤ i ∧ i < s.length <;> simp [h]
theorem x_ext (i : Nat) (vs : List AV) : xop P (.ext i) [.tup vs] n H K = oK vs[i]? fun v => K v n H := rfl
theorem x_lenL (r : List (List AV)) : xop P .lenL [.sl r] n H K = K (.int .i64 r.length) n H := rfl
theorem x_lenA (i s : Nat) (r : List (List AV)) : xop P .lenL [.acc i s r] n H K = K (.int .i64 r.length) n H := rfl
theorem x_lenR (i s o l : Nat) : xop P .lenL [.ref i s o l] n H K = K (.int .i64 l) n H := rfl
theorem x_lenN : xop P .lenL [.nilsl] n H K = K (.int .i64 0) n H := rfl
theorem x_lenS (s : List UInt8) : xop P .lenS [.str s] n H K = K (.int .i64 s.length) n H := rfl
theorem x_call (f : FuncId) (cap args : List AV) : xop P .call (.fn f cap :: args) n H K = Runs P f (args ++ cap) n H K := rfl
theorem x_app_acc (z b : Nat) (id s : Nat) (r : List (List AV)) (y : AV) : xop P (.app z b) [.acc id s r, y] n H K = (b ≤ 4096 ∧ oK (rowsOfSl H y) fun ys => rowsOk z ys ∧ (r.length + ys.length ≤ lenMax ∧ s = z ∧ hget H id = some (.tok s r.length)) ∧ K (.acc id s (r ++ ys)) n (hset H id (.tok s (r.length + ys.length)))) := rfl
theorem x_app_nil (z b : Nat) (y : AV) : xop P (.app z b) [.nilsl, y] n H K = (b ≤ 4096 ∧ oK (rowsOfSl H y) fun ys => rowsOk z ys ∧ ys.length ≤ lenMax ∧ (ys = [] → K .nilsl n H) ∧ (ys ≠ [] → K (.acc n z ys) (n + 1) ((n, .tok z ys.length) :: H))) := rfl
theorem rowsOfSl_sl (r : List (List AV)) : rowsOfSl H (.sl r) = some r := rfl
theorem rowsOfSl_acc (i s : Nat) (r : List (List AV)) : rowsOfSl H (.acc i s r) = some r := rfl
theorem rowsOfSl_nil : rowsOfSl H .nilsl = some [] := rfl
theorem x_min2 (k : IntKind) (a b : Int) : xop P (.mnx false) [.int k a, .int k b] n H K = K (.int k (min a b)) n H := by
  have e : (if b < a then b else a) = min a b := by omega
  simp [xop, fop, mnxI, mnxGo, e]
theorem x_max2 (k : IntKind) (a b : Int) : xop P (.mnx true) [.int k a, .int k b] n H K = K (.int k (max a b)) n H := by
  have e : (if b > a then b else a) = max a b := by omega
  simp [xop, fop, mnxI, mnxGo, e]
theorem x_min3 (k : IntKind) (a b c : Int) : xop P (.mnx false) [.int k a, .int k b, .int k c] n H K = K (.int k (min (min a b) c)) n H := by
  have e : ∀ a b : Int, (if b < a then b else a) = min a b := fun a b => by omega
  simp [xop, fop, mnxI, mnxGo, e]

/-! ### Regions and guards -/
theorem xOps_nil (E : Env) (K : Env → Nat → Heap → Prop) : xOps P [] E n H K = K E n H := rfl
theorem xOps_cons (d : Option Nat) (o : XO) (as : List Opd) (l : List XOp) (E : Env) (K : Env → Nat → Heap → Prop) :
    xOps P (⟨d, o, as, none⟩ :: l) E n H K = xop P o (as.map (Opd.val E)) n H fun v n' H' => xOps P l (put E d v) n' H' K := rfl
theorem xOps_gd (d : Option Nat) (o : XO) (as : List Opd) (t : Nat) (want : Bool) (l : List XOp) (E : Env) (K : Env → Nat → Heap → Prop) :
    xOps P (⟨d, o, as, some (t, want)⟩ :: l) E n H K = gd (val E t) want (xop P o (as.map (Opd.val E)) n H fun v n' H' => xOps P l (put E d v) n' H' K) (xOps P l (put E d (.tup [])) n H K) := rfl
theorem gd_und (w : Bool) (A B : Prop) : gd (.tup []) w A B = B := rfl
theorem gd_true (A B : Prop) : gd (.bool true) true A B = A := by simp [gd]
theorem gd_false (A B : Prop) : gd (.bool false) false A B = A := by simp [gd]
theorem gd_tf (A B : Prop) : gd (.bool true) false A B = B := by simp [gd]
theorem gd_ft (A B : Prop) : gd (.bool false) true A B = B := by simp [gd]

section intro
theorem gd.on {b : Bool} {want : Bool} {A B : Prop} (hA : b = want → A) (hB : b = !want → B) : gd (.bool b) want A B := by
  cases b <;> cases want <;> simp_all [gd]
end intro

/-! simp is not to look into what comes after. -/
@[congr] theorem xOps_congr {l : List XOp} {E E' : Env} {n n' : Nat} {H H' : Heap} {K : Env → Nat → Heap → Prop} (h1 : E = E') (h2 : n = n') (h3 : H = H') : xOps P l E n H K = xOps P l E' n' H' K := by rw [h1, h2, h3]
@[congr] theorem xop_congr {o : XO} {as as' : List AV} {n n' : Nat} {H H' : Heap} {K : AV → Nat → Heap → Prop} (h1 : as = as') (h2 : n = n') (h3 : H = H') : xop P o as n H K = xop P o as' n' H' K := by rw [h1, h2, h3]
@[congr] theorem XS_congr {X : Ctx} {F : Cfg} {k : List XItem} {E E' : Env} {n n' : Nat} {H H' : Heap} (h1 : E = E') (h2 : n = n') (h3 : H = H') : XS P X F k E n H = XS P X F k E' n' H' := by rw [h1, h2, h3]
@[congr] theorem gd_congr {v v' : AV} {w : Bool} {A B : Prop} (h : v = v') : gd v w A B = gd v' w A B := by rw [h]
@[congr] theorem Runs_congr {f : FuncId} {as as' : List AV} {n n' : Nat} {H H' : Heap} {K : AV → Nat → Heap → Prop} (h1 : as = as') (h2 : n = n') (h3 : H = H') : Runs P f as n H K = Runs P f as' n' H' K := by rw [h1, h2, h3]
@[congr] theorem oK_congr {α : Type} {o o' : Option α} {K : α → Prop} (h : o = o') : oK o K = oK o' K := by rw [h]

end Go.Ab
end
section
namespace Go.Ab
set_option linter.unusedVariables false

variable {P : Program} {X : Ctx} {F : Cfg} {k : List XItem} {E : Env} {n : Nat} {H : Heap}

theorem Runs.indexByte {f : FuncId} {fn : Func} (hf : P.funcs[f]? = some fn) (hb : fn.body.isNone = true) (hnm : (fn.name == "runtime.NumGoroutine") = false)
    (h1 : (Extern.findNext fn).isNone = true) (h2 : Extern.find fn = some Extern.BytealgIndexByte.indexByte) (s : List UInt8) (c : Int) : RunsF P f [.str s, .int .u8 c] (.int .i64 (Lib.indexByte s c.toNat.toUInt8)) := by
  intro n H g w cs hv hh
  obtain ⟨a, b, rfl, ha, hb2⟩ : ∃ a b, cs = [a, b] ∧ VRel g n w (.str s) a ∧ VRel g n w (.int .u8 c) b := by
    cases hv with | cons _ a _ _ h3 t => cases t with | cons _ b _ _ h4 t => cases t; exact ⟨a, b, rfl, h3, h4⟩
  cases ha
  cases hb2
  have e1 : Extern.findNext fn = none := by
    cases he : Extern.findNext fn with
    | none => rfl
    | some _ => rw [he] at h1; cases h1
  have e : (callFunc f [Value.string ⟨s.toArray⟩, .int .u8 c].toArray).run P w = .ok (.value (.int .i64 (Lib.indexByte s c.toNat.toUInt8))) w := by
    simp only [callFunc, Sem.run_bind, run_program, Result.andThen_ok, hf, hb, hnm, Bool.false_eq_true, if_false, if_true, run_mark, e1, h2, Sem.run_pure]
    rw [show (Extern.BytealgIndexByte.indexByte [Value.string ⟨s.toArray⟩, .int .u8 c].toArray).run P w = _ from Lib.run_indexByteString (P := P) ⟨s.toArray⟩ c w]
    rfl
  rw [e]
  exact ⟨.int .i64 _, n, H, g, ⟨rfl, rfl, rfl⟩, Nat.le_refl _, .int _ _, hh, Grow.refl _ _ _ _⟩

/-! ### Loops -/
def emem : Env → Nat → AV → Prop
  | [], _, _ => False
  | (i, a) :: E, j, b => if i = j then a = b else emem E j b
def Esub : Env → Env → Prop
  | [], _ => True
  | (i, a) :: Es, E => emem E i a ∧ Esub Es E
theorem emem_mem : ∀ {E : Env} {i : Nat} {a : AV}, emem E i a → (i, a) ∈ E
  | [], _, _, h => h.elim
  | (j, b) :: E, i, a, h => by
    unfold emem at h
    split at h
    · rename_i e; subst e; subst h; exact List.mem_cons_self ..
    · exact List.mem_cons_of_mem _ (emem_mem h)
theorem Esub_mem : ∀ {Es E : Env}, Esub Es E → ∀ p ∈ Es, p ∈ E
  | [], _, _, p, hp => by cases hp
  | (i, a) :: Es, E, h, p, hp => by
    rw [List.mem_cons] at hp
    rcases hp with rfl | hp
    · exact emem_mem h.1
    · exact Esub_mem h.2 p hp
theorem emem_cons (i : Nat) (a : AV) (E : Env) (j : Nat) (b : AV) : emem ((i, a) :: E) j b = if i = j then a = b else emem E j b := rfl
theorem Esub_cons (i : Nat) (a : AV) (Es E : Env) : Esub ((i, a) :: Es) E = (emem E i a ∧ Esub Es E) := rfl
theorem Esub_nil (E : Env) : Esub [] E = True := rfl

theorem XS.to {E' : Env} {H' : Heap} {n' : Nat} (h : XS P X F k E' n' H') (hE : Esub E' E) (hn : n ≤ n') (hH : H'.Sublist H) : XS P X F k E n H := h.sub (Esub_mem hE) hH hn

/-- A loop: a state that holds at every round's head, and a measure that goes down. -/
theorem XS.while {σ : Type} (I : σ → Prop) (Es : σ → Env) (ns : σ → Nat) (Hs : σ → Heap) (μ : σ → Nat) (s0 : σ) {a : XCode} (h0 : I s0) (hE : Esub (Es s0) E) (hn : n ≤ ns s0) (hH : (Hs s0).Sublist H)
    (round : ∀ s, I s → (∀ s', I s' → μ s' < μ s → XS P X F (.inLoop a :: k) (Es s') (ns s') (Hs s')) → XS P X F (.code a :: .inLoop a :: k) (Es s) (ns s) (Hs s)) :
    XS P X F (.code (.loop a) :: k) E n H := by
  refine XS.loop ?_
  have key : ∀ m s, μ s = m → I s → XS P X F (.inLoop a :: k) (Es s) (ns s) (Hs s) := by
    intro m
    induction m using Nat.strongRecOn with
    | _ m ih =>
      intro s hs hI
      exact XS.inLoop (round s hI fun s' hI' hlt => ih (μ s') (hs ▸ hlt) s' rfl hI')
  exact (key _ s0 rfl h0).to hE hn hH

/-- What is left of the work on a 64 bit number that lies in its range. -/
theorem wrap_i64 {x : Int} (h1 : -9223372036854775808 ≤ x) (h2 : x ≤ 9223372036854775807) : IntKind.i64.wrap x = x := by
  rw [IntKind.wrap_i64]; omega
theorem wrap_u8 {x : Int} (h1 : 0 ≤ x) (h2 : x ≤ 255) : IntKind.u8.wrap x = x := by
  have e : IntKind.u8.wrap x = x % 256 := by simp [IntKind.wrap, IntKind.bits, IntKind.signed]
  rw [e]; omega

end Go.Ab
end
section
namespace Go.Ab
set_option linter.unusedVariables false
set_option linter.defProp false

inductive Tag {α : Type} (a : α) : Type where
  | mk
def Xo (P : Program) (o : XO) (vals : List AV) (n : Nat) (H : Heap) (K : AV → Nat → Heap → Prop) (t : Tag K) : Prop := xop P o vals n H K
def XOs (P : Program) (l : List XOp) (E : Env) (n : Nat) (H : Heap) (K : Env → Nat → Heap → Prop) (t : Tag K) : Prop := xOps P l E n H K
def Gd (v : AV) (want : Bool) (A B : Prop) (t : Tag (A, B)) : Prop := gd v want A B
def OK {α : Type} (o : Option α) (K : α → Prop) (t : Tag K) : Prop := oK o K
def withOwn (o : Option HObj) (K : List AV → Prop) (t : Tag K) : Prop := match o with
  | some (.own cells) => K cells
  | _ => False
def S (P : Program) (X : Ctx) (F : Cfg) (k : List XItem) (t : Tag (X, F, k)) (E : Env) (n : Nat) (H : Heap) : Prop := XS P X F k E n H
def RunsT (P : Program) (f : FuncId) (args : List AV) (n : Nat) (H : Heap) (R : AV → Nat → Heap → Prop) (t : Tag R) : Prop := Runs P f args n H R

section
variable {P : Program} {n : Nat} {H : Heap} {K : AV → Nat → Heap → Prop}
theorem tx_mv (x : AV) (t : Tag K) : Xo P .mv [x] n H K t = K x n H := x_mv _
theorem tx_pick (c : Bool) (a b : AV) (t : Tag K) : Xo P .pick [.bool c, a, b] n H K t = K (if c then a else b) n H := x_pick _ _ _
theorem tx_alloc (z : List AV) (t : Tag K) : Xo P (.alloc z) [] n H K t = K (.ptr n 0) (n + 1) ((n, .own z) :: H) := x_alloc _
theorem tx_boxF_agg (cs : List AV) (t : Tag K) : Xo P .boxF [.agg cs] n H K t = ((cs.map fz).all flat = true ∧ K (.fptr (cs.map fz)) n H) := x_boxF_agg _
theorem tx_boxF_int (k : IntKind) (i : Int) (t : Tag K) : Xo P .boxF [.int k i] n H K t = K (.fptr [.int k i]) n H := x_boxF_int _ _
theorem tx_boxF_str (s : List UInt8) (t : Tag K) : Xo P .boxF [.str s] n H K t = K (.fptr [.str s]) n H := x_boxF_str _
theorem tx_boxF_bool (b : Bool) (t : Tag K) : Xo P .boxF [.bool b] n H K t = K (.fptr [.bool b]) n H := x_boxF_bool _
theorem tx_boxF_sl (r : List (List AV)) (t : Tag K) : Xo P .boxF [.sl r] n H K t = K (.fptr [.sl r]) n H := x_boxF_sl _
theorem tx_boxF_acc (i s : Nat) (r : List (List AV)) (t : Tag K) : Xo P .boxF [.acc i s r] n H K t = K (.fptr [.sl r]) n H := x_boxF_acc _ _ _
theorem tx_boxO_agg (cs : List AV) (t : Tag K) : Xo P .boxO [.agg cs] n H K t = K (.ptr n 0) (n + 1) ((n, .own cs) :: H) := x_boxO_agg _
theorem tx_boxO_int (k : IntKind) (i : Int) (t : Tag K) : Xo P .boxO [.int k i] n H K t = K (.ptr n 0) (n + 1) ((n, .own [.int k i]) :: H) := x_boxO_int _ _
theorem tx_boxO_str (s : List UInt8) (t : Tag K) : Xo P .boxO [.str s] n H K t = K (.ptr n 0) (n + 1) ((n, .own [.str s]) :: H) := x_boxO_str _
theorem tx_boxO_sl (r : List (List AV)) (t : Tag K) : Xo P .boxO [.sl r] n H K t = K (.ptr n 0) (n + 1) ((n, .own [.sl r]) :: H) := x_boxO_sl _
theorem tx_boxO_acc (i s : Nat) (r : List (List AV)) (t : Tag K) : Xo P .boxO [.acc i s r] n H K t = K (.ptr n 0) (n + 1) ((n, .own [.acc i s r]) :: H) := x_boxO_acc _ _ _
theorem tx_boxO_bool (b : Bool) (t : Tag K) : Xo P .boxO [.bool b] n H K t = K (.ptr n 0) (n + 1) ((n, .own [.bool b]) :: H) := x_boxO_bool _
theorem tx_build (z : List AV) (pl : List (Nat × Nat)) (xs : List AV) (t : Tag K) : Xo P (.build z pl) xs n H K t = OK (buildC z pl xs) (fun cs => K (.agg cs) n H) Tag.mk := x_build _ _ _
theorem tx_bslF (s : Nat) (xs : List AV) (t : Tag K) : Xo P (.bsl 0 s) xs n H K t = OK (rowsOf xs) (fun rows => rowsOk s rows ∧ K (.sl rows) n H) Tag.mk := x_bslF _ _
theorem tx_bslA (s : Nat) (xs : List AV) (t : Tag K) : Xo P (.bsl 1 s) xs n H K t = OK (rowsOf xs) (fun rows => rowsOk s rows ∧ K (.acc n s rows) (n + 1) ((n, .tok s rows.length) :: H)) Tag.mk := x_bslA _ _
theorem tx_bslO (s : Nat) (xs : List AV) (t : Tag K) : Xo P (.bsl 2 s) xs n H K t = OK (rowsOf xs) (fun rows => rowsOk s rows ∧ K (.ref n s 0 rows.length) (n + 1) ((n, .own rows.flatten) :: H)) Tag.mk := x_bslO _ _
theorem tx_ldF (s : Option Nat) (cs : List AV) (t : Tag K) : Xo P (.ld s) [.fptr cs] n H K t = OK (ldc s cs) (fun v => K v n H) Tag.mk := x_ldF _ _
theorem tx_add (k : IntKind) (a b : Int) (t : Tag K) : Xo P (.bin .add) [.int k a, .int k b] n H K t = K (.int k (k.wrap (a + b))) n H := x_add _ _ _
theorem tx_sub (k : IntKind) (a b : Int) (t : Tag K) : Xo P (.bin .sub) [.int k a, .int k b] n H K t = K (.int k (k.wrap (a - b))) n H := x_sub _ _ _
theorem tx_mul (k : IntKind) (a b : Int) (t : Tag K) : Xo P (.bin .mul) [.int k a, .int k b] n H K t = K (.int k (k.wrap (a * b))) n H := x_mul _ _ _
theorem tx_quo (k : IntKind) (a b : Int) (t : Tag K) : Xo P (.bin .quo) [.int k a, .int k b] n H K t = (b ≠ 0 ∧ K (.int k (k.wrap (a.tdiv b))) n H) := x_quo _ _ _
theorem tx_rem (k : IntKind) (a b : Int) (t : Tag K) : Xo P (.bin .rem) [.int k a, .int k b] n H K t = (b ≠ 0 ∧ K (.int k (a.tmod b)) n H) := x_rem _ _ _
theorem tx_lss (k : IntKind) (a b : Int) (t : Tag K) : Xo P (.bin .lss) [.int k a, .int k b] n H K t = K (.bool (decide (a < b))) n H := x_lss _ _ _
theorem tx_leq (k : IntKind) (a b : Int) (t : Tag K) : Xo P (.bin .leq) [.int k a, .int k b] n H K t = K (.bool (decide (a ≤ b))) n H := x_leq _ _ _
theorem tx_gtr (k : IntKind) (a b : Int) (t : Tag K) : Xo P (.bin .gtr) [.int k a, .int k b] n H K t = K (.bool (decide (b < a))) n H := x_gtr _ _ _
theorem tx_geq (k : IntKind) (a b : Int) (t : Tag K) : Xo P (.bin .geq) [.int k a, .int k b] n H K t = K (.bool (decide (b ≤ a))) n H := x_geq _ _ _
theorem tx_eql (k : IntKind) (a b : Int) (t : Tag K) : Xo P (.bin .eql) [.int k a, .int k b] n H K t = K (.bool (a == b)) n H := x_eql _ _ _
theorem tx_neq (k : IntKind) (a b : Int) (t : Tag K) : Xo P (.bin .neq) [.int k a, .int k b] n H K t = K (.bool (a != b)) n H := x_neq _ _ _
theorem tx_sadd (a b : List UInt8) (t : Tag K) : Xo P (.bin .add) [.str a, .str b] n H K t = (a.length + b.length ≤ 9223372036854775807 ∧ K (.str (a ++ b)) n H) := x_sadd _ _
theorem tx_seql (a b : List UInt8) (t : Tag K) : Xo P (.bin .eql) [.str a, .str b] n H K t = K (.bool (a == b)) n H := x_seql _ _
theorem tx_sneq (a b : List UInt8) (t : Tag K) : Xo P (.bin .neq) [.str a, .str b] n H K t = K (.bool !(a == b)) n H := x_sneq _ _
theorem tx_binB (neg a b : Bool) (t : Tag K) : Xo P (.binB neg) [.bool a, .bool b] n H K t = K (.bool (if neg then a != b else a == b)) n H := x_binB _ _ _
theorem tx_nilsl (t : Tag K) : Xo P .eqNil [.nilsl, .nilsl] n H K t = K (.bool true) n H := x_nilsl
theorem tx_nil_sl (r : List (List AV)) (t : Tag K) : Xo P .eqNil [.sl r, .nilsl] n H K t = (K (.bool false) n H ∧ (r = [] → K (.bool true) n H)) := x_nil_sl _
theorem tx_nil_acc (i s : Nat) (r : List (List AV)) (t : Tag K) : Xo P .eqNil [.acc i s r, .nilsl] n H K t = (K (.bool false) n H ∧ (r = [] → K (.bool true) n H)) := x_nil_acc _ _ _
theorem tx_eqS (neg : Bool) (k : Nat) (xs ys : List AV) (t : Tag K) : Xo P (.eqS neg k) [.agg xs, .agg ys] n H K t = ((xs.length = k ∧ ys.length = k) ∧ OK (eqInts xs ys) (fun b => K (.bool (b != neg)) n H) Tag.mk) := x_eqS _ _ _ _
theorem tx_not (b : Bool) (t : Tag K) : Xo P (.un .not) [.bool b] n H K t = K (.bool !b) n H := x_not _
theorem tx_neg (k : IntKind) (i : Int) (t : Tag K) : Xo P (.un .neg) [.int k i] n H K t = K (.int k (k.wrap (0 - i))) n H := x_neg _ _
theorem tx_cvI (k k' : IntKind) (i : Int) (t : Tag K) : Xo P (.cvI k) [.int k' i] n H K t = K (.int k (k.wrap i)) n H := x_cvI _ _ _
theorem tx_cvIS (k' : IntKind) (i : Int) (t : Tag K) : Xo P .cvIS [.int k' i] n H K t = K (.str (Utf8.encode i).data.toList) n H := x_cvIS _ _
theorem tx_cvSS (s : List UInt8) (t : Tag K) : Xo P .cvSS [.str s] n H K t = K (.str s) n H := x_cvSS _
theorem tx_cvBS (r : List (List AV)) (t : Tag K) : Xo P .cvBS [.sl r] n H K t = OK (bytesRows r) (fun s => K (.str s) n H) Tag.mk := x_cvBS _
theorem tx_cvBS_acc (i s : Nat) (r : List (List AV)) (t : Tag K) : Xo P .cvBS [.acc i s r] n H K t = OK (bytesRows r) (fun s => K (.str s) n H) Tag.mk := x_cvBS_acc _ _ _
theorem tx_cvBS_nil (t : Tag K) : Xo P .cvBS [.nilsl] n H K t = K (.str []) n H := x_cvBS_nil
theorem tx_mkfn (f : FuncId) (cap : List AV) (t : Tag K) : Xo P (.mkfn f) cap n H K t = K (.fn f cap) n H := x_mkfn _ _
theorem tx_mksO (s b : Nat) (z : List AV) (l c : Int) (t : Tag K) : Xo P (.mks 2 s b z) [.int .i64 l, .int .i64 c] n H K t = ((0 ≤ l ∧ l ≤ c ∧ c ≤ lenMax ∧ b ≤ 4096 ∧ z.length = s) ∧ l = c ∧ K (.ref n s 0 l.toNat) (n + 1) ((n, .own (List.replicate l.toNat z).flatten) :: H)) := x_mksO _ _ _ _ _
theorem tx_mksA (s b : Nat) (z : List AV) (l c : Int) (t : Tag K) : Xo P (.mks 1 s b z) [.int .i64 l, .int .i64 c] n H K t = ((0 ≤ l ∧ l ≤ c ∧ c ≤ lenMax ∧ b ≤ 4096 ∧ z.length = s) ∧ K (.acc n s (List.replicate l.toNat z)) (n + 1) ((n, .tok s l.toNat) :: H)) := x_mksA _ _ _ _ _
theorem tx_slS_n (s : List UInt8) (t : Tag K) : Xo P (.slS false false) [.str s] n H K t = K (.str s) n H := x_slS_n _
theorem tx_slS_l (s : List UInt8) (k : IntKind) (l : Int) (t : Tag K) : Xo P (.slS true false) [.str s, .int k l] n H K t = ((0 ≤ l ∧ l ≤ s.length) ∧ K (.str (s.drop l.toNat)) n H) := x_slS_l _ _ _
theorem tx_slS_h (s : List UInt8) (k : IntKind) (l : Int) (t : Tag K) : Xo P (.slS false true) [.str s, .int k l] n H K t = ((0 ≤ l ∧ l ≤ s.length) ∧ K (.str (s.take l.toNat)) n H) := x_slS_h _ _ _
theorem tx_slS_lh (s : List UInt8) (k k' : IntKind) (l h : Int) (t : Tag K) : Xo P (.slS true true) [.str s, .int k l, .int k' h] n H K t = ((0 ≤ l ∧ l ≤ h ∧ h ≤ s.length) ∧ K (.str ((s.take h.toNat).drop l.toNat)) n H) := x_slS_lh _ _ _ _ _
theorem tx_slL_n (z : Nat) (r : List (List AV)) (t : Tag K) : Xo P (.slL z false false) [.sl r] n H K t = (rowsOk z r ∧ K (.sl r) n H) := x_slL_n _ _
theorem tx_slL_l (z : Nat) (r : List (List AV)) (k : IntKind) (l : Int) (t : Tag K) : Xo P (.slL z true false) [.sl r, .int k l] n H K t = (rowsOk z r ∧ (0 ≤ l ∧ l ≤ r.length) ∧ K (.sl (r.drop l.toNat)) n H) := x_slL_l _ _ _ _
theorem tx_slL_h (z : Nat) (r : List (List AV)) (k : IntKind) (l : Int) (t : Tag K) : Xo P (.slL z false true) [.sl r, .int k l] n H K t = (rowsOk z r ∧ (0 ≤ l ∧ l ≤ r.length) ∧ K (.sl (r.take l.toNat)) n H) := x_slL_h _ _ _ _
theorem tx_slL_lh (z : Nat) (r : List (List AV)) (k k' : IntKind) (l h : Int) (t : Tag K) : Xo P (.slL z true true) [.sl r, .int k l, .int k' h] n H K t = (rowsOk z r ∧ (0 ≤ l ∧ l ≤ h ∧ h ≤ r.length) ∧ K (.sl ((r.take h.toNat).drop l.toNat)) n H) := x_slL_lh _ _ _ _ _ _
theorem tx_slA (z : Nat) (lo hi : Bool) (i s : Nat) (r : List (List AV)) (bs : List AV) (t : Tag K) : Xo P (.slL z lo hi) (.acc i s r :: bs) n H K t = Xo P (.slL z lo hi) (.sl r :: bs) n H K t := x_slA _ _ _ _ _ _ _
theorem tx_fldF (off : Nat) (cs : List AV) (t : Tag K) : Xo P (.fldA off) [.fptr cs] n H K t = (off ≤ cs.length ∧ K (.fptr (cs.drop off)) n H) := x_fldF _ _
theorem tx_fldO (off id o : Nat) (t : Tag K) : Xo P (.fldA off) [.ptr id o] n H K t = K (.ptr id (o + off)) n H := x_fldO _ _ _
theorem tx_fld1 (off : Nat) (cs : List AV) (t : Tag K) : Xo P (.fld off none) [.agg cs] n H K t = OK cs[off]? (fun v => K v n H) Tag.mk := x_fld1 _ _
theorem tx_fldS (off s : Nat) (cs : List AV) (t : Tag K) : Xo P (.fld off (some s)) [.agg cs] n H K t = (off + s ≤ cs.length ∧ K (.agg ((cs.drop off).take s)) n H) := x_fldS _ _ _
theorem tx_idxA (z : Nat) (r : List (List AV)) (k : IntKind) (i : Int) (t : Tag K) : Xo P (.idxA z) [.sl r, .int k i] n H K t = ((0 ≤ i ∧ i < r.length ∧ rowsOk z r) ∧ K (.fptr (r.getD i.toNat [])) n H) := x_idxA _ _ _ _
theorem tx_idxA_acc (z id s : Nat) (r : List (List AV)) (k : IntKind) (i : Int) (t : Tag K) : Xo P (.idxA z) [.acc id s r, .int k i] n H K t = ((0 ≤ i ∧ i < r.length ∧ rowsOk z r) ∧ K (.fptr (r.getD i.toNat [])) n H) := x_idxA_acc _ _ _ _ _ _
theorem tx_idxA_ref (z id s off len : Nat) (k : IntKind) (i : Int) (t : Tag K) : Xo P (.idxA z) [.ref id s off len, .int k i] n H K t = ((0 ≤ i ∧ i < len ∧ s = z) ∧ K (.ptr id (off + i.toNat * s)) n H) := x_idxA_ref _ _ _ _ _ _ _
theorem tx_idxS (s : List UInt8) (k : IntKind) (i : Int) (t : Tag K) : Xo P .idxS [.str s, .int k i] n H K t = ((0 ≤ i ∧ i < s.length) ∧ K (.int .u8 ((s.getD i.toNat 0).toNat : Int)) n H) := x_idxS _ _ _
theorem tx_ext (i : Nat) (vs : List AV) (t : Tag K) : Xo P (.ext i) [.tup vs] n H K t = OK vs[i]? (fun v => K v n H) Tag.mk := x_ext _ _
theorem tx_lenL (r : List (List AV)) (t : Tag K) : Xo P .lenL [.sl r] n H K t = K (.int .i64 r.length) n H := x_lenL _
theorem tx_lenA (i s : Nat) (r : List (List AV)) (t : Tag K) : Xo P .lenL [.acc i s r] n H K t = K (.int .i64 r.length) n H := x_lenA _ _ _
theorem tx_lenR (i s o l : Nat) (t : Tag K) : Xo P .lenL [.ref i s o l] n H K t = K (.int .i64 l) n H := x_lenR _ _ _ _
theorem tx_lenN (t : Tag K) : Xo P .lenL [.nilsl] n H K t = K (.int .i64 0) n H := x_lenN
theorem tx_lenS (s : List UInt8) (t : Tag K) : Xo P .lenS [.str s] n H K t = K (.int .i64 s.length) n H := x_lenS _
theorem tx_app_acc (z b : Nat) (id s : Nat) (r : List (List AV)) (y : AV) (t : Tag K) : Xo P (.app z b) [.acc id s r, y] n H K t = (b ≤ 4096 ∧ OK (rowsOfSl H y) (fun ys => rowsOk z ys ∧ (r.length + ys.length ≤ lenMax ∧ s = z ∧ hget H id = some (.tok s r.length)) ∧ K (.acc id s (r ++ ys)) n (hset H id (.tok s (r.length + ys.length)))) Tag.mk) := x_app_acc _ _ _ _ _ _
theorem tx_app_nil (z b : Nat) (y : AV) (t : Tag K) : Xo P (.app z b) [.nilsl, y] n H K t = (b ≤ 4096 ∧ OK (rowsOfSl H y) (fun ys => rowsOk z ys ∧ ys.length ≤ lenMax ∧ (ys = [] → K .nilsl n H) ∧ (ys ≠ [] → K (.acc n z ys) (n + 1) ((n, .tok z ys.length) :: H))) Tag.mk) := x_app_nil _ _ _
theorem tx_min2 (k : IntKind) (a b : Int) (t : Tag K) : Xo P (.mnx false) [.int k a, .int k b] n H K t = K (.int k (min a b)) n H := x_min2 _ _ _
theorem tx_max2 (k : IntKind) (a b : Int) (t : Tag K) : Xo P (.mnx true) [.int k a, .int k b] n H K t = K (.int k (max a b)) n H := x_max2 _ _ _
theorem tx_min3 (k : IntKind) (a b c : Int) (t : Tag K) : Xo P (.mnx false) [.int k a, .int k b, .int k c] n H K t = K (.int k (min (min a b) c)) n H := x_min3 _ _ _ _
theorem txOps_nil (E : Env) (K : Env → Nat → Heap → Prop) (t : Tag K) : XOs P [] E n H K t = K E n H := xOps_nil _ _
theorem tgd_und (w : Bool) (A B : Prop) (t : Tag (A, B)) : Gd (.tup []) w A B t = B := gd_und _ _ _
theorem tgd_true (A B : Prop) (t : Tag (A, B)) : Gd (.bool true) true A B t = A := gd_true _ _
theorem tgd_false (A B : Prop) (t : Tag (A, B)) : Gd (.bool false) false A B t = A := gd_false _ _
theorem tgd_tf (A B : Prop) (t : Tag (A, B)) : Gd (.bool true) false A B t = B := gd_tf _ _
theorem tgd_ft (A B : Prop) (t : Tag (A, B)) : Gd (.bool false) true A B t = B := gd_ft _ _
theorem tx_ldO (s : Option Nat) (id off : Nat) (t : Tag K) : Xo P (.ld s) [.ptr id off] n H K t = withOwn (hget H id) (fun cells => OK (ldc s (cells.drop off)) (fun v => K v n H) Tag.mk) Tag.mk := rfl
theorem tx_st (s : Option Nat) (id off : Nat) (x : AV) (t : Tag K) : Xo P (.st s) [.ptr id off, x] n H K t = withOwn (hget H id) (fun cells => OK (cellsOf x) (fun xs => (xs.length = s.getD 1 ∧ off + xs.length ≤ cells.length ∧ xs.all plain = true) ∧ K .junk n (hset H id (.own (setCells cells off xs)))) Tag.mk) Tag.mk := by
  show (match hget H id, cellsOf x with
    | some (.own cells), some xs => (xs.length = s.getD 1 ∧ off + xs.length ≤ cells.length ∧ xs.all plain = true) ∧ K .junk n (hset H id (.own (setCells cells off xs)))
    | _, _ => False) = _
  unfold withOwn OK
  cases hget H id with
  | none => rfl
  | some o => cases o with
    | tok _ _ => rfl
    | vob _ _ _ => rfl
    | own c => cases cellsOf x <;> rfl
theorem tx_call2 (f : FuncId) (cap args : List AV) (t : Tag K) : Xo P .call (.fn f cap :: args) n H K t = RunsT P f (args ++ cap) n H K Tag.mk := rfl
theorem txOps_cons (d : Option Nat) (o : XO) (as : List Opd) (l : List XOp) (E : Env) (K : Env → Nat → Heap → Prop) (t : Tag K) :
    XOs P (⟨d, o, as, none⟩ :: l) E n H K t = Xo P o (as.map (Opd.val E)) n H (fun v n' H' => XOs P l (put E d v) n' H' K Tag.mk) Tag.mk := rfl
theorem txOps_gd (d : Option Nat) (o : XO) (as : List Opd) (i : Nat) (want : Bool) (l : List XOp) (E : Env) (K : Env → Nat → Heap → Prop) (t : Tag K) :
    XOs P (⟨d, o, as, some (i, want)⟩ :: l) E n H K t = Gd (val E i) want (Xo P o (as.map (Opd.val E)) n H (fun v n' H' => XOs P l (put E d v) n' H' K Tag.mk) Tag.mk) (XOs P l (put E d (.tup [])) n H K Tag.mk) Tag.mk := rfl
theorem tOK_some {α : Type} (a : α) (K : α → Prop) (t : Tag K) : OK (some a) K t = K a := rfl
theorem tOK_ite {α : Type} (c : Prop) [Decidable c] (o : Option α) (K : α → Prop) (t : Tag K) : OK (if c then o else none) K t = (c ∧ OK o K t) := oK_ite c o K
theorem town_some (cells : List AV) (K : List AV → Prop) (t : Tag K) : withOwn (some (.own cells)) K t = K cells := rfl
end

theorem Gd.on {b : Bool} {want : Bool} {A B : Prop} {t : Tag (A, B)} (hA : b = want → A) (hB : b = !want → B) : Gd (.bool b) want A B t := gd.on hA hB

/-! ### The rules for code, tagged -/
section
variable {P : Program} {X : Ctx} {F : Cfg} {k : List XItem} {E : Env} {n : Nat} {H : Heap}
theorem S.skip {t : Tag (X, F, XItem.code .skip :: k)} (h : S P X F k Tag.mk E n H) : S P X F (.code .skip :: k) t E n H := XS.skip h
theorem S.seq {a b : XCode} {t : Tag (X, F, XItem.code (.seq a b) :: k)} (h : S P X F (.code a :: .code b :: k) Tag.mk E n H) : S P X F (.code (.seq a b) :: k) t E n H := XS.seq h
theorem S.cond {c : Opd} {a b : XCode} {u : Bool} {t : Tag (X, F, XItem.code (.cond c a b) :: k)} (hc : c.val E = .bool u) (h1 : u = true → S P X F (.code a :: k) Tag.mk E n H) (h2 : u = false → S P X F (.code b :: k) Tag.mk E n H) : S P X F (.code (.cond c a b) :: k) t E n H := XS.cond hc h1 h2
theorem S.block {id : Nat} {a : XCode} {t : Tag (X, F, XItem.code (.block id a) :: k)} (h : S P X F (.code a :: .inBlock id :: k) Tag.mk E n H) : S P X F (.code (.block id a) :: k) t E n H := XS.block h
theorem S.inBlock {id : Nat} {t : Tag (X, F, XItem.inBlock id :: k)} (h : S P X F k Tag.mk E n H) : S P X F (.inBlock id :: k) t E n H := XS.inBlock h
theorem S.exit {id : Nat} {r : List XItem} {t : Tag (X, F, XItem.code (.exit id) :: k)} (he : xexit id k = some r) (h : S P X F r Tag.mk E n H) : S P X F (.code (.exit id) :: k) t E n H := XS.exit he h
theorem S.reg {l : List XOp} {ks : List Nat} {t : Tag (X, F, XItem.code (.reg l ks) :: k)} (h : XOs P l E n H (fun E n H => S P X F k Tag.mk (keepE ks E) n H) Tag.mk) : S P X F (.code (.reg l ks) :: k) t E n H := XS.reg h
theorem S.ret {vs : List AV} {t : Tag (X, F, XItem.code .ret :: k)} (hr : retsL P E H X.fn.results.toList = some vs) (hf : Fin X.n0 n H (retV vs) X.R) : S P X F (.code .ret :: k) t E n H := XS.ret hr hf
theorem S.fin {vs : List AV} {t : Tag (X, F, ([] : List XItem))} (hr : retsL P E H X.fn.results.toList = some vs) (hf : Fin X.n0 n H (retV vs) X.R) : S P X F [] t E n H := XS.fin hr hf
theorem S.to {E' : Env} {H' : Heap} {n' : Nat} {t t' : Tag (X, F, k)} (h : S P X F k t E' n' H') (hE : Esub E' E) (hn : n ≤ n') (hH : H'.Sublist H) : S P X F k t' E n H := XS.to h hE hn hH
theorem S.while {σ : Type} (I : σ → Prop) (Es : σ → Env) (ns : σ → Nat) (Hs : σ → Heap) (μ : σ → Nat) (s0 : σ) {a : XCode} {t : Tag (X, F, XItem.code (.loop a) :: k)} (h0 : I s0) (hE : Esub (Es s0) E) (hn : n ≤ ns s0) (hH : (Hs s0).Sublist H)
    (round : ∀ s, I s → (∀ s', I s' → μ s' < μ s → S P X F (.inLoop a :: k) Tag.mk (Es s') (ns s') (Hs s')) → S P X F (.code a :: .inLoop a :: k) Tag.mk (Es s) (ns s) (Hs s)) :
    S P X F (.code (.loop a) :: k) t E n H := XS.while I Es ns Hs μ s0 h0 hE hn hH round
theorem S.of {f : FuncId} {fn : Func} {x : XCode} {args : List AV} {R : AV → Nat → Heap → Prop} (F : Cfg) (hf : P.funcs[f]? = some fn) (hx : fn.body.bind (cCode P fn.ntmps F.md F.kp) = some x) (hnm : (fn.name == "runtime.NumGoroutine") = false) (hn : Nat.ble args.length fn.ntmps = true)
    (h : HB n H → S P ⟨fn, f, n, R⟩ F [.code x] Tag.mk (env0 0 args) n H) : Runs P f args n H R := Runs.of F hf hx hnm hn h
theorem RunsT.mk {f : FuncId} {args : List AV} {R : AV → Nat → Heap → Prop} {t : Tag R} (h : Runs P f args n H R) : RunsT P f args n H R t := h
theorem RunsF.ap {f : FuncId} {args : List AV} {r : AV} {R : AV → Nat → Heap → Prop} {t : Tag R} (h : RunsF P f args r) (hr : R r n H) : RunsT P f args n H R t := h.use hr
end
end Go.Ab
end
section
namespace Go.Ab
set_option linter.unusedVariables false
set_option linter.unusedSimpArgs false

def withVob (o : Option HObj) (ver : Nat) (K : Nat → List AV → Prop) (t : Tag K) : Prop := match o with
  | some (.vob v s cells) => v = ver ∧ K s cells
  | _ => False
theorem vob_vget (H : Heap) (id ver : Nat) (K : Nat → List AV → Prop) : vget H id ver K = withVob (hget H id) ver K Tag.mk := by
  unfold vget withVob
  cases hget H id with
  | none => rfl
  | some o => cases o <;> rfl
theorem vob_congr {o : Option HObj} {ver : Nat} {K K' : Nat → List AV → Prop} {t : Tag K} {t' : Tag K'} (h : ∀ s c, K s c = K' s c) : withVob o ver K t = withVob o ver K' t' := by
  have : K = K' := funext fun s => funext fun c => h s c
  subst this; rfl
theorem rowsOk_plain {z : Nat} {ys : List (List AV)} (h : rowsOk z ys) : ys.flatten.all plain = true := by
  rw [List.all_eq_true]
  intro c hc
  obtain ⟨r, hr, hcr⟩ := List.mem_flatten.mp hc
  have := List.all_eq_true.mp (h r hr).2 c hcr
  cases c <;> simp_all [flat, plain]

section
variable {P : Program} {n : Nat} {H : Heap} {K : AV → Nat → Heap → Prop}
theorem tv_bslV (s : Nat) (xs : List AV) (t : Tag K) : Xo P (.bsl 3 s) xs n H K t = OK (rawRows xs) (fun rows => rawOk s rows ∧ K (.vec n 0 s 0 rows.length) (n + 1) ((n, .vob 0 s rows.flatten) :: H)) Tag.mk := by cases xs <;> rfl
theorem tv_bslR (s : Nat) (xs : List AV) (t : Tag K) : Xo P (.bsl 4 s) xs n H K t = OK (rawRows xs) (fun rows => rawOk s rows ∧ K (.ref n s 0 rows.length) (n + 1) ((n, .own rows.flatten) :: H)) Tag.mk := by cases xs <;> rfl
theorem rawRows_nil : rawRows [] = some [] := rfl
theorem rawRows_agg (cs xs : List AV) : rawRows (.agg cs :: xs) = (rawRows xs).map (cs :: ·) := by simp only [rawRows, cellsOf]; cases rawRows xs <;> rfl
theorem rawRows_int (k : IntKind) (i : Int) (xs : List AV) : rawRows (.int k i :: xs) = (rawRows xs).map ([.int k i] :: ·) := by simp only [rawRows, cellsOf]; cases rawRows xs <;> rfl
theorem rawRows_str (s : List UInt8) (xs : List AV) : rawRows (.str s :: xs) = (rawRows xs).map ([.str s] :: ·) := by simp only [rawRows, cellsOf]; cases rawRows xs <;> rfl
theorem rawRows_bool (b : Bool) (xs : List AV) : rawRows (.bool b :: xs) = (rawRows xs).map ([.bool b] :: ·) := by simp only [rawRows, cellsOf]; cases rawRows xs <;> rfl
theorem rawRows_sl (r : List (List AV)) (xs : List AV) : rawRows (.sl r :: xs) = (rawRows xs).map ([.sl r] :: ·) := by simp only [rawRows, cellsOf]; cases rawRows xs <;> rfl
theorem rawRows_nilsl (xs : List AV) : rawRows (.nilsl :: xs) = (rawRows xs).map ([AV.nilsl] :: ·) := by simp only [rawRows, cellsOf]; cases rawRows xs <;> rfl
theorem rawRows_acc (i s : Nat) (r : List (List AV)) (xs : List AV) : rawRows (.acc i s r :: xs) = (rawRows xs).map ([.acc i s r] :: ·) := by simp only [rawRows, cellsOf]; cases rawRows xs <;> rfl
theorem rawRows_ref (i s o l : Nat) (xs : List AV) : rawRows (.ref i s o l :: xs) = (rawRows xs).map ([.ref i s o l] :: ·) := by simp only [rawRows, cellsOf]; cases rawRows xs <;> rfl
theorem rawRows_vec (i v s o l : Nat) (xs : List AV) : rawRows (.vec i v s o l :: xs) = (rawRows xs).map ([.vec i v s o l] :: ·) := by simp only [rawRows, cellsOf]; cases rawRows xs <;> rfl
theorem tv_mksV (s b : Nat) (z : List AV) (l c : Int) (t : Tag K) : Xo P (.mks 3 s b z) [.int .i64 l, .int .i64 c] n H K t = ((0 ≤ l ∧ l ≤ c ∧ c ≤ lenMax ∧ b ≤ 4096 ∧ z.length = s) ∧ K (.vec n 0 s 0 l.toNat) (n + 1) ((n, .vob 0 s (List.replicate l.toNat z).flatten) :: H)) := by
  simp [Xo, xop, and_assoc]
theorem tv_mksF (s b : Nat) (z : List AV) (l c : Int) (t : Tag K) : Xo P (.mks 0 s b z) [.int .i64 l, .int .i64 c] n H K t = ((0 ≤ l ∧ l ≤ c ∧ c ≤ lenMax ∧ b ≤ 4096 ∧ z.length = s) ∧ K (.sl (List.replicate l.toNat z)) n H) := by
  simp [Xo, xop, and_assoc]
theorem tv_slR (z : Nat) (lo hi : Bool) (id s off len : Nat) (bs : List AV) (t : Tag K) : Xo P (.slL z lo hi) (.ref id s off len :: bs) n H K t =
    OK (bnds lo hi len bs) (fun q => (0 ≤ q.1 ∧ q.1 ≤ q.2 ∧ q.2 ≤ len ∧ (q.1 = 0 ∨ q.1 < len) ∧ s = z) ∧ K (.ref id s (off + q.1.toNat * s) (q.2 - q.1).toNat) n H) Tag.mk := by
  simp only [Xo, xop, fop, OK]
  cases bnds lo hi len bs with
  | none => simp
  | some q =>
    obtain ⟨l, h⟩ := q
    simp only [oK_some]
    by_cases hc : 0 ≤ l ∧ l ≤ h ∧ h ≤ len ∧ (l = 0 ∨ l < len) ∧ s = z
    · rw [if_pos hc]; simp [hc]
    · rw [if_neg hc]; simp [hc]
theorem tv_slV (z : Nat) (lo hi : Bool) (id ver s off len : Nat) (bs : List AV) (t : Tag K) : Xo P (.slL z lo hi) (.vec id ver s off len :: bs) n H K t =
    withVob (hget H id) ver (fun _ _ => OK (bnds lo hi len bs) (fun q => (0 ≤ q.1 ∧ q.1 ≤ q.2 ∧ q.2 ≤ len ∧ (q.1 = 0 ∨ q.1 < len) ∧ s = z) ∧ K (.vec id ver s (off + q.1.toNat * s) (q.2 - q.1).toNat) n H) Tag.mk) Tag.mk := vob_vget _ _ _ _
theorem bnds_n (len : Int) : bnds false false len [] = some (0, len) := rfl
theorem bnds_l (len : Int) (k : IntKind) (a : Int) : bnds true false len [.int k a] = some (a, len) := rfl
theorem bnds_h (len : Int) (k : IntKind) (a : Int) : bnds false true len [.int k a] = some (0, a) := rfl
theorem bnds_lh (len : Int) (k k' : IntKind) (a b : Int) : bnds true true len [.int k a, .int k' b] = some (a, b) := rfl
theorem tv_idxV (z id ver s off len : Nat) (k : IntKind) (i : Int) (t : Tag K) : Xo P (.idxA z) [.vec id ver s off len, .int k i] n H K t =
    withVob (hget H id) ver (fun _ _ => (0 ≤ i ∧ i < len ∧ s = z) ∧ K (.vptr id ver (off + i.toNat * s)) n H) Tag.mk := vob_vget _ _ _ _
theorem tv_ldV (s : Option Nat) (id ver off : Nat) (t : Tag K) : Xo P (.ld s) [.vptr id ver off] n H K t =
    withVob (hget H id) ver (fun _ cells => OK (ldc s (cells.drop off)) (fun v => K v n H) Tag.mk) Tag.mk := vob_vget _ _ _ _
theorem tv_stV (s : Option Nat) (id ver off : Nat) (x : AV) (t : Tag K) : Xo P (.st s) [.vptr id ver off, x] n H K t =
    withVob (hget H id) ver (fun z cells => OK (cellsOf x) (fun xs => (xs.length = s.getD 1 ∧ off + xs.length ≤ cells.length ∧ xs.all plain = true) ∧ K .junk n (hset H id (.vob ver z (setCells cells off xs)))) Tag.mk) Tag.mk := vob_vget _ _ _ _
theorem tv_fldV (off id ver o : Nat) (t : Tag K) : Xo P (.fldA off) [.vptr id ver o] n H K t = withVob (hget H id) ver (fun _ _ => K (.vptr id ver (o + off)) n H) Tag.mk := vob_vget _ _ _ _
theorem tv_nilV (id ver s o l : Nat) (t : Tag K) : Xo P .eqNil [.vec id ver s o l, .nilsl] n H K t = withVob (hget H id) ver (fun _ _ => K (.bool false) n H) Tag.mk := vob_vget _ _ _ _
theorem tv_lenV (id ver s o l : Nat) (t : Tag K) : Xo P .lenL [.vec id ver s o l] n H K t = K (.int .i64 l) n H := rfl
theorem tv_capN (t : Tag K) : Xo P .capL [.nilsl] n H K t = K (.int .i64 0) n H := rfl
theorem tv_appV_sl (z b id ver s off len : Nat) (ys : List (List AV)) (t : Tag K) : Xo P (.appV z b) [.vec id ver s off len, .sl ys] n H K t = (b ≤ 4096 ∧ rowsOk z ys ∧
    withVob (hget H id) ver (fun _ cells => (off = 0 ∧ s = z ∧ len * s ≤ cells.length ∧ len + ys.length ≤ lenMax) ∧ K (.vec id (ver + 1) s 0 (len + ys.length)) n (hset H id (.vob (ver + 1) s (cells.take (len * s) ++ ys.flatten)))) Tag.mk) := by
  simp only [Xo, xop, srcV]
  by_cases h : rowsOk z ys
  · rw [if_pos h]; simp only [oK_some, vob_vget, rowsOk_plain h, h, true_and]
  · rw [if_neg h]; simp [h]
theorem tv_appV_acc (z b id ver s off len i s2 : Nat) (ys : List (List AV)) (t : Tag K) : Xo P (.appV z b) [.vec id ver s off len, .acc i s2 ys] n H K t = Xo P (.appV z b) [.vec id ver s off len, .sl ys] n H K t := rfl
theorem tv_appV_nil (z b id ver s off len : Nat) (t : Tag K) : Xo P (.appV z b) [.vec id ver s off len, .nilsl] n H K t = Xo P (.appV z b) [.vec id ver s off len, .sl []] n H K t := by
  simp [Xo, xop, srcV, rowsOk]
theorem tv_appV_ref (z b id ver s off len i s2 o2 l2 : Nat) (t : Tag K) : Xo P (.appV z b) [.vec id ver s off len, .ref i s2 o2 l2] n H K t = (b ≤ 4096 ∧
    withOwn (hget H i) (fun c2 => (s2 = z ∧ o2 + l2 * s2 ≤ c2.length ∧ ((c2.drop o2).take (l2 * s2)).all plain = true) ∧
    withVob (hget H id) ver (fun _ cells => (off = 0 ∧ s = z ∧ len * s ≤ cells.length ∧ len + l2 ≤ lenMax) ∧ K (.vec id (ver + 1) s 0 (len + l2)) n (hset H id (.vob (ver + 1) s (cells.take (len * s) ++ (c2.drop o2).take (l2 * s2))))) Tag.mk) Tag.mk) := by
  simp only [Xo, xop, srcV]
  cases hget H i with
  | none => simp [withOwn]
  | some o => cases o with
    | own c2 =>
      simp only [withOwn]
      by_cases h : s2 = z ∧ o2 + l2 * s2 ≤ c2.length
      · rw [if_pos h]; simp only [oK_some, vob_vget]
        obtain ⟨rfl, h⟩ := h
        exact propext ⟨fun ⟨h1, h2, h3⟩ => ⟨h1, ⟨rfl, h, h2⟩, h3⟩, fun ⟨h1, ⟨_, _, h2⟩, h3⟩ => ⟨h1, h2, h3⟩⟩
      · rw [if_neg h]; simp only [oK_none, and_false]
        refine propext ⟨fun h => h.elim, fun ⟨_, ⟨h1, h2, _⟩, _⟩ => h ⟨h1, h2⟩⟩
    | _ => simp [withOwn]
theorem tv_appV_vec (z b id ver s off len i v2 s2 o2 l2 : Nat) (t : Tag K) : Xo P (.appV z b) [.vec id ver s off len, .vec i v2 s2 o2 l2] n H K t = (b ≤ 4096 ∧
    withVob (hget H i) v2 (fun _ c2 => (s2 = z ∧ o2 + l2 * s2 ≤ c2.length ∧ ((c2.drop o2).take (l2 * s2)).all plain = true) ∧
    withVob (hget H id) ver (fun _ cells => (off = 0 ∧ s = z ∧ len * s ≤ cells.length ∧ len + l2 ≤ lenMax) ∧ K (.vec id (ver + 1) s 0 (len + l2)) n (hset H id (.vob (ver + 1) s (cells.take (len * s) ++ (c2.drop o2).take (l2 * s2))))) Tag.mk) Tag.mk) := by
  simp only [Xo, xop, srcV]
  cases hget H i with
  | none => simp [withVob]
  | some o => cases o with
    | vob v sz c2 =>
      simp only [withVob]
      by_cases h : v = v2 ∧ s2 = z ∧ o2 + l2 * s2 ≤ c2.length
      · rw [if_pos h]; simp only [oK_some, vob_vget]
        obtain ⟨rfl, rfl, h⟩ := h
        exact propext ⟨fun ⟨h1, h2, h3⟩ => ⟨h1, rfl, ⟨rfl, h, h2⟩, h3⟩, fun ⟨h1, _, ⟨_, _, h2⟩, h3⟩ => ⟨h1, h2, h3⟩⟩
      · rw [if_neg h]; simp only [oK_none, and_false]
        refine propext ⟨fun h => h.elim, fun ⟨_, h0, ⟨h1, h2, _⟩, _⟩ => h ⟨h0, h1, h2⟩⟩
    | _ => simp [withVob]
theorem tv_appN_sl (z b : Nat) (ys : List (List AV)) (t : Tag K) : Xo P (.appV z b) [.nilsl, .sl ys] n H K t = (b ≤ 4096 ∧ rowsOk z ys ∧ ys.length ≤ lenMax ∧ (ys.length = 0 → K .nilsl n H) ∧ (ys.length ≠ 0 → K (.vec n 0 z 0 ys.length) (n + 1) ((n, .vob 0 z ys.flatten) :: H))) := by
  simp only [Xo, xop, srcV]
  by_cases h : rowsOk z ys
  · rw [if_pos h]; simp only [oK_some, rowsOk_plain h, h, true_and]
  · rw [if_neg h]; simp [h]
theorem tv_appN_acc (z b i s2 : Nat) (ys : List (List AV)) (t : Tag K) : Xo P (.appV z b) [.nilsl, .acc i s2 ys] n H K t = Xo P (.appV z b) [.nilsl, .sl ys] n H K t := rfl
theorem tv_appN_ref (z b i s2 o2 l2 : Nat) (t : Tag K) : Xo P (.appV z b) [.nilsl, .ref i s2 o2 l2] n H K t = (b ≤ 4096 ∧
    withOwn (hget H i) (fun c2 => (s2 = z ∧ o2 + l2 * s2 ≤ c2.length ∧ ((c2.drop o2).take (l2 * s2)).all plain = true) ∧ l2 ≤ lenMax ∧ (l2 = 0 → K .nilsl n H) ∧
      (l2 ≠ 0 → K (.vec n 0 z 0 l2) (n + 1) ((n, .vob 0 z ((c2.drop o2).take (l2 * s2))) :: H))) Tag.mk) := by
  simp only [Xo, xop, srcV]
  cases hget H i with
  | none => simp [withOwn]
  | some o => cases o with
    | own c2 =>
      simp only [withOwn]
      by_cases h : s2 = z ∧ o2 + l2 * s2 ≤ c2.length
      · rw [if_pos h]; simp only [oK_some]
        obtain ⟨rfl, h⟩ := h
        exact propext ⟨fun ⟨h1, h2, h3⟩ => ⟨h1, ⟨rfl, h, h2⟩, h3⟩, fun ⟨h1, ⟨_, _, h2⟩, h3⟩ => ⟨h1, h2, h3⟩⟩
      · rw [if_neg h]; simp only [oK_none, and_false]
        refine propext ⟨fun h => h.elim, fun ⟨_, ⟨h1, h2, _⟩, _⟩ => h ⟨h1, h2⟩⟩
    | _ => simp [withOwn]
theorem tv_clr (z id ver s off len : Nat) (zero : List AV) (t : Tag K) : Xo P (.clr z zero) [.vec id ver s off len] n H K t =
    withVob (hget H id) ver (fun zz cells => (s = z ∧ zero.length = z ∧ off + len * s ≤ cells.length ∧ zero.all plain = true) ∧ K (.tup []) n (hset H id (.vob ver zz (setCells cells off (List.replicate len zero).flatten)))) Tag.mk := vob_vget _ _ _ _
theorem tvob_some (v s : Nat) (cells : List AV) (ver : Nat) (K : Nat → List AV → Prop) (t : Tag K) : withVob (some (.vob v s cells)) ver K t = (v = ver ∧ K s cells) := rfl
theorem c_vec (i v s o l : Nat) : cellsOf (.vec i v s o l) = some [.vec i v s o l] := rfl
theorem pl_vec (i v s o l : Nat) : plain (.vec i v s o l) = true := rfl
theorem b_vec (z : List AV) (off : Nat) (pl : List (Nat × Nat)) (i v s o l : Nat) (xs : List AV) : buildC z ((off, 1) :: pl) (.vec i v s o l :: xs) = if off < z.length then buildC (setCells z off [.vec i v s o l]) pl xs else none := buildC_one _ _ _ _ _ rfl
theorem tv_boxO_vec (i v s o l : Nat) (t : Tag K) : Xo P .boxO [.vec i v s o l] n H K t = K (.ptr n 0) (n + 1) ((n, .own [.vec i v s o l]) :: H) := rfl
theorem tv_boxO_nil (t : Tag K) : Xo P .boxO [.nilsl] n H K t = K (.ptr n 0) (n + 1) ((n, .own [.nilsl]) :: H) := rfl
theorem tv_boxO_fn (f : FuncId) (l : List AV) (t : Tag K) : Xo P .boxO [.fn f l] n H K t = K (.ptr n 0) (n + 1) ((n, .own [.fn f l]) :: H) := rfl
theorem tv_boxO_ref (i s o l : Nat) (t : Tag K) : Xo P .boxO [.ref i s o l] n H K t = K (.ptr n 0) (n + 1) ((n, .own [.ref i s o l]) :: H) := rfl
theorem fz_vec (i v s o l : Nat) : fz (.vec i v s o l) = .vec i v s o l := rfl
theorem fzt_vec (i v s o l : Nat) : fzt (.vec i v s o l) = .vec i v s o l := rfl
theorem fzt_ref (i s o l : Nat) : fzt (.ref i s o l) = .ref i s o l := rfl
theorem fzt_fn (f : FuncId) (l : List AV) : fzt (.fn f l) = .fn f l := rfl
end
end Go.Ab
end
