/- Each operation does in the world what the abstract run says: appends to owned growing vectors, clear, the room of nil. Over any program. -/
import Derived.Test.YtobhjgipeepmoaaAbOp7
namespace Go.Ab
set_option linter.unusedVariables false
set_option linter.unusedSimpArgs false

variable {P : Program} {g : Ghost} {n : Nat} {w : World} {H : Heap} {ρ : Operand → Value} {K : AV → Nat → Heap → Prop}
  {dst : Option Tmp} {type : TypeId} {pos : String} {after : Array Edge} {guard : Option (Nat × Bool)}

theorem get_lt {α : Type} {l : List α} {i : Nat} {v : α} (h : l[i]? = some v) : i < l.length := by
  rcases Nat.lt_or_ge i l.length with h' | h'
  · exact h'
  · rw [List.getElem?_eq_none h'] at h; cases h

theorem srcV_rel {y : AV} {c : Value} {m size : Nat} {ys : List AV} (hv : VRel g n w y c) (hH : HRel g n H w) (h : srcV H size y = some (m, ys)) :
    ∃ a cap, c = .slice a m cap ∧ ys.length = m * size ∧ (m ≠ 0 → ∃ b off vs, a = some ⟨b, off, none⟩ ∧ Run w b off vs ∧ VRels g n w ys vs) := by
  cases hv <;> simp only [srcV, reduceCtorEq] at h
  case nilsl => simp only [Option.some.injEq, Prod.mk.injEq] at h; obtain ⟨rfl, rfl⟩ := h; exact ⟨none, 0, rfl, by simp, fun h => absurd rfl h⟩
  case sl rows s a b off cap vs hne hc hs hf hr hv =>
    split at h
    · rename_i hok
      simp only [Option.some.injEq, Prod.mk.injEq] at h; obtain ⟨rfl, rfl⟩ := h
      exact ⟨a, cap, rfl, flatten_length (fun r hr => (hok r hr).1), fun h => ⟨b, off, vs, hne (by rintro rfl; simp at h), hr, hv.up⟩⟩
    · cases h
  case acc id s rows a b off cap vs hne hc hs hf hid hr hv hl =>
    split at h
    · rename_i hok
      simp only [Option.some.injEq, Prod.mk.injEq] at h; obtain ⟨rfl, rfl⟩ := h
      exact ⟨a, cap, rfl, flatten_length (fun r hr => (hok r hr).1), fun h => ⟨b, off, vs, hne (by rintro rfl; simp at h), hr, hv.up⟩⟩
    · cases h
  case ref id s off len cap hk hc hid hr =>
    split at h
    · rename_i cells hg
      split at h
      · rename_i hle
        simp only [Option.some.injEq, Prod.mk.injEq] at h; obtain ⟨rfl, rfl⟩ := h
        obtain ⟨rfl, hle⟩ := hle
        obtain ⟨vs, hrun, hvs⟩ := own_run hH hg
        refine ⟨_, cap, rfl, by rw [List.length_take, List.length_drop]; omega, fun _ => ⟨g.β id, off, (vs.drop off).take (len * s), rfl, ?_, (hvs.drop _).take _⟩⟩
        have := (hrun.drop off).take (len * s)
        rwa [Nat.zero_add] at this
      · cases h
    · cases h
  case vec id ver s off len a cap hid hl =>
    split at h
    · rename_i v z cells hg
      split at h
      · rename_i hle
        simp only [Option.some.injEq, Prod.mk.injEq] at h; obtain ⟨rfl, rfl⟩ := h
        obtain ⟨rfl, rfl, hle⟩ := hle
        obtain ⟨hfr, vs, hrun, hvs⟩ := vob_run hH hg
        obtain ⟨_, hloc⟩ := hl _ hfr
        obtain ⟨rfl, _, _⟩ := hloc rfl
        refine ⟨_, cap, rfl, by rw [List.length_take, List.length_drop]; omega, fun _ => ⟨g.β id, off, (vs.drop off).take (len * s), rfl, ?_, (hvs.drop _).take _⟩⟩
        have := (hrun.drop off).take (len * s)
        rwa [Nat.zero_add] at this
      · cases h
    · cases h

/-- The owned vector lies in block b from now on, under a greater version. -/
theorem vec_moved {H : Heap} {w' : World} {id ver s s0 len cap b : Nat} {cells cells' : List AV} {cs : Array Value} {el : TypeId} {vs' : List Value} (hH : HRel g n H w) (hg : hget H id = some (.vob ver s0 cells))
    (hb : b = g.β id ∨ w.heap.size ≤ b) (hsz : w.heap.size ≤ w'.heap.size) (hold : ∀ j, j < w.heap.size → j ≠ g.β id → w'.heap[j]? = w.heap[j]?) (hroom : ∀ b k, room w b k → room w' b k) (ho : Oth w w')
    (hblk : w'.heap[b]? = some (.cells cs el (0, 0))) (hcs : cap * s ≤ cs.size) (hlen : len ≤ cap) (hcv : ∀ (i : Nat) (v : Value), vs'[i]? = some v → cs[i]? = some v)
    (hvs : ∀ g', Ext n g w g' w' → VRels g' n w' cells' vs') (hk : K (.vec id (ver + 1) s 0 len) n (hset H id (.vob (ver + 1) s cells'))) : Out g n w H K (.slice (some ⟨b, 0, none⟩) len cap) w' := by
  rw [hset_eq id _ hH.apart] at hk
  obtain ⟨hidn, hfr, hphi, c0, el0, vs0, hblk0, _, _⟩ := hH.ent _ (hget_mem hg)
  have hphib : g.φ b = 0 := by
    rcases hb with rfl | hb
    · exact hphi
    · exact hH.phi0 hb
  have hext : Ext n g w ⟨upd g.β id b, upd g.fr id (some (ver + 1)), g.φ⟩ w' := by
    refine ⟨fun b' j hj => ?_, fun _ => Nat.le_refl _, fun id' hid' => ?_, hroom⟩
    · have hlt : b' < w.heap.size := room_lt (hH.fsz b' (by omega))
      have hne : b' ≠ g.β id := by rintro rfl; rw [hphi] at hj; omega
      simp only [World.cell?, hold b' hlt hne]
    · by_cases hi : id' = id
      · subst hi
        exact .inr ⟨_, _, hfr, upd_same _ _ _, Nat.lt_succ_self _⟩
      · exact .inl ⟨upd_ne _ _ hi, upd_ne _ _ hi⟩
  refine ⟨.vec id (ver + 1) s 0 len, n, _, ⟨upd g.β id b, upd g.fr id (some (ver + 1)), g.φ⟩, hk, Nat.le_refl _, ?_, ?_, ?_⟩
  · have e : (some (Addr.mk b 0 none)) = some (Addr.mk ((upd g.β id b) id) 0 none) := by rw [upd_same]
    refine .vec id (ver + 1) s 0 len _ cap hidn (fun m hm => ?_)
    have hm' : upd g.fr id (some (ver + 1)) id = some m := hm
    rw [upd_same] at hm'; cases hm'
    refine ⟨Nat.le_refl _, fun _ => ⟨e, hlen, ?_⟩⟩
    show room w' (upd g.β id b id) _
    rw [upd_same, Nat.zero_add]
    exact ⟨cs, el, _, hblk, hcs⟩
  · refine hH.set (hget_mem hg) hext (fun p hp hpi => ⟨upd_ne _ _ hpi, upd_ne _ _ hpi, rfl, hold _ (hH.ent p hp).2.lt (apart_of hH hp (hget_mem hg) hpi)⟩) ?_ ?_ (fun b' hb' => hext.rooms _ _ (hH.fsz b' hb'))
    · show upd g.β id b id = g.β id ∨ w.heap.size ≤ upd g.β id b id
      rw [upd_same]; exact hb
    · refine ⟨upd_same _ _ _, ?_, cs, el, vs', ?_, hcv, hvs _ hext⟩
      · show g.φ (upd g.β id b id) = 0
        rw [upd_same]; exact hphib
      · show w'.heap[upd g.β id b id]? = _
        rw [upd_same]; exact hblk
  · refine { hext with size := hsz, old := fun b' hb' hno => ⟨hold b' hb' (fun e => hno _ (hget_mem hg) e.symm), rfl⟩, owns := fun p hp => ?_, oth := ho }
    rcases mem_hset hp with rfl | ⟨hpi, hp⟩
    · show (∃ q ∈ H, g.β q.1 = upd g.β id b id) ∨ w.heap.size ≤ upd g.β id b id
      rw [upd_same]
      rcases hb with rfl | hb
      · exact .inl ⟨_, hget_mem hg, rfl⟩
      · exact .inr hb
    · exact .inl ⟨p, hp, (upd_ne _ _ hpi).symm⟩

theorem snd_appV {t e : TypeId} {i : TypeInfo} {args : Array Operand} {as : List AV} (ht : P.underlying t = some (.slice e)) (hi : P.info? e = some i) (hz : i.zero.isSome) (hzs : (i.zero.map fun z => z.cells.size) = some i.size)
    (ha : VRels g n w as (args.toList.map ρ)) (hH : HRel g n H w) (hx : xop P (.appV i.size i.bytes) as n H K) :
    OpR P ⟨dst, .call { callee := .builtin .append, args, argTypes := #[t, t] }, type, pos, after, guard⟩ ρ g n w H K := by
  obtain ⟨x, y, rfl⟩ : ∃ x y, as = [x, y] := by
    match as, hx with
    | [], hx => simp [xop, fop] at hx
    | [x], hx => simp [xop, fop] at hx
    | [x, y], hx => exact ⟨x, y, rfl⟩
    | _ :: _ :: _ :: _, hx => simp [xop, fop] at hx
  simp only [xop] at hx
  obtain ⟨hbytes, hx⟩ := hx
  have hx0 := oK_elim hx
  clear hx
  obtain ⟨⟨m, ys⟩, hys, hpl, hx⟩ := hx0
  dsimp only at hpl hx
  obtain ⟨z, hz⟩ := Option.isSome_iff_exists.mp hz
  have hzz : z.cells.size = i.size := by simpa [hz] using hzs
  obtain ⟨u, v, hargs, hu, hv⟩ : ∃ u v, args.map ρ = #[u, v] ∧ VRel g n w x u ∧ VRel g n w y v := by
    generalize hl : args.toList.map ρ = l at ha
    cases ha with | cons _ u _ _ h1 t1 =>
    cases t1 with | cons _ v _ _ h2 t2 =>
    cases t2
    exact ⟨u, v, by apply Array.ext'; simpa using hl, h1, h2⟩
  have exec : ∀ {c : Value} {w' : World}, (Builtin.append_ #[t, t] type #[u, v]).run P w = .ok c w' → (execOp ρ ⟨dst, .call { callee := .builtin .append, args, argTypes := #[t, t] }, type, pos, after, guard⟩).run P w = .ok (.value c) w' := by
    intro c w' h
    rw [BigFrame.execOp_builtin, BigFrame.builtin_append, hargs]
    simp [h]
  obtain ⟨ad2, cap2, rfl, hyl, hsrc⟩ := srcV_rel hv hH hys
  have hlm : lenMax = 4294967296 := rfl
  have hH2 : HRel g n H w.drew := hH.drew rfl (Ext.same rfl)
  cases x <;> simp only at hx
  case nilsl =>
    cases hu
    obtain ⟨hlen, h1, h2⟩ := hx
    by_cases he : m = 0
    · subst he
      exact OpR.value (exec (run_append_empty ht hi none ad2 0 0 cap2 (Nat.le_refl _))) .nilsl hH (h1 rfl)
    · obtain ⟨b, off, vs, rfl, hr, hvs⟩ := hsrc he
      have hl := hvs.length
      rw [hyl] at hl
      have hb48 : m * i.bytes ≤ 281474976710656 := Nat.le_trans (Nat.mul_le_mul hlen hbytes) (by rw [hlm]; omega)
      have hrun := run_append_nil (P := P) w t type e i z ht hi hz ⟨b, off, none⟩ m cap2 vs hl.symm hr.addr (by omega) (by rw [hlm] at hlen; omega) hb48
      refine OpR.out (exec hrun) ?_
      have hcap := grownCap_ge w m 0 e
      have hzc : (Builtin.zeroCells z.cells (grownCap w m 0 e - m)).size = (grownCap w m 0 e - m) * i.size := by rw [size_zeroCells, hzz]
      refine Out.grow (n1 := n) ?_ (Nat.le_refl _) (Grow.same (w' := w.drew) rfl ⟨rfl, rfl, rfl⟩)
      refine new_vec (w := w.drew) hH2 (hvs.ext (Ext.same (n := n) (g := g) (w := w) (w' := w.drew) rfl) (Nat.le_refl _)) hcap ?_ (h2 he)
      rw [hzc, ← hl, ← Nat.add_mul]
      exact Nat.le_of_eq (by congr 1; omega)
  case vec id ver s off len =>
    obtain ⟨sz, cells, hg, ⟨rfl, rfl, hfit, hlen⟩, hk⟩ := vget_elim hx
    obtain ⟨hidn, hfr, hphi, c, el, vs, hblk, hcv, hvs⟩ := hH.ent _ (hget_mem hg)
    cases hu with | vec _ _ _ _ _ ad cap hid hloc =>
    obtain ⟨_, hloc2⟩ := hloc _ hfr
    obtain ⟨rfl, hcap, c', el', fz, hblk', hcapsz⟩ := hloc2 rfl
    rw [hblk] at hblk'
    cases hblk'
    rw [Nat.zero_add] at hcapsz
    have hvl := hvs.length
    have hcs : vs.length ≤ c.size := by
      rcases Nat.lt_or_ge c.size vs.length with h' | h'
      · have := hcv c.size vs[c.size] (by rw [List.getElem?_eq_getElem h'])
        simp at this
      · exact h'
    have hx1 := hvs.take (len * i.size)
    have hvtl : (vs.take (len * i.size)).length = len * i.size := by rw [List.length_take]; omega
    have hcvt : ∀ (j : Nat) (v : Value), (vs.take (len * i.size))[j]? = some v → c[j]? = some v := fun j v hj => by
      rw [List.getElem?_take] at hj
      split at hj
      · exact hcv j v hj
      · cases hj
    by_cases he : m = 0
    · subst he
      have hys0 : ys = [] := List.eq_nil_of_length_eq_zero (by simpa using hyl)
      subst hys0
      refine OpR.out (exec (run_append_empty ht hi _ ad2 len cap cap2 hcap)) ?_
      exact vec_moved (cells' := cells.take (len * i.size) ++ []) (vs' := vs.take (len * i.size)) hH hg (.inl rfl) (Nat.le_refl _) (fun _ _ _ => rfl) (fun _ _ h => h) (Oth.refl w) hblk hcapsz hcap hcvt
        (fun g' hx => by rw [List.append_nil]; exact hx1.ext hx (Nat.le_refl _)) hk
    obtain ⟨b2, off2, vs2, rfl, hr2, hvs2⟩ := hsrc he
    have hl2 := hvs2.length
    rw [hyl] at hl2
    have hone := plain_all hvs2 hpl
    have hcells : ∀ (g' : Ghost) (w' : World), Ext n g w g' w' → VRels g' n w' (cells.take (len * i.size) ++ ys) (vs.take (len * i.size) ++ vs2) := fun g' w' hx =>
      (hx1.append hvs2).ext hx (Nat.le_refl _)
    by_cases hroom : len + m ≤ cap
    · have hmul : (len + m) * i.size ≤ cap * i.size := Nat.mul_le_mul_right _ hroom
      rw [Nat.add_mul] at hmul
      have hfits : len * i.size + vs2.length ≤ c.size := by omega
      have hrun := run_append_room2 (P := P) (ty := type) (w := w) ht hi hblk (c := cap2) hl2.symm hr2.addr hone hroom hfits
      generalize hcs2 : (c.toList.take (len * i.size) ++ vs2 ++ c.toList.drop (len * i.size + vs2.length)).toArray = cs at hrun
      have hcssz : cs.size = c.size := by subst hcs2; simp; omega
      refine OpR.out (exec hrun) ?_
      refine vec_moved (cs := cs) (vs' := vs.take (len * i.size) ++ vs2) hH hg (.inl rfl) (by simp) (fun j _ hj => setRow_other w _ _ cs hj) (fun b k h => room_setRow hblk hcssz h) ⟨rfl, rfl, rfl⟩ (setRow_heap w _ c cs el (0, 0) hblk) (by omega) hroom ?_ (fun g' hx => hcells g' _ hx) hk
      intro j v hj
      subst hcs2
      simp only [List.getElem?_toArray]
      rw [List.append_assoc]
      rw [List.getElem?_append] at hj ⊢
      rw [hvtl] at hj
      have htl : (c.toList.take (len * i.size)).length = len * i.size := by rw [List.length_take, Array.length_toList]; omega
      rw [htl]
      split at hj
      · rename_i hlt
        rw [if_pos hlt, List.getElem?_take_of_lt hlt]
        have := hcvt j v hj
        simpa using this
      · rename_i hlt
        rw [if_neg hlt, List.getElem?_append_left (get_lt hj)]
        exact hj
    · have hneed : len + m ≤ 4294967296 := by rw [hlm] at hlen; exact hlen
      have hcap' : cap < len + m := by omega
      have hb47 : (len + m) * i.bytes ≤ 140737488355328 := Nat.le_trans (Nat.mul_le_mul hneed hbytes) (by omega)
      have hr0 : ∀ (j : Nat) (v : Value), (vs.take (len * i.size))[j]? = some v → w.cell? ((⟨g.β id, 0, none⟩ : Addr).add j) = some v := fun j v hj => by
        rw [Addr.add_lit, Nat.zero_add]
        have := hcvt j v hj
        simpa [World.cell?, hblk] using this
      have hrun := run_append_grow (P := P) w t type e i z ht hi hz ⟨g.β id, 0, none⟩ len cap (vs.take (len * i.size)) hvtl hr0 ⟨b2, off2, none⟩ m cap2 vs2 hl2.symm hr2.addr hcap' (by omega) (growslice_fits hcap' hb47)
      have hcapg := grownCap_ge w (len + m) cap e
      generalize grownCap w (len + m) cap e = nc at hrun hcapg
      have hzc : (Builtin.zeroCells z.cells (nc - (len + m))).size = (nc - (len + m)) * i.size := by rw [size_zeroCells, hzz]
      generalize Builtin.zeroCells z.cells (nc - (len + m)) = zc at hrun hzc
      refine OpR.out (exec hrun) ?_
      refine Out.grow (n1 := n) ?_ (Nat.le_refl _) (Grow.same (w' := w.drew) rfl ⟨rfl, rfl, rfl⟩)
      have hsz2 : w.drew.heap.size = w.heap.size := rfl
      have hall : ((vs.take (len * i.size)).toArray ++ vs2.toArray ++ zc) = (vs.take (len * i.size) ++ vs2).toArray ++ zc := by apply Array.ext'; simp
      rw [hall]
      generalize hw2 : w.drew.alloc (.cells ((vs.take (len * i.size) ++ vs2).toArray ++ zc) e) = w2
      have hnewblk : w2.heap[w.heap.size]? = some (.cells ((vs.take (len * i.size) ++ vs2).toArray ++ zc) e (0, 0)) := by rw [← hw2, ← hsz2]; exact heap_alloc_new
      have hvlen : (vs.take (len * i.size) ++ vs2).length = (len + m) * i.size := by rw [List.length_append, hvtl, ← hl2, Nat.add_mul]
      refine vec_moved (w := w.drew) (cs := (vs.take (len * i.size) ++ vs2).toArray ++ zc) (vs' := vs.take (len * i.size) ++ vs2) hH2 hg (.inr (Nat.le_refl _)) (by rw [← hw2, World.size_alloc]; exact Nat.le_succ _)
        (fun j hj _ => by rw [← hw2]; exact heap_alloc_lt (w := w.drew) hj) (fun b k h => ?_) (by rw [← hw2]; exact ⟨rfl, rfl, rfl⟩) hnewblk ?_ hcapg ?_ (fun g' hx => ?_) hk
      · obtain ⟨c', el', fz, h1, h2⟩ := h
        exact ⟨c', el', fz, by rw [← hw2, heap_alloc_lt (w := w.drew) (room_lt (w := w.drew) ⟨c', el', fz, h1, h2⟩)]; exact h1, h2⟩
      · rw [Array.size_append, List.size_toArray, hvlen, hzc, ← Nat.add_mul]
        exact Nat.le_of_eq (by congr 1; omega)
      · intro j v hj
        rw [Array.getElem?_append_left (by simpa using get_lt hj)]
        simpa using hj
      · exact ((hx1.append hvs2).ext (Ext.same (n := n) (g := g) (w := w) (w' := w.drew) rfl) (Nat.le_refl _)).ext hx (Nat.le_refl _)

theorem vob_store {id ver s off : Nat} {cells xs : List AV} {news : List Value} {c : Array Value} {el : TypeId} {vs : List Value} (hH : HRel g n H w) (hg : hget H id = some (.vob ver s cells)) (hblk : w.heap[g.β id]? = some (.cells c el (0, 0)))
    (hcv : ∀ (i : Nat) (v : Value), vs[i]? = some v → c[i]? = some v) (hvs : VRels g n w cells vs) (hrel : VRels g n w xs news) (hle : off + xs.length ≤ cells.length) :
    HRel g n (hsetM H id (.vob ver s (setCells cells off xs))) (w.setRow (g.β id) (c.toList.take off ++ news ++ c.toList.drop (off + news.length)).toArray) ∧
    Grow n g w H g (w.setRow (g.β id) (c.toList.take off ++ news ++ c.toList.drop (off + news.length)).toArray) (hsetM H id (.vob ver s (setCells cells off xs))) := by
  obtain ⟨hlt, hfr, hphi, c0, el0, vs0, hblk0, _, _⟩ := hH.ent _ (hget_mem hg)
  have hlen := hrel.length
  have hvl := hvs.length
  have hcl : vs.length ≤ c.size := by
    rcases Nat.lt_or_ge c.size vs.length with h' | h'
    · have := hcv c.size vs[c.size] (by rw [List.getElem?_eq_getElem h'])
      simp at this
    · exact h'
  generalize hcs : (c.toList.take off ++ news ++ c.toList.drop (off + news.length)).toArray = cs
  have hcssz : cs.size = c.size := by subst hcs; simp; omega
  have hcell0 : ∀ b i, i < g.φ b → (w.setRow (g.β id) cs).cell? ⟨b, i, none⟩ = w.cell? ⟨b, i, none⟩ := fun b i hi => by
    refine cell_setRow_other w (g.β id) cs ⟨b, i, none⟩ ?_
    rintro rfl
    rw [hphi] at hi; exact absurd hi (Nat.not_lt_zero _)
  have hext : Ext n g w g (w.setRow (g.β id) cs) :=
    ⟨hcell0, fun _ => Nat.le_refl _, fun _ _ => .inl ⟨rfl, rfl⟩, fun b k h => room_setRow hblk hcssz h⟩
  refine ⟨?_, { hext with size := by simp, old := fun b hb hno => ?_, owns := fun p hp => ?_, oth := ⟨rfl, rfl, rfl⟩ }⟩
  · refine hH.set (hget_mem hg) hext (fun p hp hpi => ⟨rfl, rfl, rfl, setRow_other w _ _ cs (apart_of hH hp (hget_mem hg) hpi)⟩) (.inl rfl) ?_ (fun b hb => room_setRow hblk hcssz (hH.fsz b hb))
    refine ⟨hfr, hphi, cs, el, vs.take off ++ news ++ vs.drop (off + news.length), setRow_heap w _ c cs el (0, 0) hblk, ?_, ?_⟩
    · intro j v hj
      subst hcs
      simp only [List.getElem?_toArray]
      rw [List.append_assoc] at hj ⊢
      rw [List.getElem?_append] at hj ⊢
      simp only [List.length_take, Array.length_toList] at hj ⊢
      by_cases h1 : j < off
      · rw [if_pos (by omega)] at hj ⊢
        rw [List.getElem?_take_of_lt h1] at hj ⊢
        have := hcv j v hj
        simpa using this
      · rw [if_neg (by omega)] at hj ⊢
        have e2 : min off vs.length = off := by omega
        have e3 : min off c.size = off := by omega
        rw [e2] at hj; rw [e3]
        rw [List.getElem?_append] at hj ⊢
        by_cases h2 : j - off < news.length
        · rw [if_pos h2] at hj ⊢; exact hj
        · rw [if_neg h2] at hj ⊢
          rw [List.getElem?_drop] at hj ⊢
          have := hcv _ v hj
          simpa using this
    · have := ((hvs.take off).append hrel).append (hvs.drop (off + news.length))
      unfold setCells
      rw [hlen]
      exact this.ext hext (Nat.le_refl _)
  · exact ⟨setRow_other w _ _ cs (fun e => hno _ (hget_mem hg) e.symm), rfl⟩
  · rcases mem_hset hp with rfl | ⟨_, hp⟩
    · exact .inl ⟨_, hget_mem hg, rfl⟩
    · exact .inl ⟨p, hp, rfl⟩

/-- clear, of an owned vector. -/
theorem snd_clr {t e : TypeId} {i : TypeInfo} {z : Value} {args : Array Operand} {ats : Array TypeId} {as : List AV} (hat : ats[0]? = some t) (ht : P.underlying t = some (.slice e)) (hi : P.info? e = some i) (hz : i.zero = some z) (hzs : z.cells.size = i.size) (hs : args.size = 1)
    (ha : VRels g n w as (args.toList.map ρ)) (hH : HRel g n H w) (hx : xop P (.clr i.size (z.cells.toList.map avCell)) as n H K) : OpR P ⟨dst, .call { callee := .builtin .clear, args, argTypes := ats }, type, pos, after, guard⟩ ρ g n w H K := by
  obtain ⟨x, rfl⟩ := one_arg hs
  simp only [List.map_cons, List.map_nil] at ha
  generalize hx1 : ρ x = u at ha
  cases ha with | cons a _ _ _ h1 t1 =>
  cases t1
  cases h1 <;> simp only [xop, fop, oK_none, oK_some] at hx
  case vec id ver s off len a cap hid hl =>
    obtain ⟨zz, cells, hg, ⟨rfl, hzl, hle, hpl⟩, hk⟩ := vget_elim hx
    rw [hset_eq id _ hH.apart] at hk
    obtain ⟨hidn, hfr, hphi, c, el, vs, hblk, hcv, hvs⟩ := hH.ent _ (hget_mem hg)
    obtain ⟨_, hloc⟩ := hl _ hfr
    obtain ⟨rfl, hcap, hroom⟩ := hloc rfl
    have hvl := hvs.length
    have hcl : vs.length ≤ c.size := by
      rcases Nat.lt_or_ge c.size vs.length with h' | h'
      · have := hcv c.size vs[c.size] (by rw [List.getElem?_eq_getElem h'])
        simp at this
      · exact h'
    have hzl' : z.cells.toList.length = i.size := by rw [Array.length_toList]; exact hzs
    have hnl : ((List.replicate len z.cells.toList).flatten).length = len * i.size := by
      rw [flatten_length (s := i.size) (fun r hr => by rw [List.eq_of_mem_replicate hr]; exact hzl'), List.length_replicate]
    have hrel : VRels g n w (List.replicate len (z.cells.toList.map avCell)).flatten (List.replicate len z.cells.toList).flatten := (avCells_rel _).replicate _
    have hxl := hrel.length
    rw [hnl] at hxl
    have hone : ∀ u ∈ (List.replicate len z.cells.toList).flatten, u.oneCell' = true := by
      intro u hu
      obtain ⟨r, hr, hur⟩ := List.mem_flatten.mp hu
      rw [List.eq_of_mem_replicate hr] at hur
      exact plain_all (avCells_rel (g := g) (n := n) (w := w) z.cells.toList) hpl u hur
    obtain ⟨hH', hG⟩ := vob_store (off := off) (xs := (List.replicate len (z.cells.toList.map avCell)).flatten) (news := (List.replicate len z.cells.toList).flatten) hH hg hblk hcv hvs hrel (by rw [hxl]; exact hle)
    by_cases h0 : len = 0
    · subst h0
      have hrun : (execOp ρ ⟨dst, .call { callee := .builtin .clear, args := #[x], argTypes := ats }, type, pos, after, guard⟩).run P w = .ok (.value (.tuple #[])) w := by
        rw [BigFrame.execOp_builtin, BigFrame.builtin_clear]
        simp [Builtin.clear_, hat, run_underlying ht, hx1]
      refine OpR.out hrun ?_
      have e : setCells cells off (List.replicate 0 (z.cells.toList.map avCell)).flatten = cells := by simp [setCells]
      rw [e] at hk
      refine ⟨.tup [], n, _, g, hk, Nat.le_refl _, .tup [] [] .nil, ?_, { Ext.refl n g w with size := Nat.le_refl _, old := fun _ _ _ => ⟨rfl, rfl⟩, owns := fun p hp => ?_, oth := Oth.refl w }⟩
      · exact hH.set (hget_mem hg) (Ext.refl _ _ _) (fun p hp hpi => ⟨rfl, rfl, rfl, rfl⟩) (.inl rfl) (hH.ent _ (hget_mem hg)).2 hH.fsz
      · rcases mem_hset hp with rfl | ⟨_, hp⟩
        · exact .inl ⟨_, hget_mem hg, rfl⟩
        · exact .inl ⟨p, hp, rfl⟩
    · have hst := run_storeCells_at P (g.β id) off el (List.replicate len z.cells.toList).flatten 0 c w hblk (by simp only [Nat.add_zero]; omega) hone
      simp only [Nat.add_zero] at hst
      have hzc : (Builtin.zeroCells z.cells len).toList = (List.replicate len z.cells.toList).flatten := by
        have := madeCells_toList z.cells i.size hzs len
        rw [← this, ← hzs]; rfl
      have hrun : (execOp ρ ⟨dst, .call { callee := .builtin .clear, args := #[x], argTypes := ats }, type, pos, after, guard⟩).run P w = .ok (.value (.tuple #[])) (w.setRow (g.β id) (c.toList.take off ++ (List.replicate len z.cells.toList).flatten ++ c.toList.drop (off + ((List.replicate len z.cells.toList).flatten).length)).toArray) := by
        rw [BigFrame.execOp_builtin, BigFrame.builtin_clear]
        simp only [List.map_toArray, List.map_cons, List.map_nil, Builtin.clear_, hat, hx1]
        obtain ⟨len, rfl⟩ : ∃ k, len = k + 1 := ⟨len - 1, by omega⟩
        simp [run_underlying ht, zeroValue, typeInfo, hi, hz, hzc, hst]
      exact OpR.out hrun ⟨.tup [], n, _, g, hk, Nat.le_refl _, .tup [] [] .nil, hH', hG⟩

theorem snd_capL {t e : TypeId} {args : Array Operand} {ats : Array TypeId} {as : List AV} (hat : ats[0]? = some t) (ht : P.underlying t = some (.slice e)) (hs : args.size = 1)
    (ha : VRels g n w as (args.toList.map ρ)) (hH : HRel g n H w) (hx : xop P .capL as n H K) : OpR P ⟨dst, .call { callee := .builtin .cap, args, argTypes := ats }, type, pos, after, guard⟩ ρ g n w H K := by
  obtain ⟨x, rfl⟩ := one_arg hs
  simp only [List.map_cons, List.map_nil] at ha
  generalize hx1 : ρ x = u at ha
  cases ha with | cons a _ _ _ h1 t1 =>
  cases t1
  cases h1 <;> simp only [xop, fop, oK_none, oK_some] at hx
  refine OpR.value (c := .int .i64 0) ?_ (.int _ _) hH hx
  rw [BigFrame.execOp_builtin, BigFrame.builtin_cap]
  simp [Builtin.cap_, hat, run_underlying ht, hx1, goInt]
end Go.Ab
