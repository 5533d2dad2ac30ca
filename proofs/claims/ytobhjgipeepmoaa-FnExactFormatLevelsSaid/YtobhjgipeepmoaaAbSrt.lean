/- slices.AppendSeq over slices.Values, and slices.Sort of numbers, told by abstract values. Over any program. -/
import Derived.Test.YtobhjgipeepmoaaAbCol
import Derived.Shelf.SortM.Plain
import Derived.Shelf.SortM.SortNone
import Derived.Test.YtobhjgipeepmoaaAbSiz
namespace Go.Ab
open Go.Proofs Go.Shelf Go.RowKit Go.Sort
set_option linter.unusedVariables false
variable {P : Program}

def C_V1 (P : Program) (v : Nat) : Prop := ∃ a i b y : Nat, V1Lays P v a i b y
def C_app (P : Program) (k : Nat) : Prop := ∃ ρ : Ren, ρ.f 11 = k ∧ SlLaysZI.n11 P ρ
def C_srt (P : Program) (k : Nat) : Prop := ∃ ρ : Ren, ρ.f 5 = k ∧ SlLaysM.n5 P ρ

theorem vrels_ints {g : Ghost} {n : Nat} {w : World} : ∀ {l : List Int} {vs : List Value}, VRels g n w (enc l).flatten vs → vs = l.map (Value.int .i64)
  | [], vs, h => by cases h; rfl
  | x :: l, vs, h => by
    rw [enc_cons, List.flatten_cons] at h
    cases h with | cons _ v _ us h t =>
    cases h
    rw [vrels_ints t]; rfl
theorem vrels_mk {g : Ghost} {n : Nat} {w : World} : ∀ (l : List Int), VRels g n w (enc l).flatten (l.map (Value.int .i64))
  | [] => .nil
  | x :: l => .cons _ _ _ _ (.int _ _) (vrels_mk l)
theorem run_lt {w : World} {b off : Nat} {vs : List Value} (h : Run w b off vs) {j : Nat} (hj : j < vs.length) : b < w.heap.size := by
  have := h j _ (List.getElem?_eq_getElem hj)
  unfold World.cell? at this
  rcases Nat.lt_or_ge b w.heap.size with h' | h'
  · exact h'
  · rw [show w.heap[(⟨b, off + j, none⟩ : Addr).block]? = none from Array.getElem?_eq_none h'] at this; cases this
theorem flat_len (l : List Int) : (enc l).flatten.length = l.length := encI_flen l

theorem app_runs {k v : Nat} (hA : C_app P k) (hV : C_V1 P v) (l : List Int) (hl : l.length ≤ 4294967295) : RunsO P k [.nilsl, .fn v [.fptr [.sl (enc l)]]] (.sl (enc l)) := by
  obtain ⟨ρ, rfl, L⟩ := hA
  obtain ⟨a, i, b, y, V⟩ := hV
  intro n H g w cs hv hh
  cases hv with | cons _ _ _ _ h1 t =>
  cases t with | cons _ _ _ _ h2 t =>
  cases t
  cases h1
  cases h2 with | fn _ _ vs hvs =>
  cases hvs with | cons _ _ _ _ hp t =>
  cases t
  cases hp with | fptr _ b0 off0 us hf hr hus =>
  cases hus with | cons _ u _ _ hu t =>
  cases t
  cases hu with | sl _ s sa b1 off1 cap xs ha hc hs hf1 hr1 hx =>
  have hxs := vrels_ints hx
  subst hxs
  have hlen : (enc l).length = l.length := enc_len l
  have e : (callFunc (ρ.f 11) [Value.slice none 0 0, .func (.func v) #[] [Value.pointer (some ⟨b0, off0, none⟩)].toArray].toArray).run P w = .ok (.enter (ρ.f 11) [Value.slice none 0 0, .func (.func v) #[] [Value.pointer (some ⟨b0, off0, none⟩)].toArray].toArray) w := L.f11.enters rfl _ _
  rw [e]
  have hb0 : b0 < w.heap.size := run_lt hr (j := 0) (by simp)
  have hcell : w.cell? ⟨b0, off0, none⟩ = some (.slice sa l.length cap) := by rw [← hlen]; exact hr 0 _ rfl
  have key := callsIn_wide.1 (appendValues_in (P := P) (ρ := ρ) L V Fence.wide 2 trivial rfl (Nat.le_refl _) trivial b0 off0 sa cap l [Value.pointer (some ⟨b0, off0, none⟩)].toArray rfl l.length rfl (by unfold maxLen; omega) (by omega) w hb0 hcell (fun j hj => by
    have hne : enc l ≠ [] := by intro e; rw [e] at hlen; simp at hlen; omega
    refine ⟨b1, off1, ha hne, run_lt hr1 (j := j) (by simpa using hj), ?_⟩
    rw [hr1 j (.int .i64 (l.getD j 0)) (by simp [List.getD_eq_getElem?_getD, hj])]))
  refine Calls.mono key ?_
  rintro e2 w' ⟨v', rfl, hown, hnil, hbel⟩
  have hold : ∀ b, b < w.heap.size → w'.heap[b]? = w.heap[b]? := fun b hb => hbel.block b hb
  obtain ⟨hx', hh'⟩ := stands hh hbel.size hold
  have hoth : Oth w w' := ⟨hbel.os, hbel.tape, hbel.output⟩
  refine ⟨v', rfl, ?_⟩
  rcases hown.2 with ⟨rfl, h0⟩ | ⟨gb, cp, cur, rfl, hbase, hgb, hcap, hmax, hsz, htk⟩
  · have hl0 : l = [] := List.eq_nil_of_length_eq_zero h0
    subst hl0
    exact ⟨.nilsl, n, H, g, ⟨[], rfl, .nil, fun p hp => by cases hp⟩, Nat.le_refl _, .nilsl, hh', { hx' with size := hbel.size, old := fun b hb _ => ⟨hold b hb, rfl⟩, owns := fun p hp => .inl ⟨p, hp, rfl⟩, oth := hoth }⟩
  · let G : Ghost := ⟨upd g.β n gb, upd g.fr n none, g.φ⟩
    have eβ : G.β n = gb := upd_same _ _ _
    have hβ : ∀ p ∈ H, G.β p.1 = g.β p.1 := fun p hp => upd_ne _ _ (Nat.ne_of_lt (hh.ent p hp).1)
    have hlt : ∀ p ∈ H, g.β p.1 < w.heap.size := fun p hp => (hh.ent p hp).2.lt
    have hX : Ext n g w G w' := ⟨hx'.cells, fun _ => Nat.le_refl _, fun i hi => .inl ⟨upd_ne _ _ (Nat.ne_of_lt hi), upd_ne _ _ (Nat.ne_of_lt hi)⟩, hx'.rooms⟩
    have hH : HRel G n H w' := by
      refine ⟨hh.apart.imp_of_mem ?_, fun p hp => ⟨(hh.ent p hp).1, (hh.ent p hp).2.ext hX (Nat.le_refl _) (hβ p hp) (upd_ne _ _ (Nat.ne_of_lt (hh.ent p hp).1)) rfl (hold _ (hlt p hp))⟩, hh'.fsz⟩
      intro p q hp hq hpq
      refine ⟨hpq.1, ?_⟩
      rw [hβ p hp, hβ q hq]; exact hpq.2
    have htree : Tree true [(n, .own (enc l).flatten)] (.sl (enc l)) (.ref n 1 0 l.length) := by
      have := Tree.ref (b := true) (id := n) (s := 1) (rows := enc l) (N := []) enc_row (Trees.leaves (enc_simple (l := l) fun _ => rfl))
      rw [enc_len] at this
      exact this
    refine ⟨.ref n 1 0 l.length, n + 1, (n, .own (enc l).flatten) :: H, G, ⟨[(n, .own (enc l).flatten)], rfl, htree, fun p hp => by rw [List.mem_singleton] at hp; subst hp; exact Nat.le_refl _⟩, Nat.le_succ _, ?_, hH.add _ (fun p hp => ?_) ?_, ?_⟩
    · have hroom : room w' (G.β n) (0 + cp * 1) := by rw [eβ]; exact ⟨cur, _, _, hgb, by rw [hsz]; omega⟩
      have := VRel.ref (g := G) (n := n + 1) (w := w') n 1 0 l.length cp (Nat.lt_succ_self _) (upd_same _ _ _) hcap hroom
      rw [eβ] at this
      exact this
    · rw [hβ p hp, eβ]
      have := hlt p hp
      omega
    · refine ⟨upd_same _ _ _, ?_, cur, _, l.map (Value.int .i64), by rw [eβ]; exact hgb, fun j v hj => ?_, vrels_mk l⟩
      · rw [eβ]; exact hh.phi0 hbase
      · have hlt2 : j < l.length := by
          rcases Nat.lt_or_ge j l.length with h' | h'
          · exact h'
          · rw [List.getElem?_eq_none (by simpa using h')] at hj; cases hj
        have : (cur.toList.take (l.length * 1))[j]? = some v := by rw [htk]; exact hj
        rw [List.getElem?_take_of_lt (by omega)] at this
        simpa using this
    · refine { hX with size := hbel.size, old := fun b hb _ => ⟨hold b hb, rfl⟩, owns := fun p hp => ?_, oth := hoth }
      rw [List.mem_cons] at hp
      rcases hp with rfl | hp
      · exact .inr (by rw [eβ]; exact hbase)
      · exact .inl ⟨p, hp, (hβ p hp).symm⟩

/-- Sorted. -/
def srt (l : List Int) : List Int := l.mergeSort fun x y => decide (x ≤ y)
theorem srt_len (l : List Int) : (srt l).length = l.length := List.length_mergeSort l
def C_sortT (P : Program) (f : Nat) : Prop := ∀ (l : List Int) (N : Heap) (v : AV) (n : Nat) (R : Heap), l.length ≤ 4294967295 → Tree false N (.sl (enc l)) v →
  Runs P f [v] n (N ++ R) fun r n' H' => r = .tup [] ∧ n' = n ∧ ∃ N', Tree false N' (.sl (enc (srt l))) v ∧ N'.map Prod.fst = N.map Prod.fst ∧ H' = N' ++ R
theorem putRow_blk {w : World} {b : Nat} {c : Array Value} {el : TypeId} {fz : Nat × Nat} {d : Array Int} {k : Nat} {os : Array Obj} (hb : w.heap[b]? = some (.cells c el fz)) :
    (grow (putRow (Value.int .i64) (Sort.ahead w k) b 0 d) os).heap[b]? = some (.cells (putCells (Value.int .i64) 0 d c) el fz) := by
  have hlt : b < w.heap.size := by
    rcases Nat.lt_or_ge b w.heap.size with h | h
    · exact h
    · rw [Array.getElem?_eq_none h] at hb; cases hb
  show ((w.heap.modify b _) ++ os)[b]? = _
  rw [Array.getElem?_append_left (by rw [Array.size_modify]; exact hlt)]
  simp [Array.getElem?_modify, hb, onCells]
theorem putRow_oth {w : World} {b j : Nat} {d : Array Int} {k : Nat} {os : Array Obj} (hj : j < w.heap.size) (hne : b ≠ j) :
    (grow (putRow (Value.int .i64) (Sort.ahead w k) b 0 d) os).heap[j]? = w.heap[j]? := by
  show ((w.heap.modify b _) ++ os)[j]? = _
  rw [Array.getElem?_append_left (by rw [Array.size_modify]; exact hj)]
  simp [Array.getElem?_modify, hne]
theorem putRow_size {w : World} {b : Nat} {d : Array Int} {k : Nat} {os : Array Obj} : w.heap.size ≤ (grow (putRow (Value.int .i64) (Sort.ahead w k) b 0 d) os).heap.size := by
  show _ ≤ ((w.heap.modify b _) ++ os).size
  rw [Array.size_append, Array.size_modify]; exact Nat.le_add_right _ _
theorem putCells_at {d : Array Int} {c : Array Value} {j : Nat} (hj : j < d.size) (hc : j < c.size) : (putCells (Value.int .i64) 0 d c)[j]? = some (.int .i64 d[j]!) := by
  simp [putCells, hc, hj]

theorem sort_runs {k : Nat} (hS : C_srt P k) : C_sortT P k := by
  obtain ⟨ρ, rfl, L⟩ := hS
  intro l N v n R hl ht g w cs hv hh
  cases hv with | cons _ c _ _ h1 t =>
  cases t
  have e : ∀ c : Value, (callFunc (ρ.f 5) [c].toArray).run P w = .ok (.enter (ρ.f 5) [c].toArray) w := fun c => L.f5.enters rfl _ _
  rw [e]
  have hsl := srt_len l
  have hlen : (enc l).length = l.length := enc_len l
  by_cases hl0 : l = []
  · subst hl0
    have hc : ∃ a cap, c = .slice a 0 cap := by
      cases ht with
      | leaf _ h => simp [simple] at h
      | nil => cases h1; exact ⟨_, _, rfl⟩
      | emp => cases h1; exact ⟨_, _, rfl⟩
      | acc hb _ => cases hb
      | vec hb _ _ => cases hb
      | ref hr t => cases h1; exact ⟨_, _, rfl⟩
    obtain ⟨a, cap, rfl⟩ := hc
    refine Calls.mono (AnyM.slices_Sort_int_none L a cap w) ?_
    rintro e2 w' ⟨rfl, rfl⟩
    exact ⟨_, rfl, .tup [], n, N ++ R, g, ⟨rfl, rfl, N, by simpa [srt] using ht, rfl, rfl⟩, Nat.le_refl _, .tup [] [] .nil, hh, Grow.refl _ _ _ _⟩
  have hrow : ∀ r ∈ enc l, r.length = 1 := enc_row
  have hne : enc l ≠ [] := fun h => hl0 (List.eq_nil_of_length_eq_zero (by rw [← hlen, h]; rfl))
  have hsc : (enc l).flatten.all simple = true := enc_simple fun _ => rfl
  generalize hrows : enc l = rows at ht hlen hrow hne hsc
  cases ht with
  | leaf _ h => simp [simple] at h
  | nil => exact absurd rfl hne
  | emp => exact absurd rfl hne
  | acc hb _ => cases hb
  | vec hb _ _ => cases hb
  | ref hr t =>
  rename_i id s cells N
  obtain ⟨rfl, rfl⟩ := t.leaf_inv hsc
  have hs1 : s = 1 := by
    obtain ⟨r, rest, rfl⟩ := List.exists_cons_of_ne_nil hne
    rw [← hr r (List.mem_cons_self ..), hrow r (List.mem_cons_self ..)]
  subst hs1
  cases h1 with | ref _ _ _ _ cap hid hk hcap hroom =>
  have hm : (id, HObj.own rows.flatten) ∈ [(id, HObj.own rows.flatten)] ++ R := by simp
  obtain ⟨_, hfr, hphi, arr, el, vs, harr, hvs, hrel⟩ := hh.ent _ hm
  have hv2 := vrels_ints (l := l) (by rw [hrows]; exact hrel)
  subst hv2
  have hsz : l.length ≤ arr.size := by
    rcases Nat.eq_zero_or_pos l.length with h0 | h0
    · omega
    · have := hvs (l.length - 1) (.int .i64 (l[l.length - 1]'(by omega))) (by rw [List.getElem?_map, List.getElem?_eq_getElem (by omega)]; rfl)
      rcases Nat.lt_or_ge (l.length - 1) arr.size with h6 | h6
      · omega
      · rw [Array.getElem?_eq_none h6] at this; cases this
  have hblk : g.β id < w.heap.size := by
    rcases Nat.lt_or_ge (g.β id) w.heap.size with h' | h'
    · exact h'
    · rw [Array.getElem?_eq_none h'] at harr; cases harr
  have hH : Holds (Value.int .i64) w (g.β id) 0 l.toArray := by
    intro j hj
    have hj' : j < l.length := by simpa using hj
    refine ⟨?_, ?_⟩
    · have := hvs j (.int .i64 l[j]) (by rw [List.getElem?_map, List.getElem?_eq_getElem hj']; rfl)
      simp only [World.cell?, harr, Nat.zero_add, Option.isSome_none, Bool.false_eq_true, if_false]
      rw [this, getElem!_pos _ j hj]; simp
    · simp [World.frozen?, harr]
  have key := AnyM.slices_Sort_int L (g.β id) 0 cap l w hH hblk (by omega)
  rw [hlen]
  refine Calls.mono key ?_
  rintro e2 w' ⟨rfl, nn, os, rfl⟩
  have hX : Ext n g w g (grow (putRow (Value.int .i64) (Sort.ahead w nn) (g.β id) 0 (srt l).toArray) os) := by
    refine ⟨fun b i hi => ?_, fun _ => Nat.le_refl _, fun _ _ => .inl ⟨rfl, rfl⟩, fun b k ⟨c, el', fz, h1, h2⟩ => ?_⟩
    · refine cellEq (putRow_oth (room_lt (hh.fsz b (by omega))) ?_)
      rintro rfl
      rw [hphi] at hi; exact absurd hi (Nat.not_lt_zero _)
    · by_cases hb : g.β id = b
      · subst hb
        exact ⟨_, _, _, putRow_blk h1, by simpa [putCells] using h2⟩
      · exact ⟨c, el', fz, by rw [putRow_oth (room_lt (w := w) ⟨c, el', fz, h1, h2⟩) hb]; exact h1, h2⟩
  refine ⟨_, rfl, .tup [], n, [(id, .own (enc (srt l)).flatten)] ++ R, g, ⟨rfl, rfl, [(id, .own (enc (srt l)).flatten)], ?_, rfl, rfl⟩, Nat.le_refl _, .tup [] [] .nil, ?_, ?_⟩
  · have := Tree.ref (b := false) (id := id) (s := 1) (rows := enc (srt l)) (N := []) enc_row (Trees.leaves (enc_simple (l := srt l) fun _ => rfl))
    rw [enc_len, hsl] at this
    exact this
  · have e1 : [(id, HObj.own (enc (srt l)).flatten)] ++ R = hsetM ([(id, HObj.own rows.flatten)] ++ R) id (.own (enc (srt l)).flatten) := by
      rw [← hset_eq (r := fun p q => g.β p.1 ≠ g.β q.1) id _ hh.apart]
      simp [hset]
    rw [e1]
    refine HRel.set hh hm hX (fun p hp hne => ⟨rfl, rfl, rfl, putRow_oth (hh.ent p hp).2.lt (apart_of hh hp hm hne).symm⟩) (.inl rfl) ⟨hfr, hphi, _, el, (srt l).map (Value.int .i64), putRow_blk harr, fun j v hj => ?_, vrels_mk _⟩ (fun b hb => hX.rooms _ _ (hh.fsz b hb))
    have hj' : j < (srt l).length := by
      rcases Nat.lt_or_ge j (srt l).length with h' | h'
      · exact h'
      · rw [List.getElem?_eq_none (by simpa using h')] at hj; cases hj
    rw [List.getElem?_map, List.getElem?_eq_getElem hj'] at hj
    have hj2 : j < (srt l).toArray.size := by simpa using hj'
    show (putCells (Value.int .i64) 0 (srt l).toArray arr)[j]? = some v
    rw [putCells_at (c := arr) hj2 (by omega), getElem!_pos _ j hj2]
    simpa using hj
  · refine { hX with size := putRow_size, old := fun b hb hno => ⟨putRow_oth hb (fun e => hno _ hm e), rfl⟩, owns := fun p hp => ?_, oth := ⟨rfl, rfl, rfl⟩ }
    simp only [List.cons_append, List.nil_append, List.mem_cons] at hp
    rcases hp with rfl | hp
    · exact .inl ⟨_, hm, rfl⟩
    · exact .inl ⟨p, by simp [hp], rfl⟩

theorem C_sortT.a {f : FuncId} {l : List Int} {N R : Heap} {v : AV} {n : Nat} {K : AV → Nat → Heap → Prop} {t : Tag K} (h : C_sortT P f) (hl : l.length ≤ 4294967295) (ht : Tree false N (.sl (enc l)) v)
    (hk : ∀ N', Tree false N' (.sl (enc (srt l))) v → N'.map Prod.fst = N.map Prod.fst → K (.tup []) n (N' ++ R)) : RunsT P f [v] n (N ++ R) K t :=
  (h l N v n R hl ht).mono fun r n' H' ⟨h1, h2, N', h3, h4, h5⟩ => by subst h1 h2 h5; exact hk N' h3 h4
theorem fst_le {N N' : Heap} {n : Nat} (h : N'.map Prod.fst = N.map Prod.fst) (hN : ∀ p ∈ N, n ≤ p.1) : ∀ p ∈ N', n ≤ p.1 := fun p hp => by
  have : p.1 ∈ N'.map Prod.fst := List.mem_map.mpr ⟨p, hp, rfl⟩
  rw [h] at this
  obtain ⟨q, hq, e⟩ := List.mem_map.mp this
  rw [← e]; exact hN q hq

/-! ### Rankings -/
theorem srt_perm (l : List Int) : (srt l).Perm l := List.mergeSort_perm l _
theorem srt_le (l : List Int) : (srt l).Pairwise (· ≤ ·) := by
  have h := List.pairwise_mergeSort (le := fun x y : Int => decide (x ≤ y)) (fun a b c h1 h2 => by simp only [decide_eq_true_eq] at *; omega) (fun a b => by simp only [Bool.or_eq_true, decide_eq_true_eq]; omega) l
  exact h.imp fun h => by simpa using h
/-- Each place of a list answers. -/
def allAt (n : Nat) (p : Nat → Bool) : Bool := (List.range n).all p
theorem allAt_true {n : Nat} {p : Nat → Bool} : allAt n p = true ↔ ∀ j, j < n → p j = true := by simp [allAt]
theorem allAt_false {n j : Nat} {p : Nat → Bool} (h : j < n) (hp : p j = false) : allAt n p = false := by
  rw [Bool.eq_false_iff]; intro h2
  rw [allAt_true.mp h2 j h] at hp; cases hp
def strAt (l : List Int) (n : Int) (i : Nat) : Bool := (decide (0 ≤ l.getD i default) && decide (l.getD i default ≤ n - 1)) && !(decide (0 < i) && decide (l.getD i default ≤ l.getD (i - 1) default))
def isStr (l : List Int) (n : Int) : Bool := allAt l.length (strAt l n)
def rnkAt (r : List Int) (n : Int) (i : Nat) : Bool := (decide (0 ≤ r.getD i default) && decide (r.getD i default < n)) && !(r.take i).contains (r.getD i default)
def isRnk (r : List Int) (n : Int) : Bool := allAt r.length (rnkAt r n) && ((decide (1 ≤ n) && decide (n ≤ 5)) && decide ((r.length : Int) = n))
theorem getD_at {α : Type} [Inhabited α] {l : List α} {i : Nat} (h : i < l.length) : l.getD i default = l[i] := by simp [List.getD_eq_getElem?_getD, h]
theorem isStr_iff (l : List Int) (n : Int) : isStr l n = true ↔ (∀ x ∈ l, 0 ≤ x ∧ x < n) ∧ l.Pairwise (· < ·) := by
  unfold isStr
  rw [allAt_true]
  simp only [strAt, Bool.and_eq_true, decide_eq_true_eq, Bool.not_eq_true', Bool.and_eq_false_iff, decide_eq_false_iff_not]
  constructor
  · intro h
    refine ⟨fun x hx => ?_, ?_⟩
    · obtain ⟨i, hi, rfl⟩ := List.getElem_of_mem hx
      have := h i hi
      rw [getD_at hi] at this; omega
    · have key : ∀ i j (hi : i < l.length) (hj : j < l.length), i < j → l[i] < l[j] := by
        intro i j
        induction j with
        | zero => intro _ _ h; omega
        | succ j ih =>
          intro hi hj hij
          have h1 := (h (j + 1) hj).2
          rw [getD_at hj, Nat.add_sub_cancel, getD_at (show j < l.length by omega)] at h1
          by_cases e : i = j
          · subst e; omega
          · have := ih hi (by omega) (by omega); omega
      rw [List.pairwise_iff_getElem]
      exact fun i j hi hj hij => key i j hi hj hij
  · rintro ⟨h1, h2⟩ i hi
    have := h1 _ (List.getElem_mem hi)
    rw [getD_at hi]
    refine ⟨by omega, ?_⟩
    by_cases h0 : 0 < i
    · right
      rw [getD_at (show i - 1 < l.length by omega)]
      have := List.pairwise_iff_getElem.mp h2 (i - 1) i (by omega) hi (by omega)
      omega
    · exact .inl h0
theorem rnk_iff (r : List Int) (n : Int) : allAt r.length (rnkAt r n) = true ↔ (∀ x ∈ r, 0 ≤ x ∧ x < n) ∧ r.Nodup := by
  rw [allAt_true]
  simp only [rnkAt, Bool.and_eq_true, decide_eq_true_eq, Bool.not_eq_true']
  constructor
  · intro h
    refine ⟨fun x hx => ?_, ?_⟩
    · obtain ⟨i, hi, rfl⟩ := List.getElem_of_mem hx
      have := (h i hi).1
      rwa [getD_at hi] at this
    · rw [List.Nodup, List.pairwise_iff_getElem]
      intro i j hi hj hij e
      have := (h j hj).2
      rw [getD_at hj, ← e] at this
      have h3 : (r.take j).contains r[i] = true := by
        rw [List.contains_iff_mem]
        exact List.mem_take_iff_getElem.mpr ⟨i, by omega, rfl⟩
      rw [h3] at this; cases this
  · rintro ⟨h1, h2⟩ i hi
    rw [getD_at hi]
    refine ⟨h1 _ (List.getElem_mem hi), ?_⟩
    rw [Bool.eq_false_iff, ne_eq, List.contains_iff_mem]
    intro hm
    obtain ⟨j, hj, e⟩ := List.mem_take_iff_getElem.mp hm
    exact List.pairwise_iff_getElem.mp h2 j i (by omega) hi (by omega) e
theorem srt_rnk (r : List Int) (n : Int) : isStr (srt r) n = allAt r.length (rnkAt r n) := by
  rw [Bool.eq_iff_iff, isStr_iff, rnk_iff]
  have hp := srt_perm r
  have hs := srt_le r
  constructor
  · rintro ⟨h1, h2⟩
    exact ⟨fun x hx => h1 x (hp.mem_iff.mpr hx), hp.nodup_iff.mp (h2.imp fun h => by omega)⟩
  · rintro ⟨h1, h2⟩
    refine ⟨fun x hx => h1 x (hp.mem_iff.mp hx), ?_⟩
    have hn := hp.nodup_iff.mpr h2
    exact (hs.and hn).imp fun ⟨a, b⟩ => by omega
end Go.Ab
