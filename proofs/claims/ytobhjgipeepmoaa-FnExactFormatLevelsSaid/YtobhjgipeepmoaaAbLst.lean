/- A heap as entries that are told and trees that are not, for functions that hold several of them. Over any program. -/
import Derived.Test.YtobhjgipeepmoaaAbWalk
namespace Go.Ab
set_option linter.unusedVariables false
set_option linter.defProp false
variable {P : Program} {n : Nat}

def hp (B : Heap) (L : List Heap) : Heap := B ++ L.flatten
theorem cons_hp (p : Nat × HObj) (B : Heap) (L : List Heap) : p :: hp B L = hp (p :: B) L := rfl
theorem hget_hp (i : Nat) (o : HObj) (B : Heap) (L : List Heap) (id : Nat) : hget (hp ((i, o) :: B) L) id = if i = id then some o else hget (hp B L) id := hget_cons ..
theorem hset_hp (i : Nat) (o o' : HObj) (B : Heap) (L : List Heap) (id : Nat) : hset (hp ((i, o) :: B) L) id o' = if i = id then hp ((id, o') :: B) L else (i, o) :: hset (hp B L) id o' := by
  show hset ((i, o) :: (B ++ L.flatten)) id o' = _
  by_cases h : i = id
  · subst h; simp [hset, hp]
  · simp [hset, hp, h]
theorem mem_hp {B : Heap} {L : List Heap} {i : Nat} {N : Heap} (h : L[i]? = some N) : ∀ p ∈ N, p ∈ hp B L := fun p hp => List.mem_append_right _ (List.mem_flatten_of_mem (List.mem_of_getElem? h) hp)
theorem Len.at {B : Heap} {L : List Heap} (i : Nat) {b : Bool} {N : Heap} {t v : AV} (h : L[i]? = some N) (ht : Tree b N t v) : Len (hp B L) v t := .tree ht (mem_hp h)
/-- The same entries in another order. -/
theorem Runs.perm {f : FuncId} {args : List AV} {H : Heap} {K K' : AV → Nat → Heap → Prop} (h : Runs P f args n H K) (hk : ∀ v n' H', K v n' H' → ∃ H2, (∀ p ∈ H2, p ∈ H') ∧ ((H'.map Prod.fst).Nodup → (H2.map Prod.fst).Nodup) ∧ K' v n' H2) : Runs P f args n H K' := by
  refine Runs.map h fun g w cs hv hh => ⟨g, hv, hh, ?_⟩
  rintro c w' ⟨r, n', H', g', hr, hle, hv', hh', hg⟩
  obtain ⟨H2, h1, h2, h3⟩ := hk _ _ _ hr
  have hnd : (H'.map Prod.fst).Nodup := by rw [List.Nodup, List.pairwise_map]; exact hh'.apart.imp fun h => h.1
  exact ⟨r, n', H2, g', h3, hle, hv', hh'.pick h1 (h2 hnd), { hg with owns := fun p hp => hg.owns p (h1 p hp) }⟩
theorem RunsO.lst {B : Heap} {L : List Heap} {f : FuncId} {args args' : List AV} {r : AV} {K : AV → Nat → Heap → Prop} {t : Tag K} (h : RunsO P f args' r) (hb : Lens (hp B L) args args') (hz : belows 0 args' = true)
    (hk : ∀ v n' N, n ≤ n' → (∀ p ∈ N, n ≤ p.1) → Tree false N r v → K v n' (hp B (N :: L))) : RunsT P f args n (hp B L) K t := by
  have h1 : Runs P f args n (hp B L) fun v n' H' => ∃ N, H' = N ++ hp B L ∧ K v n' (hp B (N :: L)) := h.lenO (t := Tag.mk) hb hz fun v n' N ht hf hle => ⟨N, rfl, hk v n' N hle (fun p hp => (hf p hp).1) ht⟩
  refine Runs.perm h1 ?_
  rintro v n' H' ⟨N, rfl, hk⟩
  have hp' : (hp B (N :: L)).Perm (N ++ hp B L) := by
    simp only [hp, List.flatten_cons]
    rw [← List.append_assoc, ← List.append_assoc]
    exact (List.perm_append_comm).append_right _
  exact ⟨_, fun p hm => hp'.mem_iff.mp hm, fun hn => ((hp'.map Prod.fst).nodup_iff).mpr hn, hk⟩
theorem MarkT.at {f : FuncId} {B : Heap} {L : List Heap} (i : Nat) {t : AV} {t' : Int → AV} {c : Nat} {k : Int} {N : Heap} {v : AV} {K : AV → Nat → Heap → Prop} {tg : Tag K} (h : MarkT P f t t' c) (hk0 : 0 ≤ k) (hk1 : k ≤ 4294967296) (hi : L[i]? = some N) (ht : Tree false N t v)
    (hk : ∀ N', Tree false N' (t' k) v → K (.int .i64 (k + c)) n (hp B (L.set i N'))) : RunsT P f [v, .int .i64 k] n (hp B L) K tg := by
  have hL : L = L.take i ++ N :: L.drop (i + 1) := by
    obtain ⟨hlt, he⟩ := List.getElem?_eq_some_iff.mp hi
    rw [← he, List.getElem_cons_drop, List.take_append_drop]
  have hS : ∀ N', L.set i N' = L.take i ++ N' :: L.drop (i + 1) := fun N' => by
    obtain ⟨hlt, he⟩ := List.getElem?_eq_some_iff.mp hi
    rw [List.set_eq_take_append_cons_drop, if_pos hlt]
  generalize L.take i = A at *
  generalize L.drop (i + 1) = C at *
  subst hL
  simp only [hS] at hk
  have hsub : ∀ M, hp B (A ++ M :: C) = hp B A ++ (M ++ C.flatten) := fun M => by simp [hp]
  have hm : Runs P f [v, .int .i64 k] n (hp B (A ++ N :: C)) (fun r n' H' => K r n' H') := by
    intro g w cs hv hh
    have hap : (hp B A ++ (N ++ C.flatten)).Pairwise fun p q => p.1 ≠ q.1 := by
      rw [← hsub]; exact hh.apart.imp fun h => h.1
    have hap2 := List.pairwise_append.mp hap
    have hap3 := List.pairwise_append.mp hap2.2.1
    have hnd : (N.map Prod.fst).Nodup := by rw [List.Nodup, List.pairwise_map]; exact hap3.1
    have hmem : ∀ p ∈ N, p ∈ hp B (A ++ N :: C) := fun p hp => by rw [hsub]; simp [hp]
    refine Runs.map (R := fun r n' H' => K r n' H') (h k N v n (hp B (A ++ N :: C)) hk0 hk1 ht hmem hnd) (fun g w cs hv hh => ⟨g, hv, hh, ?_⟩) g w cs hv hh
    rintro c w' ⟨r, n', H', g', ⟨rfl, rfl, N', h3, h4, h5, h6⟩, hle, hv', hh', hg⟩
    have hne : ∀ p, p ∈ hp B A ∨ p ∈ C.flatten → p.1 ∉ N.map Prod.fst := fun p hp hm => by
      obtain ⟨q, hq, e⟩ := List.mem_map.mp hm
      rcases hp with hp | hp
      · exact hap2.2.2 p hp q (List.mem_append_left _ hq) e.symm
      · exact hap3.2.2 q hq p hp e
    have hpick : ∀ p ∈ hp B (A ++ N' :: C), p ∈ H' := fun p hm => by
      rw [hsub, List.mem_append, List.mem_append] at hm
      rcases hm with hp | hp | hp
      · exact h6 p (by rw [hsub]; exact List.mem_append_left _ hp) (hne p (.inl hp))
      · exact h4 p hp
      · exact h6 p (by rw [hsub]; exact List.mem_append_right _ (List.mem_append_right _ hp)) (hne p (.inr hp))
    have hnd' : ((hp B (A ++ N' :: C)).map Prod.fst).Nodup := by
      have e : (hp B (A ++ N' :: C)).map Prod.fst = (hp B (A ++ N :: C)).map Prod.fst := by simp [hp, h5]
      rw [e, List.Nodup, List.pairwise_map, hsub]; exact hap
    exact ⟨_, n', _, g', hk N' h3, hle, hv', hh'.pick hpick hnd', { hg with owns := fun p hp => hg.owns p (hpick p hp) }⟩
  exact hm
theorem Trees.one {b : Bool} {N : Heap} {a : AV} {cs : List AV} (h : Trees b N [a] cs) : ∃ c, cs = [c] := by
  cases h with | cons h t => cases t; exact ⟨_, rfl⟩
theorem Tree.agg1 {b : Bool} {N : Heap} {a v : AV} (h : Tree b N (.agg [a]) v) : ∃ c, v = .agg [c] := by
  cases h with
  | leaf _ h => exact ⟨_, rfl⟩
  | agg t => cases t with | cons _ t => cases t; exact ⟨_, rfl⟩
theorem Tree.agg2 {b : Bool} {N : Heap} {a1 a2 v : AV} (h : Tree b N (.agg [a1, a2]) v) : ∃ c1 c2, v = .agg [c1, c2] := by
  cases h with
  | leaf _ h => exact ⟨_, _, rfl⟩
  | agg t => cases t with | cons _ t => cases t with | cons _ t => cases t; exact ⟨_, _, rfl⟩
theorem Tree.agg3 {b : Bool} {N : Heap} {a1 a2 a3 v : AV} (h : Tree b N (.agg [a1, a2, a3]) v) : ∃ c1 c2 c3, v = .agg [c1, c2, c3] := by
  cases h with
  | leaf _ h => exact ⟨_, _, _, rfl⟩
  | agg t => cases t with | cons _ t => cases t with | cons _ t => cases t with | cons _ t => cases t; exact ⟨_, _, _, rfl⟩
theorem Trees.leaf_inv {N : Heap} {as cs : List AV} (h : Trees false N as cs) (hs : as.all simple = true) : N = [] ∧ as = cs := by
  induction as generalizing N cs with
  | nil => cases h; exact ⟨rfl, rfl⟩
  | cons a as ih =>
    simp only [List.all_cons, Bool.and_eq_true] at hs
    cases h with | cons h t =>
    obtain ⟨rfl, rfl⟩ := ih t hs.2
    cases h <;> first | exact ⟨rfl, rfl⟩ | (simp [simple] at hs; done)
/-- Marks in a flat slice. -/
theorem MarkT.flat {α : Type} [Dat α] {f : FuncId} {l : List α} {mk : Int → List α} {c z : Nat} (hs : ∀ a : α, (Dat.row a).all simple = true) (hz : z = Dat.z α) (hm : ∀ k, (mk k).length = l.length)
    (h : ∀ (k : Int) (n : Nat) (H : Heap) (id : Nat), 0 ≤ k → k ≤ 4294967296 → hget H id = some (.own (enc l).flatten) → Runs P f [.ref id z 0 l.length, .int .i64 k] n H fun r n' H' => r = .int .i64 (k + c) ∧ n' = n ∧ H' = hset H id (.own (enc (mk k)).flatten))
    (h0 : l = [] → ∀ k : Int, 0 ≤ k → k ≤ 4294967296 → RunsF P f [.sl [], .int .i64 k] (.int .i64 (k + c))) : MarkT P f (.sl (enc l)) (fun k => .sl (enc (mk k))) c := by
  intro k N v n H hk0 hk1 ht hN hnd
  by_cases hl : l = []
  · have hx : mk k = l := by rw [hl]; exact List.eq_nil_of_length_eq_zero (by rw [hm, hl]; rfl)
    subst hl
    exact RunsF.len (t := Tag.mk) (K := fun r n' H' => r = .int .i64 (k + c) ∧ n' = n ∧ ∃ N', Tree false N' (.sl (enc (mk k))) v ∧ (∀ p ∈ N', p ∈ H') ∧ N'.map Prod.fst = N.map Prod.fst ∧ ∀ p ∈ H, p.1 ∉ N.map Prod.fst → p ∈ H') (h0 rfl k hk0 hk1) rfl
      (.cons (.tree ht hN) (.cons (.same _) .nil)) ⟨rfl, rfl, N, by rw [hx]; exact ht, hN, rfl, fun p hp _ => hp⟩
  have hsc : (enc l).flatten.all simple = true := enc_simple hs
  have hlen := enc_len l
  have hrow : ∀ r ∈ enc l, r.length = Dat.z α := enc_row
  generalize hrows : enc l = rows at ht hsc hlen hrow
  have hne : rows ≠ [] := by
    rintro rfl
    exact hl (List.eq_nil_of_length_eq_zero hlen.symm)
  cases ht with
  | leaf _ h => simp [simple] at h
  | acc hb _ => cases hb
  | vec hb _ _ => cases hb
  | nil => exact absurd rfl hne
  | emp => exact absurd rfl hne
  | ref hr t =>
    rename_i id s cells N
    obtain ⟨rfl, rfl⟩ := t.leaf_inv hsc
    have hsz : s = z := by
      obtain ⟨r, rest, rfl⟩ := List.exists_cons_of_ne_nil hne
      rw [hz, ← hr r (List.mem_cons_self ..), hrow r (List.mem_cons_self ..)]
    subst hsz
    refine Runs.look (hN _ (List.mem_cons_self ..)) fun hg => ?_
    refine Runs.mono (hlen ▸ h k n H id hk0 hk1 (by rw [hg, hrows])) ?_
    rintro v n' H' ⟨rfl, rfl, rfl⟩
    refine ⟨rfl, rfl, [(id, .own (enc (mk k)).flatten)], ?_, fun p hp => by rw [List.mem_singleton] at hp; subst hp; exact mem_hset_self hg, rfl, fun p hp hne => mem_hset_other hp (by simpa using hne)⟩
    have := Tree.ref (b := false) (id := id) (s := s) (rows := enc (mk k)) (N := []) (by rw [hz]; exact enc_row) (Trees.leaves (enc_simple (l := mk k) hs))
    rw [enc_len, hm, ← hlen] at this
    exact this
theorem RunsO.flatD {α : Type} [Dat α] {H : Heap} {f : FuncId} {args args' : List AV} {l : List α} {K : AV → Nat → Heap → Prop} {t : Tag K} (z : Nat) (hzz : z = Dat.z α) (h : RunsO P f args' (.sl (enc l))) (hs : ∀ a : α, (Dat.row a).all simple = true) (hne : l ≠ []) (hb : Lens H args args') (hz : belows 0 args' = true)
    (hk : ∀ id n', n ≤ id → id < n' → K (.ref id z 0 l.length) n' ((id, .own (enc l).flatten) :: H)) : RunsT P f args n H K t := by
  subst hzz
  refine RunsO.lenO h hb hz fun v n' N ht hN hle => ?_
  have hsc : (enc l).flatten.all simple = true := enc_simple hs
  have hlen := enc_len l
  have hrow : ∀ r ∈ enc l, r.length = Dat.z α := enc_row
  have hk' := fun id n' h1 h2 => hlen ▸ hk id n' h1 h2
  have hne' : enc l ≠ [] := fun h => hne (List.eq_nil_of_length_eq_zero (by rw [← hlen, h]; rfl))
  clear hk h
  generalize enc l = rows at ht hsc hlen hrow hk' hne'
  cases ht with
  | leaf _ h => simp [simple] at h
  | acc hb _ => cases hb
  | vec hb _ _ => cases hb
  | nil => exact absurd rfl hne'
  | emp => exact absurd rfl hne'
  | ref hr t =>
    rename_i id s cells N
    obtain ⟨rfl, rfl⟩ := t.leaf_inv hsc
    have hsz : s = Dat.z α := by
      obtain ⟨r, rest, rfl⟩ := List.exists_cons_of_ne_nil hne'
      rw [← hr r (List.mem_cons_self ..), hrow r (List.mem_cons_self ..)]
    subst hsz
    have := hN _ (List.mem_cons_self ..)
    exact hk' id n' this.1 this.2
theorem Fin.acc0 {n n0 id s : Nat} {H H0 : Heap} {α : Type} [Dat α] {l' : List α} (hB : HB n0 H0) (hH : ((id, HObj.tok s 0) :: H0).Sublist H) (hid : n0 ≤ id) (he : l' = []) : Fin n0 n H (.acc id s []) (OwnR true n0 H0 (.sl (enc l'))) := by
  subst he
  refine Fin.treeL (N := [(id, HObj.tok s ([] : List (List AV)).length)]) hB hH (fun p hp => ?_) (.acc rfl rfl)
  rw [List.mem_singleton] at hp; subst hp; exact hid
def ZH := And.intro @cons_hp <| And.intro @hget_hp @hset_hp
theorem S.ofL {f : FuncId} {nt : Nat} {rs : List RV} {F : Cfg} {x : XCode} {args : List AV} {R : AV → Nat → Heap → Prop} (hk : Has P f ⟨nt, rs, F, x⟩) (hn : Nat.ble args.length nt = true)
    (h : HB 0 [] → ∀ fn, XR P fn rs → S P ⟨fn, f, 0, R⟩ F [.code x] Tag.mk (env0 0 args) 0 (hp [] [])) : Runs P f args 0 [] R := S.ofX hk hn h
theorem hp_nil : ([] : Heap) = hp [] [] := rfl
end Go.Ab
