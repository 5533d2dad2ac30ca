/- The walk's rules with their small proofs filled in. Over any program. -/
import Derived.Test.YtobhjgipeepmoaaAbMrk
namespace Go.Ab
set_option linter.unusedVariables false
set_option linter.defProp false
variable {P : Program} {X : Ctx} {F : Cfg} {k : List XItem} {E : Env} {n : Nat} {H : Heap}

/-- One rewriting of the goal. -/
theorem TT {A B : Prop} (hb : B) (h : B → A := by (intro hb; simp (disch := first | omega | decide | rfl) only [Z, ZH, List.set_cons_zero, List.set_cons_succ, ↓reduceIte, Nat.reduceEqDiff, Nat.reduceBEq, Nat.reduceAdd, reduceCtorEq, UInt8.reduceOfNat]; exact hb)) : A := h hb
theorem FT {A : Prop} (h : A := by (simp (disch := first | omega | decide | rfl) only [Z, ZH, ↓reduceIte, Nat.reduceEqDiff, Nat.reduceBEq, Nat.reduceAdd, reduceCtorEq, UInt8.reduceOfNat] <;> fail)) : A := h
theorem TR {A B : Prop} (hb : B) (h : B → A := by (intro hb; simp (disch := first | omega | decide | rfl) only [ZR, Z, ZH, List.set_cons_zero, List.set_cons_succ, ↓reduceIte, Nat.reduceEqDiff, Nat.reduceBEq, Nat.reduceAdd, reduceCtorEq, UInt8.reduceOfNat]; exact hb)) : A := h hb
theorem TG {A B : Prop} (hb : B) (h : B → A := by (intro hb; simp (disch := first | omega | decide | rfl) only [hg, Z, ZH, List.set_cons_zero, List.set_cons_succ, ↓reduceIte, Nat.reduceEqDiff, Nat.reduceBEq, Nat.reduceAdd, reduceCtorEq, UInt8.reduceOfNat]; exact hb)) : A := h hb
theorem Sub {A B : Heap} (h : A.Sublist B := by first
  | exact List.Sublist.refl _
  | (simp only [hp, List.flatten_cons, List.flatten_nil, List.append_nil, List.append_assoc, List.cons_append, List.nil_append]; (repeat first | exact List.Sublist.refl _ | exact List.sublist_append_right _ _ | apply List.Sublist.cons | apply List.Sublist.append_left) <;> fail)
  | exact List.nil_sublist _
  | (rw [enc_rep]; exact List.Sublist.refl _)
  | (rw [hset_self (by assumption)]; exact List.Sublist.refl _)
  | ((repeat first | exact List.Sublist.refl _ | apply List.Sublist.cons) <;> fail)
  | (simp only [ZL]; (repeat first | exact List.Sublist.refl _ | apply List.Sublist.cons) <;> fail)) : A.Sublist B := h
theorem EQ {A B : Env} (h : A = B := by first
  | rfl
  | (simp only [ZE, Z, ↓reduceIte, Nat.reduceEqDiff, Nat.reduceBEq, Nat.reduceAdd, reduceCtorEq, UInt8.reduceOfNat] <;> fail)
  | (simp only [ZE, Z, ↓reduceIte, Nat.reduceEqDiff, Nat.reduceBEq, Nat.reduceAdd, reduceCtorEq, UInt8.reduceOfNat, enc_rep, UInt8.toNat_zero, Int.add_assoc, Int.add_zero, Int.natCast_zero] <;> fail)) : A = B := h
theorem Lns {A B : List AV} (h : Lens H A B := by ((repeat' (first | exact Lens.nil | refine Lens.cons ?_ ?_)); all_goals (first | exact Len.at 0 rfl (by assumption) | exact Len.at 1 rfl (by assumption) | exact Len.at 2 rfl (by assumption) | exact Len.at 3 rfl (by assumption) | exact Len.at 4 rfl (by assumption) | exact Len.at 5 rfl (by assumption) | exact Len.at 6 rfl (by assumption) | exact Len.same _ | exact Len.fz _))) : Lens H A B := h
theorem AndI {p q : Prop} (hq : q) (hp : p := by first
  | omega
  | (simp only [List.length_append, List.length_cons, List.length_nil]; omega)
  | (simp [rowsOk] <;> fail)
  | exact Tree.plain (by assumption)
  | exact And.intro (by omega) (Tree.plain (by assumption))
  | exact And.intro (by omega) (Tree.plain1 (by assumption))
  | assumption) : p ∧ q := ⟨hp, hq⟩

theorem Fin.go {n0 : Nat} {v : AV} {R : AV → Nat → Heap → Prop} (h : Fin n0 n H v R) : Fin n0 n H v R := h
theorem S.go {t : Tag (X, F, k)} (h : S P X F k t E n H) : S P X F k t E n H := h
theorem RunsT.go {f : FuncId} {args : List AV} {K : AV → Nat → Heap → Prop} {t : Tag K} (h : RunsT P f args n H K t) : RunsT P f args n H K t := h
theorem RunsD.go {c : Nat} {f : FuncId} {args : List AV} {K : AV → Nat → Heap → Prop} {t : Tag K} (h : RunsD P c f args n H K t) : RunsD P c f args n H K t := h
theorem Gd.go {v : AV} {want : Bool} {A B : Prop} {t : Tag (A, B)} (h : Gd v want A B t) : Gd v want A B t := h
theorem And.go {p q : Prop} (h : p ∧ q) : p ∧ q := h
theorem ix0 {a0 : Heap} {l : List Heap} : (a0 :: l)[0]? = some a0 := rfl
theorem ix1 {a0 a1 : Heap} {l : List Heap} : (a0 :: a1 :: l)[1]? = some a1 := rfl
theorem ix2 {a0 a1 a2 : Heap} {l : List Heap} : (a0 :: a1 :: a2 :: l)[2]? = some a2 := rfl
theorem ix3 {a0 a1 a2 a3 : Heap} {l : List Heap} : (a0 :: a1 :: a2 :: a3 :: l)[3]? = some a3 := rfl
theorem ix4 {a0 a1 a2 a3 a4 : Heap} {l : List Heap} : (a0 :: a1 :: a2 :: a3 :: a4 :: l)[4]? = some a4 := rfl
theorem ix5 {a0 a1 a2 a3 a4 a5 : Heap} {l : List Heap} : (a0 :: a1 :: a2 :: a3 :: a4 :: a5 :: l)[5]? = some a5 := rfl
theorem ix6 {a0 a1 a2 a3 a4 a5 a6 : Heap} {l : List Heap} : (a0 :: a1 :: a2 :: a3 :: a4 :: a5 :: a6 :: l)[6]? = some a6 := rfl
theorem RunsF.u {f : FuncId} {args args' : List AV} {r : AV} {K : AV → Nat → Heap → Prop} {t : Tag K} (h : RunsF P f args' r) (hk : K r n H) (ha : args.map fzt = args' := by rfl) : RunsT P f args n H K t := h.apf ha hk
theorem RunsF.v {f : FuncId} {args args' : List AV} {r : AV} {K : AV → Nat → Heap → Prop} {t : Tag K} (h : RunsF P f args' r) (hk : K r n H) (ha : args.map fzt = args' := by rfl) : RunsD P 0 f args n H K t := h.apd ha hk
theorem RunsF.l {f : FuncId} {args args' : List AV} {r : AV} {K : AV → Nat → Heap → Prop} {t : Tag K} (h : RunsF P f args' r) (hk : K r n H) (hs : simple r = true := by rfl) (hb : Lens H args args' := by exact Lns) : RunsT P f args n H K t := h.len hs hb hk
theorem RunsF.ld {f : FuncId} {args args' : List AV} {r : AV} {K : AV → Nat → Heap → Prop} {t : Tag K} (h : RunsF P f args' r) (hk : K r n H) (hs : simple r = true := by rfl) (hb : Lens H args args' := by exact Lns) : RunsD P 2 f args n H K t := h.lenD hs hb hk
theorem RunsO.l {B : Heap} {L : List Heap} {f : FuncId} {args args' : List AV} {r : AV} {K : AV → Nat → Heap → Prop} {t : Tag K} (h : RunsO P f args' r) (hk : ∀ v n' N, n ≤ n' → (∀ p ∈ N, n ≤ p.1) → Tree false N r v → K v n' (hp B (N :: L)))
    (hb : Lens (hp B L) args args' := by exact Lns) (hz : belows 0 args' = true := by rfl) : RunsT P f args n (hp B L) K t := h.lst hb hz hk
theorem RunsO.a {f : FuncId} {args args' : List AV} {r : AV} {K : AV → Nat → Heap → Prop} {t : Tag K} (h : RunsO P f args' r) (hk : ∀ v n' N, Tree true N r v → (∀ p ∈ N, n ≤ p.1) → K v n' (N ++ H)) (ha : args.map fzt = args' := by rfl) : RunsT P f args n H K t := h.apT ha hk
theorem MarkT.a {f : FuncId} {B : Heap} {L : List Heap} {i : Nat} {t : AV} {t' : Int → AV} {c : Nat} {k : Int} {N : Heap} {v : AV} {K : AV → Nat → Heap → Prop} {tg : Tag K} (h : MarkT P f t t' c)
    (hk : ∀ N', N'.map Prod.fst = N.map Prod.fst → Tree false N' (t' k) v → K (.int .i64 (k + c)) n (hp B (L.set i N'))) (ht : Tree false N t v := by assumption) (hi : L[i]? = some N := by first | exact ix0 | exact ix1 | exact ix2 | exact ix3 | exact ix4 | exact ix5 | exact ix6)
    (hk0 : 0 ≤ k := by omega) (hk1 : k ≤ 4294967296 := by omega) : RunsT P f [v, .int .i64 k] n (hp B L) K tg := h.atn i hk0 hk1 hi ht hk
theorem OK.tr {b : Bool} {N : Heap} {rows : List (List AV)} {v : AV} {K : List AV → Prop} {t : Tag K} (h : K [v]) (ht : Tree b N (.sl rows) v := by assumption) : OK (cellsOf v) K t := OK.tree ht h
theorem Ns.s {t : Nat} {want : Bool} {blk : XNs} {r : Opd} {d : Option Nat} {l : XNs} {E : Env} {K : Env → Nat → Heap → Prop} {tg : Tag K} {c b : Bool}
    (h1 : c = want → Ns P blk E n H (fun E' n' H' => r.val E' = .bool b ∧ n' = n ∧ H' = H) Tag.mk) (h2 : Ns P l (put (dels (dstNs blk) E) d (.bool (if c = want then b else !want))) n H K Tag.mk)
    (h0 : ((dstNs blk).contains t = false ∧ wfNs [] blk = true) := by exact ⟨rfl, rfl⟩) (hc : val E t = .bool c := by rfl) : Ns P (.cons (.sc t want blk r d) l) E n H K tg := Ns.sc h0 hc h1 h2
theorem S.ag {E' : Env} {n' : Nat} {H' : Heap} {t t' : Tag (X, F, k)} (h : S P X F k t E' n' H') (hE : keepE (E'.map Prod.fst) E = E' := by exact EQ) (hn : n ≤ n' := by first | exact Nat.le_refl _ | omega) (hH : H'.Sublist H := by exact Sub) : S P X F k t' E n H := h.again hE hn hH
theorem S.loopV {σ : Type} (ks : List Nat) (U : σ → Env) (I : σ → Prop) (ns : σ → Nat) (Hs : σ → Heap) (μ : σ → Nat) (s0 : σ) {a : XCode} {t : Tag (X, F, XItem.code (.loop a) :: k)} (h0 : I s0)
    (round : ∀ s, I s → (∀ s', I s' → μ s' < μ s → S P X F (.inLoop a :: k) Tag.mk (keepE ks (U s' ++ E)) (ns s') (Hs s')) → S P X F (.code a :: .inLoop a :: k) Tag.mk (keepE ks (U s ++ E)) (ns s) (Hs s))
    (hE : keepE ks E = keepE ks (U s0 ++ E) := by exact EQ) (hn : n ≤ ns s0 := by first | exact Nat.le_refl _ | omega) (hH : (Hs s0).Sublist H := by exact Sub) : S P X F (.code (.loop a) :: k) t E n H := S.loopU ks U I ns Hs μ s0 hE h0 hn hH round
theorem Fin.p {n0 : Nat} {v r : AV} {H0 : Heap} (he : fzt v = r) (hB : HB n0 H0 := by assumption) (hs : H0.Sublist H := by exact Sub) (hb : below n0 (fzt v) = true := by rfl) : Fin n0 n H v (fun v' n' H' => v' = r ∧ n' = n0 ∧ H' = H0) := Fin.pure hB hs hb he
theorem Fin.a {n0 id s : Nat} {H0 : Heap} {α : Type} [Dat α] {l l' : List α} (he : l = l') (hs : ∀ a : α, (Dat.row a).all simple = true := by exact fun _ => rfl) (hB : HB n0 H0 := by assumption) (hH : ((id, HObj.tok s l.length) :: H0).Sublist H := by exact Sub) (hid : n0 ≤ id := by (try dsimp only); omega) :
    Fin n0 n H (.acc id s (enc l)) (OwnR true n0 H0 (.sl (enc l'))) := Fin.accD hs hB hH hid he
theorem Fin.a0 {n0 id s : Nat} {H0 : Heap} {α : Type} [Dat α] {l' : List α} (he : l' = []) (hB : HB n0 H0 := by assumption) (hH : ((id, HObj.tok s 0) :: H0).Sublist H := by exact Sub) (hid : n0 ≤ id := by (try dsimp only); omega) : Fin n0 n H (.acc id s []) (OwnR true n0 H0 (.sl (enc l'))) := Fin.acc0 hB hH hid he
theorem Fin.v {n0 id ver z y : Nat} {H0 : Heap} {α : Type} [Dat α] {l l' : List α} {len : Nat} (hl : len = l.length) (he : l = l') (hs : ∀ a : α, (Dat.row a).all simple = true := by exact fun _ => rfl) (hB : HB n0 H0 := by assumption) (hH : ((id, HObj.vob ver z (enc l).flatten) :: H0).Sublist H := by exact Sub) (hid : n0 ≤ id := by (try dsimp only); omega) (hy : y = Dat.z α := by rfl) :
    Fin n0 n H (.vec id ver y 0 len) (OwnR true n0 H0 (.sl (enc l'))) := Fin.vecD hs hB hH hid hl he hy
theorem Fin.r {n0 id y : Nat} {H0 : Heap} {α : Type} [Dat α] {l l' : List α} {len : Nat} (hl : len = l.length) (he : l = l') (hs : ∀ a : α, (Dat.row a).all simple = true := by exact fun _ => rfl) (hB : HB n0 H0 := by assumption) (hH : ((id, HObj.own (enc l).flatten) :: H0).Sublist H := by exact Sub) (hid : n0 ≤ id := by (try dsimp only); omega) (hy : y = Dat.z α := by rfl) :
    Fin n0 n H (.ref id y 0 len) (OwnR true n0 H0 (.sl (enc l'))) := Fin.refD hs hB hH hid hl he hy
theorem Fin.ni {n0 : Nat} {H0 : Heap} {α : Type} [Dat α] {l' : List α} (he : l' = []) (hB : HB n0 H0 := by assumption) (hH : H0.Sublist H := by exact Sub) : Fin n0 n H .nilsl (OwnR true n0 H0 (.sl (enc l'))) := Fin.nilD hB hH he
theorem Fin.t {n0 : Nat} {v t t' : AV} {H0 N : Heap} (he : t = t') (ht : Tree true N t v := by first | exact ht | exact ht.up | exact Tree.mk1 ht.up) (hB : HB n0 H0 := by assumption) (hs : (N ++ H0).Sublist H := by exact Sub) (hN : ∀ p ∈ N, n0 ≤ p.1 := by exact fun p hp => by first | (have := hN p hp; (try dsimp only); omega) | (have := hf p hp; (try dsimp only); omega)) :
    Fin n0 n H v (OwnR true n0 H0 t') := Fin.treeE hB hs hN ht he
theorem Fin.th {n0 : Nat} {v t : AV} {H0 N : Heap} (ht : Tree true N t v := by first | exact Tree.mk1 ht.up | exact ht.up | exact ht) (hB : HB n0 H0 := by assumption) (hs : (N ++ H0).Sublist H := by exact Sub) (hN : ∀ p ∈ N, n0 ≤ p.1 := by exact fun p hp => by first | (have := hN p hp; (try dsimp only); omega) | (have := hf p hp; (try dsimp only); omega)) :
    Fin n0 n H v (OwnR true n0 H0 t) := Fin.treeL hB hs hN ht
end Go.Ab
