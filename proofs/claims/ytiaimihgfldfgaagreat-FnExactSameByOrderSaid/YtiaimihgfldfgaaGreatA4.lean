/- The walk's rules with their small proofs filled in. Over any program. A law's arguments as data. Over any program. Sizes of data, and what they bound; copies and equality of data by value. Over any program. slices.AppendSeq(nil, slices.Values(s)) at int: a new slice with the same numbers. Over any program. slices.AppendSeq over slices.Values, and slices.Sort of numbers, told by abstract values. Over any program. No condition. -/
import Derived.Test.YtiaimihgfldfgaaGreatA3
import Derived.Shelf.SlIterI.Collect
import Derived.RangeFuncBox
import Derived.RangeFuncLeaves
import Derived.WalkKit
import Derived.OwnWalkIn
import Derived.TacticsInMore
import Derived.LoopNIn
import Derived.LoopIn
import Derived.Shelf.SortM.Plain
import Derived.Shelf.SortM.SortNone
section
namespace Go.Ab
set_option linter.unusedVariables false
set_option linter.defProp false
variable {P : Program} {X : Ctx} {F : Cfg} {k : List XItem} {E : Env} {n : Nat} {H : Heap}

/-- One rewriting of the goal. -/
theorem TT {A B : Prop} (hb : B) (h : B → A := by (intro hb; simp (disch := first | omega | decide | rfl) only [Z, ZH, List.set_cons_zero, List.set_cons_succ, ↓reduceIte, Nat.reduceEqDiff, Nat.reduceBEq, Nat.reduceAdd, reduceCtorEq, UInt8.reduceOfNat]; exact hb)) : A := h hb
theorem FT {A : Prop} (h : A := by (simp (disch := first | omega | decide | rfl) only [Z, ZH, ↓reduceIte, Nat.reduceEqDiff, Nat.reduceBEq, Nat.reduceAdd, reduceCtorEq, UInt8.reduceOfNat] <;> fail)) : A := h
theorem TR {A B : Prop} (hb : B) (h : B → A := by (intro hb; simp (disch := first | omega | decide | rfl) only [ZR, Z, ZH, List.set_cons_zero, List.set_cons_succ, ↓reduceIte, Nat.reduceEqDiff, Nat.reduceBEq, Nat.reduceAdd, reduceCtorEq, UInt8.reduceOfNat]; exact hb)) : A := h hb
theorem TG {A B : Prop} (hb : B) (h : B → A := by (intro hb; simp (disch := first | omega | decide | rfl) only [hg, Z, ZH, List.set_cons_zero, List.set_cons_succ, ↓reduceIte, Nat.reduceEqDiff, Nat.reduceBEq, Nat.reduceAdd, reduceCtorEq, UInt8.reduceOfNat]; exact hb)) : A := h hb
theorem Sub {A B : Heap} (h : A.Sublist B := by first
  | exact List.Sublist.refl _
  | (simp only [hp, List.flatten_cons, List.flatten_nil, List.append_nil, List.append_assoc, List.cons_append, List.nil_append]; (repeat first | exact List.Sublist.refl _ | exact List.sublist_append_right _ _ | apply List.Sublist.cons | apply List.Sublist.append_left) <;> fail)
  | exact List.nil_sublist _
  | (rw [enc_rep]; exact List.Sublist.refl _)
  | (rw [hset_self (by assumption)]; exact List.Sublist.refl _)
  | ((repeat first | exact List.Sublist.refl _ | apply List.Sublist.cons) <;> fail)
  | (simp only [ZL]; (repeat first | exact List.Sublist.refl _ | apply List.Sublist.cons) <;> fail)) : A.Sublist B := h
theorem EQ {A B : Env} (h : A = B := by first
  | rfl
  | (simp only [ZE, Z, ↓reduceIte, Nat.reduceEqDiff, Nat.reduceBEq, Nat.reduceAdd, reduceCtorEq, UInt8.reduceOfNat] <;> fail)
  | (simp only [ZE, Z, ↓reduceIte, Nat.reduceEqDiff, Nat.reduceBEq, Nat.reduceAdd, reduceCtorEq, UInt8.reduceOfNat, enc_rep, UInt8.toNat_zero, Int.add_assoc, Int.add_zero, Int.natCast_zero] <;> fail)) : A = B := h
theorem Lns {A B : List AV} (h : Lens H A B := by ((repeat' (first | exact Lens.nil | refine Lens.cons ?_ ?_)); all_goals (first | exact Len.at 0 rfl (by assumption) | exact Len.at 1 rfl (by assumption) | exact Len.at 2 rfl (by assumption) | exact Len.at 3 rfl (by assumption) | exact Len.at 4 rfl (by assumption) | exact Len.at 5 rfl (by assumption) | exact Len.at 6 rfl (by assumption) | exact Len.same _ | exact Len.fz _))) : Lens H A B := h
theorem AndI {p q : Prop} (hq : q) (hp : p := by first
  | omega
  | (simp only [List.length_append, List.length_cons, List.length_nil]; omega)
  | (simp [rowsOk] <;> fail)
  | exact Tree.plain (by assumption)
  | exact And.intro (by omega) (Tree.plain (by assumption))
  | exact And.intro (by omega) (Tree.plain1 (by assumption))
  | assumption) : p ∧ q := ⟨hp, hq⟩

theorem Fin.go {n0 : Nat} {v : AV} {R : AV → Nat → Heap → Prop} (h : Fin n0 n H v R) : Fin n0 n H v R := h
theorem S.go {t : Tag (X, F, k)} (h : S P X F k t E n H) : S P X F k t E n H := h
theorem RunsT.go {f : FuncId} {args : List AV} {K : AV → Nat → Heap → Prop} {t : Tag K} (h : RunsT P f args n H K t) : RunsT P f args n H K t := h
theorem RunsD.go {c : Nat} {f : FuncId} {args : List AV} {K : AV → Nat → Heap → Prop} {t : Tag K} (h : RunsD P c f args n H K t) : RunsD P c f args n H K t := h
theorem Gd.go {v : AV} {want : Bool} {A B : Prop} {t : Tag (A, B)} (h : Gd v want A B t) : Gd v want A B t := h
theorem And.go {p q : Prop} (h : p ∧ q) : p ∧ q := h
theorem ix0 {a0 : Heap} {l : List Heap} : (a0 :: l)[0]? = some a0 := rfl
theorem ix1 {a0 a1 : Heap} {l : List Heap} : (a0 :: a1 :: l)[1]? = some a1 := rfl
theorem ix2 {a0 a1 a2 : Heap} {l : List Heap} : (a0 :: a1 :: a2 :: l)[2]? = some a2 := rfl
theorem ix3 {a0 a1 a2 a3 : Heap} {l : List Heap} : (a0 :: a1 :: a2 :: a3 :: l)[3]? = some a3 := rfl
theorem ix4 {a0 a1 a2 a3 a4 : Heap} {l : List Heap} : (a0 :: a1 :: a2 :: a3 :: a4 :: l)[4]? = some a4 := rfl
theorem ix5 {a0 a1 a2 a3 a4 a5 : Heap} {l : List Heap} : (a0 :: a1 :: a2 :: a3 :: a4 :: a5 :: l)[5]? = some a5 := rfl
theorem ix6 {a0 a1 a2 a3 a4 a5 a6 : Heap} {l : List Heap} : (a0 :: a1 :: a2 :: a3 :: a4 :: a5 :: a6 :: l)[6]? = some a6 := rfl
theorem RunsF.u {f : FuncId} {args args' : List AV} {r : AV} {K : AV → Nat → Heap → Prop} {t : Tag K} (h : RunsF P f args' r) (hk : K r n H) (ha : args.map fzt = args' := by rfl) : RunsT P f args n H K t := h.apf ha hk
theorem RunsF.v {f : FuncId} {args args' : List AV} {r : AV} {K : AV → Nat → Heap → Prop} {t : Tag K} (h : RunsF P f args' r) (hk : K r n H) (ha : args.map fzt = args' := by rfl) : RunsD P 0 f args n H K t := h.apd ha hk
theorem RunsF.l {f : FuncId} {args args' : List AV} {r : AV} {K : AV → Nat → Heap → Prop} {t : Tag K} (h : RunsF P f args' r) (hk : K r n H) (hs : simple r = true := by rfl) (hb : Lens H args args' := by exact Lns) : RunsT P f args n H K t := h.len hs hb hk
theorem RunsF.ld {f : FuncId} {args args' : List AV} {r : AV} {K : AV → Nat → Heap → Prop} {t : Tag K} (h : RunsF P f args' r) (hk : K r n H) (hs : simple r = true := by rfl) (hb : Lens H args args' := by exact Lns) : RunsD P 2 f args n H K t := h.lenD hs hb hk
theorem RunsO.l {B : Heap} {L : List Heap} {f : FuncId} {args args' : List AV} {r : AV} {K : AV → Nat → Heap → Prop} {t : Tag K} (h : RunsO P f args' r) (hk : ∀ v n' N, n ≤ n' → (∀ p ∈ N, n ≤ p.1) → Tree false N r v → K v n' (hp B (N :: L)))
    (hb : Lens (hp B L) args args' := by exact Lns) (hz : belows 0 args' = true := by rfl) : RunsT P f args n (hp B L) K t := h.lst hb hz hk
theorem RunsO.a {f : FuncId} {args args' : List AV} {r : AV} {K : AV → Nat → Heap → Prop} {t : Tag K} (h : RunsO P f args' r) (hk : ∀ v n' N, Tree true N r v → (∀ p ∈ N, n ≤ p.1) → K v n' (N ++ H)) (ha : args.map fzt = args' := by rfl) : RunsT P f args n H K t := h.apT ha hk
theorem MarkT.a {f : FuncId} {B : Heap} {L : List Heap} {i : Nat} {t : AV} {t' : Int → AV} {c : Nat} {k : Int} {N : Heap} {v : AV} {K : AV → Nat → Heap → Prop} {tg : Tag K} (h : MarkT P f t t' c)
    (hk : ∀ N', N'.map Prod.fst = N.map Prod.fst → Tree false N' (t' k) v → K (.int .i64 (k + c)) n (hp B (L.set i N'))) (ht : Tree false N t v := by assumption) (hi : L[i]? = some N := by first | exact ix0 | exact ix1 | exact ix2 | exact ix3 | exact ix4 | exact ix5 | exact ix6)
    (hk0 : 0 ≤ k := by omega) (hk1 : k ≤ 4294967296 := by omega) : RunsT P f [v, .int .i64 k] n (hp B L) K tg := h.atn i hk0 hk1 hi ht hk
theorem OK.tr {b : Bool} {N : Heap} {rows : List (List AV)} {v : AV} {K : List AV → Prop} {t : Tag K} (h : K [v]) (ht : Tree b N (.sl rows) v := by assumption) : OK (cellsOf v) K t := OK.tree ht h
theorem Ns.s {t : Nat} {want : Bool} {blk : XNs} {r : Opd} {d : Option Nat} {l : XNs} {E : Env} {K : Env → Nat → Heap → Prop} {tg : Tag K} {c b : Bool}
    (h1 : c = want → Ns P blk E n H (fun E' n' H' => r.val E' = .bool b ∧ n' = n ∧ H' = H) Tag.mk) (h2 : Ns P l (put (dels (dstNs blk) E) d (.bool (if c = want then b else !want))) n H K Tag.mk)
    (h0 : ((dstNs blk).contains t = false ∧ wfNs [] blk = true) := by exact ⟨rfl, rfl⟩) (hc : val E t = .bool c := by rfl) : Ns P (.cons (.sc t want blk r d) l) E n H K tg := Ns.sc h0 hc h1 h2
theorem S.ag {E' : Env} {n' : Nat} {H' : Heap} {t t' : Tag (X, F, k)} (h : S P X F k t E' n' H') (hE : keepE (E'.map Prod.fst) E = E' := by exact EQ) (hn : n ≤ n' := by first | exact Nat.le_refl _ | omega) (hH : H'.Sublist H := by exact Sub) : S P X F k t' E n H := h.again hE hn hH
theorem S.loopV {σ : Type} (ks : List Nat) (U : σ → Env) (I : σ → Prop) (ns : σ → Nat) (Hs : σ → Heap) (μ : σ → Nat) (s0 : σ) {a : XCode} {t : Tag (X, F, XItem.code (.loop a) :: k)} (h0 : I s0)
    (round : ∀ s, I s → (∀ s', I s' → μ s' < μ s → S P X F (.inLoop a :: k) Tag.mk (keepE ks (U s' ++ E)) (ns s') (Hs s')) → S P X F (.code a :: .inLoop a :: k) Tag.mk (keepE ks (U s ++ E)) (ns s) (Hs s))
    (hE : keepE ks E = keepE ks (U s0 ++ E) := by exact EQ) (hn : n ≤ ns s0 := by first | exact Nat.le_refl _ | omega) (hH : (Hs s0).Sublist H := by exact Sub) : S P X F (.code (.loop a) :: k) t E n H := S.loopU ks U I ns Hs μ s0 hE h0 hn hH round
theorem Fin.p {n0 : Nat} {v r : AV} {H0 : Heap} (he : fzt v = r) (hB : HB n0 H0 := by assumption) (hs : H0.Sublist H := by exact Sub) (hb : below n0 (fzt v) = true := by rfl) : Fin n0 n H v (fun v' n' H' => v' = r ∧ n' = n0 ∧ H' = H0) := Fin.pure hB hs hb he
theorem Fin.a {n0 id s : Nat} {H0 : Heap} {α : Type} [Dat α] {l l' : List α} (he : l = l') (hs : ∀ a : α, (Dat.row a).all simple = true := by exact fun _ => rfl) (hB : HB n0 H0 := by assumption) (hH : ((id, HObj.tok s l.length) :: H0).Sublist H := by exact Sub) (hid : n0 ≤ id := by (try dsimp only); omega) :
    Fin n0 n H (.acc id s (enc l)) (OwnR true n0 H0 (.sl (enc l'))) := Fin.accD hs hB hH hid he
theorem Fin.a0 {n0 id s : Nat} {H0 : Heap} {α : Type} [Dat α] {l' : List α} (he : l' = []) (hB : HB n0 H0 := by assumption) (hH : ((id, HObj.tok s 0) :: H0).Sublist H := by exact Sub) (hid : n0 ≤ id := by (try dsimp only); omega) : Fin n0 n H (.acc id s []) (OwnR true n0 H0 (.sl (enc l'))) := Fin.acc0 hB hH hid he
theorem Fin.v {n0 id ver z y : Nat} {H0 : Heap} {α : Type} [Dat α] {l l' : List α} {len : Nat} (hl : len = l.length) (he : l = l') (hs : ∀ a : α, (Dat.row a).all simple = true := by exact fun _ => rfl) (hB : HB n0 H0 := by assumption) (hH : ((id, HObj.vob ver z (enc l).flatten) :: H0).Sublist H := by exact Sub) (hid : n0 ≤ id := by (try dsimp only); omega) (hy : y = Dat.z α := by rfl) :
    Fin n0 n H (.vec id ver y 0 len) (OwnR true n0 H0 (.sl (enc l'))) := Fin.vecD hs hB hH hid hl he hy
theorem Fin.r {n0 id y : Nat} {H0 : Heap} {α : Type} [Dat α] {l l' : List α} {len : Nat} (hl : len = l.length) (he : l = l') (hs : ∀ a : α, (Dat.row a).all simple = true := by exact fun _ => rfl) (hB : HB n0 H0 := by assumption) (hH : ((id, HObj.own (enc l).flatten) :: H0).Sublist H := by exact Sub) (hid : n0 ≤ id := by (try dsimp only); omega) (hy : y = Dat.z α := by rfl) :
    Fin n0 n H (.ref id y 0 len) (OwnR true n0 H0 (.sl (enc l'))) := Fin.refD hs hB hH hid hl he hy
theorem Fin.ni {n0 : Nat} {H0 : Heap} {α : Type} [Dat α] {l' : List α} (he : l' = []) (hB : HB n0 H0 := by assumption) (hH : H0.Sublist H := by exact Sub) : Fin n0 n H .nilsl (OwnR true n0 H0 (.sl (enc l'))) := Fin.nilD hB hH he
theorem Fin.t {n0 : Nat} {v t t' : AV} {H0 N : Heap} (he : t = t') (ht : Tree true N t v := by first | exact ht | exact ht.up | exact Tree.mk1 ht.up) (hB : HB n0 H0 := by assumption) (hs : (N ++ H0).Sublist H := by exact Sub) (hN : ∀ p ∈ N, n0 ≤ p.1 := by exact fun p hp => by first | (have := hN p hp; (try dsimp only); omega) | (have := hf p hp; (try dsimp only); omega)) :
    Fin n0 n H v (OwnR true n0 H0 t') := Fin.treeE hB hs hN ht he
theorem Fin.th {n0 : Nat} {v t : AV} {H0 N : Heap} (ht : Tree true N t v := by first | exact Tree.mk1 ht.up | exact ht.up | exact ht) (hB : HB n0 H0 := by assumption) (hs : (N ++ H0).Sublist H := by exact Sub) (hN : ∀ p ∈ N, n0 ≤ p.1 := by exact fun p hp => by first | (have := hN p hp; (try dsimp only); omega) | (have := hf p hp; (try dsimp only); omega)) :
    Fin n0 n H v (OwnR true n0 H0 t) := Fin.treeL hB hs hN ht
end Go.Ab
end
section
namespace Go.Ab
set_option linter.unusedVariables false
def HD (s : TS) (α : Type) [Dat α] (p : α → Prop) : Prop := ∀ cs, HasS s cs → ∃ a : α, cs = Dat.row a ∧ p a
variable {α β γ δ ε ζ : Type} [Dat α] [Dat β] [Dat γ] [Dat δ] [Dat ε] [Dat ζ] {p : α → Prop} {q : β → Prop} {r : γ → Prop} {u : δ → Prop} {v : ε → Prop} {x : ζ → Prop} {s1 s2 s3 s4 s5 s6 : TS}
theorem HD.bool : HD .bool Bool (fun _ => True) := fun cs ⟨b, h⟩ => ⟨b, h, trivial⟩
theorem HD.int : HD (.int .i64) Int (fun i => (Lit.int .i64 i).wf = true) := fun cs ⟨i, h, hw⟩ => ⟨i, h, hw⟩
theorem HD.u8 : HD (.int .u8) UInt8 (fun _ => True) := fun cs ⟨i, h, hw⟩ => by
  have hw' : 0 ≤ i ∧ i < 256 := by
    simp [Lit.wf] at hw
    have e1 : IntKind.u8.min = 0 := rfl
    have e2 : IntKind.u8.max = 255 := rfl
    omega
  refine ⟨UInt8.ofNat i.toNat, ?_, trivial⟩
  rw [h]
  show [AV.int .u8 i] = [AV.int .u8 ((UInt8.ofNat i.toNat).toNat : Int)]
  congr 2
  rw [UInt8.toNat_ofNat']
  omega
theorem HD.str : HD .str (List UInt8) (fun s => s.length ≤ maxLen) := fun cs ⟨s, h, hl⟩ => ⟨s, h, hl⟩
theorem HD.sl (h : HD s1 α p) : HD (.sl (Dat.z α) s1) (List α) (fun l => l.length ≤ maxLen ∧ ∀ a ∈ l, p a) := fun cs hs => by
  obtain ⟨rows, rfl, hl, hr⟩ := hs
  obtain ⟨l, rfl, hlen, hs⟩ := rows_of (fun a : α => Dat.row a) p (fun r hr' => h r (hr r hr').2)
  exact ⟨l, rfl, by omega, hs⟩
theorem HD.st1 (h1 : HD s1 α p) : HD (.st (.cons s1 .nil)) α p := fun cs hs => by
  obtain ⟨xs, ys, rfl, h, rfl⟩ := hs
  obtain ⟨a, rfl, ha⟩ := h1 _ h
  exact ⟨a, by simp, ha⟩
theorem HD.st2 (h1 : HD s1 α p) (h2 : HD s2 β q) : HD (.st (.cons s1 (.cons s2 .nil))) (α × β) (fun z => p z.1 ∧ q z.2) := fun cs hs => by
  obtain ⟨xs, ys, rfl, h, xs', ys', rfl, h', rfl⟩ := hs
  obtain ⟨a, rfl, ha⟩ := h1 _ h
  obtain ⟨b, rfl, hb⟩ := h2 _ h'
  exact ⟨(a, b), by rw [row_pair]; simp, ha, hb⟩
theorem HD.st3 (h1 : HD s1 α p) (h2 : HD s2 β q) (h3 : HD s3 γ r) : HD (.st (.cons s1 (.cons s2 (.cons s3 .nil)))) (α × β × γ) (fun z => p z.1 ∧ q z.2.1 ∧ r z.2.2) := fun cs hs => by
  obtain ⟨xs, ys, rfl, h, hs⟩ := hs
  obtain ⟨a, rfl, ha⟩ := h1 _ h
  obtain ⟨z, rfl, hz⟩ := HD.st2 h2 h3 ys hs
  exact ⟨(a, z), rfl, ha, hz⟩
theorem HD.st4 (h1 : HD s1 α p) (h2 : HD s2 β q) (h3 : HD s3 γ r) (h4 : HD s4 δ u) : HD (.st (.cons s1 (.cons s2 (.cons s3 (.cons s4 .nil))))) (α × β × γ × δ) (fun z => p z.1 ∧ q z.2.1 ∧ r z.2.2.1 ∧ u z.2.2.2) := fun cs hs => by
  obtain ⟨xs, ys, rfl, h, hs⟩ := hs
  obtain ⟨a, rfl, ha⟩ := h1 _ h
  obtain ⟨z, rfl, hz⟩ := HD.st3 h2 h3 h4 ys hs
  exact ⟨(a, z), rfl, ha, hz⟩
theorem HD.st5 (h1 : HD s1 α p) (h2 : HD s2 β q) (h3 : HD s3 γ r) (h4 : HD s4 δ u) (h5 : HD s5 ε v) : HD (.st (.cons s1 (.cons s2 (.cons s3 (.cons s4 (.cons s5 .nil)))))) (α × β × γ × δ × ε) (fun z => p z.1 ∧ q z.2.1 ∧ r z.2.2.1 ∧ u z.2.2.2.1 ∧ v z.2.2.2.2) := fun cs hs => by
  obtain ⟨xs, ys, rfl, h, hs⟩ := hs
  obtain ⟨a, rfl, ha⟩ := h1 _ h
  obtain ⟨z, rfl, hz⟩ := HD.st4 h2 h3 h4 h5 ys hs
  exact ⟨(a, z), rfl, ha, hz⟩
end Go.Ab
end
section
namespace Go.Ab
set_option linter.unusedVariables false

/-- What is left of a size, and what is bounded by it. -/
class Siz (α : Type) where
  sz : α → Int → Int
  ok : Nat → α → Prop
  lo : ∀ x a, -1 ≤ a → -1 ≤ sz x a
  up : ∀ x a, -1 ≤ a → sz x a ≤ a
  neg : ∀ x, sz x (-1) = -1
  okk : ∀ m x a, ok m x → 0 ≤ sz x a → -1 ≤ a → ok a.toNat x
  mono : ∀ m m' x, m ≤ m' → ok m x → ok m' x
open Siz
/-- A datum whose size is nothing. -/
class Siz0 (α : Type) [Siz α] : Prop where
  z0 : ∀ (x : α) a, sz x a = a
/-- In Go's range. -/
def rng (i : Int) : Prop := -9223372036854775808 ≤ i ∧ i ≤ 9223372036854775807
instance : Siz Int := ⟨fun _ a => a, fun _ i => rng i, fun _ _ h => h, fun _ _ _ => Int.le_refl _, fun _ => rfl, fun _ _ _ h _ _ => h, fun _ _ _ _ h => h⟩
instance : Siz UInt8 := ⟨fun _ a => a, fun _ _ => True, fun _ _ h => h, fun _ _ _ => Int.le_refl _, fun _ => rfl, fun _ _ _ _ _ _ => trivial, fun _ _ _ _ _ => trivial⟩
instance : Siz Bool := ⟨fun _ a => a, fun _ _ => True, fun _ _ h => h, fun _ _ _ => Int.le_refl _, fun _ => rfl, fun _ _ _ _ _ _ => trivial, fun _ _ _ _ _ => trivial⟩
instance : Siz0 Int := ⟨fun _ _ => rfl⟩
instance : Siz0 UInt8 := ⟨fun _ _ => rfl⟩
instance : Siz0 Bool := ⟨fun _ _ => rfl⟩
def szLen (n : Nat) (a : Int) : Int := if a - n < 0 then -1 else a - n
theorem szLen_lo (n : Nat) (a : Int) : -1 ≤ szLen n a := by unfold szLen; split <;> omega
theorem szLen_up (n : Nat) (a : Int) (h : -1 ≤ a) : szLen n a ≤ a := by unfold szLen; split <;> omega
theorem szLen_ok {n : Nat} {a : Int} (h : 0 ≤ szLen n a) : (n : Int) ≤ a := by unfold szLen at h; split at h <;> omega
theorem szLen_neg (n : Nat) : szLen n (-1) = -1 := by unfold szLen; rw [if_pos (by omega)]
instance (priority := high) : Siz (List UInt8) := ⟨fun s a => szLen s.length a, fun m s => s.length ≤ m, fun s a _ => szLen_lo _ _, fun s a h => szLen_up _ _ h, fun s => szLen_neg _, fun _ s a _ h _ => by have := szLen_ok h; omega, fun m m' s h h2 => Nat.le_trans h2 h⟩
section
variable {α β : Type} [Siz α] [Siz β]
def szl : List α → Int → Int
  | [], a => a
  | x :: l, a => szl l (sz x a)
theorem szl_lo : ∀ (l : List α) (a : Int), -1 ≤ a → -1 ≤ szl l a
  | [], a, h => h
  | x :: l, a, h => szl_lo l _ (lo x a h)
theorem szl_up : ∀ (l : List α) (a : Int), -1 ≤ a → szl l a ≤ a
  | [], a, h => Int.le_refl _
  | x :: l, a, h => Int.le_trans (szl_up l _ (lo x a h)) (up x a h)
theorem szl_neg : ∀ (l : List α), szl l (-1) = -1
  | [] => rfl
  | x :: l => by unfold szl; rw [neg, szl_neg l]
theorem szl_ok {m : Nat} : ∀ (l : List α) (a : Int), (∀ x ∈ l, ok m x) → 0 ≤ szl l a → -1 ≤ a → ∀ x ∈ l, ok a.toNat x
  | [], a, _, h, _, x, hx => by cases hx
  | y :: l, a, h0, h, ha, x, hx => by
    unfold szl at h
    have h1 := szl_up l _ (lo y a ha)
    have h2 := up y a ha
    rw [List.mem_cons] at hx
    rcases hx with rfl | hx
    · exact okk m x a (h0 x (List.mem_cons_self ..)) (by omega) ha
    · exact mono _ _ x (by omega) (szl_ok l _ (fun z hz => h0 z (List.mem_cons_of_mem _ hz)) h (lo y a ha) x hx)
theorem szl_0 [Siz0 α] : ∀ (l : List α) (a : Int), szl l a = a
  | [], a => rfl
  | x :: l, a => by unfold szl; rw [Siz0.z0, szl_0 l]
instance (priority := low) : Siz (List α) := ⟨fun l a => szl l (szLen l.length a), fun m l => l.length ≤ m ∧ ∀ x ∈ l, ok m x, fun l a _ => szl_lo l _ (szLen_lo _ _), fun l a h => Int.le_trans (szl_up l _ (szLen_lo _ _)) (szLen_up _ _ h),
  fun l => by rw [szLen_neg, szl_neg], fun m l a h0 h ha => by
    have h1 := szl_up l _ (szLen_lo l.length a)
    have h2 := szLen_ok (n := l.length) (a := a) (by omega)
    have h3 := szLen_up l.length a ha
    exact ⟨by omega, fun x hx => mono _ _ x (by omega) (szl_ok l _ h0.2 h (szLen_lo _ _) x hx)⟩,
  fun m m' l h h2 => ⟨Nat.le_trans h2.1 h, fun x hx => mono _ _ x h (h2.2 x hx)⟩⟩
instance : Siz (α × β) := ⟨fun p a => sz p.2 (sz p.1 a), fun m p => ok m p.1 ∧ ok m p.2, fun p a h => lo _ _ (lo _ _ h), fun p a h => Int.le_trans (up _ _ (lo _ _ h)) (up _ _ h), fun p => by rw [neg, neg], fun m p a h0 h ha => by
    have h1 := up p.2 _ (lo p.1 a ha)
    have h2 := up p.1 a ha
    exact ⟨okk m _ _ h0.1 (by omega) ha, mono _ _ _ (by omega) (okk m p.2 _ h0.2 h (lo _ _ ha))⟩, fun m m' p h h2 => ⟨mono _ _ _ h h2.1, mono _ _ _ h h2.2⟩⟩
instance [Siz0 α] [Siz0 β] : Siz0 (α × β) := ⟨fun p a => by show sz p.2 (sz p.1 a) = a; rw [Siz0.z0, Siz0.z0]⟩
theorem sz_m1 {x : α} {a : Int} (h : sz x a < 0) (ha : -1 ≤ a) : sz x a = -1 := by have := lo x a ha; omega
theorem sz_pair (p : α × β) (a : Int) : sz p a = sz p.2 (sz p.1 a) := rfl
theorem szl_step [Inhabited α] {l : List α} {i : Nat} (h : i < l.length) (a : Int) : szl (l.drop i) a = szl (l.drop (i + 1)) (sz (l.getD i default) a) := by
  rw [List.drop_eq_getElem_cons h, List.getD_eq_getElem?_getD, List.getElem?_eq_getElem h]; rfl
theorem szl_end {l : List α} {i : Nat} (h : l.length ≤ i) (a : Int) : szl (l.drop i) a = a := by
  rw [List.drop_eq_nil_of_le h]; rfl
theorem ok_at {m : Nat} {l : List α} [Inhabited α] (h : ∀ x ∈ l, ok m x) {i : Nat} (hi : i < l.length) : ok m (l.getD i default) := by
  rw [List.getD_eq_getElem?_getD, List.getElem?_eq_getElem hi]; exact h _ (List.getElem_mem hi)
end
theorem szS_init {α : Type} [Siz α] {l : List α} {a : Int} (h : 0 ≤ a - (l.length : Int)) : szl (l.drop 0) (a - (l.length : Int)) = sz l a := by
  rw [List.drop_zero]
  show _ = szl l (szLen l.length a)
  rw [szLen, if_neg (by omega)]
theorem szS_neg {α : Type} [Siz α] {l : List α} {a : Int} (h : a - (l.length : Int) < 0) : sz l a = -1 := by
  show szl l (szLen l.length a) = -1
  rw [szLen, if_pos h, szl_neg]
theorem szS_0 {α : Type} [Siz α] [Siz0 α] {l : List α} {a : Int} (h : 0 ≤ a - (l.length : Int)) : sz l a = a - l.length := by
  show szl l (szLen l.length a) = _
  rw [szl_0, szLen, if_neg (by omega)]
theorem szS_stop {α : Type} [Siz α] [Inhabited α] {l : List α} {a b : Int} {i : Nat} (h : szl (l.drop i) b = sz l a) (hi : i < l.length) (hc : sz (l.getD i default) b < 0) (hb : -1 ≤ b) : sz l a = -1 := by
  rw [← h, szl_step hi, sz_m1 hc hb, szl_neg]
theorem szS_next {α : Type} [Siz α] [Inhabited α] {l : List α} {a b : Int} {i : Nat} (h : szl (l.drop i) b = sz l a) (hi : i < l.length) : szl (l.drop (i + 1)) (sz (l.getD i default) b) = sz l a := by
  rw [← h, szl_step hi]
theorem szS_end {α : Type} [Siz α] {l : List α} {a b : Int} {i : Nat} (h : szl (l.drop i) b = sz l a) (hi : l.length ≤ i) : b = sz l a := by
  rw [← h, szl_end hi]
theorem szStr_pos {s : List UInt8} {b : Int} (h : 0 ≤ b - (s.length : Int)) : sz s b = b - s.length := if_neg (by omega)
theorem szStr_neg {s : List UInt8} {b : Int} (h : b - (s.length : Int) < 0) : sz s b = -1 := if_pos h
theorem sz_str (s : List UInt8) (a : Int) : sz s a = szLen s.length a := rfl
theorem sz_list {α : Type} [Siz α] (l : List (List α)) (a : Int) : sz l a = szl l (szLen l.length a) := rfl
theorem sz_int (x : Int) (a : Int) : sz x a = a := rfl
theorem sz_bool (x : Bool) (a : Int) : sz x a = a := rfl
/-- A bound of what is left. -/
theorem UB {a : Int} (h : a ≤ 1048576 := by repeat (first | omega | refine Int.le_trans (up _ _ (by omega)) ?_)) : a ≤ 1048576 := h
def mxi : Nat := 9223372036854775807
def mxs : Nat := 4294967295

theorem set_nx {α : Type} [Inhabited α] {l out : List α} {i : Nat} (h : out.take i = l.take i) (ho : i < out.length) (hl : i < l.length) : (out.set i (l.getD i default)).take (i + 1) = l.take (i + 1) := by
  rw [take_succ _ _ (by rw [List.length_set]; exact ho), take_succ _ _ hl, List.take_set_of_le (Nat.le_refl _), h]
  simp [List.getD_eq_getElem?_getD, ho]
theorem set_all {α : Type} {l out : List α} {i : Nat} (h : out.take i = l.take i) (ho : out.length ≤ i) (hl : l.length ≤ i) : out = l := by
  rwa [List.take_of_length_le ho, List.take_of_length_le hl] at h
theorem Fin.fr {n n0 id z : Nat} {H H0 : Heap} {α : Type} [Dat α] {l l' : List α} {len : Nat} (he : l = l') (hl : len = l.length) (hB : HB n0 H0 := by assumption) (hH : ((id, HObj.own (enc l).flatten) :: H0).Sublist H := by exact Sub) (hid : n0 ≤ id := by (try dsimp only); omega) (hy : z = Dat.z α := by rfl) :
    Fin n0 n H (.ref id z 0 len) (fun v' n' H' => v' = .sl (enc l') ∧ n' = n0 ∧ H' = H0) := by
  subst he hl hy
  exact Fin.frz (rows := enc l) (hH.subset (List.mem_cons_self ..)) hid hB ((List.sublist_cons_self _ _).trans hH) (enc_fz l).symm (enc_len l) (by rw [enc_ok l rfl]; trivial) ⟨rfl, rfl, rfl⟩
theorem Fin.fc {n n0 id z i : Nat} {H H0 : Heap} {α : Type} [Dat α] {l : List α} {cells : List AV} (h : cells.take (i * z) = (enc (l.take i)).flatten) (hi : l.length ≤ i) (hl : cells.length = l.length * z) (hB : HB n0 H0 := by assumption) (hH : ((id, HObj.own cells) :: H0).Sublist H := by exact Sub) (hid : n0 ≤ id := by (try dsimp only); omega) (hy : z = Dat.z α := by rfl) :
    Fin n0 n H (.ref id z 0 l.length) (fun v' n' H' => v' = .sl (enc l) ∧ n' = n0 ∧ H' = H0) := by
  rw [List.take_of_length_le (l := l) hi, List.take_of_length_le (by rw [hl]; exact Nat.mul_le_mul_right z hi)] at h
  subst h
  exact Fin.fr rfl rfl hB hH hid hy
theorem fc_len {α : Type} [Dat α] {l : List α} {cells x : List AV} {i z : Nat} (hl : cells.length = l.length * z) (hi : i < l.length) (hx : x.length = z) : (setCells cells (0 + i * z) x).length = l.length * z := by
  rw [setc_len _ _ _ ?_, hl]
  rw [hl, hx, Nat.zero_add, ← Nat.succ_mul]
  exact Nat.mul_le_mul_right z hi
theorem fc_next {α : Type} [Dat α] [Inhabited α] {l : List α} {cells x : List AV} {i z : Nat} (h : cells.take (i * z) = (enc (l.take i)).flatten) (hl : cells.length = l.length * z) (hi : i < l.length) (hx : x = Dat.row (l.getD i default)) (hy : z = Dat.z α) : (setCells cells (0 + i * z) x).take ((i + 1) * z) = (enc (l.take (i + 1))).flatten := by
  subst hx hy
  rw [setc_next h (Dat.rl _) (by rw [hl, Dat.rl, ← Nat.succ_mul]; exact Nat.mul_le_mul_right _ hi), take_succ _ _ hi, enc_snoc]
theorem fc_0 {α : Type} [Dat α] {l : List α} {cells : List AV} {z : Nat} : cells.take (0 * z) = (enc (l.take 0)).flatten := by simp [enc]
section
set_option linter.unusedSectionVars false
variable {α : Type} [DecidableEq α] [Inhabited α] {l m : List α}
theorem decL (h : ¬ l.length = m.length) : decide (l = m) = false := decide_eq_false fun e => h (e ▸ rfl)
theorem decG {i : Nat} (h : ¬ l.getD i default = m.getD i default) : decide (l = m) = false := decide_eq_false fun e => h (e ▸ rfl)
theorem decA (h : l.length = m.length) (ha : ∀ j, j < l.length → l.getD j default = m.getD j default) : decide (l = m) = true := decide_eq_true (by
  apply List.ext_getElem h
  intro i h1 h2
  have := ha i h1
  simpa [List.getD_eq_getElem?_getD, h1, h2] using this)
theorem decN {i : Nat} (h : ∀ j, j < i → l.getD j default = m.getD j default) (hc : l.getD i default = m.getD i default) : ∀ j, j < i + 1 → l.getD j default = m.getD j default := fun j hj => by
  by_cases e : j = i
  · subst e; exact hc
  · exact h j (by omega)
end
abbrev Lnk := UInt8 × UInt8
abbrev Lvl := List (List UInt8) × List Int
abbrev Lrn := Int × List (List Int) × Int
abbrev Odr := Int × List (List Bool)
abbrev Par := List UInt8 × List UInt8
abbrev Lng := List (List UInt8) × Int × List Int
abbrev Shr := List UInt8 × Int
abbrev Syl := List UInt8 × List UInt8 × List UInt8
abbrev Fot := Int × Int × Int
abbrev Ftg := Int × List Fot × Int
abbrev Tab := List UInt8 × List (List UInt8) × List (List Lnk) × List (List Int)
instance decTab : DecidableEq Tab := by
  letI i1 : DecidableEq (List (List Lnk) × List (List Int)) := inferInstance
  letI i2 : DecidableEq (List (List UInt8) × List (List Lnk) × List (List Int)) := inferInstance
  exact inferInstance
abbrev Clm := Int × Tab × Int × List (List Int) × List Int × List Int × List (List UInt8)
instance decClm : DecidableEq Clm := by
  letI i1 : DecidableEq (List Int × List Int × List (List UInt8)) := inferInstance
  letI i2 : DecidableEq (Int × List (List Int) × List Int × List Int × List (List UInt8)) := inferInstance
  exact inferInstance
theorem row_ii (l : List (List Int)) : Dat.row l = [AV.sl (enc l)] := rfl
theorem row_ss (l : List (List (List UInt8))) : Dat.row l = [AV.sl (enc l)] := rfl
theorem row_ll (l : List (List Lnk)) : Dat.row l = [AV.sl (enc l)] := rfl
theorem row_bb (l : List (List Bool)) : Dat.row l = [AV.sl (enc l)] := rfl
theorem stc5 (a b c d e x y : AV) (l : List AV) : setCells (a :: b :: c :: d :: e :: y :: l) 5 [x] = a :: b :: c :: d :: e :: x :: l := by simp [setCells, Nat.add_comm 5]
theorem stc6 (a b c d e f x y : AV) (l : List AV) : setCells (a :: b :: c :: d :: e :: f :: y :: l) 6 [x] = a :: b :: c :: d :: e :: f :: x :: l := by simp [setCells, Nat.add_comm 6]
theorem stc7 (a b c d e f g x y : AV) (l : List AV) : setCells (a :: b :: c :: d :: e :: f :: g :: y :: l) 7 [x] = a :: b :: c :: d :: e :: f :: g :: x :: l := by simp [setCells, Nat.add_comm 7]
theorem stc8 (a b c d e f g h x y : AV) (l : List AV) : setCells (a :: b :: c :: d :: e :: f :: g :: h :: y :: l) 8 [x] = a :: b :: c :: d :: e :: f :: g :: h :: x :: l := by simp [setCells, Nat.add_comm 8]
theorem stc9 (a b c d e f g h i x y : AV) (l : List AV) : setCells (a :: b :: c :: d :: e :: f :: g :: h :: i :: y :: l) 9 [x] = a :: b :: c :: d :: e :: f :: g :: h :: i :: x :: l := by simp [setCells, Nat.add_comm 9]
theorem tkl5 (a b c d e : AV) : List.take 5 [a, b, c, d, e] = [a, b, c, d, e] := rfl
theorem tkl6 (a b c d e f : AV) : List.take 6 [a, b, c, d, e, f] = [a, b, c, d, e, f] := rfl
theorem tkl7 (a b c d e f g : AV) : List.take 7 [a, b, c, d, e, f, g] = [a, b, c, d, e, f, g] := rfl
theorem tkl8 (a b c d e f g h : AV) : List.take 8 [a, b, c, d, e, f, g, h] = [a, b, c, d, e, f, g, h] := rfl
theorem tkl9 (a b c d e f g h i : AV) : List.take 9 [a, b, c, d, e, f, g, h, i] = [a, b, c, d, e, f, g, h, i] := rfl
theorem tkl10 (a b c d e f g h i j : AV) : List.take 10 [a, b, c, d, e, f, g, h, i, j] = [a, b, c, d, e, f, g, h, i, j] := rfl
theorem eqLnk (a b : Lnk) : eqInts [AV.int .u8 (a.1.toNat : Int), AV.int .u8 (a.2.toNat : Int)] [AV.int .u8 (b.1.toNat : Int), AV.int .u8 (b.2.toNat : Int)] = some (decide (a = b)) := by
  obtain ⟨a1, a2⟩ := a
  obtain ⟨b1, b2⟩ := b
  have h : ∀ x y : UInt8, ((x.toNat : Int) = (y.toNat : Int)) = (x = y) := fun x y => by rw [Int.ofNat_inj, UInt8.toNat_inj]
  simp only [eqInts, h, Prod.mk.injEq]
  by_cases h1 : a1 = b1 <;> by_cases h2 : a2 = b2 <;> simp [h1, h2]
/-- A law's argument as a datum. -/
def HK (s : TS) (α : Type) [Dat α] [Siz α] : Prop := HD s α (ok mxi)
theorem HK.bool : HK .bool Bool := HD.bool
theorem HK.u8 : HK (.int .u8) UInt8 := HD.u8
theorem HK.int : HK (.int .i64) Int := fun cs h => by
  obtain ⟨i, e, hw⟩ := HD.int cs h
  refine ⟨i, e, ?_⟩
  simp [Lit.wf] at hw
  have e1 : IntKind.i64.min = -9223372036854775808 := rfl
  have e2 : IntKind.i64.max = 9223372036854775807 := rfl
  exact ⟨by omega, by omega⟩
theorem HK.str : HK .str (List UInt8) := HD.str
theorem HK.sl {s : TS} {α : Type} [Dat α] [Siz α] (h : HK s α) : HK (.sl (Dat.z α) s) (List α) := HD.sl h
def HKf (fs : TSs) (α : Type) [Dat α] [Siz α] : Prop := ∀ cs, HasS (.st fs) cs → ∃ a : α, cs = Dat.row a ∧ ok mxi a
theorem HK.one {s : TS} {α : Type} [Dat α] [Siz α] (h : HK s α) : HKf (.cons s .nil) α := HD.st1 h
theorem HK.cons {s : TS} {fs : TSs} {α β : Type} [Dat α] [Dat β] [Siz α] [Siz β] (h1 : HK s α) (h2 : HKf fs β) : HKf (.cons s fs) (α × β) := fun cs hs => by
  obtain ⟨xs, ys, rfl, h, hs⟩ := hs
  obtain ⟨a, rfl, ha⟩ := h1 _ h
  obtain ⟨z, rfl, hz⟩ := h2 ys hs
  exact ⟨(a, z), rfl, ha, hz⟩
theorem HK.st {fs : TSs} {α : Type} [Dat α] [Siz α] (h : HKf fs α) : HK (.st fs) α := h
/-- The copied or compared data. -/
def C_szS (α : Type) [Dat α] [Siz (List α)] (P : Program) (k : Nat) : Prop := ∀ (l : List α) (a : Int), ok mxi l → -1 ≤ a → a ≤ 1048576 → RunsF P k [.sl (enc l), .int .i64 a] (.int .i64 (sz l a))
def C_szT (α : Type) [Dat α] [Siz α] (P : Program) (k : Nat) : Prop := ∀ (x : α) (a : Int), ok mxi x → -1 ≤ a → a ≤ 1048576 → RunsF P k [.agg (Dat.row x), .int .i64 a] (.int .i64 (sz x a))
def C_toS (α : Type) [Dat α] [Siz (List α)] (P : Program) (k : Nat) : Prop := ∀ (l : List α), ok mxs l → RunsF P k [.sl (enc l)] (.sl (enc l))
def C_toT (α : Type) [Dat α] [Siz α] (P : Program) (k : Nat) : Prop := ∀ (x : α), ok mxs x → RunsF P k [.agg (Dat.row x)] (.agg (Dat.row x))
def C_eqS (α : Type) [Dat α] [Siz (List α)] [DecidableEq α] (P : Program) (k : Nat) : Prop := ∀ (l m : List α), ok mxs l → ok mxs m → RunsF P k [.sl (enc l), .sl (enc m)] (.bool (decide (l = m)))
def C_eqT (α : Type) [Dat α] [Siz α] [DecidableEq α] (P : Program) (k : Nat) : Prop := ∀ (x y : α), ok mxs x → ok mxs y → RunsF P k [.agg (Dat.row x), .agg (Dat.row y)] (.bool (decide (x = y)))
section
set_option linter.defProp false
theorem TTdt {A B : Prop} (hb : B) (h : B → A := by (intro hb; simp (disch := first | omega | decide | rfl) only [row_ii, row_ss, row_ll, row_bb, eqLnk, stc5, stc6, stc7, stc8, stc9, tkl5, tkl6, tkl7, tkl8, tkl9, tkl10, Z, ZH, List.set_cons_zero, List.set_cons_succ, ↓reduceIte, Nat.reduceEqDiff, Nat.reduceBEq, Nat.reduceAdd, reduceCtorEq, UInt8.reduceOfNat]; exact hb)) : A := h hb
theorem TRdt {A B : Prop} (hb : B) (h : B → A := by (intro hb; simp (disch := first | omega | decide | rfl) only [ZR, row_ii, row_ss, row_ll, row_bb, eqLnk, stc5, stc6, stc7, stc8, stc9, tkl5, tkl6, tkl7, tkl8, tkl9, tkl10, Z, ZH, List.set_cons_zero, List.set_cons_succ, ↓reduceIte, Nat.reduceEqDiff, Nat.reduceBEq, Nat.reduceAdd, reduceCtorEq, UInt8.reduceOfNat]; exact hb)) : A := h hb
theorem TGdt {A B : Prop} (hb : B) (h : B → A := by (intro hb; simp (disch := first | omega | decide | rfl) only [hg, row_ii, row_ss, row_ll, row_bb, eqLnk, stc5, stc6, stc7, stc8, stc9, tkl5, tkl6, tkl7, tkl8, tkl9, tkl10, Z, ZH, List.set_cons_zero, List.set_cons_succ, ↓reduceIte, Nat.reduceEqDiff, Nat.reduceBEq, Nat.reduceAdd, reduceCtorEq, UInt8.reduceOfNat]; exact hb)) : A := h hb
end
/-- What is not needed of a heap is let go at a call. -/
theorem Runs.sub {P : Program} {f : FuncId} {args : List AV} {n : Nat} {H H' : Heap} {K : AV → Nat → Heap → Prop} (h : Runs P f args n H' K) (hs : H'.Sublist H) : Runs P f args n H K := by
  refine Runs.map (n1 := n) (H1 := H') (R1 := K) h fun g w cs hv hh => ⟨g, hv, ?_, ?_⟩
  · exact ⟨hh.apart.sublist hs, fun p hp => hh.ent p (hs.subset hp), hh.fsz⟩
  · rintro c w' ⟨v, n', H2, g', hr, hle, hv', hh', hg⟩
    exact ⟨v, n', H2, g', hr, hle, hv', hh', { hg with old := fun b hb hno => hg.old b hb fun p hp => hno p (hs.subset hp), owns := fun p hp => (hg.owns p hp).imp (fun ⟨q, hq, e⟩ => ⟨q, hs.subset hq, e⟩) id }⟩
end Go.Ab
end
section
namespace Go.Proofs
open Go.RowKit Go.Maps Go.Sort Go.Shelf
variable {P : Program} {ρ : Ren}

def cntV : Value → Int | .int _ q => q | _ => 0
/-- The closure that slices.Values hands back. -/
def v1F (a i b y : TypeId) : Func :=
  { name := "", origin := "", params := #[y], resultTypes := #[], nfree := 1, ntmps := 16, results := #[],
    body := some (.seq
      (.region 0 #[{ dst := some 5, op := .load a (.tmp 1), type := a, pos := "iter.go:39", after := #[], guard := none },
        { dst := some 6, op := .call { callee := .builtin .len, args := #[.tmp 5], argTypes := #[a] }, type := i, pos := "iter.go:39", after := #[{ on := 0, ground := .data }], guard := none },
        { dst := some 7, op := .move (.const (.int .i64 0)), type := i, pos := "iter.go:39", after := #[], guard := none }] false)
      (.block 0 (.loop (.seq
        (.region 1 #[{ dst := some 8, op := .binOp .lss i (.tmp 7) (.tmp 6) i, type := 0, pos := "iter.go:39", after := #[], guard := none }] false)
        (.seq (.cond (.tmp 8) .skip (.exit 0)) (.seq
          (.block 1 (.seq
            (.region 2 #[{ dst := some 9, op := .indexAddr a (.tmp 5) (.tmp 7), type := 0, pos := "iter.go:39", after := #[], guard := none },
              { dst := some 10, op := .load i (.tmp 9), type := i, pos := "iter.go:39", after := #[{ on := 0, ground := .data }], guard := none },
              { dst := some 4, op := .assign (.tmp 10), type := i, pos := "iter.go:39", after := #[{ on := 1, ground := .data }, { on := 0, ground := .phase }, { on := 1, ground := .phase }], guard := none }] false)
            (.seq
              (.region 3 #[{ dst := some 11, op := .move (.tmp 0), type := y, pos := "iter.go:40", after := #[], guard := none },
                { dst := some 12, op := .move (.tmp 4), type := i, pos := "iter.go:40", after := #[], guard := none },
                { dst := some 13, op := .call { callee := .value (.tmp 11), args := #[.tmp 12], argTypes := #[i] }, type := b, pos := "iter.go:40", after := #[{ on := 0, ground := .data }, { on := 1, ground := .data }], guard := none },
                { dst := some 14, op := .unOp .not b (.tmp 13), type := b, pos := "iter.go:40", after := #[{ on := 2, ground := .data }], guard := none }] false)
              (.cond (.tmp 14) .ret .skip))))
          (.region 4 #[{ dst := some 15, op := .binOp .add i (.tmp 7) (.const (.int .i64 1)) i, type := i, pos := "iter.go:39", after := #[], guard := none },
            { dst := some 7, op := .move (.tmp 15), type := i, pos := "iter.go:39", after := #[{ on := 0, ground := .data }], guard := none }] false)))))))
    norace := false, file := "slices/iter.go", endLine := 44, tmpNames := #["yield", "", "yield", "_", "v", "", "", "", "", "", "", "", "", "", "", ""] }

structure V1Lays (P : Program) (k : FuncId) (a i b y : TypeId) : Prop where
  mixed : P.follows .mixedOrders = true
  f : Bears P k (v1F a i b y)
  t0 : P.underlying 0 = some (TypeDesc.tuple #[])
  a0 : ∀ w, (isAgg 0).run P w = .ok false w
  z0 : ∀ w, (Go.sizeOf 0).run P w = .ok 1 w
  v0 : ∀ w, (zeroValue 0).run P w = .ok (Value.tuple #[]) w
  ta : P.underlying a = some (TypeDesc.slice i)
  aa : ∀ w, (isAgg a).run P w = .ok false w
  za : ∀ w, (Go.sizeOf a).run P w = .ok 1 w
  va : ∀ w, (zeroValue a).run P w = .ok (Value.slice none 0 0) w
  ti : P.underlying i = some (TypeDesc.int IntKind.i64)
  ai : ∀ w, (isAgg i).run P w = .ok false w
  zi : ∀ w, (Go.sizeOf i).run P w = .ok 1 w
  vi : ∀ w, (zeroValue i).run P w = .ok (Value.int IntKind.i64 0) w
  tb : P.underlying b = some (TypeDesc.bool)
  ab : ∀ w, (isAgg b).run P w = .ok false w
  zb : ∀ w, (Go.sizeOf b).run P w = .ok 1 w
  vb : ∀ w, (zeroValue b).run P w = .ok (Value.bool false) w

theorem cellEq {W W' : World} {p : Addr} (h : W'.heap[p.block]? = W.heap[p.block]?) : W'.cell? p = W.cell? p := by simp [World.cell?, h]
set_option maxRecDepth 100000 in
set_option maxHeartbeats 2000000 in
theorem values1_in {k a i b y : Nat} (L : V1Lays P k a i b y) (F : Fence) (n : Nat) (h7 : F.fn k) (hro : F.round = none) (hn : 1 ≤ n) (l n₀ Bs bo : Nat) (sv : Option Addr) (cap : Nat) (zs : List Int) (hreach : zs.length * 8 ≤ 140737488351232) (J : List Int → World → Prop)
    (hY : ∀ pre x W, J pre W → pre.length < zs.length → YieldAt F (n - 1) P l #[.int .i64 x] W fun e W' => e = .returned (.bool true) ∧ J (pre ++ [x]) W' ∧ KeepsWalks W W')
    (W : World) (hBs : W.cell? ⟨Bs, bo, none⟩ = some (.slice sv zs.length cap)) (hJ0 : ∀ pre W', J pre W' → ∀ k, k < n₀ → W'.heap[k]? = W.heap[k]?) (hc : ∀ j, j < zs.length → ∃ bb off, sv = some ⟨bb, off, none⟩ ∧ bb < n₀ ∧ W.cell? ⟨bb, off + j, none⟩ = some (.int .i64 (zs.getD j 0))) (h0 : J [] W) :
    CallsIn F n P k #[.func (.yield l) #[] #[], .pointer (some ⟨Bs, bo, none⟩)] W fun e W' => (∃ v, e = .returned v) ∧ J zs W' := by
  have mixed := L.mixed; have t0 := L.t0; have a0 := L.a0; have z0 := L.z0; have v0 := L.v0; have ta := L.ta; have aa := L.aa; have za := L.za; have va := L.va; have ti := L.ti; have ai := L.ai; have zi := L.zi; have vi := L.vi; have tb := L.tb; have ab := L.ab; have zb := L.zb; have vb := L.vb
  have u0 := run_underlying L.t0; have ua := run_underlying L.ta; have ui := run_underlying L.ti; have ub := run_underlying L.tb
  obtain ⟨_, _, FG⟩ := L.f
  refine callsIn_of_wp FG rfl h7 ?_ hro
  simp only [v1F, List.size_toArray, List.length_cons, List.length_nil, Nat.reduceAdd, Nat.reduceSub, Array.replicate_succ, Array.replicate_zero, List.push_toArray, List.append_toArray, List.nil_append, List.cons_append]
  gi_wp2
  gi_loopw [7] (fun i wr => ∃ k : Nat, k ≤ zs.length ∧ i = .int .i64 k ∧ J (zs.take k) wr)
    (fun i _ => zs.length - (cntV i).toNat)
  case atStart => exact ⟨0, Nat.zero_le _, rfl, h0⟩
  case round =>
    obtain ⟨k, hk, rfl, hJs⟩ := hrel
    have hnx := hJ0 _ _ hJs
    by_cases hlt : k < zs.length
    · obtain ⟨fn, tmps, assign, body, hy, hR⟩ := hY _ zs[k] wr hJs (by rw [List.length_take]; omega)
      obtain ⟨bb, off, rfl, hbb, hcc⟩ := hc k hlt
      have hy' : (Instr.yield l #[.int .i64 zs[k]]).run P wr = .ok (.round l fn tmps assign body) wr := hy
      rw [List.getD_eq_getElem?_getD, List.getElem?_eq_getElem hlt, Option.getD_some] at hcc
      have hcx' := (cellEq (p := ⟨bb, off + k, none⟩) (hnx bb hbb)).trans hcc
      gi_wp2
      refine hR.mono ?_
      rintro e W3 ⟨rfl, hJ3, hk3⟩
      gi_wp2
      go_roundw
      case rel => exact ⟨k + 1, by omega, by simp, by rw [List.take_add_one, List.getElem?_eq_getElem hlt]; exact hJ3⟩
      case measure => simp [cntV]; omega
    · obtain rfl : k = zs.length := by omega
      gi_wp2
      go_end0
      exact ⟨⟨_, rfl⟩, by rwa [List.take_length] at hJs⟩

set_option maxRecDepth 100000 in
set_option maxHeartbeats 2000000 in
/-- slices.AppendSeq(nil, seq), seq made by slices.Values of a slice. -/
theorem appendValues_in (L : SlLaysZI.n11 P ρ) {g a i b y : Nat} (V : V1Lays P g a i b y) (F : Fence) (n : Nat) (h11 : F.fn (ρ.f 11)) (hro : F.round = none) (hn : 2 ≤ n) (hFg : F.fn g) (Bs bo : Nat) (sv : Option Addr) (cap : Nat) (zs : List Int) (lb : Array Value) (hlb : lb = #[.pointer (some ⟨Bs, bo, none⟩)])
    (N : Nat) (hN' : N = zs.length) (hN : N ≤ maxLen) (hNb : N * 8 ≤ 140737488351232) (w : World) (hBlt0 : Bs < w.heap.size) (hcell : w.cell? ⟨Bs, bo, none⟩ = some (.slice sv zs.length cap))
    (hc : ∀ j, j < zs.length → ∃ bb off, sv = some ⟨bb, off, none⟩ ∧ bb < w.heap.size ∧ w.cell? ⟨bb, off + j, none⟩ = some (.int .i64 (zs.getD j 0))) :
    CallsIn F n P (ρ.f 11) #[.slice none 0 0, .func (.func g) #[] lb] w fun e w' => ∃ v : Value, e = .returned v ∧ w'.ownsRow w.heap.size (ρ.t 26) 1 v zs.length (zs.map encZ) ∧ (v = .slice none 0 0 ↔ zs = []) ∧ Below w.heap.size w w' := by
  have eg : ∀ args w, (callFunc g args).run P w = .ok (.enter g args) w := V.f.enters rfl
  subst hN'
  have h1 : 1 ≤ n := by omega
  have mixed := L.mixed; have t0 := L.t0; have a0 := L.a0; have z0 := L.z0; have v0 := L.v0; have t24 := L.t24; have a24 := L.a24; have z24 := L.z24; have v24 := L.v24; have t26 := L.t26; have a26 := L.a26; have z26 := L.z26; have v26 := L.v26; have t28 := L.t28; have a28 := L.a28; have z28 := L.z28; have v28 := L.v28
  have hne : ρ.t 24 ≠ ρ.t 26 := fun e => by have h := L.t24; rw [e, L.t26] at h; cases h
  have u0 := run_underlying L.t0; have u24 := run_underlying L.t24; have u26 := run_underlying L.t26; have u28 := run_underlying L.t28
  obtain ⟨_, _, FG⟩ := L.f11
  refine callsIn_of_wp_marks FG rfl h11 ?_ hro
  simp only [SlBodyZ.n11_ntmps ρ, List.size_toArray, List.length_cons, List.length_nil, Nat.reduceAdd, Nat.reduceSub, Array.replicate_succ, Array.replicate_zero, List.push_toArray, List.append_toArray, List.nil_append, List.cons_append]
  gi_wp2
  refine wpIn_rangeFunc ?_
  intro fn hfn
  rw [hro]
  obtain ⟨W0, hW0⟩ : ∃ W0, w.alloc (.cells #[.slice none 0 0] (ρ.t 24)) = W0 := ⟨_, rfl⟩
  have hs0 : W0.heap.size = w.heap.size + 1 := by rw [← hW0]; simp
  have hv0 : W0.heap[w.heap.size]? = some (.cells #[.slice none 0 0] (ρ.t 24) (0, 0)) := by rw [← hW0]; exact World.alloc_heap_new w _
  have hb0 : Below w.heap.size w W0 := by rw [← hW0]; exact (Below.refl _ w).alloc (Nat.le_refl _) _
  rw [hW0]
  obtain ⟨W1, hW1⟩ : ∃ W1, (W0.alloc (.deferred (some []))).alloc (.loop (AnyZI.apRec ρ fn (.func (.func g) #[] lb) w.heap.size W0.heap.size .ready none)) = W1 := ⟨_, rfl⟩
  have hold : ∀ k, k < W0.heap.size → W1.heap[k]? = W0.heap[k]? := fun k hk => by
    rw [← hW1]; exact (Below.heap_alloc _ _ k (by simp; omega)).trans (Below.heap_alloc _ _ k hk)
  have hb1 : Below w.heap.size w W1 := by rw [← hW1]; exact (hb0.alloc hb0.size _).alloc (by have := hb0.size; simp; omega) _
  have hs1 : W1.heap.size = W0.heap.size + 2 := by rw [← hW1]; simp
  have hM : AnyZI.ApAt ρ w fn (.func (.func g) #[] lb) w.heap.size (W0.heap.size + 1) W0.heap.size [] W1 :=
    ⟨⟨_, (hold w.heap.size (by omega)).trans hv0, ⟨rfl, .inl ⟨rfl, rfl⟩⟩, by simp⟩,
     by rw [← hW1]; have := World.alloc_heap_new (W0.alloc (.deferred (some []))) (.loop (AnyZI.apRec ρ fn (.func (.func g) #[] lb) w.heap.size W0.heap.size .ready none)); rwa [World.size_alloc] at this,
     by rw [← hW1]; exact (Below.heap_alloc _ _ _ (by simp)).trans (World.alloc_heap_new W0 _), hb1⟩
  refine ⟨W0.heap.size + 1, [{ target := .collected W0.heap.size, args := #[] }], W1, { target := .fn (.func g) lb, args := #[.func (.yield (W0.heap.size + 1)) #[] #[]] }, W1, g,
    #[.func (.yield (W0.heap.size + 1)) #[] #[]] ++ lb, W1, ?_, ?_, ?_, ?_, fun _ => h1, ?_⟩
  · rw [← hW1]; exact run_enterLoop_outer _ _ _ _ _
  · simp [resolve, go_sem]
  · intro f' hf'; simp [Target.leads] at hf'; subst hf'; exact hFg
  · simp [invoke, go_sem, eg]
  · have hl2 : #[Value.func (.yield (W0.heap.size + 1)) #[] #[]] ++ lb = #[.func (.yield (W0.heap.size + 1)) #[] #[], .pointer (some ⟨Bs, bo, none⟩)] := by rw [hlb]; rfl
    rw [hl2]
    refine (values1_in V F (n - 1) hFg hro (by omega) (W0.heap.size + 1) w.heap.size Bs bo sv cap zs (by omega) (AnyZI.ApAt ρ w fn (.func (.func g) #[] lb) w.heap.size (W0.heap.size + 1) W0.heap.size)
      (fun pre x W hJ hl => AnyZI.apYield { L with } F (n - 1 - 1) w fn hfn _ w.heap.size (W0.heap.size + 1) W0.heap.size (by omega) (by omega) (by omega) (Nat.le_refl _) (by omega) zs.length hN (by omega) pre x W hJ hl) W1 ((hb1.cell (p := ⟨Bs, bo, none⟩) hBlt0).trans hcell) (fun pre W' hJ k hk => (hJ.below.block k hk).trans (hb1.block k hk).symm) (fun j hj => by
        obtain ⟨bb, off, e1, e2, e3⟩ := hc j hj
        exact ⟨bb, off, e1, e2, (hb1.cell (p := ⟨bb, off + j, none⟩) e2).trans e3⟩) hM).mono ?_
    rintro e W2 ⟨⟨v0, rfl⟩, h2⟩
    obtain ⟨v, hv, hrow, hnil⟩ := h2.box
    have hend := run_endLoop (P := P) h2.L (by simp [AnyZI.apRec])
    obtain ⟨W3, hW3⟩ : ∃ W3, W2.putObj (W0.heap.size + 1) (.loop { AnyZI.apRec ρ fn (.func (.func g) #[] lb) w.heap.size W0.heap.size .ready none with state := .exhausted }) = W3 := ⟨_, rfl⟩
    rw [hW3] at hend
    have hg3 : W2.grownBy W3 (some (W0.heap.size + 1)) := by rw [← hW3]; exact grownBy_putObj_a _ _ _
    have hv3 : W3.heap[w.heap.size]? = some (.cells #[v] (ρ.t 24) (0, 0)) := by rw [← hW3]; exact (World.putObj_heap_other (by omega)).trans hv
    have hK3 : W3.heap[W0.heap.size]? = some (.deferred (some [])) := by rw [← hW3]; exact (World.putObj_heap_other (by omega)).trans h2.K
    have hrow3 := hrow.kept hg3 (ownsRow_ne_a hrow h2.L (fun cur e => by first | cases e | exact hne (Obj.cells.inj e).2.1))
    have hb3 : Below w.heap.size w W3 := h2.below.grown hg3 h2.below.size (fun k e => by cases e; omega)
    obtain ⟨hc3, hf3⟩ := cell_of_box_a hv3
    clear hW3
    refine ⟨none, W3, hend, ?_⟩
    gi_wp2
    rw [← hs0]
    refine ⟨by simp, .inl ⟨_, _, rfl, run_takeDeferred hK3, ?_⟩⟩
    exact ⟨_, results_tmp rfl _ _ _, v, rfl, hrow3.kept (grownBy_putObj_a _ _ _) (ownsRow_ne_a hrow3 hK3 (fun cur e => by first | cases e | exact hne (Obj.cells.inj e).2.1)), hnil, hb3.grown (grownBy_putObj_a _ _ _) hb3.size (fun k e => by cases e; omega)⟩
end Go.Proofs
end
section
namespace Go.Ab
open Go.Proofs Go.Shelf Go.RowKit Go.Sort
set_option linter.unusedVariables false
variable {P : Program}

def C_V1 (P : Program) (v : Nat) : Prop := ∃ a i b y : Nat, V1Lays P v a i b y
def C_app (P : Program) (k : Nat) : Prop := ∃ ρ : Ren, ρ.f 11 = k ∧ SlLaysZI.n11 P ρ
def C_srt (P : Program) (k : Nat) : Prop := ∃ ρ : Ren, ρ.f 5 = k ∧ SlLaysM.n5 P ρ

theorem vrels_ints {g : Ghost} {n : Nat} {w : World} : ∀ {l : List Int} {vs : List Value}, VRels g n w (enc l).flatten vs → vs = l.map (Value.int .i64)
  | [], vs, h => by cases h; rfl
  | x :: l, vs, h => by
    rw [enc_cons, List.flatten_cons] at h
    cases h with | cons _ v _ us h t =>
    cases h
    rw [vrels_ints t]; rfl
theorem vrels_mk {g : Ghost} {n : Nat} {w : World} : ∀ (l : List Int), VRels g n w (enc l).flatten (l.map (Value.int .i64))
  | [] => .nil
  | x :: l => .cons _ _ _ _ (.int _ _) (vrels_mk l)
theorem run_lt {w : World} {b off : Nat} {vs : List Value} (h : Run w b off vs) {j : Nat} (hj : j < vs.length) : b < w.heap.size := by
  have := h j _ (List.getElem?_eq_getElem hj)
  unfold World.cell? at this
  rcases Nat.lt_or_ge b w.heap.size with h' | h'
  · exact h'
  · rw [show w.heap[(⟨b, off + j, none⟩ : Addr).block]? = none from Array.getElem?_eq_none h'] at this; cases this
theorem flat_len (l : List Int) : (enc l).flatten.length = l.length := encI_flen l

theorem app_runs {k v : Nat} (hA : C_app P k) (hV : C_V1 P v) (l : List Int) (hl : l.length ≤ 4294967295) : RunsO P k [.nilsl, .fn v [.fptr [.sl (enc l)]]] (.sl (enc l)) := by
  obtain ⟨ρ, rfl, L⟩ := hA
  obtain ⟨a, i, b, y, V⟩ := hV
  intro n H g w cs hv hh
  cases hv with | cons _ _ _ _ h1 t =>
  cases t with | cons _ _ _ _ h2 t =>
  cases t
  cases h1
  cases h2 with | fn _ _ vs hvs =>
  cases hvs with | cons _ _ _ _ hp t =>
  cases t
  cases hp with | fptr _ b0 off0 us hf hr hus =>
  cases hus with | cons _ u _ _ hu t =>
  cases t
  cases hu with | sl _ s sa b1 off1 cap xs ha hc hs hf1 hr1 hx =>
  have hxs := vrels_ints hx
  subst hxs
  have hlen : (enc l).length = l.length := enc_len l
  have e : (callFunc (ρ.f 11) [Value.slice none 0 0, .func (.func v) #[] [Value.pointer (some ⟨b0, off0, none⟩)].toArray].toArray).run P w = .ok (.enter (ρ.f 11) [Value.slice none 0 0, .func (.func v) #[] [Value.pointer (some ⟨b0, off0, none⟩)].toArray].toArray) w := L.f11.enters rfl _ _
  rw [e]
  have hb0 : b0 < w.heap.size := run_lt hr (j := 0) (by simp)
  have hcell : w.cell? ⟨b0, off0, none⟩ = some (.slice sa l.length cap) := by rw [← hlen]; exact hr 0 _ rfl
  have key := callsIn_wide.1 (appendValues_in (P := P) (ρ := ρ) L V Fence.wide 2 trivial rfl (Nat.le_refl _) trivial b0 off0 sa cap l [Value.pointer (some ⟨b0, off0, none⟩)].toArray rfl l.length rfl (by unfold maxLen; omega) (by omega) w hb0 hcell (fun j hj => by
    have hne : enc l ≠ [] := by intro e; rw [e] at hlen; simp at hlen; omega
    refine ⟨b1, off1, ha hne, run_lt hr1 (j := j) (by simpa using hj), ?_⟩
    rw [hr1 j (.int .i64 (l.getD j 0)) (by simp [List.getD_eq_getElem?_getD, hj])]))
  refine Calls.mono key ?_
  rintro e2 w' ⟨v', rfl, hown, hnil, hbel⟩
  have hold : ∀ b, b < w.heap.size → w'.heap[b]? = w.heap[b]? := fun b hb => hbel.block b hb
  obtain ⟨hx', hh'⟩ := stands hh hbel.size hold
  have hoth : Oth w w' := ⟨hbel.os, hbel.tape, hbel.output⟩
  refine ⟨v', rfl, ?_⟩
  rcases hown.2 with ⟨rfl, h0⟩ | ⟨gb, cp, cur, rfl, hbase, hgb, hcap, hmax, hsz, htk⟩
  · have hl0 : l = [] := List.eq_nil_of_length_eq_zero h0
    subst hl0
    exact ⟨.nilsl, n, H, g, ⟨[], rfl, .nil, fun p hp => by cases hp⟩, Nat.le_refl _, .nilsl, hh', { hx' with size := hbel.size, old := fun b hb _ => ⟨hold b hb, rfl⟩, owns := fun p hp => .inl ⟨p, hp, rfl⟩, oth := hoth }⟩
  · let G : Ghost := ⟨upd g.β n gb, upd g.fr n none, g.φ⟩
    have eβ : G.β n = gb := upd_same _ _ _
    have hβ : ∀ p ∈ H, G.β p.1 = g.β p.1 := fun p hp => upd_ne _ _ (Nat.ne_of_lt (hh.ent p hp).1)
    have hlt : ∀ p ∈ H, g.β p.1 < w.heap.size := fun p hp => (hh.ent p hp).2.lt
    have hX : Ext n g w G w' := ⟨hx'.cells, fun _ => Nat.le_refl _, fun i hi => .inl ⟨upd_ne _ _ (Nat.ne_of_lt hi), upd_ne _ _ (Nat.ne_of_lt hi)⟩, hx'.rooms⟩
    have hH : HRel G n H w' := by
      refine ⟨hh.apart.imp_of_mem ?_, fun p hp => ⟨(hh.ent p hp).1, (hh.ent p hp).2.ext hX (Nat.le_refl _) (hβ p hp) (upd_ne _ _ (Nat.ne_of_lt (hh.ent p hp).1)) rfl (hold _ (hlt p hp))⟩, hh'.fsz⟩
      intro p q hp hq hpq
      refine ⟨hpq.1, ?_⟩
      rw [hβ p hp, hβ q hq]; exact hpq.2
    have htree : Tree true [(n, .own (enc l).flatten)] (.sl (enc l)) (.ref n 1 0 l.length) := by
      have := Tree.ref (b := true) (id := n) (s := 1) (rows := enc l) (N := []) enc_row (Trees.leaves (enc_simple (l := l) fun _ => rfl))
      rw [enc_len] at this
      exact this
    refine ⟨.ref n 1 0 l.length, n + 1, (n, .own (enc l).flatten) :: H, G, ⟨[(n, .own (enc l).flatten)], rfl, htree, fun p hp => by rw [List.mem_singleton] at hp; subst hp; exact Nat.le_refl _⟩, Nat.le_succ _, ?_, hH.add _ (fun p hp => ?_) ?_, ?_⟩
    · have hroom : room w' (G.β n) (0 + cp * 1) := by rw [eβ]; exact ⟨cur, _, _, hgb, by rw [hsz]; omega⟩
      have := VRel.ref (g := G) (n := n + 1) (w := w') n 1 0 l.length cp (Nat.lt_succ_self _) (upd_same _ _ _) hcap hroom
      rw [eβ] at this
      exact this
    · rw [hβ p hp, eβ]
      have := hlt p hp
      omega
    · refine ⟨upd_same _ _ _, ?_, cur, _, l.map (Value.int .i64), by rw [eβ]; exact hgb, fun j v hj => ?_, vrels_mk l⟩
      · rw [eβ]; exact hh.phi0 hbase
      · have hlt2 : j < l.length := by
          rcases Nat.lt_or_ge j l.length with h' | h'
          · exact h'
          · rw [List.getElem?_eq_none (by simpa using h')] at hj; cases hj
        have : (cur.toList.take (l.length * 1))[j]? = some v := by rw [htk]; exact hj
        rw [List.getElem?_take_of_lt (by omega)] at this
        simpa using this
    · refine { hX with size := hbel.size, old := fun b hb _ => ⟨hold b hb, rfl⟩, owns := fun p hp => ?_, oth := hoth }
      rw [List.mem_cons] at hp
      rcases hp with rfl | hp
      · exact .inr (by rw [eβ]; exact hbase)
      · exact .inl ⟨p, hp, (hβ p hp).symm⟩

/-- Sorted. -/
def srt (l : List Int) : List Int := l.mergeSort fun x y => decide (x ≤ y)
theorem srt_len (l : List Int) : (srt l).length = l.length := List.length_mergeSort l
def C_sortT (P : Program) (f : Nat) : Prop := ∀ (l : List Int) (N : Heap) (v : AV) (n : Nat) (R : Heap), l.length ≤ 4294967295 → Tree false N (.sl (enc l)) v →
  Runs P f [v] n (N ++ R) fun r n' H' => r = .tup [] ∧ n' = n ∧ ∃ N', Tree false N' (.sl (enc (srt l))) v ∧ N'.map Prod.fst = N.map Prod.fst ∧ H' = N' ++ R
theorem putRow_blk {w : World} {b : Nat} {c : Array Value} {el : TypeId} {fz : Nat × Nat} {d : Array Int} {k : Nat} {os : Array Obj} (hb : w.heap[b]? = some (.cells c el fz)) :
    (grow (putRow (Value.int .i64) (Sort.ahead w k) b 0 d) os).heap[b]? = some (.cells (putCells (Value.int .i64) 0 d c) el fz) := by
  have hlt : b < w.heap.size := by
    rcases Nat.lt_or_ge b w.heap.size with h | h
    · exact h
    · rw [Array.getElem?_eq_none h] at hb; cases hb
  show ((w.heap.modify b _) ++ os)[b]? = _
  rw [Array.getElem?_append_left (by rw [Array.size_modify]; exact hlt)]
  simp [Array.getElem?_modify, hb, onCells]
theorem putRow_oth {w : World} {b j : Nat} {d : Array Int} {k : Nat} {os : Array Obj} (hj : j < w.heap.size) (hne : b ≠ j) :
    (grow (putRow (Value.int .i64) (Sort.ahead w k) b 0 d) os).heap[j]? = w.heap[j]? := by
  show ((w.heap.modify b _) ++ os)[j]? = _
  rw [Array.getElem?_append_left (by rw [Array.size_modify]; exact hj)]
  simp [Array.getElem?_modify, hne]
theorem putRow_size {w : World} {b : Nat} {d : Array Int} {k : Nat} {os : Array Obj} : w.heap.size ≤ (grow (putRow (Value.int .i64) (Sort.ahead w k) b 0 d) os).heap.size := by
  show _ ≤ ((w.heap.modify b _) ++ os).size
  rw [Array.size_append, Array.size_modify]; exact Nat.le_add_right _ _
theorem putCells_at {d : Array Int} {c : Array Value} {j : Nat} (hj : j < d.size) (hc : j < c.size) : (putCells (Value.int .i64) 0 d c)[j]? = some (.int .i64 d[j]!) := by
  simp [putCells, hc, hj]

theorem sort_runs {k : Nat} (hS : C_srt P k) : C_sortT P k := by
  obtain ⟨ρ, rfl, L⟩ := hS
  intro l N v n R hl ht g w cs hv hh
  cases hv with | cons _ c _ _ h1 t =>
  cases t
  have e : ∀ c : Value, (callFunc (ρ.f 5) [c].toArray).run P w = .ok (.enter (ρ.f 5) [c].toArray) w := fun c => L.f5.enters rfl _ _
  rw [e]
  have hsl := srt_len l
  have hlen : (enc l).length = l.length := enc_len l
  by_cases hl0 : l = []
  · subst hl0
    have hc : ∃ a cap, c = .slice a 0 cap := by
      cases ht with
      | leaf _ h => simp [simple] at h
      | nil => cases h1; exact ⟨_, _, rfl⟩
      | emp => cases h1; exact ⟨_, _, rfl⟩
      | acc hb _ => cases hb
      | vec hb _ _ => cases hb
      | ref hr t => cases h1; exact ⟨_, _, rfl⟩
    obtain ⟨a, cap, rfl⟩ := hc
    refine Calls.mono (AnyM.slices_Sort_int_none L a cap w) ?_
    rintro e2 w' ⟨rfl, rfl⟩
    exact ⟨_, rfl, .tup [], n, N ++ R, g, ⟨rfl, rfl, N, by simpa [srt] using ht, rfl, rfl⟩, Nat.le_refl _, .tup [] [] .nil, hh, Grow.refl _ _ _ _⟩
  have hrow : ∀ r ∈ enc l, r.length = 1 := enc_row
  have hne : enc l ≠ [] := fun h => hl0 (List.eq_nil_of_length_eq_zero (by rw [← hlen, h]; rfl))
  have hsc : (enc l).flatten.all simple = true := enc_simple fun _ => rfl
  generalize hrows : enc l = rows at ht hlen hrow hne hsc
  cases ht with
  | leaf _ h => simp [simple] at h
  | nil => exact absurd rfl hne
  | emp => exact absurd rfl hne
  | acc hb _ => cases hb
  | vec hb _ _ => cases hb
  | ref hr t =>
  rename_i id s cells N
  obtain ⟨rfl, rfl⟩ := t.leaf_inv hsc
  have hs1 : s = 1 := by
    obtain ⟨r, rest, rfl⟩ := List.exists_cons_of_ne_nil hne
    rw [← hr r (List.mem_cons_self ..), hrow r (List.mem_cons_self ..)]
  subst hs1
  cases h1 with | ref _ _ _ _ cap hid hk hcap hroom =>
  have hm : (id, HObj.own rows.flatten) ∈ [(id, HObj.own rows.flatten)] ++ R := by simp
  obtain ⟨_, hfr, hphi, arr, el, vs, harr, hvs, hrel⟩ := hh.ent _ hm
  have hv2 := vrels_ints (l := l) (by rw [hrows]; exact hrel)
  subst hv2
  have hsz : l.length ≤ arr.size := by
    rcases Nat.eq_zero_or_pos l.length with h0 | h0
    · omega
    · have := hvs (l.length - 1) (.int .i64 (l[l.length - 1]'(by omega))) (by rw [List.getElem?_map, List.getElem?_eq_getElem (by omega)]; rfl)
      rcases Nat.lt_or_ge (l.length - 1) arr.size with h6 | h6
      · omega
      · rw [Array.getElem?_eq_none h6] at this; cases this
  have hblk : g.β id < w.heap.size := by
    rcases Nat.lt_or_ge (g.β id) w.heap.size with h' | h'
    · exact h'
    · rw [Array.getElem?_eq_none h'] at harr; cases harr
  have hH : Holds (Value.int .i64) w (g.β id) 0 l.toArray := by
    intro j hj
    have hj' : j < l.length := by simpa using hj
    refine ⟨?_, ?_⟩
    · have := hvs j (.int .i64 l[j]) (by rw [List.getElem?_map, List.getElem?_eq_getElem hj']; rfl)
      simp only [World.cell?, harr, Nat.zero_add, Option.isSome_none, Bool.false_eq_true, if_false]
      rw [this, getElem!_pos _ j hj]; simp
    · simp [World.frozen?, harr]
  have key := AnyM.slices_Sort_int L (g.β id) 0 cap l w hH hblk (by omega)
  rw [hlen]
  refine Calls.mono key ?_
  rintro e2 w' ⟨rfl, nn, os, rfl⟩
  have hX : Ext n g w g (grow (putRow (Value.int .i64) (Sort.ahead w nn) (g.β id) 0 (srt l).toArray) os) := by
    refine ⟨fun b i hi => ?_, fun _ => Nat.le_refl _, fun _ _ => .inl ⟨rfl, rfl⟩, fun b k ⟨c, el', fz, h1, h2⟩ => ?_⟩
    · refine cellEq (putRow_oth (room_lt (hh.fsz b (by omega))) ?_)
      rintro rfl
      rw [hphi] at hi; exact absurd hi (Nat.not_lt_zero _)
    · by_cases hb : g.β id = b
      · subst hb
        exact ⟨_, _, _, putRow_blk h1, by simpa [putCells] using h2⟩
      · exact ⟨c, el', fz, by rw [putRow_oth (room_lt (w := w) ⟨c, el', fz, h1, h2⟩) hb]; exact h1, h2⟩
  refine ⟨_, rfl, .tup [], n, [(id, .own (enc (srt l)).flatten)] ++ R, g, ⟨rfl, rfl, [(id, .own (enc (srt l)).flatten)], ?_, rfl, rfl⟩, Nat.le_refl _, .tup [] [] .nil, ?_, ?_⟩
  · have := Tree.ref (b := false) (id := id) (s := 1) (rows := enc (srt l)) (N := []) enc_row (Trees.leaves (enc_simple (l := srt l) fun _ => rfl))
    rw [enc_len, hsl] at this
    exact this
  · have e1 : [(id, HObj.own (enc (srt l)).flatten)] ++ R = hsetM ([(id, HObj.own rows.flatten)] ++ R) id (.own (enc (srt l)).flatten) := by
      rw [← hset_eq (r := fun p q => g.β p.1 ≠ g.β q.1) id _ hh.apart]
      simp [hset]
    rw [e1]
    refine HRel.set hh hm hX (fun p hp hne => ⟨rfl, rfl, rfl, putRow_oth (hh.ent p hp).2.lt (apart_of hh hp hm hne).symm⟩) (.inl rfl) ⟨hfr, hphi, _, el, (srt l).map (Value.int .i64), putRow_blk harr, fun j v hj => ?_, vrels_mk _⟩ (fun b hb => hX.rooms _ _ (hh.fsz b hb))
    have hj' : j < (srt l).length := by
      rcases Nat.lt_or_ge j (srt l).length with h' | h'
      · exact h'
      · rw [List.getElem?_eq_none (by simpa using h')] at hj; cases hj
    rw [List.getElem?_map, List.getElem?_eq_getElem hj'] at hj
    have hj2 : j < (srt l).toArray.size := by simpa using hj'
    show (putCells (Value.int .i64) 0 (srt l).toArray arr)[j]? = some v
    rw [putCells_at (c := arr) hj2 (by omega), getElem!_pos _ j hj2]
    simpa using hj
  · refine { hX with size := putRow_size, old := fun b hb hno => ⟨putRow_oth hb (fun e => hno _ hm e), rfl⟩, owns := fun p hp => ?_, oth := ⟨rfl, rfl, rfl⟩ }
    simp only [List.cons_append, List.nil_append, List.mem_cons] at hp
    rcases hp with rfl | hp
    · exact .inl ⟨_, hm, rfl⟩
    · exact .inl ⟨p, by simp [hp], rfl⟩

theorem C_sortT.a {f : FuncId} {l : List Int} {N R : Heap} {v : AV} {n : Nat} {K : AV → Nat → Heap → Prop} {t : Tag K} (h : C_sortT P f) (hl : l.length ≤ 4294967295) (ht : Tree false N (.sl (enc l)) v)
    (hk : ∀ N', Tree false N' (.sl (enc (srt l))) v → N'.map Prod.fst = N.map Prod.fst → K (.tup []) n (N' ++ R)) : RunsT P f [v] n (N ++ R) K t :=
  (h l N v n R hl ht).mono fun r n' H' ⟨h1, h2, N', h3, h4, h5⟩ => by subst h1 h2 h5; exact hk N' h3 h4
theorem fst_le {N N' : Heap} {n : Nat} (h : N'.map Prod.fst = N.map Prod.fst) (hN : ∀ p ∈ N, n ≤ p.1) : ∀ p ∈ N', n ≤ p.1 := fun p hp => by
  have : p.1 ∈ N'.map Prod.fst := List.mem_map.mpr ⟨p, hp, rfl⟩
  rw [h] at this
  obtain ⟨q, hq, e⟩ := List.mem_map.mp this
  rw [← e]; exact hN q hq

/-! ### Rankings -/
theorem srt_perm (l : List Int) : (srt l).Perm l := List.mergeSort_perm l _
theorem srt_le (l : List Int) : (srt l).Pairwise (· ≤ ·) := by
  have h := List.pairwise_mergeSort (le := fun x y : Int => decide (x ≤ y)) (fun a b c h1 h2 => by simp only [decide_eq_true_eq] at *; omega) (fun a b => by simp only [Bool.or_eq_true, decide_eq_true_eq]; omega) l
  exact h.imp fun h => by simpa using h
/-- Each place of a list answers. -/
def allAt (n : Nat) (p : Nat → Bool) : Bool := (List.range n).all p
theorem allAt_true {n : Nat} {p : Nat → Bool} : allAt n p = true ↔ ∀ j, j < n → p j = true := by simp [allAt]
theorem allAt_false {n j : Nat} {p : Nat → Bool} (h : j < n) (hp : p j = false) : allAt n p = false := by
  rw [Bool.eq_false_iff]; intro h2
  rw [allAt_true.mp h2 j h] at hp; cases hp
def strAt (l : List Int) (n : Int) (i : Nat) : Bool := (decide (0 ≤ l.getD i default) && decide (l.getD i default ≤ n - 1)) && !(decide (0 < i) && decide (l.getD i default ≤ l.getD (i - 1) default))
def isStr (l : List Int) (n : Int) : Bool := allAt l.length (strAt l n)
def rnkAt (r : List Int) (n : Int) (i : Nat) : Bool := (decide (0 ≤ r.getD i default) && decide (r.getD i default < n)) && !(r.take i).contains (r.getD i default)
def isRnk (r : List Int) (n : Int) : Bool := allAt r.length (rnkAt r n) && ((decide (1 ≤ n) && decide (n ≤ 5)) && decide ((r.length : Int) = n))
theorem getD_at {α : Type} [Inhabited α] {l : List α} {i : Nat} (h : i < l.length) : l.getD i default = l[i] := by simp [List.getD_eq_getElem?_getD, h]
theorem isStr_iff (l : List Int) (n : Int) : isStr l n = true ↔ (∀ x ∈ l, 0 ≤ x ∧ x < n) ∧ l.Pairwise (· < ·) := by
  unfold isStr
  rw [allAt_true]
  simp only [strAt, Bool.and_eq_true, decide_eq_true_eq, Bool.not_eq_true', Bool.and_eq_false_iff, decide_eq_false_iff_not]
  constructor
  · intro h
    refine ⟨fun x hx => ?_, ?_⟩
    · obtain ⟨i, hi, rfl⟩ := List.getElem_of_mem hx
      have := h i hi
      rw [getD_at hi] at this; omega
    · have key : ∀ i j (hi : i < l.length) (hj : j < l.length), i < j → l[i] < l[j] := by
        intro i j
        induction j with
        | zero => intro _ _ h; omega
        | succ j ih =>
          intro hi hj hij
          have h1 := (h (j + 1) hj).2
          rw [getD_at hj, Nat.add_sub_cancel, getD_at (show j < l.length by omega)] at h1
          by_cases e : i = j
          · subst e; omega
          · have := ih hi (by omega) (by omega); omega
      rw [List.pairwise_iff_getElem]
      exact fun i j hi hj hij => key i j hi hj hij
  · rintro ⟨h1, h2⟩ i hi
    have := h1 _ (List.getElem_mem hi)
    rw [getD_at hi]
    refine ⟨by omega, ?_⟩
    by_cases h0 : 0 < i
    · right
      rw [getD_at (show i - 1 < l.length by omega)]
      have := List.pairwise_iff_getElem.mp h2 (i - 1) i (by omega) hi (by omega)
      omega
    · exact .inl h0
theorem rnk_iff (r : List Int) (n : Int) : allAt r.length (rnkAt r n) = true ↔ (∀ x ∈ r, 0 ≤ x ∧ x < n) ∧ r.Nodup := by
  rw [allAt_true]
  simp only [rnkAt, Bool.and_eq_true, decide_eq_true_eq, Bool.not_eq_true']
  constructor
  · intro h
    refine ⟨fun x hx => ?_, ?_⟩
    · obtain ⟨i, hi, rfl⟩ := List.getElem_of_mem hx
      have := (h i hi).1
      rwa [getD_at hi] at this
    · rw [List.Nodup, List.pairwise_iff_getElem]
      intro i j hi hj hij e
      have := (h j hj).2
      rw [getD_at hj, ← e] at this
      have h3 : (r.take j).contains r[i] = true := by
        rw [List.contains_iff_mem]
        exact List.mem_take_iff_getElem.mpr ⟨i, by omega, rfl⟩
      rw [h3] at this; cases this
  · rintro ⟨h1, h2⟩ i hi
    rw [getD_at hi]
    refine ⟨h1 _ (List.getElem_mem hi), ?_⟩
    rw [Bool.eq_false_iff, ne_eq, List.contains_iff_mem]
    intro hm
    obtain ⟨j, hj, e⟩ := List.mem_take_iff_getElem.mp hm
    exact List.pairwise_iff_getElem.mp h2 j i (by omega) hi (by omega) e
theorem srt_rnk (r : List Int) (n : Int) : isStr (srt r) n = allAt r.length (rnkAt r n) := by
  rw [Bool.eq_iff_iff, isStr_iff, rnk_iff]
  have hp := srt_perm r
  have hs := srt_le r
  constructor
  · rintro ⟨h1, h2⟩
    exact ⟨fun x hx => h1 x (hp.mem_iff.mpr hx), hp.nodup_iff.mp (h2.imp fun h => by omega)⟩
  · rintro ⟨h1, h2⟩
    refine ⟨fun x hx => h1 x (hp.mem_iff.mp hx), ?_⟩
    have hn := hp.nodup_iff.mpr h2
    exact (hs.and hn).imp fun ⟨a, b⟩ => by omega
end Go.Ab
end
