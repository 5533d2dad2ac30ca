/- The rules of the walk under short names, loops whose unchanged slots are not named. Over any program. -/
import Derived.Test.YtobhjgipeepmoaaAbSc
namespace Go.Ab
set_option linter.unusedVariables false
set_option linter.unusedSectionVars false
set_option linter.defProp false

theorem rowsOk_one (s : Nat) (r : List AV) : rowsOk s [r] = (r.length = s ∧ r.all flat = true) := by simp [rowsOk]
theorem gd0 (a : List AV) (l : List (List AV)) (w : List AV) : (a :: l).getD 0 w = a := rfl
theorem gd1 (a b : List AV) (l : List (List AV)) (w : List AV) : (a :: b :: l).getD 1 w = b := rfl
theorem gd2 (a b c : List AV) (l : List (List AV)) (w : List AV) : (a :: b :: c :: l).getD 2 w = c := rfl
theorem gd3 (a b c d : List AV) (l : List (List AV)) (w : List AV) : (a :: b :: c :: d :: l).getD 3 w = d := rfl
theorem gd4 (a b c d e : List AV) (l : List (List AV)) (w : List AV) : (a :: b :: c :: d :: e :: l).getD 4 w = e := rfl
theorem gd5 (a b c d e f : List AV) (l : List (List AV)) (w : List AV) : (a :: b :: c :: d :: e :: f :: l).getD 5 w = f := rfl
theorem gd6 (a b c d e f g : List AV) (l : List (List AV)) (w : List AV) : (a :: b :: c :: d :: e :: f :: g :: l).getD 6 w = g := rfl
theorem gd7 (a b c d e f g h : List AV) (l : List (List AV)) (w : List AV) : (a :: b :: c :: d :: e :: f :: g :: h :: l).getD 7 w = h := rfl
theorem gd8 (a b c d e f g h i : List AV) (l : List (List AV)) (w : List AV) : (a :: b :: c :: d :: e :: f :: g :: h :: i :: l).getD 8 w = i := rfl
theorem gd9 (a b c d e f g h i j : List AV) (l : List (List AV)) (w : List AV) : (a :: b :: c :: d :: e :: f :: g :: h :: i :: j :: l).getD 9 w = j := rfl
theorem u8_ne (a b : UInt8) : ((a.toNat : Int) != (b.toNat : Int)) = (a != b) := by rw [bne, u8_eq]; rfl
theorem u8_nlit (a : UInt8) (k : Nat) (h : k < 256) : ((a.toNat : Int) != no_index (OfNat.ofNat k : Int)) = (a != UInt8.ofNat k) := by rw [bne, u8_lit _ _ h]; rfl
theorem toNatL (k : Nat) : (no_index (OfNat.ofNat k : Int)).toNat = OfNat.ofNat k := rfl
def ZG := And.intro @gd0 <| And.intro @gd1 <| And.intro @gd2 <| And.intro @gd3 <| And.intro @gd4 <| And.intro @gd5 <| And.intro @gd6 <| And.intro @gd7 <| And.intro @gd8 @gd9
theorem enc_simple {α : Type} [Dat α] {l : List α} (h : ∀ a : α, (Dat.row a).all simple = true) : (enc l).flatten.all simple = true := by
  induction l with
  | nil => rfl
  | cons s l ih => rw [enc_cons, List.flatten_cons, List.all_append, h, ih]; rfl
theorem enc_row {α : Type} [Dat α] {l : List α} : ∀ r ∈ enc l, r.length = Dat.z α := fun r hr => by obtain ⟨a, _, rfl⟩ := List.mem_map.mp hr; exact Dat.rl a
theorem nle_lit (a k : Nat) : decide ((a : Int) ≤ no_index (OfNat.ofNat k : Int)) = decide (a ≤ OfNat.ofNat k) := decide_eq_decide.mpr (by have : (OfNat.ofNat k : Int) = (k : Int) := rfl; rw [this]; exact Int.ofNat_le)
theorem lit_nle (a k : Nat) : decide (no_index (OfNat.ofNat k : Int) ≤ (a : Int)) = decide (OfNat.ofNat k ≤ a) := decide_eq_decide.mpr (by have : (OfNat.ofNat k : Int) = (k : Int) := rfl; rw [this]; exact Int.ofNat_le)
theorem nlt_lit (a k : Nat) : decide ((a : Int) < no_index (OfNat.ofNat k : Int)) = decide (a < OfNat.ofNat k) := decide_eq_decide.mpr (by have : (OfNat.ofNat k : Int) = (k : Int) := rfl; rw [this]; exact Int.ofNat_lt)
theorem lit_nlt (a k : Nat) : decide (no_index (OfNat.ofNat k : Int) < (a : Int)) = decide (OfNat.ofNat k < a) := decide_eq_decide.mpr (by have : (OfNat.ofNat k : Int) = (k : Int) := rfl; rw [this]; exact Int.ofNat_lt)
theorem nle_n (a b : Nat) : decide ((a : Int) ≤ (b : Int)) = decide (a ≤ b) := decide_eq_decide.mpr Int.ofNat_le
theorem nlt_n (a b : Nat) : decide ((a : Int) < (b : Int)) = decide (a < b) := decide_eq_decide.mpr Int.ofNat_lt
theorem neq_n (a b : Nat) : ((a : Int) == (b : Int)) = (a == b) := by rw [Bool.eq_iff_iff, beq_iff_eq, beq_iff_eq]; omega
theorem neq_lit (a k : Nat) : ((a : Int) == no_index (OfNat.ofNat k : Int)) = (a == OfNat.ofNat k) := by have : (OfNat.ofNat k : Int) = (k : Int) := rfl; rw [this, neq_n]; rfl
def ZI := And.intro nle_lit <| And.intro lit_nle <| And.intro nlt_lit <| And.intro lit_nlt <| And.intro nle_n <| And.intro nlt_n <| And.intro neq_n <| And.intro neq_lit <| And.intro @Bool.and_assoc @Bool.or_assoc
/-! ### Vectors of data -/
section
variable {α : Type} [Dat α] [Inhabited α]
theorem encf_drop (c : List α) (i : Nat) (h : i < c.length) : (enc c).flatten.drop (i * Dat.z α) = Dat.row (c.getD i default) ++ (enc (c.drop (i + 1))).flatten := by
  rw [flatten_drop enc_row, enc_drop, List.drop_eq_getElem_cons h, enc_cons, List.flatten_cons, List.getD_eq_getElem?_getD, List.getElem?_eq_getElem h]; rfl
theorem encf_set (c : List α) (i : Nat) (x : α) (h : i < c.length) : setCells (enc c).flatten (i * Dat.z α) (Dat.row x) = (enc (c.set i x)).flatten := by
  unfold setCells
  rw [Dat.rl, ← Nat.succ_mul, flatten_take enc_row, flatten_drop enc_row, enc_take, enc_drop]
  have : c.set i x = c.take i ++ x :: c.drop (i + 1) := List.set_eq_take_append_cons_drop.trans (if_pos h)
  rw [this]
  simp [enc, List.append_assoc]
end
theorem ldI (c : List Int) (i : Nat) (h : i < c.length) : ldc none ((enc c).flatten.drop (0 + i * 1)) = some (.int .i64 (c.getD i default)) := by
  have := encf_drop c i h
  rw [Nat.zero_add, show i * 1 = i * Dat.z Int from rfl, this]; rfl
theorem ldS (c : List (List UInt8)) (i : Nat) (h : i < c.length) : ldc none ((enc c).flatten.drop (0 + i * 1)) = some (.str (c.getD i default)) := by
  have := encf_drop c i h
  rw [Nat.zero_add, show i * 1 = i * Dat.z (List UInt8) from rfl, this]; rfl
theorem stI (c : List Int) (i : Nat) (x : Int) (h : i < c.length) : setCells (enc c).flatten (0 + i * 1) [AV.int .i64 x] = (enc (c.set i x)).flatten := by
  rw [Nat.zero_add]; exact encf_set c i x h
theorem stS (c : List (List UInt8)) (i : Nat) (x : List UInt8) (h : i < c.length) : setCells (enc c).flatten (0 + i * 1) [AV.str x] = (enc (c.set i x)).flatten := by
  rw [Nat.zero_add]; exact encf_set c i x h
theorem encI_flen (l : List Int) : (enc l).flatten.length = l.length := by rw [enc_flen]; exact Nat.mul_one _
theorem encS_flen (l : List (List UInt8)) : (enc l).flatten.length = l.length := by rw [enc_flen]; exact Nat.mul_one _
theorem encf_takeI (l : List Int) (k : Nat) : (enc l).flatten.take (k * 1) = (enc (l.take k)).flatten := by
  have := flatten_take (s := 1) (rows := enc l) enc_row k
  rw [this, enc_take]
theorem encf_takeS (l : List (List UInt8)) (k : Nat) : (enc l).flatten.take (k * 1) = (enc (l.take k)).flatten := by
  have := flatten_take (s := 1) (rows := enc l) enc_row k
  rw [this, enc_take]
theorem encf_app {α : Type} [Dat α] (l m : List α) : (enc l).flatten ++ (enc m).flatten = (enc (l ++ m)).flatten := by simp [enc]
def ZV := And.intro ldI <| And.intro ldS <| And.intro stI <| And.intro stS <| And.intro encI_flen <| And.intro encS_flen <| And.intro encf_takeI <| And.intro encf_takeS <| And.intro @encf_app @List.length_set.{0}
theorem Fin.accD {n n0 id s : Nat} {H H0 : Heap} {α : Type} [Dat α] {l l' : List α} (hs : ∀ a : α, (Dat.row a).all simple = true) (hB : HB n0 H0) (hH : ((id, HObj.tok s l.length) :: H0).Sublist H) (hid : n0 ≤ id) (he : l = l') : Fin n0 n H (.acc id s (enc l)) (OwnR true n0 H0 (.sl (enc l'))) := by
  subst he
  refine Fin.treeL (N := [(id, HObj.tok s (enc l).length)]) hB (by rw [enc_len]; exact hH) (fun p hp => ?_) (.acc rfl (enc_simple hs))
  rw [List.mem_singleton] at hp; subst hp; exact hid
theorem enc_rep {α : Type} [Dat α] (k : Nat) (a : α) : enc (List.replicate k a) = List.replicate k (Dat.row a) := by simp [enc]
theorem Fin.vecD {n n0 id ver z y : Nat} {H H0 : Heap} {α : Type} [Dat α] {l l' : List α} {len : Nat} (hs : ∀ a : α, (Dat.row a).all simple = true) (hB : HB n0 H0) (hH : ((id, HObj.vob ver z (enc l).flatten) :: H0).Sublist H) (hid : n0 ≤ id) (hl : len = l.length) (he : l = l') (hy : y = Dat.z α) :
    Fin n0 n H (.vec id ver y 0 len) (OwnR true n0 H0 (.sl (enc l'))) := by
  subst he hl hy
  have ht : Tree true [(id, HObj.vob ver z (enc l).flatten)] (.sl (enc l)) (.vec id ver (Dat.z α) 0 (enc l).length) := .vec rfl enc_row (by
    rw [enc_len, ← enc_flen, List.take_length]
    exact Trees.leaves (enc_simple hs))
  rw [enc_len] at ht
  refine Fin.treeL hB hH (fun p hp => ?_) ht
  rw [List.mem_singleton] at hp; subst hp; exact hid
theorem Fin.refD {n n0 id y : Nat} {H H0 : Heap} {α : Type} [Dat α] {l l' : List α} {len : Nat} (hs : ∀ a : α, (Dat.row a).all simple = true) (hB : HB n0 H0) (hH : ((id, HObj.own (enc l).flatten) :: H0).Sublist H) (hid : n0 ≤ id) (hl : len = l.length) (he : l = l') (hy : y = Dat.z α) :
    Fin n0 n H (.ref id y 0 len) (OwnR true n0 H0 (.sl (enc l'))) := by
  subst he hl hy
  have ht : Tree true [(id, HObj.own (enc l).flatten)] (.sl (enc l)) (.ref id (Dat.z α) 0 (enc l).length) := .ref enc_row (Trees.leaves (enc_simple hs))
  rw [enc_len] at ht
  refine Fin.treeL hB hH (fun p hp => ?_) ht
  rw [List.mem_singleton] at hp; subst hp; exact hid
theorem Fin.nilD {n n0 : Nat} {H H0 : Heap} {α : Type} [Dat α] {l' : List α} (hB : HB n0 H0) (hH : H0.Sublist H) (he : l' = []) : Fin n0 n H .nilsl (OwnR true n0 H0 (.sl (enc l'))) := by
  subst he
  exact Fin.treeL (N := []) hB hH (fun p hp => by cases hp) .nil
theorem simpI : ∀ a : Int, (Dat.row a).all simple = true := fun _ => rfl
theorem simpS : ∀ a : List UInt8, (Dat.row a).all simple = true := fun _ => rfl
theorem simpU : ∀ a : UInt8, (Dat.row a).all simple = true := fun _ => rfl
theorem simpP {α β : Type} [Dat α] [Dat β] (h1 : ∀ a : α, (Dat.row a).all simple = true) (h2 : ∀ a : β, (Dat.row a).all simple = true) : ∀ a : α × β, (Dat.row a).all simple = true := fun a => by rw [row_pair, List.all_append, h1, h2]; rfl

def nl : List XN → XNs
  | [] => .nil
  | x :: l => .cons x (nl l)
theorem nl_nil : nl [] = .nil := rfl
theorem nl_cons (x : XN) (l : List XN) : nl (x :: l) = .cons x (nl l) := rfl
theorem dN_op (d : Option Nat) (o : XO) (as : List Opd) : dstN (.op d o as) = d.toList := rfl
theorem dN_sc (t : Nat) (w : Bool) (blk : XNs) (r : Opd) (d : Option Nat) : dstN (.sc t w blk r d) = dstNs blk ++ d.toList := rfl
theorem dNs_nil : dstNs .nil = [] := rfl
theorem dNs_cons (x : XN) (l : XNs) : dstNs (.cons x l) = dstN x ++ dstNs l := rfl
theorem toL_some (d : Nat) : (some d).toList = [d] := rfl
theorem toL_none : (none : Option Nat).toList = [] := rfl
def ZN := And.intro @tNs_nil <| And.intro @tNs_op <| And.intro nl_nil <| And.intro nl_cons <| And.intro dN_op <| And.intro dN_sc <| And.intro dNs_nil <| And.intro dNs_cons <| And.intro toL_some <| And.intro toL_none <| And.intro @dels_nil <| And.intro @dels_cons <| And.intro @sc_and <| And.intro @sc_or <| And.intro @sc_and2 @sc_or2
def Z := And.intro ZG <| And.intro ZN <| And.intro ZV <| And.intro @toNatL <| And.intro @u8_ne <| And.intro @u8_nlit <| And.intro @Int.toNat_zero <| And.intro @Int.toNat_one <| And.intro AB <| And.intro AL <| And.intro AE <| And.intro @wrap_i64 <| And.intro @wrap_u8 <| And.intro @if_ne.{1} <| And.intro @Int.toNat_natCast <| And.intro @toNat_subl <| And.intro @toNat_addl <| And.intro @u8_eq @u8_lit
def HC := And.intro @decide_eq_true_eq <| And.intro @decide_eq_false_iff_not <| And.intro @Bool.not_eq_true' <| And.intro @Bool.not_eq_false' <| And.intro @beq_iff_eq.{0} <| And.intro @bne_iff_ne.{0} <| And.intro @beq_eq_false_iff_ne.{0} <| And.intro @bne_eq_false_iff_eq.{0} <| And.intro @ne_eq.{1} <|
  And.intro @Decidable.not_not <| And.intro @Int.not_lt <| And.intro @Int.not_le <| And.intro @Bool.and_eq_true <| And.intro @Bool.or_eq_true <| And.intro @Bool.and_eq_false_iff <| And.intro @Bool.or_eq_false_iff <| And.intro Bool.not_true Bool.not_false
def LF := And.intro @AV.bool.injEq <| And.intro @AV.int.injEq <| And.intro @AV.str.injEq <| And.intro @AV.sl.injEq <| And.intro @AV.tup.injEq <| And.intro @AV.agg.injEq <| And.intro @List.cons.injEq.{0} <| And.intro @and_true @true_and
def ZR := And.intro @retK_nil <| And.intro @retK_tmp <| And.intro @retK_cell <| And.intro @retC_ptr @retC_fptr
def ZE := And.intro @keepE_nil <| And.intro @keepE_cons <| And.intro @val_cons <| And.intro @val_nil <| And.intro @List.map_cons.{0,0} <| And.intro @List.map_nil.{0,0} <| And.intro @enc_snoc <| And.intro @row_int <| And.intro @row_u8 <| And.intro @row_bool <| And.intro @row_str <| And.intro @row_pair <| And.intro @row_ints <| And.intro @row_strs <| And.intro @row_bools <| And.intro @row_pairs <|
  And.intro @List.cons_append.{0} <| And.intro @List.nil_append.{0} <| And.intro @Int.natCast_add @Int.natCast_one

variable {P : Program} {X : Ctx} {F : Cfg} {k : List XItem} {E : Env} {n : Nat} {H : Heap}
def ZL := And.intro @List.length_append.{0} <| And.intro @List.length_cons.{0} <| And.intro @List.length_nil.{0} <| And.intro @Nat.zero_add <| And.intro @enc_len @bts_len
theorem XOs.go {l : List XOp} {K : Env → Nat → Heap → Prop} {t : Tag K} (h : XOs P l E n H K t) : XOs P l E n H K t := h
theorem XDs.go {l : List DOp} {K : Env → Nat → Heap → Prop} {t : Tag K} (h : XDs P l E n H K t) : XDs P l E n H K t := h

theorem OK.go {α : Type} {o : Option α} {K : α → Prop} {t : Tag K} (h : OK o K t) : OK o K t := h

theorem S.loopU {σ : Type} (ks : List Nat) (U : σ → Env) (I : σ → Prop) (ns : σ → Nat) (Hs : σ → Heap) (μ : σ → Nat) (s0 : σ) {a : XCode} {t : Tag (X, F, XItem.code (.loop a) :: k)} (hE : keepE ks E = keepE ks (U s0 ++ E)) (h0 : I s0) (hn : n ≤ ns s0) (hH : (Hs s0).Sublist H)
    (round : ∀ s, I s → (∀ s', I s' → μ s' < μ s → S P X F (.inLoop a :: k) Tag.mk (keepE ks (U s' ++ E)) (ns s') (Hs s')) → S P X F (.code a :: .inLoop a :: k) Tag.mk (keepE ks (U s ++ E)) (ns s) (Hs s)) :
    S P X F (.code (.loop a) :: k) t E n H := by
  refine S.loop I (fun s => keepE ks (U s ++ E)) ns Hs μ s0 ?_ h0 hn hH round
  have e : ∀ (ks : List Nat) (E' : Env), (keepE ks E').map Prod.fst = ks := fun ks E' => by
    unfold keepE; rw [List.map_map]
    exact (List.map_congr_left fun a _ => rfl).trans (List.map_id ks)
  show keepE ((keepE ks (U s0 ++ E)).map Prod.fst) E = keepE ks (U s0 ++ E)
  rw [e]; exact hE
end Go.Ab
