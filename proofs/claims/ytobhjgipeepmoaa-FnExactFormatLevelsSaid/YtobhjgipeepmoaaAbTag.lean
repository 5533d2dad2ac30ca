/- The rules of the abstract run, tagged: simp is not to look into what comes after. Over any program. -/
import Derived.Test.YtobhjgipeepmoaaAbLib
namespace Go.Ab
set_option linter.unusedVariables false
set_option linter.defProp false

inductive Tag {α : Type} (a : α) : Type where
  | mk
def Xo (P : Program) (o : XO) (vals : List AV) (n : Nat) (H : Heap) (K : AV → Nat → Heap → Prop) (t : Tag K) : Prop := xop P o vals n H K
def XOs (P : Program) (l : List XOp) (E : Env) (n : Nat) (H : Heap) (K : Env → Nat → Heap → Prop) (t : Tag K) : Prop := xOps P l E n H K
def Gd (v : AV) (want : Bool) (A B : Prop) (t : Tag (A, B)) : Prop := gd v want A B
def OK {α : Type} (o : Option α) (K : α → Prop) (t : Tag K) : Prop := oK o K
def withOwn (o : Option HObj) (K : List AV → Prop) (t : Tag K) : Prop := match o with
  | some (.own cells) => K cells
  | _ => False
def S (P : Program) (X : Ctx) (F : Cfg) (k : List XItem) (t : Tag (X, F, k)) (E : Env) (n : Nat) (H : Heap) : Prop := XS P X F k E n H
def RunsT (P : Program) (f : FuncId) (args : List AV) (n : Nat) (H : Heap) (R : AV → Nat → Heap → Prop) (t : Tag R) : Prop := Runs P f args n H R

section
variable {P : Program} {n : Nat} {H : Heap} {K : AV → Nat → Heap → Prop}
theorem tx_mv (x : AV) (t : Tag K) : Xo P .mv [x] n H K t = K x n H := x_mv _
theorem tx_pick (c : Bool) (a b : AV) (t : Tag K) : Xo P .pick [.bool c, a, b] n H K t = K (if c then a else b) n H := x_pick _ _ _
theorem tx_alloc (z : List AV) (t : Tag K) : Xo P (.alloc z) [] n H K t = K (.ptr n 0) (n + 1) ((n, .own z) :: H) := x_alloc _
theorem tx_boxF_agg (cs : List AV) (t : Tag K) : Xo P .boxF [.agg cs] n H K t = ((cs.map fz).all flat = true ∧ K (.fptr (cs.map fz)) n H) := x_boxF_agg _
theorem tx_boxF_int (k : IntKind) (i : Int) (t : Tag K) : Xo P .boxF [.int k i] n H K t = K (.fptr [.int k i]) n H := x_boxF_int _ _
theorem tx_boxF_str (s : List UInt8) (t : Tag K) : Xo P .boxF [.str s] n H K t = K (.fptr [.str s]) n H := x_boxF_str _
theorem tx_boxF_bool (b : Bool) (t : Tag K) : Xo P .boxF [.bool b] n H K t = K (.fptr [.bool b]) n H := x_boxF_bool _
theorem tx_boxF_sl (r : List (List AV)) (t : Tag K) : Xo P .boxF [.sl r] n H K t = K (.fptr [.sl r]) n H := x_boxF_sl _
theorem tx_boxF_acc (i s : Nat) (r : List (List AV)) (t : Tag K) : Xo P .boxF [.acc i s r] n H K t = K (.fptr [.sl r]) n H := x_boxF_acc _ _ _
theorem tx_boxO_agg (cs : List AV) (t : Tag K) : Xo P .boxO [.agg cs] n H K t = K (.ptr n 0) (n + 1) ((n, .own cs) :: H) := x_boxO_agg _
theorem tx_boxO_int (k : IntKind) (i : Int) (t : Tag K) : Xo P .boxO [.int k i] n H K t = K (.ptr n 0) (n + 1) ((n, .own [.int k i]) :: H) := x_boxO_int _ _
theorem tx_boxO_str (s : List UInt8) (t : Tag K) : Xo P .boxO [.str s] n H K t = K (.ptr n 0) (n + 1) ((n, .own [.str s]) :: H) := x_boxO_str _
theorem tx_boxO_sl (r : List (List AV)) (t : Tag K) : Xo P .boxO [.sl r] n H K t = K (.ptr n 0) (n + 1) ((n, .own [.sl r]) :: H) := x_boxO_sl _
theorem tx_boxO_acc (i s : Nat) (r : List (List AV)) (t : Tag K) : Xo P .boxO [.acc i s r] n H K t = K (.ptr n 0) (n + 1) ((n, .own [.acc i s r]) :: H) := x_boxO_acc _ _ _
theorem tx_boxO_bool (b : Bool) (t : Tag K) : Xo P .boxO [.bool b] n H K t = K (.ptr n 0) (n + 1) ((n, .own [.bool b]) :: H) := x_boxO_bool _
theorem tx_build (z : List AV) (pl : List (Nat × Nat)) (xs : List AV) (t : Tag K) : Xo P (.build z pl) xs n H K t = OK (buildC z pl xs) (fun cs => K (.agg cs) n H) Tag.mk := x_build _ _ _
theorem tx_bslF (s : Nat) (xs : List AV) (t : Tag K) : Xo P (.bsl 0 s) xs n H K t = OK (rowsOf xs) (fun rows => rowsOk s rows ∧ K (.sl rows) n H) Tag.mk := x_bslF _ _
theorem tx_bslA (s : Nat) (xs : List AV) (t : Tag K) : Xo P (.bsl 1 s) xs n H K t = OK (rowsOf xs) (fun rows => rowsOk s rows ∧ K (.acc n s rows) (n + 1) ((n, .tok s rows.length) :: H)) Tag.mk := x_bslA _ _
theorem tx_bslO (s : Nat) (xs : List AV) (t : Tag K) : Xo P (.bsl 2 s) xs n H K t = OK (rowsOf xs) (fun rows => rowsOk s rows ∧ K (.ref n s 0 rows.length) (n + 1) ((n, .own rows.flatten) :: H)) Tag.mk := x_bslO _ _
theorem tx_ldF (s : Option Nat) (cs : List AV) (t : Tag K) : Xo P (.ld s) [.fptr cs] n H K t = OK (ldc s cs) (fun v => K v n H) Tag.mk := x_ldF _ _
theorem tx_add (k : IntKind) (a b : Int) (t : Tag K) : Xo P (.bin .add) [.int k a, .int k b] n H K t = K (.int k (k.wrap (a + b))) n H := x_add _ _ _
theorem tx_sub (k : IntKind) (a b : Int) (t : Tag K) : Xo P (.bin .sub) [.int k a, .int k b] n H K t = K (.int k (k.wrap (a - b))) n H := x_sub _ _ _
theorem tx_mul (k : IntKind) (a b : Int) (t : Tag K) : Xo P (.bin .mul) [.int k a, .int k b] n H K t = K (.int k (k.wrap (a * b))) n H := x_mul _ _ _
theorem tx_quo (k : IntKind) (a b : Int) (t : Tag K) : Xo P (.bin .quo) [.int k a, .int k b] n H K t = (b ≠ 0 ∧ K (.int k (k.wrap (a.tdiv b))) n H) := x_quo _ _ _
theorem tx_rem (k : IntKind) (a b : Int) (t : Tag K) : Xo P (.bin .rem) [.int k a, .int k b] n H K t = (b ≠ 0 ∧ K (.int k (a.tmod b)) n H) := x_rem _ _ _
theorem tx_lss (k : IntKind) (a b : Int) (t : Tag K) : Xo P (.bin .lss) [.int k a, .int k b] n H K t = K (.bool (decide (a < b))) n H := x_lss _ _ _
theorem tx_leq (k : IntKind) (a b : Int) (t : Tag K) : Xo P (.bin .leq) [.int k a, .int k b] n H K t = K (.bool (decide (a ≤ b))) n H := x_leq _ _ _
theorem tx_gtr (k : IntKind) (a b : Int) (t : Tag K) : Xo P (.bin .gtr) [.int k a, .int k b] n H K t = K (.bool (decide (b < a))) n H := x_gtr _ _ _
theorem tx_geq (k : IntKind) (a b : Int) (t : Tag K) : Xo P (.bin .geq) [.int k a, .int k b] n H K t = K (.bool (decide (b ≤ a))) n H := x_geq _ _ _
theorem tx_eql (k : IntKind) (a b : Int) (t : Tag K) : Xo P (.bin .eql) [.int k a, .int k b] n H K t = K (.bool (a == b)) n H := x_eql _ _ _
theorem tx_neq (k : IntKind) (a b : Int) (t : Tag K) : Xo P (.bin .neq) [.int k a, .int k b] n H K t = K (.bool (a != b)) n H := x_neq _ _ _
theorem tx_sadd (a b : List UInt8) (t : Tag K) : Xo P (.bin .add) [.str a, .str b] n H K t = (a.length + b.length ≤ 9223372036854775807 ∧ K (.str (a ++ b)) n H) := x_sadd _ _
theorem tx_seql (a b : List UInt8) (t : Tag K) : Xo P (.bin .eql) [.str a, .str b] n H K t = K (.bool (a == b)) n H := x_seql _ _
theorem tx_sneq (a b : List UInt8) (t : Tag K) : Xo P (.bin .neq) [.str a, .str b] n H K t = K (.bool !(a == b)) n H := x_sneq _ _
theorem tx_binB (neg a b : Bool) (t : Tag K) : Xo P (.binB neg) [.bool a, .bool b] n H K t = K (.bool (if neg then a != b else a == b)) n H := x_binB _ _ _
theorem tx_nilsl (t : Tag K) : Xo P .eqNil [.nilsl, .nilsl] n H K t = K (.bool true) n H := x_nilsl
theorem tx_nil_sl (r : List (List AV)) (t : Tag K) : Xo P .eqNil [.sl r, .nilsl] n H K t = (K (.bool false) n H ∧ (r = [] → K (.bool true) n H)) := x_nil_sl _
theorem tx_nil_acc (i s : Nat) (r : List (List AV)) (t : Tag K) : Xo P .eqNil [.acc i s r, .nilsl] n H K t = (K (.bool false) n H ∧ (r = [] → K (.bool true) n H)) := x_nil_acc _ _ _
theorem tx_eqS (neg : Bool) (k : Nat) (xs ys : List AV) (t : Tag K) : Xo P (.eqS neg k) [.agg xs, .agg ys] n H K t = ((xs.length = k ∧ ys.length = k) ∧ OK (eqInts xs ys) (fun b => K (.bool (b != neg)) n H) Tag.mk) := x_eqS _ _ _ _
theorem tx_not (b : Bool) (t : Tag K) : Xo P (.un .not) [.bool b] n H K t = K (.bool !b) n H := x_not _
theorem tx_neg (k : IntKind) (i : Int) (t : Tag K) : Xo P (.un .neg) [.int k i] n H K t = K (.int k (k.wrap (0 - i))) n H := x_neg _ _
theorem tx_cvI (k k' : IntKind) (i : Int) (t : Tag K) : Xo P (.cvI k) [.int k' i] n H K t = K (.int k (k.wrap i)) n H := x_cvI _ _ _
theorem tx_cvIS (k' : IntKind) (i : Int) (t : Tag K) : Xo P .cvIS [.int k' i] n H K t = K (.str (Utf8.encode i).data.toList) n H := x_cvIS _ _
theorem tx_cvSS (s : List UInt8) (t : Tag K) : Xo P .cvSS [.str s] n H K t = K (.str s) n H := x_cvSS _
theorem tx_cvBS (r : List (List AV)) (t : Tag K) : Xo P .cvBS [.sl r] n H K t = OK (bytesRows r) (fun s => K (.str s) n H) Tag.mk := x_cvBS _
theorem tx_cvBS_acc (i s : Nat) (r : List (List AV)) (t : Tag K) : Xo P .cvBS [.acc i s r] n H K t = OK (bytesRows r) (fun s => K (.str s) n H) Tag.mk := x_cvBS_acc _ _ _
theorem tx_cvBS_nil (t : Tag K) : Xo P .cvBS [.nilsl] n H K t = K (.str []) n H := x_cvBS_nil
theorem tx_mkfn (f : FuncId) (cap : List AV) (t : Tag K) : Xo P (.mkfn f) cap n H K t = K (.fn f cap) n H := x_mkfn _ _
theorem tx_mksO (s b : Nat) (z : List AV) (l c : Int) (t : Tag K) : Xo P (.mks 2 s b z) [.int .i64 l, .int .i64 c] n H K t = ((0 ≤ l ∧ l ≤ c ∧ c ≤ lenMax ∧ b ≤ 4096 ∧ z.length = s) ∧ l = c ∧ K (.ref n s 0 l.toNat) (n + 1) ((n, .own (List.replicate l.toNat z).flatten) :: H)) := x_mksO _ _ _ _ _
theorem tx_mksA (s b : Nat) (z : List AV) (l c : Int) (t : Tag K) : Xo P (.mks 1 s b z) [.int .i64 l, .int .i64 c] n H K t = ((0 ≤ l ∧ l ≤ c ∧ c ≤ lenMax ∧ b ≤ 4096 ∧ z.length = s) ∧ K (.acc n s (List.replicate l.toNat z)) (n + 1) ((n, .tok s l.toNat) :: H)) := x_mksA _ _ _ _ _
theorem tx_slS_n (s : List UInt8) (t : Tag K) : Xo P (.slS false false) [.str s] n H K t = K (.str s) n H := x_slS_n _
theorem tx_slS_l (s : List UInt8) (k : IntKind) (l : Int) (t : Tag K) : Xo P (.slS true false) [.str s, .int k l] n H K t = ((0 ≤ l ∧ l ≤ s.length) ∧ K (.str (s.drop l.toNat)) n H) := x_slS_l _ _ _
theorem tx_slS_h (s : List UInt8) (k : IntKind) (l : Int) (t : Tag K) : Xo P (.slS false true) [.str s, .int k l] n H K t = ((0 ≤ l ∧ l ≤ s.length) ∧ K (.str (s.take l.toNat)) n H) := x_slS_h _ _ _
theorem tx_slS_lh (s : List UInt8) (k k' : IntKind) (l h : Int) (t : Tag K) : Xo P (.slS true true) [.str s, .int k l, .int k' h] n H K t = ((0 ≤ l ∧ l ≤ h ∧ h ≤ s.length) ∧ K (.str ((s.take h.toNat).drop l.toNat)) n H) := x_slS_lh _ _ _ _ _
theorem tx_slL_n (z : Nat) (r : List (List AV)) (t : Tag K) : Xo P (.slL z false false) [.sl r] n H K t = (rowsOk z r ∧ K (.sl r) n H) := x_slL_n _ _
theorem tx_slL_l (z : Nat) (r : List (List AV)) (k : IntKind) (l : Int) (t : Tag K) : Xo P (.slL z true false) [.sl r, .int k l] n H K t = (rowsOk z r ∧ (0 ≤ l ∧ l ≤ r.length) ∧ K (.sl (r.drop l.toNat)) n H) := x_slL_l _ _ _ _
theorem tx_slL_h (z : Nat) (r : List (List AV)) (k : IntKind) (l : Int) (t : Tag K) : Xo P (.slL z false true) [.sl r, .int k l] n H K t = (rowsOk z r ∧ (0 ≤ l ∧ l ≤ r.length) ∧ K (.sl (r.take l.toNat)) n H) := x_slL_h _ _ _ _
theorem tx_slL_lh (z : Nat) (r : List (List AV)) (k k' : IntKind) (l h : Int) (t : Tag K) : Xo P (.slL z true true) [.sl r, .int k l, .int k' h] n H K t = (rowsOk z r ∧ (0 ≤ l ∧ l ≤ h ∧ h ≤ r.length) ∧ K (.sl ((r.take h.toNat).drop l.toNat)) n H) := x_slL_lh _ _ _ _ _ _
theorem tx_slA (z : Nat) (lo hi : Bool) (i s : Nat) (r : List (List AV)) (bs : List AV) (t : Tag K) : Xo P (.slL z lo hi) (.acc i s r :: bs) n H K t = Xo P (.slL z lo hi) (.sl r :: bs) n H K t := x_slA _ _ _ _ _ _ _
theorem tx_fldF (off : Nat) (cs : List AV) (t : Tag K) : Xo P (.fldA off) [.fptr cs] n H K t = (off ≤ cs.length ∧ K (.fptr (cs.drop off)) n H) := x_fldF _ _
theorem tx_fldO (off id o : Nat) (t : Tag K) : Xo P (.fldA off) [.ptr id o] n H K t = K (.ptr id (o + off)) n H := x_fldO _ _ _
theorem tx_fld1 (off : Nat) (cs : List AV) (t : Tag K) : Xo P (.fld off none) [.agg cs] n H K t = OK cs[off]? (fun v => K v n H) Tag.mk := x_fld1 _ _
theorem tx_fldS (off s : Nat) (cs : List AV) (t : Tag K) : Xo P (.fld off (some s)) [.agg cs] n H K t = (off + s ≤ cs.length ∧ K (.agg ((cs.drop off).take s)) n H) := x_fldS _ _ _
theorem tx_idxA (z : Nat) (r : List (List AV)) (k : IntKind) (i : Int) (t : Tag K) : Xo P (.idxA z) [.sl r, .int k i] n H K t = ((0 ≤ i ∧ i < r.length ∧ rowsOk z r) ∧ K (.fptr (r.getD i.toNat [])) n H) := x_idxA _ _ _ _
theorem tx_idxA_acc (z id s : Nat) (r : List (List AV)) (k : IntKind) (i : Int) (t : Tag K) : Xo P (.idxA z) [.acc id s r, .int k i] n H K t = ((0 ≤ i ∧ i < r.length ∧ rowsOk z r) ∧ K (.fptr (r.getD i.toNat [])) n H) := x_idxA_acc _ _ _ _ _ _
theorem tx_idxA_ref (z id s off len : Nat) (k : IntKind) (i : Int) (t : Tag K) : Xo P (.idxA z) [.ref id s off len, .int k i] n H K t = ((0 ≤ i ∧ i < len ∧ s = z) ∧ K (.ptr id (off + i.toNat * s)) n H) := x_idxA_ref _ _ _ _ _ _ _
theorem tx_idxS (s : List UInt8) (k : IntKind) (i : Int) (t : Tag K) : Xo P .idxS [.str s, .int k i] n H K t = ((0 ≤ i ∧ i < s.length) ∧ K (.int .u8 ((s.getD i.toNat 0).toNat : Int)) n H) := x_idxS _ _ _
theorem tx_ext (i : Nat) (vs : List AV) (t : Tag K) : Xo P (.ext i) [.tup vs] n H K t = OK vs[i]? (fun v => K v n H) Tag.mk := x_ext _ _
theorem tx_lenL (r : List (List AV)) (t : Tag K) : Xo P .lenL [.sl r] n H K t = K (.int .i64 r.length) n H := x_lenL _
theorem tx_lenA (i s : Nat) (r : List (List AV)) (t : Tag K) : Xo P .lenL [.acc i s r] n H K t = K (.int .i64 r.length) n H := x_lenA _ _ _
theorem tx_lenR (i s o l : Nat) (t : Tag K) : Xo P .lenL [.ref i s o l] n H K t = K (.int .i64 l) n H := x_lenR _ _ _ _
theorem tx_lenN (t : Tag K) : Xo P .lenL [.nilsl] n H K t = K (.int .i64 0) n H := x_lenN
theorem tx_lenS (s : List UInt8) (t : Tag K) : Xo P .lenS [.str s] n H K t = K (.int .i64 s.length) n H := x_lenS _
theorem tx_app_acc (z b : Nat) (id s : Nat) (r : List (List AV)) (y : AV) (t : Tag K) : Xo P (.app z b) [.acc id s r, y] n H K t = (b ≤ 4096 ∧ OK (rowsOfSl H y) (fun ys => rowsOk z ys ∧ (r.length + ys.length ≤ lenMax ∧ s = z ∧ hget H id = some (.tok s r.length)) ∧ K (.acc id s (r ++ ys)) n (hset H id (.tok s (r.length + ys.length)))) Tag.mk) := x_app_acc _ _ _ _ _ _
theorem tx_app_nil (z b : Nat) (y : AV) (t : Tag K) : Xo P (.app z b) [.nilsl, y] n H K t = (b ≤ 4096 ∧ OK (rowsOfSl H y) (fun ys => rowsOk z ys ∧ ys.length ≤ lenMax ∧ (ys = [] → K .nilsl n H) ∧ (ys ≠ [] → K (.acc n z ys) (n + 1) ((n, .tok z ys.length) :: H))) Tag.mk) := x_app_nil _ _ _
theorem tx_min2 (k : IntKind) (a b : Int) (t : Tag K) : Xo P (.mnx false) [.int k a, .int k b] n H K t = K (.int k (min a b)) n H := x_min2 _ _ _
theorem tx_max2 (k : IntKind) (a b : Int) (t : Tag K) : Xo P (.mnx true) [.int k a, .int k b] n H K t = K (.int k (max a b)) n H := x_max2 _ _ _
theorem tx_min3 (k : IntKind) (a b c : Int) (t : Tag K) : Xo P (.mnx false) [.int k a, .int k b, .int k c] n H K t = K (.int k (min (min a b) c)) n H := x_min3 _ _ _ _
theorem txOps_nil (E : Env) (K : Env → Nat → Heap → Prop) (t : Tag K) : XOs P [] E n H K t = K E n H := xOps_nil _ _
theorem tgd_und (w : Bool) (A B : Prop) (t : Tag (A, B)) : Gd (.tup []) w A B t = B := gd_und _ _ _
theorem tgd_true (A B : Prop) (t : Tag (A, B)) : Gd (.bool true) true A B t = A := gd_true _ _
theorem tgd_false (A B : Prop) (t : Tag (A, B)) : Gd (.bool false) false A B t = A := gd_false _ _
theorem tgd_tf (A B : Prop) (t : Tag (A, B)) : Gd (.bool true) false A B t = B := gd_tf _ _
theorem tgd_ft (A B : Prop) (t : Tag (A, B)) : Gd (.bool false) true A B t = B := gd_ft _ _
theorem tx_ldO (s : Option Nat) (id off : Nat) (t : Tag K) : Xo P (.ld s) [.ptr id off] n H K t = withOwn (hget H id) (fun cells => OK (ldc s (cells.drop off)) (fun v => K v n H) Tag.mk) Tag.mk := rfl
theorem tx_st (s : Option Nat) (id off : Nat) (x : AV) (t : Tag K) : Xo P (.st s) [.ptr id off, x] n H K t = withOwn (hget H id) (fun cells => OK (cellsOf x) (fun xs => (xs.length = s.getD 1 ∧ off + xs.length ≤ cells.length ∧ xs.all plain = true) ∧ K .junk n (hset H id (.own (setCells cells off xs)))) Tag.mk) Tag.mk := by
  show (match hget H id, cellsOf x with
    | some (.own cells), some xs => (xs.length = s.getD 1 ∧ off + xs.length ≤ cells.length ∧ xs.all plain = true) ∧ K .junk n (hset H id (.own (setCells cells off xs)))
    | _, _ => False) = _
  unfold withOwn OK
  cases hget H id with
  | none => rfl
  | some o => cases o with
    | tok _ _ => rfl
    | vob _ _ _ => rfl
    | own c => cases cellsOf x <;> rfl
theorem tx_call2 (f : FuncId) (cap args : List AV) (t : Tag K) : Xo P .call (.fn f cap :: args) n H K t = RunsT P f (args ++ cap) n H K Tag.mk := rfl
theorem txOps_cons (d : Option Nat) (o : XO) (as : List Opd) (l : List XOp) (E : Env) (K : Env → Nat → Heap → Prop) (t : Tag K) :
    XOs P (⟨d, o, as, none⟩ :: l) E n H K t = Xo P o (as.map (Opd.val E)) n H (fun v n' H' => XOs P l (put E d v) n' H' K Tag.mk) Tag.mk := rfl
theorem txOps_gd (d : Option Nat) (o : XO) (as : List Opd) (i : Nat) (want : Bool) (l : List XOp) (E : Env) (K : Env → Nat → Heap → Prop) (t : Tag K) :
    XOs P (⟨d, o, as, some (i, want)⟩ :: l) E n H K t = Gd (val E i) want (Xo P o (as.map (Opd.val E)) n H (fun v n' H' => XOs P l (put E d v) n' H' K Tag.mk) Tag.mk) (XOs P l (put E d (.tup [])) n H K Tag.mk) Tag.mk := rfl
theorem tOK_some {α : Type} (a : α) (K : α → Prop) (t : Tag K) : OK (some a) K t = K a := rfl
theorem tOK_ite {α : Type} (c : Prop) [Decidable c] (o : Option α) (K : α → Prop) (t : Tag K) : OK (if c then o else none) K t = (c ∧ OK o K t) := oK_ite c o K
theorem town_some (cells : List AV) (K : List AV → Prop) (t : Tag K) : withOwn (some (.own cells)) K t = K cells := rfl
end

theorem Gd.on {b : Bool} {want : Bool} {A B : Prop} {t : Tag (A, B)} (hA : b = want → A) (hB : b = !want → B) : Gd (.bool b) want A B t := gd.on hA hB

/-! ### The rules for code, tagged -/
section
variable {P : Program} {X : Ctx} {F : Cfg} {k : List XItem} {E : Env} {n : Nat} {H : Heap}
theorem S.skip {t : Tag (X, F, XItem.code .skip :: k)} (h : S P X F k Tag.mk E n H) : S P X F (.code .skip :: k) t E n H := XS.skip h
theorem S.seq {a b : XCode} {t : Tag (X, F, XItem.code (.seq a b) :: k)} (h : S P X F (.code a :: .code b :: k) Tag.mk E n H) : S P X F (.code (.seq a b) :: k) t E n H := XS.seq h
theorem S.cond {c : Opd} {a b : XCode} {u : Bool} {t : Tag (X, F, XItem.code (.cond c a b) :: k)} (hc : c.val E = .bool u) (h1 : u = true → S P X F (.code a :: k) Tag.mk E n H) (h2 : u = false → S P X F (.code b :: k) Tag.mk E n H) : S P X F (.code (.cond c a b) :: k) t E n H := XS.cond hc h1 h2
theorem S.block {id : Nat} {a : XCode} {t : Tag (X, F, XItem.code (.block id a) :: k)} (h : S P X F (.code a :: .inBlock id :: k) Tag.mk E n H) : S P X F (.code (.block id a) :: k) t E n H := XS.block h
theorem S.inBlock {id : Nat} {t : Tag (X, F, XItem.inBlock id :: k)} (h : S P X F k Tag.mk E n H) : S P X F (.inBlock id :: k) t E n H := XS.inBlock h
theorem S.exit {id : Nat} {r : List XItem} {t : Tag (X, F, XItem.code (.exit id) :: k)} (he : xexit id k = some r) (h : S P X F r Tag.mk E n H) : S P X F (.code (.exit id) :: k) t E n H := XS.exit he h
theorem S.reg {l : List XOp} {ks : List Nat} {t : Tag (X, F, XItem.code (.reg l ks) :: k)} (h : XOs P l E n H (fun E n H => S P X F k Tag.mk (keepE ks E) n H) Tag.mk) : S P X F (.code (.reg l ks) :: k) t E n H := XS.reg h
theorem S.ret {vs : List AV} {t : Tag (X, F, XItem.code .ret :: k)} (hr : retsL P E H X.fn.results.toList = some vs) (hf : Fin X.n0 n H (retV vs) X.R) : S P X F (.code .ret :: k) t E n H := XS.ret hr hf
theorem S.fin {vs : List AV} {t : Tag (X, F, ([] : List XItem))} (hr : retsL P E H X.fn.results.toList = some vs) (hf : Fin X.n0 n H (retV vs) X.R) : S P X F [] t E n H := XS.fin hr hf
theorem S.to {E' : Env} {H' : Heap} {n' : Nat} {t t' : Tag (X, F, k)} (h : S P X F k t E' n' H') (hE : Esub E' E) (hn : n ≤ n') (hH : H'.Sublist H) : S P X F k t' E n H := XS.to h hE hn hH
theorem S.while {σ : Type} (I : σ → Prop) (Es : σ → Env) (ns : σ → Nat) (Hs : σ → Heap) (μ : σ → Nat) (s0 : σ) {a : XCode} {t : Tag (X, F, XItem.code (.loop a) :: k)} (h0 : I s0) (hE : Esub (Es s0) E) (hn : n ≤ ns s0) (hH : (Hs s0).Sublist H)
    (round : ∀ s, I s → (∀ s', I s' → μ s' < μ s → S P X F (.inLoop a :: k) Tag.mk (Es s') (ns s') (Hs s')) → S P X F (.code a :: .inLoop a :: k) Tag.mk (Es s) (ns s) (Hs s)) :
    S P X F (.code (.loop a) :: k) t E n H := XS.while I Es ns Hs μ s0 h0 hE hn hH round
theorem S.of {f : FuncId} {fn : Func} {x : XCode} {args : List AV} {R : AV → Nat → Heap → Prop} (F : Cfg) (hf : P.funcs[f]? = some fn) (hx : fn.body.bind (cCode P fn.ntmps F.md F.kp) = some x) (hnm : (fn.name == "runtime.NumGoroutine") = false) (hn : Nat.ble args.length fn.ntmps = true)
    (h : HB n H → S P ⟨fn, f, n, R⟩ F [.code x] Tag.mk (env0 0 args) n H) : Runs P f args n H R := Runs.of F hf hx hnm hn h
theorem RunsT.mk {f : FuncId} {args : List AV} {R : AV → Nat → Heap → Prop} {t : Tag R} (h : Runs P f args n H R) : RunsT P f args n H R t := h
theorem RunsF.ap {f : FuncId} {args : List AV} {r : AV} {R : AV → Nat → Heap → Prop} {t : Tag R} (h : RunsF P f args r) (hr : R r n H) : RunsT P f args n H R t := h.use hr
end
end Go.Ab
