/- The rules by which simp runs the abstract run. Over any program. -/
import Derived.Test.YtobhjgipeepmoaaAbRet
namespace Go.Ab
set_option linter.unusedVariables false

variable {P : Program} {n : Nat} {H : Heap} {K : AV → Nat → Heap → Prop}

/-! ### Environments -/
def del (E : Env) (d : Nat) : Env := E.filter fun p => p.1 != d
theorem put_none (E : Env) (v : AV) : put E none v = E := rfl
theorem put_some (E : Env) (d : Nat) (v : AV) : put E (some d) v = (d, v) :: del E d := rfl
theorem del_nil (d : Nat) : del [] d = [] := rfl
theorem del_cons (i : Nat) (a : AV) (E : Env) (d : Nat) : del ((i, a) :: E) d = if i = d then del E d else (i, a) :: del E d := by
  by_cases h : i = d <;> simp [del, h]
theorem val_nil (j : Nat) : val [] j = .junk := rfl
theorem val_cons (i : Nat) (a : AV) (E : Env) (j : Nat) : val ((i, a) :: E) j = if i = j then a else val E j := by
  by_cases h : i = j <;> simp [val, h]
theorem keepE_nil (E : Env) : keepE [] E = [] := rfl
theorem keepE_cons (k : Nat) (ks : List Nat) (E : Env) : keepE (k :: ks) E = (k, val E k) :: keepE ks E := rfl
theorem env0_nil (i : Nat) : env0 i [] = [] := rfl
theorem env0_cons (i : Nat) (a : AV) (as : List AV) : env0 i (a :: as) = (i, a) :: env0 (i + 1) as := rfl
theorem opd_t (E : Env) (i : Nat) : (Opd.t i).val E = val E i := rfl
theorem opd_k (E : Env) (v : AV) : (Opd.k v).val E = v := rfl

/-! ### Heaps -/
theorem hget_cons (i : Nat) (o : HObj) (H : Heap) (j : Nat) : hget ((i, o) :: H) j = if i = j then some o else hget H j := by
  by_cases h : i = j <;> simp [hget, h]
theorem hset_cons (i : Nat) (o : HObj) (H : Heap) (j : Nat) (o' : HObj) : hset ((i, o) :: H) j o' = if i = j then (j, o') :: H else (i, o) :: hset H j o' := rfl

/-! ### Operations -/
theorem x_mv (x : AV) : xop P .mv [x] n H K = K x n H := rfl
theorem x_pick (c : Bool) (a b : AV) : xop P .pick [.bool c, a, b] n H K = K (if c then a else b) n H := rfl
theorem ite_bool (c : Bool) (a b : Bool) : (if c = true then AV.bool a else AV.bool b) = .bool (if c = true then a else b) := by cases c <;> rfl
theorem x_alloc (z : List AV) : xop P (.alloc z) [] n H K = K (.ptr n 0) (n + 1) ((n, .own z) :: H) := rfl
theorem x_boxF_agg (cs : List AV) : xop P .boxF [.agg cs] n H K = ((cs.map fz).all flat = true ∧ K (.fptr (cs.map fz)) n H) := by
  simp only [xop, fop, cellsOf]
  by_cases h : (cs.map fz).all flat = true <;> simp [h]
theorem x_boxF_int (k : IntKind) (i : Int) : xop P .boxF [.int k i] n H K = K (.fptr [.int k i]) n H := rfl
theorem x_boxF_str (s : List UInt8) : xop P .boxF [.str s] n H K = K (.fptr [.str s]) n H := rfl
theorem x_boxF_bool (b : Bool) : xop P .boxF [.bool b] n H K = K (.fptr [.bool b]) n H := rfl
theorem x_boxF_sl (r : List (List AV)) : xop P .boxF [.sl r] n H K = K (.fptr [.sl r]) n H := rfl
theorem x_boxF_acc (i s : Nat) (r : List (List AV)) : xop P .boxF [.acc i s r] n H K = K (.fptr [.sl r]) n H := rfl
theorem x_boxO_agg (cs : List AV) : xop P .boxO [.agg cs] n H K = K (.ptr n 0) (n + 1) ((n, .own cs) :: H) := rfl
theorem x_boxO_int (k : IntKind) (i : Int) : xop P .boxO [.int k i] n H K = K (.ptr n 0) (n + 1) ((n, .own [.int k i]) :: H) := rfl
theorem x_boxO_str (s : List UInt8) : xop P .boxO [.str s] n H K = K (.ptr n 0) (n + 1) ((n, .own [.str s]) :: H) := rfl
theorem x_boxO_sl (r : List (List AV)) : xop P .boxO [.sl r] n H K = K (.ptr n 0) (n + 1) ((n, .own [.sl r]) :: H) := rfl
theorem x_boxO_acc (i s : Nat) (r : List (List AV)) : xop P .boxO [.acc i s r] n H K = K (.ptr n 0) (n + 1) ((n, .own [.acc i s r]) :: H) := rfl
theorem x_boxO_bool (b : Bool) : xop P .boxO [.bool b] n H K = K (.ptr n 0) (n + 1) ((n, .own [.bool b]) :: H) := rfl
theorem x_build (z : List AV) (pl : List (Nat × Nat)) (xs : List AV) : xop P (.build z pl) xs n H K = oK (buildC z pl xs) fun cs => K (.agg cs) n H := by
  have : xop P (.build z pl) xs n H K = oK ((buildC z pl xs).map .agg) fun v => K v n H := by
    cases xs <;> rfl
  rw [this]
  cases buildC z pl xs <;> rfl
theorem buildC_nil (z : List AV) : buildC z [] [] = some z := rfl
theorem buildC_agg (z : List AV) (off s : Nat) (pl : List (Nat × Nat)) (cs xs : List AV) : buildC z ((off, s) :: pl) (.agg cs :: xs) = if cs.length = s ∧ off + s ≤ z.length then buildC (setCells z off cs) pl xs else none := rfl
theorem buildC_one (z : List AV) (off : Nat) (pl : List (Nat × Nat)) (x : AV) (xs : List AV) (hx : cellsOf x = some [x]) : buildC z ((off, 1) :: pl) (x :: xs) = if off < z.length then buildC (setCells z off [x]) pl xs else none := by
  simp [buildC, hx, Nat.succ_le_iff]
theorem x_bslF (s : Nat) (xs : List AV) : xop P (.bsl 0 s) xs n H K = oK (rowsOf xs) fun rows => rowsOk s rows ∧ K (.sl rows) n H := by
  have : xop P (.bsl 0 s) xs n H K = oK (frozenRows s xs) fun v => K v n H := by cases xs <;> rfl
  rw [this]
  unfold frozenRows
  cases rowsOf xs with
  | none => rfl
  | some rows => simp only [oK_some]; by_cases h : rowsOk s rows <;> simp [h]
theorem x_bslA (s : Nat) (xs : List AV) : xop P (.bsl 1 s) xs n H K = oK (rowsOf xs) fun rows => rowsOk s rows ∧ K (.acc n s rows) (n + 1) ((n, .tok s rows.length) :: H) := by cases xs <;> rfl
theorem x_bslO (s : Nat) (xs : List AV) : xop P (.bsl 2 s) xs n H K = oK (rowsOf xs) fun rows => rowsOk s rows ∧ K (.ref n s 0 rows.length) (n + 1) ((n, .own rows.flatten) :: H) := by cases xs <;> rfl
theorem rowsOf_nil : rowsOf [] = some [] := rfl
theorem rowsOf_agg (cs xs : List AV) : rowsOf (.agg cs :: xs) = (rowsOf xs).map (cs.map fz :: ·) := by simp only [rowsOf, cellsOf]; cases rowsOf xs <;> rfl
theorem rowsOf_int (k : IntKind) (i : Int) (xs : List AV) : rowsOf (.int k i :: xs) = (rowsOf xs).map ([.int k i] :: ·) := by simp only [rowsOf, cellsOf]; cases rowsOf xs <;> rfl
theorem rowsOf_str (s : List UInt8) (xs : List AV) : rowsOf (.str s :: xs) = (rowsOf xs).map ([.str s] :: ·) := by simp only [rowsOf, cellsOf]; cases rowsOf xs <;> rfl
theorem rowsOf_bool (b : Bool) (xs : List AV) : rowsOf (.bool b :: xs) = (rowsOf xs).map ([.bool b] :: ·) := by simp only [rowsOf, cellsOf]; cases rowsOf xs <;> rfl
theorem rowsOf_sl (r : List (List AV)) (xs : List AV) : rowsOf (.sl r :: xs) = (rowsOf xs).map ([.sl r] :: ·) := by simp only [rowsOf, cellsOf]; cases rowsOf xs <;> rfl
theorem rowsOf_nilsl (xs : List AV) : rowsOf (.nilsl :: xs) = (rowsOf xs).map ([AV.sl []] :: ·) := by simp only [rowsOf, cellsOf]; cases rowsOf xs <;> rfl
theorem rowsOf_acc (i s : Nat) (r : List (List AV)) (xs : List AV) : rowsOf (.acc i s r :: xs) = (rowsOf xs).map ([.sl r] :: ·) := by simp only [rowsOf, cellsOf]; cases rowsOf xs <;> rfl
theorem rowsOk_nil (s : Nat) : rowsOk s [] = True := by simp [rowsOk]
theorem rowsOk_cons (s : Nat) (r : List AV) (rs : List (List AV)) : rowsOk s (r :: rs) = ((r.length = s ∧ r.all flat = true) ∧ rowsOk s rs) := by simp [rowsOk]
theorem rowsOk_app (s : Nat) (r rs : List (List AV)) : rowsOk s (r ++ rs) = (rowsOk s r ∧ rowsOk s rs) := by
  simp only [rowsOk, List.mem_append, eq_iff_iff]
  exact ⟨fun h => ⟨fun r hr => h r (.inl hr), fun r hr => h r (.inr hr)⟩, fun h r hr => hr.elim (h.1 r) (h.2 r)⟩
theorem x_ldF (s : Option Nat) (cs : List AV) : xop P (.ld s) [.fptr cs] n H K = oK (ldc s cs) fun v => K v n H := rfl
theorem x_ldO (s : Option Nat) (id off : Nat) : xop P (.ld s) [.ptr id off] n H K = match hget H id with
    | some (.own cells) => oK (ldc s (cells.drop off)) fun v => K v n H
    | _ => False := rfl
theorem ldc_one (c : AV) (cs : List AV) : ldc none (c :: cs) = some c := rfl
theorem ldc_agg (s : Nat) (cs : List AV) : ldc (some s) cs = if s ≤ cs.length then some (.agg (cs.take s)) else none := rfl
theorem x_st (s : Option Nat) (id off : Nat) (x : AV) : xop P (.st s) [.ptr id off, x] n H K = match hget H id, cellsOf x with
    | some (.own cells), some xs => (xs.length = s.getD 1 ∧ off + xs.length ≤ cells.length ∧ xs.all plain = true) ∧ K .junk n (hset H id (.own (setCells cells off xs)))
    | _, _ => False := rfl
theorem x_add (k : IntKind) (a b : Int) : xop P (.bin .add) [.int k a, .int k b] n H K = K (.int k (k.wrap (a + b))) n H := by simp [xop, fop, ibin]
theorem x_sub (k : IntKind) (a b : Int) : xop P (.bin .sub) [.int k a, .int k b] n H K = K (.int k (k.wrap (a - b))) n H := by simp [xop, fop, ibin]
theorem x_mul (k : IntKind) (a b : Int) : xop P (.bin .mul) [.int k a, .int k b] n H K = K (.int k (k.wrap (a * b))) n H := by simp [xop, fop, ibin]
theorem x_quo (k : IntKind) (a b : Int) : xop P (.bin .quo) [.int k a, .int k b] n H K = (b ≠ 0 ∧ K (.int k (k.wrap (a.tdiv b))) n H) := by
  by_cases h : b = 0 <;> simp [xop, fop, ibin, h]
theorem x_rem (k : IntKind) (a b : Int) : xop P (.bin .rem) [.int k a, .int k b] n H K = (b ≠ 0 ∧ K (.int k (a.tmod b)) n H) := by
  by_cases h : b = 0 <;> simp [xop, fop, ibin, h]
theorem x_lss (k : IntKind) (a b : Int) : xop P (.bin .lss) [.int k a, .int k b] n H K = K (.bool (decide (a < b))) n H := by simp [xop, fop, ibin]
theorem x_leq (k : IntKind) (a b : Int) : xop P (.bin .leq) [.int k a, .int k b] n H K = K (.bool (decide (a ≤ b))) n H := by simp [xop, fop, ibin]
theorem x_gtr (k : IntKind) (a b : Int) : xop P (.bin .gtr) [.int k a, .int k b] n H K = K (.bool (decide (b < a))) n H := by simp [xop, fop, ibin]
theorem x_geq (k : IntKind) (a b : Int) : xop P (.bin .geq) [.int k a, .int k b] n H K = K (.bool (decide (b ≤ a))) n H := by simp [xop, fop, ibin]
theorem x_eql (k : IntKind) (a b : Int) : xop P (.bin .eql) [.int k a, .int k b] n H K = K (.bool (a == b)) n H := by simp [xop, fop, ibin]
theorem x_neq (k : IntKind) (a b : Int) : xop P (.bin .neq) [.int k a, .int k b] n H K = K (.bool (a != b)) n H := by simp [xop, fop, ibin]
theorem x_sadd (a b : List UInt8) : xop P (.bin .add) [.str a, .str b] n H K = (a.length + b.length ≤ 9223372036854775807 ∧ K (.str (a ++ b)) n H) := by
  by_cases h : a.length + b.length ≤ 9223372036854775807 <;> simp [xop, fop, sbin, h]
theorem x_seql (a b : List UInt8) : xop P (.bin .eql) [.str a, .str b] n H K = K (.bool (a == b)) n H := rfl
theorem x_sneq (a b : List UInt8) : xop P (.bin .neq) [.str a, .str b] n H K = K (.bool !(a == b)) n H := rfl
theorem x_binB (neg a b : Bool) : xop P (.binB neg) [.bool a, .bool b] n H K = K (.bool (if neg then a != b else a == b)) n H := rfl
theorem x_nilsl : xop P .eqNil [.nilsl, .nilsl] n H K = K (.bool true) n H := rfl
theorem x_nil_sl (r : List (List AV)) : xop P .eqNil [.sl r, .nilsl] n H K = (K (.bool false) n H ∧ (r = [] → K (.bool true) n H)) := rfl
theorem x_nil_acc (i s : Nat) (r : List (List AV)) : xop P .eqNil [.acc i s r, .nilsl] n H K = (K (.bool false) n H ∧ (r = [] → K (.bool true) n H)) := rfl
theorem x_eqS (neg : Bool) (k : Nat) (xs ys : List AV) : xop P (.eqS neg k) [.agg xs, .agg ys] n H K = ((xs.length = k ∧ ys.length = k) ∧ oK (eqInts xs ys) fun b => K (.bool (b != neg)) n H) := by
  simp only [xop, fop]
  by_cases h : xs.length = k ∧ ys.length = k
  · rw [if_pos h]; cases eqInts xs ys <;> simp [h]
  · rw [if_neg h]; simp [h]
theorem x_not (b : Bool) : xop P (.un .not) [.bool b] n H K = K (.bool !b) n H := rfl
theorem x_neg (k : IntKind) (i : Int) : xop P (.un .neg) [.int k i] n H K = K (.int k (k.wrap (0 - i))) n H := rfl
theorem x_cvI (k k' : IntKind) (i : Int) : xop P (.cvI k) [.int k' i] n H K = K (.int k (k.wrap i)) n H := rfl
theorem x_cvIS (k' : IntKind) (i : Int) : xop P .cvIS [.int k' i] n H K = K (.str (Utf8.encode i).data.toList) n H := rfl
theorem x_cvSS (s : List UInt8) : xop P .cvSS [.str s] n H K = K (.str s) n H := rfl
theorem x_cvBS (r : List (List AV)) : xop P .cvBS [.sl r] n H K = oK (bytesRows r) fun s => K (.str s) n H := by simp only [xop, fop]; cases bytesRows r <;> rfl
theorem x_cvBS_acc (i s : Nat) (r : List (List AV)) : xop P .cvBS [.acc i s r] n H K = oK (bytesRows r) fun s => K (.str s) n H := by simp only [xop, fop]; cases bytesRows r <;> rfl
theorem x_cvBS_nil : xop P .cvBS [.nilsl] n H K = K (.str []) n H := rfl
theorem x_mkfn (f : FuncId) (cap : List AV) : xop P (.mkfn f) cap n H K = K (.fn f cap) n H := by cases cap <;> rfl
theorem x_mksO (s b : Nat) (z : List AV) (l c : Int) : xop P (.mks 2 s b z) [.int .i64 l, .int .i64 c] n H K = ((0 ≤ l ∧ l ≤ c ∧ c ≤ lenMax ∧ b ≤ 4096 ∧ z.length = s) ∧ l = c ∧ K (.ref n s 0 l.toNat) (n + 1) ((n, .own (List.replicate l.toNat z).flatten) :: H)) := by
  simp [xop, and_assoc]
theorem x_mksA (s b : Nat) (z : List AV) (l c : Int) : xop P (.mks 1 s b z) [.int .i64 l, .int .i64 c] n H K = ((0 ≤ l ∧ l ≤ c ∧ c ≤ lenMax ∧ b ≤ 4096 ∧ z.length = s) ∧ K (.acc n s (List.replicate l.toNat z)) (n + 1) ((n, .tok s l.toNat) :: H)) := by
  simp [xop, and_assoc]
theorem x_slS_n (s : List UInt8) : xop P (.slS false false) [.str s] n H K = K (.str s) n H := by
  simp [xop, fop, bnds]
theorem x_slS_l (s : List UInt8) (k : IntKind) (l : Int) : xop P (.slS true false) [.str s, .int k l] n H K = ((0 ≤ l ∧ l ≤ s.length) ∧ K (.str (s.drop l.toNat)) n H) := by
  simp only [xop, fop, bnds, Bool.not_false, Bool.and_self, if_true, Int.toNat_natCast, List.take_length]
  by_cases h : 0 ≤ l ∧ l ≤ s.length
  · rw [if_pos ⟨h.1, h.2, Int.le_refl _⟩]; simp [h]
  · rw [if_neg (fun h' => h ⟨h'.1, h'.2.1⟩)]; simp [h]
theorem x_slS_h (s : List UInt8) (k : IntKind) (l : Int) : xop P (.slS false true) [.str s, .int k l] n H K = ((0 ≤ l ∧ l ≤ s.length) ∧ K (.str (s.take l.toNat)) n H) := by
  simp only [xop, fop, bnds, Bool.false_and, Bool.false_eq_true, if_false, Bool.not_false, Bool.and_self, if_true]
  by_cases h : 0 ≤ l ∧ l ≤ s.length
  · rw [if_pos ⟨Int.le_refl _, h.1, h.2⟩]; simp [h]
  · rw [if_neg (fun h' => h ⟨h'.2.1, h'.2.2⟩)]; simp [h]
theorem x_slS_lh (s : List UInt8) (k k' : IntKind) (l h : Int) : xop P (.slS true true) [.str s, .int k l, .int k' h] n H K = ((0 ≤ l ∧ l ≤ h ∧ h ≤ s.length) ∧ K (.str ((s.take h.toNat).drop l.toNat)) n H) := by
  simp only [xop, fop, bnds, Bool.and_self, if_true]
  by_cases c : 0 ≤ l ∧ l ≤ h ∧ h ≤ s.length <;> simp [c]
theorem x_slL_n (z : Nat) (r : List (List AV)) : xop P (.slL z false false) [.sl r] n H K = (rowsOk z r ∧ K (.sl r) n H) := by
  simp only [xop, fop, bnds, sliceRows]
  by_cases h : rowsOk z r <;> simp [h]
theorem x_slL_l (z : Nat) (r : List (List AV)) (k : IntKind) (l : Int) : xop P (.slL z true false) [.sl r, .int k l] n H K = (rowsOk z r ∧ (0 ≤ l ∧ l ≤ r.length) ∧ K (.sl (r.drop l.toNat)) n H) := by
  simp only [xop, fop, bnds, sliceRows, Bool.not_false, Bool.and_self, if_true, Int.toNat_natCast, List.take_length]
  by_cases h0 : rowsOk z r
  · rw [if_pos h0]
    by_cases h : 0 ≤ l ∧ l ≤ r.length
    · rw [if_pos ⟨h.1, h.2, Int.le_refl _⟩]; simp [h, h0]
    · rw [if_neg (fun h' => h ⟨h'.1, h'.2.1⟩)]; simp [h]
  · simp [h0]
theorem x_slL_h (z : Nat) (r : List (List AV)) (k : IntKind) (l : Int) : xop P (.slL z false true) [.sl r, .int k l] n H K = (rowsOk z r ∧ (0 ≤ l ∧ l ≤ r.length) ∧ K (.sl (r.take l.toNat)) n H) := by
  simp only [xop, fop, bnds, sliceRows, Bool.false_and, Bool.false_eq_true, if_false, Bool.not_false, Bool.and_self, if_true]
  by_cases h0 : rowsOk z r
  · rw [if_pos h0]
    by_cases h : 0 ≤ l ∧ l ≤ r.length
    · rw [if_pos ⟨Int.le_refl _, h.1, h.2⟩]; simp [h, h0]
    · rw [if_neg (fun h' => h ⟨h'.2.1, h'.2.2⟩)]; simp [h]
  · simp [h0]
theorem x_slL_lh (z : Nat) (r : List (List AV)) (k k' : IntKind) (l h : Int) : xop P (.slL z true true) [.sl r, .int k l, .int k' h] n H K = (rowsOk z r ∧ (0 ≤ l ∧ l ≤ h ∧ h ≤ r.length) ∧ K (.sl ((r.take h.toNat).drop l.toNat)) n H) := by
  simp only [xop, fop, bnds, sliceRows, Bool.and_self, if_true]
  by_cases h0 : rowsOk z r
  · rw [if_pos h0]
    by_cases c : 0 ≤ l ∧ l ≤ h ∧ h ≤ r.length <;> simp [c, h0]
  · simp [h0]
theorem x_slA (z : Nat) (lo hi : Bool) (i s : Nat) (r : List (List AV)) (bs : List AV) : xop P (.slL z lo hi) (.acc i s r :: bs) n H K = xop P (.slL z lo hi) (.sl r :: bs) n H K := rfl
theorem x_fldF (off : Nat) (cs : List AV) : xop P (.fldA off) [.fptr cs] n H K = (off ≤ cs.length ∧ K (.fptr (cs.drop off)) n H) := by
  simp only [xop, fop]; by_cases h : off ≤ cs.length <;> simp [h]
theorem x_fldO (off id o : Nat) : xop P (.fldA off) [.ptr id o] n H K = K (.ptr id (o + off)) n H := rfl
theorem x_fld1 (off : Nat) (cs : List AV) : xop P (.fld off none) [.agg cs] n H K = oK cs[off]? fun v => K v n H := rfl
theorem x_fldS (off s : Nat) (cs : List AV) : xop P (.fld off (some s)) [.agg cs] n H K = (off + s ≤ cs.length ∧ K (.agg ((cs.drop off).take s)) n H) := by
  simp only [xop, fop]; by_cases h : off + s ≤ cs.length <;> simp [h]
theorem x_idxA (z : Nat) (r : List (List AV)) (k : IntKind) (i : Int) : xop P (.idxA z) [.sl r, .int k i] n H K = ((0 ≤ i ∧ i < r.length ∧ rowsOk z r) ∧ K (.fptr (r.getD i.toNat [])) n H) := by
  simp only [xop, fop]; by_cases h : 0 ≤ i ∧ i < r.length ∧ rowsOk z r <;> simp [h]
theorem x_idxA_acc (z id s : Nat) (r : List (List AV)) (k : IntKind) (i : Int) : xop P (.idxA z) [.acc id s r, .int k i] n H K = ((0 ≤ i ∧ i < r.length ∧ rowsOk z r) ∧ K (.fptr (r.getD i.toNat [])) n H) := by
  simp only [xop, fop]; by_cases h : 0 ≤ i ∧ i < r.length ∧ rowsOk z r <;> simp [h]
theorem x_idxA_ref (z id s off len : Nat) (k : IntKind) (i : Int) : xop P (.idxA z) [.ref id s off len, .int k i] n H K = ((0 ≤ i ∧ i < len ∧ s = z) ∧ K (.ptr id (off + i.toNat * s)) n H) := by
  simp only [xop, fop]; by_cases h : 0 ≤ i ∧ i < len ∧ s = z
  · rw [if_pos h]; simp [h]
  · rw [if_neg h]; simp [h]
theorem x_idxS (s : List UInt8) (k : IntKind) (i : Int) : xop P .idxS [.str s, .int k i] n H K = ((0 ≤ i ∧ i < s.length) ∧ K (.int .u8 ((s.getD i.toNat 0).toNat : Int)) n H) := by
  simp only [xop, fop]; by_cases h : 0 ≤ i ∧ i < s.length <;> simp [h]
theorem x_ext (i : Nat) (vs : List AV) : xop P (.ext i) [.tup vs] n H K = oK vs[i]? fun v => K v n H := rfl
theorem x_lenL (r : List (List AV)) : xop P .lenL [.sl r] n H K = K (.int .i64 r.length) n H := rfl
theorem x_lenA (i s : Nat) (r : List (List AV)) : xop P .lenL [.acc i s r] n H K = K (.int .i64 r.length) n H := rfl
theorem x_lenR (i s o l : Nat) : xop P .lenL [.ref i s o l] n H K = K (.int .i64 l) n H := rfl
theorem x_lenN : xop P .lenL [.nilsl] n H K = K (.int .i64 0) n H := rfl
theorem x_lenS (s : List UInt8) : xop P .lenS [.str s] n H K = K (.int .i64 s.length) n H := rfl
theorem x_call (f : FuncId) (cap args : List AV) : xop P .call (.fn f cap :: args) n H K = Runs P f (args ++ cap) n H K := rfl
theorem x_app_acc (z b : Nat) (id s : Nat) (r : List (List AV)) (y : AV) : xop P (.app z b) [.acc id s r, y] n H K = (b ≤ 4096 ∧ oK (rowsOfSl H y) fun ys => rowsOk z ys ∧ (r.length + ys.length ≤ lenMax ∧ s = z ∧ hget H id = some (.tok s r.length)) ∧ K (.acc id s (r ++ ys)) n (hset H id (.tok s (r.length + ys.length)))) := rfl
theorem x_app_nil (z b : Nat) (y : AV) : xop P (.app z b) [.nilsl, y] n H K = (b ≤ 4096 ∧ oK (rowsOfSl H y) fun ys => rowsOk z ys ∧ ys.length ≤ lenMax ∧ (ys = [] → K .nilsl n H) ∧ (ys ≠ [] → K (.acc n z ys) (n + 1) ((n, .tok z ys.length) :: H))) := rfl
theorem rowsOfSl_sl (r : List (List AV)) : rowsOfSl H (.sl r) = some r := rfl
theorem rowsOfSl_acc (i s : Nat) (r : List (List AV)) : rowsOfSl H (.acc i s r) = some r := rfl
theorem rowsOfSl_nil : rowsOfSl H .nilsl = some [] := rfl
theorem x_min2 (k : IntKind) (a b : Int) : xop P (.mnx false) [.int k a, .int k b] n H K = K (.int k (min a b)) n H := by
  have e : (if b < a then b else a) = min a b := by omega
  simp [xop, fop, mnxI, mnxGo, e]
theorem x_max2 (k : IntKind) (a b : Int) : xop P (.mnx true) [.int k a, .int k b] n H K = K (.int k (max a b)) n H := by
  have e : (if b > a then b else a) = max a b := by omega
  simp [xop, fop, mnxI, mnxGo, e]
theorem x_min3 (k : IntKind) (a b c : Int) : xop P (.mnx false) [.int k a, .int k b, .int k c] n H K = K (.int k (min (min a b) c)) n H := by
  have e : ∀ a b : Int, (if b < a then b else a) = min a b := fun a b => by omega
  simp [xop, fop, mnxI, mnxGo, e]

/-! ### Regions and guards -/
theorem xOps_nil (E : Env) (K : Env → Nat → Heap → Prop) : xOps P [] E n H K = K E n H := rfl
theorem xOps_cons (d : Option Nat) (o : XO) (as : List Opd) (l : List XOp) (E : Env) (K : Env → Nat → Heap → Prop) :
    xOps P (⟨d, o, as, none⟩ :: l) E n H K = xop P o (as.map (Opd.val E)) n H fun v n' H' => xOps P l (put E d v) n' H' K := rfl
theorem xOps_gd (d : Option Nat) (o : XO) (as : List Opd) (t : Nat) (want : Bool) (l : List XOp) (E : Env) (K : Env → Nat → Heap → Prop) :
    xOps P (⟨d, o, as, some (t, want)⟩ :: l) E n H K = gd (val E t) want (xop P o (as.map (Opd.val E)) n H fun v n' H' => xOps P l (put E d v) n' H' K) (xOps P l (put E d (.tup [])) n H K) := rfl
theorem gd_und (w : Bool) (A B : Prop) : gd (.tup []) w A B = B := rfl
theorem gd_true (A B : Prop) : gd (.bool true) true A B = A := by simp [gd]
theorem gd_false (A B : Prop) : gd (.bool false) false A B = A := by simp [gd]
theorem gd_tf (A B : Prop) : gd (.bool true) false A B = B := by simp [gd]
theorem gd_ft (A B : Prop) : gd (.bool false) true A B = B := by simp [gd]

section intro
theorem gd.on {b : Bool} {want : Bool} {A B : Prop} (hA : b = want → A) (hB : b = !want → B) : gd (.bool b) want A B := by
  cases b <;> cases want <;> simp_all [gd]
end intro

/-! simp is not to look into what comes after. -/
@[congr] theorem xOps_congr {l : List XOp} {E E' : Env} {n n' : Nat} {H H' : Heap} {K : Env → Nat → Heap → Prop} (h1 : E = E') (h2 : n = n') (h3 : H = H') : xOps P l E n H K = xOps P l E' n' H' K := by rw [h1, h2, h3]
@[congr] theorem xop_congr {o : XO} {as as' : List AV} {n n' : Nat} {H H' : Heap} {K : AV → Nat → Heap → Prop} (h1 : as = as') (h2 : n = n') (h3 : H = H') : xop P o as n H K = xop P o as' n' H' K := by rw [h1, h2, h3]
@[congr] theorem XS_congr {X : Ctx} {F : Cfg} {k : List XItem} {E E' : Env} {n n' : Nat} {H H' : Heap} (h1 : E = E') (h2 : n = n') (h3 : H = H') : XS P X F k E n H = XS P X F k E' n' H' := by rw [h1, h2, h3]
@[congr] theorem gd_congr {v v' : AV} {w : Bool} {A B : Prop} (h : v = v') : gd v w A B = gd v' w A B := by rw [h]
@[congr] theorem Runs_congr {f : FuncId} {as as' : List AV} {n n' : Nat} {H H' : Heap} {K : AV → Nat → Heap → Prop} (h1 : as = as') (h2 : n = n') (h3 : H = H') : Runs P f as n H K = Runs P f as' n' H' K := by rw [h1, h2, h3]
@[congr] theorem oK_congr {α : Type} {o o' : Option α} {K : α → Prop} (h : o = o') : oK o K = oK o' K := by rw [h]

end Go.Ab
