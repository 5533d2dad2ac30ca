/- The rules by which simp runs what is done to owned growing vectors. Over any program. -/
import Derived.Test.YtobhjgipeepmoaaAbTag
namespace Go.Ab
set_option linter.unusedVariables false
set_option linter.unusedSimpArgs false

def withVob (o : Option HObj) (ver : Nat) (K : Nat → List AV → Prop) (t : Tag K) : Prop := match o with
  | some (.vob v s cells) => v = ver ∧ K s cells
  | _ => False
theorem vob_vget (H : Heap) (id ver : Nat) (K : Nat → List AV → Prop) : vget H id ver K = withVob (hget H id) ver K Tag.mk := by
  unfold vget withVob
  cases hget H id with
  | none => rfl
  | some o => cases o <;> rfl
theorem vob_congr {o : Option HObj} {ver : Nat} {K K' : Nat → List AV → Prop} {t : Tag K} {t' : Tag K'} (h : ∀ s c, K s c = K' s c) : withVob o ver K t = withVob o ver K' t' := by
  have : K = K' := funext fun s => funext fun c => h s c
  subst this; rfl
theorem rowsOk_plain {z : Nat} {ys : List (List AV)} (h : rowsOk z ys) : ys.flatten.all plain = true := by
  rw [List.all_eq_true]
  intro c hc
  obtain ⟨r, hr, hcr⟩ := List.mem_flatten.mp hc
  have := List.all_eq_true.mp (h r hr).2 c hcr
  cases c <;> simp_all [flat, plain]

section
variable {P : Program} {n : Nat} {H : Heap} {K : AV → Nat → Heap → Prop}
theorem tv_bslV (s : Nat) (xs : List AV) (t : Tag K) : Xo P (.bsl 3 s) xs n H K t = OK (rawRows xs) (fun rows => rawOk s rows ∧ K (.vec n 0 s 0 rows.length) (n + 1) ((n, .vob 0 s rows.flatten) :: H)) Tag.mk := by cases xs <;> rfl
theorem tv_bslR (s : Nat) (xs : List AV) (t : Tag K) : Xo P (.bsl 4 s) xs n H K t = OK (rawRows xs) (fun rows => rawOk s rows ∧ K (.ref n s 0 rows.length) (n + 1) ((n, .own rows.flatten) :: H)) Tag.mk := by cases xs <;> rfl
theorem rawRows_nil : rawRows [] = some [] := rfl
theorem rawRows_agg (cs xs : List AV) : rawRows (.agg cs :: xs) = (rawRows xs).map (cs :: ·) := by simp only [rawRows, cellsOf]; cases rawRows xs <;> rfl
theorem rawRows_int (k : IntKind) (i : Int) (xs : List AV) : rawRows (.int k i :: xs) = (rawRows xs).map ([.int k i] :: ·) := by simp only [rawRows, cellsOf]; cases rawRows xs <;> rfl
theorem rawRows_str (s : List UInt8) (xs : List AV) : rawRows (.str s :: xs) = (rawRows xs).map ([.str s] :: ·) := by simp only [rawRows, cellsOf]; cases rawRows xs <;> rfl
theorem rawRows_bool (b : Bool) (xs : List AV) : rawRows (.bool b :: xs) = (rawRows xs).map ([.bool b] :: ·) := by simp only [rawRows, cellsOf]; cases rawRows xs <;> rfl
theorem rawRows_sl (r : List (List AV)) (xs : List AV) : rawRows (.sl r :: xs) = (rawRows xs).map ([.sl r] :: ·) := by simp only [rawRows, cellsOf]; cases rawRows xs <;> rfl
theorem rawRows_nilsl (xs : List AV) : rawRows (.nilsl :: xs) = (rawRows xs).map ([AV.nilsl] :: ·) := by simp only [rawRows, cellsOf]; cases rawRows xs <;> rfl
theorem rawRows_acc (i s : Nat) (r : List (List AV)) (xs : List AV) : rawRows (.acc i s r :: xs) = (rawRows xs).map ([.acc i s r] :: ·) := by simp only [rawRows, cellsOf]; cases rawRows xs <;> rfl
theorem rawRows_ref (i s o l : Nat) (xs : List AV) : rawRows (.ref i s o l :: xs) = (rawRows xs).map ([.ref i s o l] :: ·) := by simp only [rawRows, cellsOf]; cases rawRows xs <;> rfl
theorem rawRows_vec (i v s o l : Nat) (xs : List AV) : rawRows (.vec i v s o l :: xs) = (rawRows xs).map ([.vec i v s o l] :: ·) := by simp only [rawRows, cellsOf]; cases rawRows xs <;> rfl
theorem tv_mksV (s b : Nat) (z : List AV) (l c : Int) (t : Tag K) : Xo P (.mks 3 s b z) [.int .i64 l, .int .i64 c] n H K t = ((0 ≤ l ∧ l ≤ c ∧ c ≤ lenMax ∧ b ≤ 4096 ∧ z.length = s) ∧ K (.vec n 0 s 0 l.toNat) (n + 1) ((n, .vob 0 s (List.replicate l.toNat z).flatten) :: H)) := by
  simp [Xo, xop, and_assoc]
theorem tv_mksF (s b : Nat) (z : List AV) (l c : Int) (t : Tag K) : Xo P (.mks 0 s b z) [.int .i64 l, .int .i64 c] n H K t = ((0 ≤ l ∧ l ≤ c ∧ c ≤ lenMax ∧ b ≤ 4096 ∧ z.length = s) ∧ K (.sl (List.replicate l.toNat z)) n H) := by
  simp [Xo, xop, and_assoc]
theorem tv_slR (z : Nat) (lo hi : Bool) (id s off len : Nat) (bs : List AV) (t : Tag K) : Xo P (.slL z lo hi) (.ref id s off len :: bs) n H K t =
    OK (bnds lo hi len bs) (fun q => (0 ≤ q.1 ∧ q.1 ≤ q.2 ∧ q.2 ≤ len ∧ (q.1 = 0 ∨ q.1 < len) ∧ s = z) ∧ K (.ref id s (off + q.1.toNat * s) (q.2 - q.1).toNat) n H) Tag.mk := by
  simp only [Xo, xop, fop, OK]
  cases bnds lo hi len bs with
  | none => simp
  | some q =>
    obtain ⟨l, h⟩ := q
    simp only [oK_some]
    by_cases hc : 0 ≤ l ∧ l ≤ h ∧ h ≤ len ∧ (l = 0 ∨ l < len) ∧ s = z
    · rw [if_pos hc]; simp [hc]
    · rw [if_neg hc]; simp [hc]
theorem tv_slV (z : Nat) (lo hi : Bool) (id ver s off len : Nat) (bs : List AV) (t : Tag K) : Xo P (.slL z lo hi) (.vec id ver s off len :: bs) n H K t =
    withVob (hget H id) ver (fun _ _ => OK (bnds lo hi len bs) (fun q => (0 ≤ q.1 ∧ q.1 ≤ q.2 ∧ q.2 ≤ len ∧ (q.1 = 0 ∨ q.1 < len) ∧ s = z) ∧ K (.vec id ver s (off + q.1.toNat * s) (q.2 - q.1).toNat) n H) Tag.mk) Tag.mk := vob_vget _ _ _ _
theorem bnds_n (len : Int) : bnds false false len [] = some (0, len) := rfl
theorem bnds_l (len : Int) (k : IntKind) (a : Int) : bnds true false len [.int k a] = some (a, len) := rfl
theorem bnds_h (len : Int) (k : IntKind) (a : Int) : bnds false true len [.int k a] = some (0, a) := rfl
theorem bnds_lh (len : Int) (k k' : IntKind) (a b : Int) : bnds true true len [.int k a, .int k' b] = some (a, b) := rfl
theorem tv_idxV (z id ver s off len : Nat) (k : IntKind) (i : Int) (t : Tag K) : Xo P (.idxA z) [.vec id ver s off len, .int k i] n H K t =
    withVob (hget H id) ver (fun _ _ => (0 ≤ i ∧ i < len ∧ s = z) ∧ K (.vptr id ver (off + i.toNat * s)) n H) Tag.mk := vob_vget _ _ _ _
theorem tv_ldV (s : Option Nat) (id ver off : Nat) (t : Tag K) : Xo P (.ld s) [.vptr id ver off] n H K t =
    withVob (hget H id) ver (fun _ cells => OK (ldc s (cells.drop off)) (fun v => K v n H) Tag.mk) Tag.mk := vob_vget _ _ _ _
theorem tv_stV (s : Option Nat) (id ver off : Nat) (x : AV) (t : Tag K) : Xo P (.st s) [.vptr id ver off, x] n H K t =
    withVob (hget H id) ver (fun z cells => OK (cellsOf x) (fun xs => (xs.length = s.getD 1 ∧ off + xs.length ≤ cells.length ∧ xs.all plain = true) ∧ K .junk n (hset H id (.vob ver z (setCells cells off xs)))) Tag.mk) Tag.mk := vob_vget _ _ _ _
theorem tv_fldV (off id ver o : Nat) (t : Tag K) : Xo P (.fldA off) [.vptr id ver o] n H K t = withVob (hget H id) ver (fun _ _ => K (.vptr id ver (o + off)) n H) Tag.mk := vob_vget _ _ _ _
theorem tv_nilV (id ver s o l : Nat) (t : Tag K) : Xo P .eqNil [.vec id ver s o l, .nilsl] n H K t = withVob (hget H id) ver (fun _ _ => K (.bool false) n H) Tag.mk := vob_vget _ _ _ _
theorem tv_lenV (id ver s o l : Nat) (t : Tag K) : Xo P .lenL [.vec id ver s o l] n H K t = K (.int .i64 l) n H := rfl
theorem tv_capN (t : Tag K) : Xo P .capL [.nilsl] n H K t = K (.int .i64 0) n H := rfl
theorem tv_appV_sl (z b id ver s off len : Nat) (ys : List (List AV)) (t : Tag K) : Xo P (.appV z b) [.vec id ver s off len, .sl ys] n H K t = (b ≤ 4096 ∧ rowsOk z ys ∧
    withVob (hget H id) ver (fun _ cells => (off = 0 ∧ s = z ∧ len * s ≤ cells.length ∧ len + ys.length ≤ lenMax) ∧ K (.vec id (ver + 1) s 0 (len + ys.length)) n (hset H id (.vob (ver + 1) s (cells.take (len * s) ++ ys.flatten)))) Tag.mk) := by
  simp only [Xo, xop, srcV]
  by_cases h : rowsOk z ys
  · rw [if_pos h]; simp only [oK_some, vob_vget, rowsOk_plain h, h, true_and]
  · rw [if_neg h]; simp [h]
theorem tv_appV_acc (z b id ver s off len i s2 : Nat) (ys : List (List AV)) (t : Tag K) : Xo P (.appV z b) [.vec id ver s off len, .acc i s2 ys] n H K t = Xo P (.appV z b) [.vec id ver s off len, .sl ys] n H K t := rfl
theorem tv_appV_nil (z b id ver s off len : Nat) (t : Tag K) : Xo P (.appV z b) [.vec id ver s off len, .nilsl] n H K t = Xo P (.appV z b) [.vec id ver s off len, .sl []] n H K t := by
  simp [Xo, xop, srcV, rowsOk]
theorem tv_appV_ref (z b id ver s off len i s2 o2 l2 : Nat) (t : Tag K) : Xo P (.appV z b) [.vec id ver s off len, .ref i s2 o2 l2] n H K t = (b ≤ 4096 ∧
    withOwn (hget H i) (fun c2 => (s2 = z ∧ o2 + l2 * s2 ≤ c2.length ∧ ((c2.drop o2).take (l2 * s2)).all plain = true) ∧
    withVob (hget H id) ver (fun _ cells => (off = 0 ∧ s = z ∧ len * s ≤ cells.length ∧ len + l2 ≤ lenMax) ∧ K (.vec id (ver + 1) s 0 (len + l2)) n (hset H id (.vob (ver + 1) s (cells.take (len * s) ++ (c2.drop o2).take (l2 * s2))))) Tag.mk) Tag.mk) := by
  simp only [Xo, xop, srcV]
  cases hget H i with
  | none => simp [withOwn]
  | some o => cases o with
    | own c2 =>
      simp only [withOwn]
      by_cases h : s2 = z ∧ o2 + l2 * s2 ≤ c2.length
      · rw [if_pos h]; simp only [oK_some, vob_vget]
        obtain ⟨rfl, h⟩ := h
        exact propext ⟨fun ⟨h1, h2, h3⟩ => ⟨h1, ⟨rfl, h, h2⟩, h3⟩, fun ⟨h1, ⟨_, _, h2⟩, h3⟩ => ⟨h1, h2, h3⟩⟩
      · rw [if_neg h]; simp only [oK_none, and_false]
        refine propext ⟨fun h => h.elim, fun ⟨_, ⟨h1, h2, _⟩, _⟩ => h ⟨h1, h2⟩⟩
    | _ => simp [withOwn]
theorem tv_appV_vec (z b id ver s off len i v2 s2 o2 l2 : Nat) (t : Tag K) : Xo P (.appV z b) [.vec id ver s off len, .vec i v2 s2 o2 l2] n H K t = (b ≤ 4096 ∧
    withVob (hget H i) v2 (fun _ c2 => (s2 = z ∧ o2 + l2 * s2 ≤ c2.length ∧ ((c2.drop o2).take (l2 * s2)).all plain = true) ∧
    withVob (hget H id) ver (fun _ cells => (off = 0 ∧ s = z ∧ len * s ≤ cells.length ∧ len + l2 ≤ lenMax) ∧ K (.vec id (ver + 1) s 0 (len + l2)) n (hset H id (.vob (ver + 1) s (cells.take (len * s) ++ (c2.drop o2).take (l2 * s2))))) Tag.mk) Tag.mk) := by
  simp only [Xo, xop, srcV]
  cases hget H i with
  | none => simp [withVob]
  | some o => cases o with
    | vob v sz c2 =>
      simp only [withVob]
      by_cases h : v = v2 ∧ s2 = z ∧ o2 + l2 * s2 ≤ c2.length
      · rw [if_pos h]; simp only [oK_some, vob_vget]
        obtain ⟨rfl, rfl, h⟩ := h
        exact propext ⟨fun ⟨h1, h2, h3⟩ => ⟨h1, rfl, ⟨rfl, h, h2⟩, h3⟩, fun ⟨h1, _, ⟨_, _, h2⟩, h3⟩ => ⟨h1, h2, h3⟩⟩
      · rw [if_neg h]; simp only [oK_none, and_false]
        refine propext ⟨fun h => h.elim, fun ⟨_, h0, ⟨h1, h2, _⟩, _⟩ => h ⟨h0, h1, h2⟩⟩
    | _ => simp [withVob]
theorem tv_appN_sl (z b : Nat) (ys : List (List AV)) (t : Tag K) : Xo P (.appV z b) [.nilsl, .sl ys] n H K t = (b ≤ 4096 ∧ rowsOk z ys ∧ ys.length ≤ lenMax ∧ (ys.length = 0 → K .nilsl n H) ∧ (ys.length ≠ 0 → K (.vec n 0 z 0 ys.length) (n + 1) ((n, .vob 0 z ys.flatten) :: H))) := by
  simp only [Xo, xop, srcV]
  by_cases h : rowsOk z ys
  · rw [if_pos h]; simp only [oK_some, rowsOk_plain h, h, true_and]
  · rw [if_neg h]; simp [h]
theorem tv_appN_acc (z b i s2 : Nat) (ys : List (List AV)) (t : Tag K) : Xo P (.appV z b) [.nilsl, .acc i s2 ys] n H K t = Xo P (.appV z b) [.nilsl, .sl ys] n H K t := rfl
theorem tv_appN_ref (z b i s2 o2 l2 : Nat) (t : Tag K) : Xo P (.appV z b) [.nilsl, .ref i s2 o2 l2] n H K t = (b ≤ 4096 ∧
    withOwn (hget H i) (fun c2 => (s2 = z ∧ o2 + l2 * s2 ≤ c2.length ∧ ((c2.drop o2).take (l2 * s2)).all plain = true) ∧ l2 ≤ lenMax ∧ (l2 = 0 → K .nilsl n H) ∧
      (l2 ≠ 0 → K (.vec n 0 z 0 l2) (n + 1) ((n, .vob 0 z ((c2.drop o2).take (l2 * s2))) :: H))) Tag.mk) := by
  simp only [Xo, xop, srcV]
  cases hget H i with
  | none => simp [withOwn]
  | some o => cases o with
    | own c2 =>
      simp only [withOwn]
      by_cases h : s2 = z ∧ o2 + l2 * s2 ≤ c2.length
      · rw [if_pos h]; simp only [oK_some]
        obtain ⟨rfl, h⟩ := h
        exact propext ⟨fun ⟨h1, h2, h3⟩ => ⟨h1, ⟨rfl, h, h2⟩, h3⟩, fun ⟨h1, ⟨_, _, h2⟩, h3⟩ => ⟨h1, h2, h3⟩⟩
      · rw [if_neg h]; simp only [oK_none, and_false]
        refine propext ⟨fun h => h.elim, fun ⟨_, ⟨h1, h2, _⟩, _⟩ => h ⟨h1, h2⟩⟩
    | _ => simp [withOwn]
theorem tv_clr (z id ver s off len : Nat) (zero : List AV) (t : Tag K) : Xo P (.clr z zero) [.vec id ver s off len] n H K t =
    withVob (hget H id) ver (fun zz cells => (s = z ∧ zero.length = z ∧ off + len * s ≤ cells.length ∧ zero.all plain = true) ∧ K (.tup []) n (hset H id (.vob ver zz (setCells cells off (List.replicate len zero).flatten)))) Tag.mk := vob_vget _ _ _ _
theorem tvob_some (v s : Nat) (cells : List AV) (ver : Nat) (K : Nat → List AV → Prop) (t : Tag K) : withVob (some (.vob v s cells)) ver K t = (v = ver ∧ K s cells) := rfl
theorem c_vec (i v s o l : Nat) : cellsOf (.vec i v s o l) = some [.vec i v s o l] := rfl
theorem pl_vec (i v s o l : Nat) : plain (.vec i v s o l) = true := rfl
theorem b_vec (z : List AV) (off : Nat) (pl : List (Nat × Nat)) (i v s o l : Nat) (xs : List AV) : buildC z ((off, 1) :: pl) (.vec i v s o l :: xs) = if off < z.length then buildC (setCells z off [.vec i v s o l]) pl xs else none := buildC_one _ _ _ _ _ rfl
theorem tv_boxO_vec (i v s o l : Nat) (t : Tag K) : Xo P .boxO [.vec i v s o l] n H K t = K (.ptr n 0) (n + 1) ((n, .own [.vec i v s o l]) :: H) := rfl
theorem tv_boxO_nil (t : Tag K) : Xo P .boxO [.nilsl] n H K t = K (.ptr n 0) (n + 1) ((n, .own [.nilsl]) :: H) := rfl
theorem tv_boxO_fn (f : FuncId) (l : List AV) (t : Tag K) : Xo P .boxO [.fn f l] n H K t = K (.ptr n 0) (n + 1) ((n, .own [.fn f l]) :: H) := rfl
theorem tv_boxO_ref (i s o l : Nat) (t : Tag K) : Xo P .boxO [.ref i s o l] n H K t = K (.ptr n 0) (n + 1) ((n, .own [.ref i s o l]) :: H) := rfl
theorem fz_vec (i v s o l : Nat) : fz (.vec i v s o l) = .vec i v s o l := rfl
theorem fzt_vec (i v s o l : Nat) : fzt (.vec i v s o l) = .vec i v s o l := rfl
theorem fzt_ref (i s o l : Nat) : fzt (.ref i s o l) = .ref i s o l := rfl
theorem fzt_fn (f : FuncId) (l : List AV) : fzt (.fn f l) = .fn f l := rfl
end
end Go.Ab
