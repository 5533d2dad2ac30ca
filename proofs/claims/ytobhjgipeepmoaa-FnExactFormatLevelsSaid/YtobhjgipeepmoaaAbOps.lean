/- The operations, told by abstract values: what each comes to, as functions that simp can run. Over any program. -/
import Derived.Test.YtobhjgipeepmoaaAbRun
namespace Go.Ab
set_option linter.unusedVariables false

/-! ### Operations as they are run on abstract values -/
inductive XO where
  | mv | pick
  | alloc (zero : List AV)
  | boxF | boxO
  | build (zero : List AV) (pl : List (Nat × Nat))
  | bsl (m size : Nat)
  | ld (s : Option Nat)
  | st (s : Option Nat)
  | bin (op : BinOp)
  | binB (neg : Bool)
  | eqNil
  | eqS (neg : Bool) (k : Nat)
  | un (op : UnOp)
  | cvI (k : IntKind) | cvIS | cvBS | cvSS
  | mkfn (f : FuncId)
  | mks (m size bytes : Nat) (zero : List AV)
  | slS (lo hi : Bool) | slL (size : Nat) (lo hi : Bool)
  | fldA (off : Nat) | fld (off : Nat) (s : Option Nat)
  | idxA (size : Nat) | idxS
  | ext (i : Nat)
  | call
  | lenS | lenL
  | app (size bytes : Nat)
  | mnx (mx : Bool)
  | appV (size bytes : Nat)
  | clr (size : Nat) (zero : List AV)
  | capL

def oK {α : Type} (o : Option α) (K : α → Prop) : Prop := match o with | some a => K a | none => False
@[simp] theorem oK_some {α : Type} (a : α) (K : α → Prop) : oK (some a) K = K a := rfl
@[simp] theorem oK_none {α : Type} (K : α → Prop) : oK (none : Option α) K = False := rfl
theorem oK_ite {α : Type} (c : Prop) [Decidable c] (o : Option α) (K : α → Prop) : oK (if c then o else none) K = (c ∧ oK o K) := by
  by_cases h : c <;> simp [h]
theorem oK_ite2 {α : Type} (c : Prop) [Decidable c] (o : Option α) (K : α → Prop) : oK (if c then none else o) K = (¬ c ∧ oK o K) := by
  by_cases h : c <;> simp [h]
theorem oK_elim {α : Type} {o : Option α} {K : α → Prop} (h : oK o K) : ∃ a, o = some a ∧ K a := by
  cases o with
  | none => exact h.elim
  | some a => exact ⟨a, rfl, h⟩

def cellsOf : AV → Option (List AV)
  | .agg cs => some cs
  | .junk => none
  | .tup _ => none
  | v => some [v]

/-- An accumulator's rows, read only. -/
def fz : AV → AV
  | .acc _ _ rows => .sl rows
  | .nilsl => .sl []
  | v => v
/-- One cell, without a name of the heap's in it. -/
def flat : AV → Bool
  | .bool _ | .int _ _ | .str _ | .nilsl | .sl _ | .fptr _ => true
  | .fn _ cap => cap.isEmpty
  | _ => false
def plain : AV → Bool
  | .junk | .agg _ | .tup _ => false
  | _ => true

def rowsOf : List AV → Option (List (List AV))
  | [] => some []
  | x :: xs => match cellsOf x, rowsOf xs with
    | some r, some rs => some (r.map fz :: rs)
    | _, _ => none

def rowsOk (s : Nat) (rows : List (List AV)) : Prop := ∀ r ∈ rows, r.length = s ∧ r.all flat = true
instance (s : Nat) (rows : List (List AV)) : Decidable (rowsOk s rows) := inferInstanceAs (Decidable (∀ r ∈ rows, r.length = s ∧ r.all flat = true))

/-- Cells as they are, names of the heap's among them. -/
def rawRows : List AV → Option (List (List AV))
  | [] => some []
  | x :: xs => match cellsOf x, rawRows xs with
    | some r, some rs => some (r :: rs)
    | _, _ => none
def rawOk (s : Nat) (rows : List (List AV)) : Prop := ∀ r ∈ rows, r.length = s ∧ r.all plain = true
instance (s : Nat) (rows : List (List AV)) : Decidable (rawOk s rows) := inferInstanceAs (Decidable (∀ r ∈ rows, r.length = s ∧ r.all plain = true))

def setCells (cells : List AV) (off : Nat) (xs : List AV) : List AV := cells.take off ++ xs ++ cells.drop (off + xs.length)

def buildC (zero : List AV) : List (Nat × Nat) → List AV → Option (List AV)
  | [], [] => some zero
  | (off, s) :: pl, x :: xs => match cellsOf x with
    | some cs => if cs.length = s ∧ off + s ≤ zero.length then buildC (setCells zero off cs) pl xs else none
    | none => none
  | _, _ => none

def ldc : Option Nat → List AV → Option AV
  | none, c :: _ => some c
  | none, [] => none
  | some s, cs => if s ≤ cs.length then some (.agg (cs.take s)) else none

def ibin (op : BinOp) (k : IntKind) (a b : Int) : Option AV :=
  match op with
  | .add => some (.int k (k.wrap (a + b)))
  | .sub => some (.int k (k.wrap (a - b)))
  | .mul => some (.int k (k.wrap (a * b)))
  | .quo => if b = 0 then none else some (.int k (k.wrap (a.tdiv b)))
  | .rem => if b = 0 then none else some (.int k (a.tmod b))
  | .eql => some (.bool (a == b))
  | .neq => some (.bool (a != b))
  | .lss => some (.bool (decide (a < b)))
  | .leq => some (.bool (decide (a ≤ b)))
  | .gtr => some (.bool (decide (a > b)))
  | .geq => some (.bool (decide (a ≥ b)))
  | .and => some (.int k (k.wrap (BitVec.ofInt k.bits a &&& BitVec.ofInt k.bits b).toNat))
  | .or => some (.int k (k.wrap (BitVec.ofInt k.bits a ||| BitVec.ofInt k.bits b).toNat))
  | _ => none

def ishift (op : BinOp) (k : IntKind) (a b : Int) : Option AV :=
  if b < 0 then none else
  match op with
  | .shl => some (.int k (k.wrap (a * 2 ^ min b.toNat k.bits)))
  | .shr => some (.int k (a.fdiv (2 ^ min b.toNat k.bits)))
  | _ => none

def sbin (op : BinOp) (a b : List UInt8) : Option AV :=
  match op with
  | .add => if (a.length + b.length : Nat) ≤ 9223372036854775807 then some (.str (a ++ b)) else none
  | .eql => some (.bool (a == b))
  | .neq => some (.bool !(a == b))
  | _ => none

def eqInts : List AV → List AV → Option Bool
  | [], [] => some true
  | .int k a :: xs, .int k' b :: ys => if k = k' then (if a = b then eqInts xs ys else some false) else none
  | _, _ => none

def sliceRows (rows : List (List AV)) (l h : Int) : Option AV :=
  if 0 ≤ l ∧ l ≤ h ∧ h ≤ rows.length then some (.sl ((rows.take h.toNat).drop l.toNat)) else none

def asI : AV → Option Int
  | .int _ i => some i
  | _ => none

/-- Low and high bound of a slice expression, of what comes behind the operand. -/
def bnds (lo hi : Bool) (len : Int) : List AV → Option (Int × Int)
  | [] => if lo || hi then none else some (0, len)
  | [.int _ a] => if lo && !hi then some (a, len) else if hi && !lo then some (0, a) else none
  | [.int _ a, .int _ b] => if lo && hi then some (a, b) else none
  | _ => none

def mnxGo (mx : Bool) (k : IntKind) : Int → List AV → Option Int
  | a, [] => some a
  | a, .int k' b :: xs => if k = k' then mnxGo mx k (if mx then (if b > a then b else a) else (if b < a then b else a)) xs else none
  | _, _ => none
def mnxI (mx : Bool) : List AV → Option AV
  | .int k a :: xs => (mnxGo mx k a xs).map (.int k ·)
  | _ => none

def bytesRows : List (List AV) → Option (List UInt8)
  | [] => some []
  | [.int .u8 i] :: rs => (bytesRows rs).map (UInt8.ofNat i.toNat :: ·)
  | _ => none

def frozenRows (size : Nat) (xs : List AV) : Option AV :=
  match rowsOf xs with
  | some rows => if rowsOk size rows then some (.sl rows) else none
  | none => none

/-- What asks nothing of the heap, and leaves it as it is. -/
def fop (o : XO) (vals : List AV) : Option AV :=
  match o, vals with
  | .mv, [x] => some x
  | .pick, [.bool c, a, b] => some (if c then a else b)
  | .boxF, [x] => match cellsOf x with
    | some cs => if (cs.map fz).all flat then some (.fptr (cs.map fz)) else none
    | none => none
  | .build zero pl, xs => (buildC zero pl xs).map .agg
  | .bsl 0 size, xs => frozenRows size xs
  | .ld s, [.fptr cs] => ldc s cs
  | .bin op, [.int k a, .int k' b] => match op with
    | .shl | .shr => ishift op k a b
    | _ => if k = k' then ibin op k a b else none
  | .bin op, [.str a, .str b] => sbin op a b
  | .binB neg, [.bool a, .bool b] => some (.bool (if neg then a != b else a == b))
  | .eqS neg k, [.agg xs, .agg ys] => if xs.length = k ∧ ys.length = k then (eqInts xs ys).map fun b => .bool (b != neg) else none
  | .un .not, [.bool b] => some (.bool !b)
  | .un .neg, [.int k i] => some (.int k (k.wrap (0 - i)))
  | .cvI k, [.int _ i] => some (.int k (k.wrap i))
  | .cvIS, [.int _ i] => some (.str (Utf8.encode i).data.toList)
  | .cvSS, [.str s] => some (.str s)
  | .cvBS, [.sl rows] => (bytesRows rows).map .str
  | .cvBS, [.acc _ _ rows] => (bytesRows rows).map .str
  | .cvBS, [.nilsl] => some (.str [])
  | .mkfn f, cap => some (.fn f cap)
  | .slS lo hi, .str s :: bs => match bnds lo hi s.length bs with
    | some (l, h) => if 0 ≤ l ∧ l ≤ h ∧ h ≤ s.length then some (.str ((s.take h.toNat).drop l.toNat)) else none
    | none => none
  | .slL size lo hi, .sl rows :: bs => match bnds lo hi rows.length bs with
    | some (l, h) => if rowsOk size rows then sliceRows rows l h else none
    | none => none
  | .slL size lo hi, .acc _ _ rows :: bs => match bnds lo hi rows.length bs with
    | some (l, h) => if rowsOk size rows then sliceRows rows l h else none
    | none => none
  | .fldA off, [.fptr cs] => if off ≤ cs.length then some (.fptr (cs.drop off)) else none
  | .fldA off, [.ptr id o] => some (.ptr id (o + off))
  | .fld off none, [.agg cs] => cs[off]?
  | .fld off (some s), [.agg cs] => if off + s ≤ cs.length then some (.agg ((cs.drop off).take s)) else none
  | .idxA size, [.sl rows, .int _ i] => if 0 ≤ i ∧ i < rows.length ∧ rowsOk size rows then some (.fptr (rows.getD i.toNat [])) else none
  | .idxA size, [.acc _ _ rows, .int _ i] => if 0 ≤ i ∧ i < rows.length ∧ rowsOk size rows then some (.fptr (rows.getD i.toNat [])) else none
  | .slL size lo hi, .ref id s off len :: bs => match bnds lo hi len bs with
    | some (l, h) => if 0 ≤ l ∧ l ≤ h ∧ h ≤ len ∧ (l = 0 ∨ l < len) ∧ s = size then some (.ref id s (off + l.toNat * s) (h - l).toNat) else none
    | none => none
  | .idxA size, [.ref id s off len, .int _ i] => if 0 ≤ i ∧ i < len ∧ s = size then some (.ptr id (off + i.toNat * s)) else none
  | .idxS, [.str s, .int _ i] => if 0 ≤ i ∧ i < s.length then some (.int .u8 ((s.getD i.toNat 0).toNat : Int)) else none
  | .ext i, [.tup vs] => vs[i]?
  | .lenL, [.sl rows] => some (.int .i64 rows.length)
  | .lenL, [.acc _ _ rows] => some (.int .i64 rows.length)
  | .lenL, [.ref _ _ _ l] => some (.int .i64 l)
  | .capL, [.nilsl] => some (.int .i64 0)
  | .lenL, [.vec _ _ _ _ l] => some (.int .i64 l)
  | .lenL, [.nilsl] => some (.int .i64 0)
  | .lenS, [.str s] => some (.int .i64 s.length)
  | .mnx mx, xs => mnxI mx xs
  | _, _ => none

def hget (H : Heap) (id : Nat) : Option HObj := (H.find? fun p => p.1 == id).map (·.2)
def hset : Heap → Nat → HObj → Heap
  | [], _, _ => []
  | p :: H, id, o => if p.1 = id then (id, o) :: H else p :: hset H id o
def hsetM (H : Heap) (id : Nat) (o : HObj) : Heap := H.map fun p => if p.1 = id then (id, o) else p
def hdel (H : Heap) (id : Nat) : Heap := H.filter fun p => p.1 != id

/-- A call, whether the callee has a body or not. -/
def Runs (P : Program) (f : FuncId) (args : List AV) (n : Nat) (H : Heap) (R : AV → Nat → Heap → Prop) : Prop :=
  ∀ (g : Ghost) (w : World) (cs : List Value), VRels g n w args cs → HRel g n H w →
    match (callFunc f cs.toArray).run P w with
    | .ok (.value c) w' => Out g n w H R c w'
    | .ok (.enter f' a') w1 => Calls P f' a' w1 fun e w' => ∃ c, e = .returned c ∧ Out g n w H R c w'
    | _ => False

theorem Runs.mono {P : Program} {f : FuncId} {args : List AV} {n : Nat} {H : Heap} {R R' : AV → Nat → Heap → Prop} (h : Runs P f args n H R) (hr : ∀ v n' H', R v n' H' → R' v n' H') : Runs P f args n H R' := by
  intro g w cs hv hh
  have := h g w cs hv hh
  split at this
  · exact this.mono hr
  · exact Calls.mono this fun e w' ⟨c, he, ho⟩ => ⟨c, he, ho.mono hr⟩
  · exact this.elim

theorem SimCalls.runs {P : Program} {f : FuncId} {fn : Func} {args : List AV} {n : Nat} {H : Heap} {R : AV → Nat → Heap → Prop} (h : SimCalls P f args n H R)
    (hf : P.funcs[f]? = some fn) (hb : fn.body.isNone = false) (hnm : (fn.name == "runtime.NumGoroutine") = false) : Runs P f args n H R := by
  intro g w cs hv hh
  have e : (callFunc f cs.toArray).run P w = .ok (.enter f cs.toArray) w := by
    simp only [callFunc, Sem.run_bind, run_program, Result.andThen_ok, hf, hb, hnm, Bool.false_eq_true, if_false, Sem.run_pure]
  rw [e]
  exact h g w cs hv hh

/-- A function of by-value arguments that leaves the heap alone. -/
def RunsF (P : Program) (f : FuncId) (args : List AV) (r : AV) : Prop := ∀ n H, Runs P f args n H fun v n' H' => v = r ∧ n' = n ∧ H' = H
theorem RunsF.use {P : Program} {f : FuncId} {args : List AV} {r : AV} (h : RunsF P f args r) {n : Nat} {H : Heap} {R : AV → Nat → Heap → Prop} (hr : R r n H) : Runs P f args n H R :=
  (h n H).mono fun v n' H' ⟨h1, h2, h3⟩ => by subst h1 h2 h3; exact hr

def rowsOfSl (H : Heap) : AV → Option (List (List AV))
  | .sl rows => some rows
  | .acc _ _ rows => some rows
  | .nilsl => some []
  | _ => none

def lenMax : Nat := 4294967296

def vget (H : Heap) (id ver : Nat) (K : Nat → List AV → Prop) : Prop := match hget H id with
  | some (.vob v s cells) => v = ver ∧ K s cells
  | _ => False
theorem vget_elim {H : Heap} {id ver : Nat} {K : Nat → List AV → Prop} (h : vget H id ver K) : ∃ s cells, hget H id = some (.vob ver s cells) ∧ K s cells := by
  unfold vget at h
  split at h
  · rename_i v s cells hg
    obtain ⟨rfl, hk⟩ := h
    exact ⟨s, cells, hg, hk⟩
  · exact h.elim
theorem vget_mono {H : Heap} {id ver : Nat} {K K' : Nat → List AV → Prop} (hk : ∀ s c, K s c → K' s c) (h : vget H id ver K) : vget H id ver K' := by
  unfold vget at h ⊢
  split at h
  · exact ⟨h.1, hk _ _ h.2⟩
  · exact h.elim

/-- How many elements, and which cells, a slice has that is read. -/
def srcV (H : Heap) (size : Nat) : AV → Option (Nat × List AV)
  | .sl rows => if rowsOk size rows then some (rows.length, rows.flatten) else none
  | .acc _ _ rows => if rowsOk size rows then some (rows.length, rows.flatten) else none
  | .nilsl => some (0, [])
  | .ref id s off len => match hget H id with
    | some (.own cells) => if s = size ∧ off + len * s ≤ cells.length then some (len, (cells.drop off).take (len * s)) else none
    | _ => none
  | .vec id ver s off len => match hget H id with
    | some (.vob v _ cells) => if v = ver ∧ s = size ∧ off + len * s ≤ cells.length then some (len, (cells.drop off).take (len * s)) else none
    | _ => none
  | _ => none

def xop (P : Program) (o : XO) (vals : List AV) (n : Nat) (H : Heap) (K : AV → Nat → Heap → Prop) : Prop :=
  match o, vals with
  | .alloc zero, [] => K (.ptr n 0) (n + 1) ((n, .own zero) :: H)
  | .boxO, [x] => oK (cellsOf x) fun cs => K (.ptr n 0) (n + 1) ((n, .own cs) :: H)
  | .bsl 1 size, xs => oK (rowsOf xs) fun rows => rowsOk size rows ∧ K (.acc n size rows) (n + 1) ((n, .tok size rows.length) :: H)
  | .bsl 2 size, xs => oK (rowsOf xs) fun rows => rowsOk size rows ∧ K (.ref n size 0 rows.length) (n + 1) ((n, .own rows.flatten) :: H)
  | .bsl 3 size, xs => oK (rawRows xs) fun rows => rawOk size rows ∧ K (.vec n 0 size 0 rows.length) (n + 1) ((n, .vob 0 size rows.flatten) :: H)
  | .bsl 4 size, xs => oK (rawRows xs) fun rows => rawOk size rows ∧ K (.ref n size 0 rows.length) (n + 1) ((n, .own rows.flatten) :: H)
  | .ld s, [.ptr id off] => match hget H id with
    | some (.own cells) => oK (ldc s (cells.drop off)) fun v => K v n H
    | _ => False
  | .st s, [.ptr id off, x] => match hget H id, cellsOf x with
    | some (.own cells), some xs => (xs.length = s.getD 1 ∧ off + xs.length ≤ cells.length ∧ xs.all plain = true) ∧ K .junk n (hset H id (.own (setCells cells off xs)))
    | _, _ => False
  | .eqNil, [.sl rows, .nilsl] => K (.bool false) n H ∧ (rows = [] → K (.bool true) n H)
  | .eqNil, [.acc _ _ rows, .nilsl] => K (.bool false) n H ∧ (rows = [] → K (.bool true) n H)
  | .eqNil, [.nilsl, .nilsl] => K (.bool true) n H
  | .mks m size bytes zero, [.int k l, .int k' c] =>
    (k = .i64 ∧ k' = .i64 ∧ 0 ≤ l ∧ l ≤ c ∧ c ≤ lenMax ∧ bytes ≤ 4096 ∧ zero.length = size) ∧
    match m with
    | 2 => l = c ∧ K (.ref n size 0 l.toNat) (n + 1) ((n, .own (List.replicate l.toNat zero).flatten) :: H)
    | 1 => K (.acc n size (List.replicate l.toNat zero)) (n + 1) ((n, .tok size l.toNat) :: H)
    | 0 => K (.sl (List.replicate l.toNat zero)) n H
    | 3 => K (.vec n 0 size 0 l.toNat) (n + 1) ((n, .vob 0 size (List.replicate l.toNat zero).flatten) :: H)
    | _ => False
  | .app size bytes, [x, y] => bytes ≤ 4096 ∧ oK (rowsOfSl H y) fun ys => rowsOk size ys ∧
    match x with
    | .nilsl => ys.length ≤ lenMax ∧ (ys = [] → K .nilsl n H) ∧ (ys ≠ [] → K (.acc n size ys) (n + 1) ((n, .tok size ys.length) :: H))
    | .acc id s rows => (rows.length + ys.length ≤ lenMax ∧ s = size ∧ hget H id = some (.tok s rows.length)) ∧ K (.acc id s (rows ++ ys)) n (hset H id (.tok s (rows.length + ys.length)))
    | _ => False
  | .ld s, [.vptr id ver off] => vget H id ver fun _ cells => oK (ldc s (cells.drop off)) fun v => K v n H
  | .st s, [.vptr id ver off, x] => vget H id ver fun z cells => oK (cellsOf x) fun xs => (xs.length = s.getD 1 ∧ off + xs.length ≤ cells.length ∧ xs.all plain = true) ∧ K .junk n (hset H id (.vob ver z (setCells cells off xs)))
  | .fldA off, [.vptr id ver o] => vget H id ver fun _ _ => K (.vptr id ver (o + off)) n H
  | .idxA size, [.vec id ver s off len, .int _ i] => vget H id ver fun _ _ => (0 ≤ i ∧ i < len ∧ s = size) ∧ K (.vptr id ver (off + i.toNat * s)) n H
  | .slL size lo hi, .vec id ver s off len :: bs => vget H id ver fun _ _ => oK (bnds lo hi len bs) fun q => (0 ≤ q.1 ∧ q.1 ≤ q.2 ∧ q.2 ≤ len ∧ (q.1 = 0 ∨ q.1 < len) ∧ s = size) ∧ K (.vec id ver s (off + q.1.toNat * s) (q.2 - q.1).toNat) n H
  | .appV size bytes, [x, y] => bytes ≤ 4096 ∧ oK (srcV H size y) fun q => q.2.all plain = true ∧
    match x with
    | .nilsl => q.1 ≤ lenMax ∧ (q.1 = 0 → K .nilsl n H) ∧ (q.1 ≠ 0 → K (.vec n 0 size 0 q.1) (n + 1) ((n, .vob 0 size q.2) :: H))
    | .vec id ver s off len => vget H id ver fun _ cells => (off = 0 ∧ s = size ∧ len * s ≤ cells.length ∧ len + q.1 ≤ lenMax) ∧ K (.vec id (ver + 1) s 0 (len + q.1)) n (hset H id (.vob (ver + 1) s (cells.take (len * s) ++ q.2)))
    | _ => False
  | .clr size zero, [.vec id ver s off len] => vget H id ver fun z cells => (s = size ∧ zero.length = size ∧ off + len * s ≤ cells.length ∧ zero.all plain = true) ∧ K (.tup []) n (hset H id (.vob ver z (setCells cells off (List.replicate len zero).flatten)))
  | .eqNil, [.vec id ver _ _ _, .nilsl] => vget H id ver fun _ _ => K (.bool false) n H
  | .call, .fn f cap :: args => Runs P f (args ++ cap) n H K
  | _, _ => oK (fop o vals) fun v => K v n H

end Go.Ab
