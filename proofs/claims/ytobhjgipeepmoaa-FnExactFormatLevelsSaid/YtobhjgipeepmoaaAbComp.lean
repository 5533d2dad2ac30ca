/- Go code, as the loader has it, turned into the shorter form that the abstract run reads. Over any program. -/
import Derived.Test.YtobhjgipeepmoaaAbHeap
import Derived.WalkKit
namespace Go.Ab
set_option linter.unusedVariables false

def avCell : Value → AV
  | .bool b => .bool b
  | .int k n => .int k n
  | .string s => .str s.data.toList
  | .slice none 0 0 => .nilsl
  | .func (.func f) first cap => if first.size = 0 ∧ cap.size = 0 then .fn f [] else .junk
  | _ => .junk
def avOf : Value → AV
  | .agg cs => .agg (cs.toList.map avCell)
  | v => avCell v

inductive Opd where
  | t (i : Nat)
  | k (v : AV)
def Opd.val (E : Env) : Opd → AV
  | .t i => Ab.val E i
  | .k v => v
def cOpd : Operand → Opd
  | .tmp t => .t t
  | .const v => .k (avOf v)
  | .func f => .k (.fn f [])
  | .global _ => .k .junk

def ldSize (P : Program) (t : TypeId) : Option (Option Nat) :=
  match P.underlying t with
  | some (.struct _) | some (.array _ _) => some (some (P.cellsOf t))
  | some _ => some none
  | none => none

def zeroCellsOf (P : Program) (t : TypeId) : Option (List AV) := ((P.info? t).bind (·.zero)).map fun z => z.cells.toList.map avCell

def fieldsOf (P : Program) (t : TypeId) : Option (Array Field) :=
  match P.underlying t with
  | some (.struct fs) => some fs
  | _ => none
def elemOfSl (P : Program) (t : TypeId) : Option TypeId :=
  match P.underlying t with
  | some (.slice e) => some e
  | _ => none

/-- A struct whose fields are all integers, at the places 0, 1, ..; nothing of the model's own stands in its way. -/
def intStruct (P : Program) (t : TypeId) : Option Nat :=
  match fieldsOf P t with
  | some fs => if (fs.toList.zipIdx.all fun (f, i) => f.name != "_" && f.offset == i && (match P.underlying f.type with | some (.int _) => true | _ => false)) && !P.stoodInHeld t && !P.eqGuardType P.depth t then some fs.size else none
  | none => none

def isLoHi (lo hi : Option Operand) : Bool × Bool := (lo.isSome, hi.isSome)

def cOp (P : Program) (m : Nat) (o : Op) : Option XO :=
  match o with
  | .move _ | .assign _ => some .mv
  | .pick _ _ _ => some .pick
  | .alloc e => (zeroCellsOf P e).map .alloc
  | .box _ _ => some (if m = 2 then .boxO else .boxF)
  | .build t parts => match fieldsOf P t, zeroCellsOf P t with
    | some fs, some z => if (parts.all fun p => p.1 < fs.size) && (fs.all fun f => (P.info? f.type).isSome) then some (.build z (parts.toList.map fun p => ((fs.getD p.1 default).offset, P.cellsOf (fs.getD p.1 default).type))) else none
    | _, _ => none
  | .buildSlice t len parts => match elemOfSl P t with
    | some e => match P.info? e with
      | some i => if i.zero.isSome ∧ (i.zero.map fun z => z.cells.size) = some i.size ∧ parts.toList.map (·.1) = List.range len ∧ len * i.size ≤ 16777216 ∧ m ≤ 4 then some (.bsl m i.size) else none
      | none => none
    | none => none
  | .load t _ => (ldSize P t).map .ld
  | .store t _ _ => match ldSize P t with
    | some s => if P.cellsOf t = s.getD 1 then some (.st s) else none
    | none => none
  | .binOp op t _ _ _ => match P.underlying t with
    | some (.int _) => some (.bin op)
    | some .string => some (.bin op)
    | some .bool => if op = .eql ∨ op = .neq then some (.binB (op == .neq)) else none
    | some (.slice _) => if op = .eql then some .eqNil else none
    | some (.struct _) => if op = .eql ∨ op = .neq then (intStruct P t).map (.eqS (op == .neq)) else none
    | _ => none
  | .unOp op _ _ => if op = .not ∨ op = .neg then some (.un op) else none
  | .convert src dst _ => match P.underlying src, P.underlying dst with
    | some (.int _), some (.int k) => some (.cvI k)
    | some (.int _), some .string => some .cvIS
    | some .string, some .string => some .cvSS
    | some (.slice e), some .string => match P.underlying e with
      | some (.int .u8) => some .cvBS
      | _ => none
    | _, _ => none
  | .makeFunc (.func f) first _ => if first.size = 0 then some (.mkfn f) else none
  | .makeSlice t _ _ => match elemOfSl P t with
    | some e => match P.info? e with
      | some i => match i.zero with
        | some z => if z.cells.size = i.size then some (.mks m i.size i.bytes (z.cells.toList.map avCell)) else none
        | none => none
      | none => none
    | none => none
  | .slice t _ lo hi none => match P.underlying t with
    | some .string => some (.slS lo.isSome hi.isSome)
    | some (.slice e) => (P.info? e).map fun i => .slL i.size lo.isSome hi.isSome
    | _ => none
  | .fieldAddr t _ f => match fieldsOf P t with
    | some fs => match fs[f]? with
      | some fd => if (P.info? fd.type).isSome ∧ P.cellsOf fd.type ≠ 0 then some (.fldA fd.offset) else none
      | none => none
    | none => none
  | .field t _ f => match fieldsOf P t with
    | some fs => match fs[f]? with
      | some fd => (ldSize P fd.type).map (.fld fd.offset)
      | none => none
    | none => none
  | .indexAddr t _ _ => match elemOfSl P t with
    | some e => (P.info? e).map fun i => .idxA i.size
    | none => none
  | .index t _ _ => match P.underlying t with
    | some .string => some .idxS
    | _ => none
  | .extract _ i => some (.ext i)
  | .call c => match c.callee with
    | .value _ => some .call
    | .builtin .len => match c.argTypes[0]? with
      | some t => match P.underlying t with
        | some .string => if c.args.size = 1 then some .lenS else none
        | some (.slice _) => if c.args.size = 1 then some .lenL else none
        | _ => none
      | none => none
    | .builtin .append => match c.argTypes.toList with
      | [t, u] => if t = u then match elemOfSl P t with
        | some e => match P.info? e with
          | some i => if i.zero.isSome ∧ (i.zero.map fun z => z.cells.size) = some i.size ∧ i.size ≠ 0 then some (if m = 3 then .appV i.size i.bytes else .app i.size i.bytes) else none
          | none => none
        | none => none else none
      | _ => none
    | .builtin .clear => match c.argTypes[0]? with
      | some t => match elemOfSl P t with
        | some e => match P.info? e with
          | some i => match i.zero with
            | some z => if z.cells.size = i.size ∧ c.args.size = 1 then some (.clr i.size (z.cells.toList.map avCell)) else none
            | none => none
          | none => none
        | none => none
      | none => none
    | .builtin .cap => match c.argTypes[0]? with
      | some t => if (elemOfSl P t).isSome ∧ c.args.size = 1 then some .capL else none
      | none => none
    | .builtin .max => some (.mnx true)
    | .builtin .min => some (.mnx false)
    | _ => none
  | _ => none

structure XOp where
  dst : Option Nat
  op : XO
  args : List Opd
  guard : Option (Nat × Bool)

def cOper (P : Program) (N : Nat) (md : Nat → Nat) (ops : Array Oper) (o : Oper) : Option XOp :=
  if (o.dst.all (· < N)) then
    match cOp P (md (o.dst.getD 0)) o.op, o.guard with
    | some x, none => some ⟨o.dst, x, o.op.operands.toList.map cOpd, none⟩
    | some x, some (j, want) => match (ops[j]?).bind (·.dst) with
      | some t => some ⟨o.dst, x, o.op.operands.toList.map cOpd, some (t, want)⟩
      | none => none
    | none, _ => none
  else none

inductive XCode where
  | skip
  | reg (ops : List XOp) (ks : List Nat)
  | drw (ops : List (XOp × List Nat)) (ks cl : List Nat)
  | seq (a b : XCode)
  | cond (c : Opd) (a b : XCode)
  | block (id : Nat) (c : XCode)
  | loop (c : XCode)
  | exit (id : Nat)
  | ret

def allSome {α : Type} : List (Option α) → Option (List α)
  | [] => some []
  | some a :: l => (allSome l).map (a :: ·)
  | none :: _ => none

def cCode (P : Program) (N : Nat) (md : Nat → Nat) (kp : Nat → List Nat) : Code → Option XCode
  | .skip => some .skip
  | .region id ops false => (allSome (ops.toList.map (cOper P N md ops))).map fun l => .reg l (kp id)
  | .region id ops true => (allSome (ops.toList.map (cOper P N md ops))).map fun l => .drw (l.zip (ops.toList.map fun o => (o.after.toList.filter (Region.binds .any)).map (·.on))) (kp id) (kp (id + 1000000))
  | .seq a b => match cCode P N md kp a, cCode P N md kp b with
    | some x, some y => some (.seq x y)
    | _, _ => none
  | .cond c a b => match cCode P N md kp a, cCode P N md kp b with
    | some x, some y => some (.cond (cOpd c) x y)
    | _, _ => none
  | .block id c => (cCode P N md kp c).map (.block id)
  | .loop c => (cCode P N md kp c).map .loop
  | .exit id => some (.exit id)
  | .ret => some .ret
  | _ => none

end Go.Ab
