/- The compilation of the model's code into ideal operations. No program stands in it. Conditions: none. -/
import Derived.Test.YtcdfifbabhfknaaDoorCore3
namespace Go.Proofs.YtcdfifbabhfknaaDoor
open Go

def co : Operand → IOpd
  | .tmp t => .t t
  | .const v => .c (vOf v)
  | .global g => .g g
  | .func f => .f f

def isAggD : TypeDesc → Bool
  | .struct _ => true
  | .array _ _ => true
  | _ => false

/-- Is it a struct or an array; how many cells; how many bytes. -/
def tyOf (P : Program) (t : TypeId) : Option (Bool × Nat × Nat) :=
  match P.underlying t, P.info? t with
  | some d, some i => some (isAggD d, i.size, i.bytes)
  | _, _ => none

def zeroOf (P : Program) (t : TypeId) : Option Value :=
  match P.info? t with
  | some i => match i.zero with
    | some z => if z.cells.all (·.oneCell') && z.cells.size == i.size then some z else none
    | none => none
  | none => none

def placeOf (P : Program) (fields : Array Field) (i : Nat) : Option (Nat × Nat) :=
  match fields[i]? with
  | some f => match tyOf P f.type with
    | some (_, n, _) => some (f.offset, n)
    | none => none
  | none => none

def coParts (place : Nat → Option (Nat × Nat)) : List (Nat × Operand) → Option (List (Nat × Nat × IOpd))
  | [] => some []
  | (i, x) :: r => match place i, coParts place r with
    | some (o, n), some l => some ((o, n, co x) :: l)
    | _, _ => none

def plainField (P : Program) (f : Field) (i : Nat) : Bool :=
  f.name != "_" && f.offset == i && (match P.underlying f.type with | some (.int _) => true | _ => false)

/-- A struct whose fields are integers, compared field by field. -/
def plainStruct (P : Program) (t : TypeId) : Option Nat :=
  match P.underlying t with
  | some (.struct fields) =>
    if P.stoodInHeld t = false ∧ (fields.toList.zipIdx.all fun (f, i) => plainField P f i) = true ∧ P.eqGuardType P.depth t = false then some fields.size else none
  | _ => none

def comp1 (P : Program) (o : Oper) : Option IOp :=
  match o.op with
  | .move x => some (.mv (co x))
  | .assign x => some (.mv (co x))
  | .pick c a b => some (.pick (co c) (co a) (co b))
  | .box _ x => some (.box (co x))
  | .alloc t => (zeroOf P t).map fun z => .alloc (vOfZ z)
  | .build t ps => match zeroOf P t, P.underlying t with
    | some z, some (.struct fields) =>
      if fields.toList.all fun f => (tyOf P f.type).isSome then (coParts (placeOf P fields) ps.toList).map fun l => .build (vOfZ z).cells l else none
    | some z, some (.array _ e) => match tyOf P e with
      | some (_, n, _) => (coParts (fun i => some (i * n, n)) ps.toList).map fun l => .build (vOfZ z).cells l
      | none => none
    | _, _ => none
  | .buildSlice t len ps => match P.underlying t with
    | some (.slice e) => match tyOf P e, zeroOf P e with
      | some (_, n, _), some z => if len * n ≤ 4096 ∧ n ≠ 0 then
          (coParts (fun i => some (i * n, n)) ps.toList).map fun l => .buildSl n len ((List.range (len * n)).map fun i => (vOfZ z).cells.getD (i % n) .undef) l
        else none
      | _, _ => none
    | _ => none
  | .load t a => (tyOf P t).map fun x => .load x.1 x.2.1 (co a)
  | .store t a x => (tyOf P t).map fun y => .store y.2.1 (co a) (co x)
  | .binOp op t x y _ => match op with
    | .eql => match P.underlying t with
      | some (.int _) => some (.bin op (co x) (co y))
      | some .string => some (.bin op (co x) (co y))
      | some .bool => some (.beq false (co x) (co y))
      | _ => (plainStruct P t).map fun n => .eqs false n (co x) (co y)
    | .neq => match P.underlying t with
      | some (.int _) => some (.bin op (co x) (co y))
      | some .string => some (.bin op (co x) (co y))
      | some .bool => some (.beq true (co x) (co y))
      | _ => (plainStruct P t).map fun n => .eqs true n (co x) (co y)
    | _ => some (.bin op (co x) (co y))
  | .unOp op _ x => some (.un op (co x))
  | .convert s d x => match P.underlying s, P.underlying d with
    | some (.int _), some (.int k) => some (.conv k (co x))
    | some .string, some .string => some (.cvs (co x))
    | some (.slice e), some .string => match P.underlying e with
      | some (.int .u8) => some (.b2s (co x))
      | _ => none
    | _, _ => none
  | .makeFunc (.func f) a b => some (.mkfn f (a.toList.map co) (b.toList.map co))
  | .makeSlice t l c => match P.underlying t with
    | some (.slice e) => match tyOf P e, zeroOf P e with
      | some (_, n, by_), some z => if n ≠ 0 then some (.mksl (vOfZ z).cells n by_ (co l) (co c)) else none
      | _, _ => none
    | _ => none
  | .slice t x lo hi mx => match P.underlying t with
    | some (.slice e) => match tyOf P e with
      | some (_, n, _) => if n ≠ 0 ∧ (mx.isSome = true → hi.isSome = true) then some (.slice n (co x) (lo.map co) (hi.map co) (mx.map co)) else none
      | none => none
    | some .string => match mx with
      | none => some (.sliceS (co x) (lo.map co) (hi.map co))
      | some _ => none
    | _ => none
  | .fieldAddr s x i => match P.underlying s with
    | some (.struct fields) => match fields[i]? with
      | some f => match tyOf P f.type with
        | some (_, n, _) => if n = 0 then none else some (.fieldA f.offset (co x))
        | none => none
      | none => none
    | _ => none
  | .field s x i => match P.underlying s with
    | some (.struct fields) => match fields[i]? with
      | some f => match tyOf P f.type with
        | some (ag, n, _) => some (.field ag f.offset n (co x))
        | none => none
      | none => none
    | _ => none
  | .indexAddr t x i => match P.underlying t with
    | some (.slice e) => match tyOf P e with
      | some (_, n, _) => if n ≠ 0 then some (.idxA n (co x) (co i)) else none
      | none => none
    | some (.array len e) => match tyOf P e with
      | some (_, n, _) => some (.idxP len n (co x) (co i))
      | none => none
    | _ => none
  | .index t x i => match P.underlying t with
    | some (.array len e) => match tyOf P e with
      | some (ag, n, _) => some (.idxV ag len n (co x) (co i))
      | none => none
    | some .string => some (.idxS (co x) (co i))
    | _ => none
  | .extract x i => some (.extract (co x) i)
  | .call c => match c.callee with
    | .value f => some (.call (co f) (c.args.toList.map co))
    | .builtin .len => match c.argTypes.toList, c.args.toList with
      | [t], [x] => match P.underlying t with
        | some (.slice _) => some (.len (co x))
        | some .string => some (.lenS (co x))
        | some (.array n _) => some (.lenK n)
        | some (.pointer a) => match P.underlying a with
          | some (.array n _) => some (.lenK n)
          | _ => none
        | _ => none
      | _, _ => none
    | .builtin .cap => match c.argTypes.toList, c.args.toList with
      | [t], [x] => match P.underlying t with
        | some (.slice _) => some (.cap (co x))
        | _ => none
      | _, _ => none
    | .builtin .append => match c.argTypes.toList, c.args.toList with
      | [t, t2], [x, y] => match P.underlying t, P.underlying t2 with
        | some (.slice e), some (.slice _) => match tyOf P e, zeroOf P e with
          | some (_, n, by_), some z => if n ≠ 0 then some (.app n by_ (vOfZ z).cells (co x) (co y)) else none
          | _, _ => none
        | _, _ => none
      | _, _ => none
    | .builtin .max => match c.args.toList with
      | [x, y] => some (.mm true (co x) (co y))
      | _ => none
    | .builtin .min => match c.args.toList with
      | [x, y] => some (.mm false (co x) (co y))
      | _ => none
    | _ => none
  | _ => none

def isNilC : Operand → Bool
  | .const (.slice none _ _) => true
  | _ => false

def keyKind (P : Program) (t : TypeId) : Bool := match P.underlying t with
  | some (.int _) => true
  | some .string => true
  | _ => false

/-- The kind of a map's keys: an integer kind, or none for strings. -/
def keyOfD (P : Program) (t : TypeId) : Option (Option IntKind) := match P.underlying t with
  | some (.int k) => some (some k)
  | some .string => some none
  | _ => none

/-- A function without a body that is stood in for. -/
def isIdxByte (P : Program) (f : FuncId) : Bool := match P.funcs[f]? with
  | some fn => fn.name == "internal/bytealg.IndexByteString" && fn.body.isNone && (Extern.findNext fn).isNone
  | none => false

/-- Operations that have a value in a run alone. -/
def comp1N (P : Program) (o : Oper) : Option NOp :=
  match o.op with
  | .binOp op t x y _ => match op, P.underlying t with
    | .eql, some (.slice _) => if isNilC y = true then some (.isnil false (co x)) else none
    | .neq, some (.slice _) => if isNilC y = true then some (.isnil true (co x)) else none
    | _, _ => none
  | .makeMap _ none => some .mkmap
  | .lookup t m k ok => match P.underlying t with
    | some (.map kt et) => if keyKind P kt = true then (zeroOf P et).map fun z => .lookup (keyOfD P kt) ok (vOfZ z) (co m) (co k) else none
    | _ => none
  | .mapUpdate t m k v => match P.underlying t with
    | some (.map kt _) => if keyKind P kt = true then some (.mapup (keyOfD P kt) (co m) (co k) (co v)) else none
    | _ => none
  | .range t x => match P.underlying t with
    | some .string => some (.srange (co x))
    | _ => none
  | .next it true => some (.snext (co it))
  | .call c => match c.callee, c.args.toList with
    | .value (.func f), [x, y] => if isIdxByte P f = true then some (.idxByte (co x) (co y)) else none
    | _, _ => none
  | _ => none

def comp1X (P : Program) (o : Oper) : Option IOp :=
  match comp1N P o with
  | some x => some (.n x)
  | none => match comp1 P o with
    | some io => some io
    | none => some (.n .bad)

/-- The temporary that a guard asks. -/
def guardOf (ops : Array Oper) (o : Oper) : Option (Option (Nat × Bool)) :=
  match o.guard with
  | none => some none
  | some (j, want) => match (ops[j]?).bind (·.dst) with
    | some d => some (some (d, want))
    | none => none

def dstOk (n : Nat) : Option Nat → Bool
  | some d => decide (d < n)
  | none => true

def compOp (P : Program) (n : Nat) (ops : Array Oper) (o : Oper) : Option IOper :=
  match comp1X P o, guardOf ops o with
  | some io, some g => if dstOk n o.dst = true then some ⟨o.dst, g, io⟩ else none
  | _, _ => none

def compOps (P : Program) (n : Nat) (ops : Array Oper) : List Oper → Option (List IOper)
  | [] => some []
  | o :: r => match compOp P n ops o, compOps P n ops r with
    | some x, some l => some (x :: l)
    | _, _ => none

end Go.Proofs.YtcdfifbabhfknaaDoor
