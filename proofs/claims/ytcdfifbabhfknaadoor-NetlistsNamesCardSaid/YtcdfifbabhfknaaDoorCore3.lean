/- Ideal operations: what they are made of, and what each does. No program stands in it. Conditions: none. -/
import Derived.Test.YtcdfifbabhfknaaDoorCore2
namespace Go.Proofs.YtcdfifbabhfknaaDoor
open Go

inductive IOpd where
  | t (n : Nat)
  | g (n : Nat)
  | c (v : V)
  | f (f : FuncId)
  deriving Inhabited

/-- Operations that have a value in a run alone. -/
inductive NOp where
  | bad
  | isnil (neg : Bool) (x : IOpd)
  | mkmap
  | lookup (kd : Option (Option IntKind)) (ok : Bool) (z : V) (m k : IOpd)
  | mapup (kd : Option (Option IntKind)) (m k v : IOpd)
  | srange (x : IOpd)
  | snext (x : IOpd)
  | idxByte (s c : IOpd)
  deriving Inhabited

inductive IOp where
  | mv (x : IOpd)
  | pick (c a b : IOpd)
  | box (x : IOpd)
  | alloc (z : V)
  | build (z : List V) (ps : List (Nat × Nat × IOpd))
  | buildSl (sz len : Nat) (z : List V) (ps : List (Nat × Nat × IOpd))
  | load (ag : Bool) (n : Nat) (a : IOpd)
  | store (n : Nat) (a x : IOpd)
  | bin (op : BinOp) (x y : IOpd)
  | eqs (neg : Bool) (n : Nat) (x y : IOpd)
  | beq (neg : Bool) (x y : IOpd)
  | un (op : UnOp) (x : IOpd)
  | conv (k : IntKind) (x : IOpd)
  | mkfn (f : FuncId) (fst cap : List IOpd)
  | mksl (z : List V) (sz bytes : Nat) (l c : IOpd)
  | slice (sz : Nat) (x : IOpd) (lo hi mx : Option IOpd)
  | sliceS (x : IOpd) (lo hi : Option IOpd)
  | fieldA (off : Nat) (x : IOpd)
  | field (ag : Bool) (off n : Nat) (x : IOpd)
  | idxA (sz : Nat) (x i : IOpd)
  | idxP (len sz : Nat) (x i : IOpd)
  | idxV (ag : Bool) (len sz : Nat) (x i : IOpd)
  | idxS (x i : IOpd)
  | len (x : IOpd)
  | lenS (x : IOpd)
  | lenK (n : Nat)
  | cap (x : IOpd)
  | app (sz bytes : Nat) (z : List V) (x y : IOpd)
  | copy (sz : Nat) (x y : IOpd)
  | mm (mx : Bool) (x y : IOpd)
  | call (f : IOpd) (args : List IOpd)
  | extract (x : IOpd) (i : Nat)
  | b2s (x : IOpd)
  | cvs (x : IOpd)
  | n (x : NOp)
  deriving Inhabited

structure IOper where
  dst : Option Nat
  guard : Option (Nat × Bool)
  op : IOp
  deriving Inhabited

inductive IC where
  | skip
  | ops (l : List IOper)
  | dops (ds : List Nat) (pre tail : List IOper)
  | seq (a b : IC)
  | cond (c : IOpd) (a b : IC)
  | block (id : Nat) (a : IC)
  | loop (a : IC)
  | exit (id : Nat)
  | goto (l : Nat)
  | label (l : Nat)
  | ret
  deriving Inhabited

/-- A constant as an ideal value. -/
def vOf : Value → V
  | .int k n => .int k n
  | .bool b => .bool b
  | .string s => .str s.data.toList
  | .slice none 0 0 => .nil
  | .nilFunc => .nilfn
  | _ => .undef

mutual
/-- A zero value, deep (the parts of a struct's zero are cells). -/
def vOfZ : Value → V
  | .agg cs => .agg (vOfZL cs.toList)
  | v => vOf v
def vOfZL : List Value → List V
  | [] => []
  | v :: r => vOf v :: vOfZL r
end

theorem relV_vOf (G : GMap) (M : MMap) (c : Value) : RelV G M (vOf c) c := by
  unfold vOf
  split
  · exact .int _ _
  · exact .bool _
  · rename_i s
    have := RelV.str (G := G) (M := M) s.data.toList
    simpa using this
  · exact .nil
  · exact .nilfn
  · exact .undef _

def ev (gl fr : Fr) : IOpd → Option V
  | .t n => lk fr n
  | .g n => lk gl n
  | .c v => some v
  | .f f => some (.fn f [] [])

def evN (gl fr : Fr) (x : IOpd) : Option V := (ev gl fr x).map V.norm

def evs (gl fr : Fr) : List IOpd → Option (List V)
  | [] => some []
  | x :: r => match ev gl fr x, evs gl fr r with
    | some v, some vs => some (v :: vs)
    | _, _ => none

/-- A part of an element: its cells from 'off' on. -/
def V.partV (ag : Bool) (off n : Nat) (x : V) : V :=
  match ag with
  | true => .agg ((x.cells.drop off).take n)
  | false => x.cells.getD off .undef

def V.partOk (ag : Bool) (off n : Nat) (x : V) : Prop :=
  match ag with
  | true => off + n ≤ x.cells.length
  | false => off < x.cells.length

def V.putV (off n : Nat) (v x : V) : V :=
  match x with
  | .agg cs => .agg (cs.take off ++ v.cells ++ cs.drop (off + n))
  | _ => v

def V.putOk (off n : Nat) (v x : V) : Prop :=
  v.cells.length = n ∧ v.cellsOk = true ∧
    match x with
    | .agg cs => off + n ≤ cs.length
    | x => off = 0 ∧ n = 1 ∧ x.isCell = true ∧ v.isCell = true

def fillW (cells : List V) (K : List V → Prop) : List (Nat × Nat × V) → Prop
  | [] => K cells
  | (off, sz, v) :: r => v.cells.length = sz ∧ v.cellsOk = true ∧ off + sz ≤ cells.length ∧ fillW (cells.take off ++ v.cells ++ cells.drop (off + sz)) K r

def evps (gl fr : Fr) : List (Nat × Nat × IOpd) → Option (List (Nat × Nat × V))
  | [] => some []
  | (o, s, x) :: r => match ev gl fr x, evps gl fr r with
    | some v, some vs => some ((o, s, v) :: vs)
    | _, _ => none

/-- Cells in groups of 'sz' (1: each by itself). -/
def groups (sz : Nat) : Nat → List V → List V
  | 0, _ => []
  | n + 1, cs => (match sz with | 1 => cs.getD 0 .undef | _ => .agg (cs.take sz)) :: groups sz n (cs.drop sz)

def bitsI (op : BinOp) (k : IntKind) (a b : Int) : Int :=
  match op with
  | .and => k.wrap ((BitVec.ofInt k.bits a &&& BitVec.ofInt k.bits b).toNat : Int)
  | .or => k.wrap ((BitVec.ofInt k.bits a ||| BitVec.ofInt k.bits b).toNat : Int)
  | .xor => k.wrap ((BitVec.ofInt k.bits a ^^^ BitVec.ofInt k.bits b).toNat : Int)
  | _ => k.wrap ((BitVec.ofInt k.bits a &&& ~~~ BitVec.ofInt k.bits b).toNat : Int)

def binW (op : BinOp) (K : V → Prop) : V → V → Prop
  | .int k a, .int k' b =>
    match op with
    | .shl => 0 ≤ b ∧ K (.int k (k.wrap (a * 2 ^ (min b.toNat k.bits))))
    | .shr => 0 ≤ b ∧ K (.int k (a.fdiv (2 ^ (min b.toNat k.bits))))
    | .add => k = k' ∧ K (.int k (k.wrap (a + b)))
    | .sub => k = k' ∧ K (.int k (k.wrap (a - b)))
    | .mul => k = k' ∧ K (.int k (k.wrap (a * b)))
    | .quo => k = k' ∧ b ≠ 0 ∧ K (.int k (k.wrap (a.tdiv b)))
    | .rem => k = k' ∧ b ≠ 0 ∧ K (.int k (a.tmod b))
    | .eql => k = k' ∧ K (.bool (decide (a = b)))
    | .neq => k = k' ∧ K (.bool (!decide (a = b)))
    | .lss => k = k' ∧ K (.bool (decide (a < b)))
    | .leq => k = k' ∧ K (.bool (decide (a ≤ b)))
    | .gtr => k = k' ∧ K (.bool (decide (b < a)))
    | .geq => k = k' ∧ K (.bool (decide (b ≤ a)))
    | .and => k = k' ∧ K (.int k (bitsI .and k a b))
    | .or => k = k' ∧ K (.int k (bitsI .or k a b))
    | .xor => k = k' ∧ K (.int k (bitsI .xor k a b))
    | .andNot => k = k' ∧ K (.int k (bitsI .andNot k a b))
  | .str a, .str b =>
    match op with
    | .add => a.length + b.length ≤ 4294967296 ∧ K (.str (a ++ b))
    | .eql => K (.bool (decide (a = b)))
    | .neq => K (.bool (!decide (a = b)))
    | .lss => K (.bool (Op.bytesLess a b))
    | .gtr => K (.bool (!(Op.bytesLess a b || decide (a = b))))
    | .leq => K (.bool (Op.bytesLess a b || decide (a = b)))
    | .geq => K (.bool (!Op.bytesLess a b))
    | _ => False
  | _, _ => False

def unW (op : UnOp) (K : V → Prop) : V → Prop
  | .bool b => match op with
    | .not => K (.bool !b)
    | _ => False
  | .int k a => match op with
    | .neg => K (.int k (k.wrap (0 - a)))
    | .xor => K (.int k (bitsI .xor k (if k.signed then -1 else k.max) a))
    | _ => False
  | _ => False

/-- Equality of cells that are integers, one by one. -/
def eqCells : List V → List V → Bool
  | .int _ a :: r, .int _ b :: s => decide (a = b) && eqCells r s
  | _, _ => true
def eqOk : List V → List V → Prop
  | [], [] => True
  | .int k _ :: r, .int k' _ :: s => k = k' ∧ eqOk r s
  | _, _ => False

/-- The elements of a slice that is read. -/
def elemsW (h : Hp) (sz : Nat) (K : List V → Prop) : V → Prop
  | .sl xs _ => (∀ x ∈ xs, x.cells.length = sz) ∧ K xs
  | .ref b g off len _ => match lk h b with
    | some (.row g' sz' es) => g' = g ∧ sz' = sz ∧ off + len ≤ es.length ∧ K ((es.drop off).take len)
    | _ => False
  | _ => False

def bytesOf : List V → Option (List UInt8)
  | [] => some []
  | .int .u8 n :: r => (bytesOf r).map fun s => UInt8.ofNat n.toNat :: s
  | _ => none

/-- An optional bound of a slice expression. -/
def boundW (gl fr : Fr) (d : Nat) (K : Nat → Prop) : Option IOpd → Prop
  | none => K d
  | some x => match ev gl fr x with
    | some (.int _ n) => 0 ≤ n ∧ K n.toNat
    | _ => False

def boundM (gl fr : Fr) (K : Option Nat → Prop) : Option IOpd → Prop
  | none => K none
  | some x => match ev gl fr x with
    | some (.int _ n) => 0 ≤ n ∧ K (some n.toNat)
    | _ => False

def maxOk (u len : Nat) : Option Nat → Prop
  | none => True
  | some m => u ≤ m ∧ m ≤ len
def maxCap (l : Nat) (cap : Option Nat) : Option Nat → Option Nat
  | none => cap.map fun c => c - l
  | some m => some (m - l)

def callable (P : Program) (f : FuncId) : Bool := match P.funcs[f]? with
  | some fn => fn.name != "runtime.NumGoroutine" && fn.body.isSome
  | none => false

/-- A call, in the ideal world: whatever state of the model relates to the arguments and the heap, the call returns a value that relates to one for which K holds. -/
def ICall (P : Program) (gl : Fr) (f : FuncId) (args : List V) (h : Hp) (K : V → Hp → Prop) : Prop :=
  callable P f = true ∧ ∀ G M w (rargs : Array Value), Sim G M h w → GlRel G gl → rargs.size = args.length → (∀ i, i < args.length → RelV G M (args.getD i .undef) (rargs.getD i undef)) →
    Calls P f rargs w fun e w' => ∃ rv v h' G' M', e = .returned rv ∧ K v h' ∧ RelV G' M' v rv ∧ Sim G' M' h' w' ∧ Ext G M w G' M' w' ∧ ∀ b, lk h b = none → freshGen M' b = freshGen M b

/-- What an operation does: K of its value and of the heap behind it. 'id': the number for a block that it makes. -/
def istep (P : Program) (gl : Fr) (id : Nat) (fr : Fr) (h : Hp) (K : V → Hp → Prop) : IOp → Prop
  | .mv x => match ev gl fr x with
    | some v => K v h
    | none => False
  | .pick c a b => match ev gl fr c with
    | some (.bool t) => (t = true → match ev gl fr a with | some v => K v h | none => False) ∧ (t = false → match ev gl fr b with | some v => K v h | none => False)
    | _ => False
  | .box x => match ev gl fr x with
    | some v => v.cellsOk = true ∧ ∀ g, K (.ptr id g 0 0) ((id, .row g v.cells.length [v]) :: h)
    | none => False
  | .alloc z => z.cellsOk = true ∧ ∀ g, K (.ptr id g 0 0) ((id, .row g z.cells.length [z]) :: h)
  | .build z ps => match evps gl fr ps with
    | some l => fillW z (fun cs => K (.agg cs) h) l
    | none => False
  | .buildSl sz len z ps => match evps gl fr ps with
    | some l => fillW z (fun cs => ∀ g, K (.ref id g 0 len (some len)) ((id, .row g sz (groups sz len cs)) :: h)) l
    | none => False
  | .load ag n a => match ev gl fr a with
    | some (.iptr x off) => V.partOk ag off n x ∧ K (V.partV ag off n x) h
    | some (.ptr b g i off) => match lk h b with
      | some (.row g' _ es) => g' = g ∧ i < es.length ∧ V.partOk ag off n (es.getD i .undef) ∧ K (V.partV ag off n (es.getD i .undef)) h
      | _ => False
    | _ => False
  | .store n a x => match ev gl fr a, ev gl fr x with
    | some (.ptr b g i off), some v => match lk h b with
      | some (.row g' sz es) => g' = g ∧ i < es.length ∧ V.putOk off n v (es.getD i .undef) ∧ K .undef ((b, .row g sz (es.set i (V.putV off n v (es.getD i .undef)))) :: h)
      | _ => False
    | _, _ => False
  | .bin op x y => match ev gl fr x, ev gl fr y with
    | some a, some b => binW op (fun v => K v h) a b
    | _, _ => False
  | .eqs neg n x y => match ev gl fr x, ev gl fr y with
    | some (.agg a), some (.agg b) => a.length = n ∧ b.length = n ∧ eqOk a b ∧ K (.bool (match neg with | true => !(eqCells a b) | false => eqCells a b)) h
    | _, _ => False
  | .beq neg x y => match ev gl fr x, ev gl fr y with
    | some (.bool a), some (.bool b) => K (.bool (match neg with | true => a != b | false => a == b)) h
    | _, _ => False
  | .un op x => match ev gl fr x with
    | some a => unW op (fun v => K v h) a
    | none => False
  | .conv k x => match ev gl fr x with
    | some (.int _ n) => K (.int k (k.wrap n)) h
    | _ => False
  | .mkfn f a b => match evs gl fr a, evs gl fr b with
    | some va, some vb => K (.fn f va vb) h
    | _, _ => False
  | .mksl z sz bytes l c => match ev gl fr l, ev gl fr c with
    | some (.int _ a), some (.int _ b) => 0 ≤ a ∧ a ≤ b ∧ b ≤ 549755813888 ∧ bytes ≤ 256 ∧ z.length = sz ∧ (∀ i, i < z.length → (z.getD i .undef).isCell = true) ∧
        ∀ g, K (.ref id g 0 a.toNat (some b.toNat)) ((id, .row g sz (List.replicate a.toNat (match sz with | 1 => z.getD 0 .undef | _ => .agg z))) :: h)
    | _, _ => False
  | .slice sz x lo hi mx => match evN gl fr x with
    | some (.sl xs cap) => boundW gl fr 0 (fun l => boundW gl fr xs.length (fun u => boundM gl fr (fun m =>
        l ≤ u ∧ u ≤ xs.length ∧ (l = 0 ∨ u = l ∨ (xs.getD l .undef).cells.length = sz) ∧ maxOk u xs.length m ∧ K (.sl ((xs.drop l).take (u - l)) (maxCap l cap m)) h) mx) hi) lo
    | some (.ref b g off len cap) => match lk h b with
      | some (.row g' sz' _) => g' = g ∧ sz' = sz ∧ boundW gl fr 0 (fun l => boundW gl fr len (fun u => boundM gl fr (fun m =>
          l ≤ u ∧ u ≤ len ∧ maxOk u len m ∧ K (.ref b g (off + l) (u - l) (maxCap l cap m)) h) mx) hi) lo
      | _ => False
    | _ => False
  | .sliceS x lo hi => match ev gl fr x with
    | some (.str s) => boundW gl fr 0 (fun l => boundW gl fr s.length (fun u => l ≤ u ∧ u ≤ s.length ∧ K (.str ((s.drop l).take (u - l))) h) hi) lo
    | _ => False
  | .fieldA off x => match ev gl fr x with
    | some (.iptr y o) => K (.iptr y (o + off)) h
    | some (.ptr b g i o) => K (.ptr b g i (o + off)) h
    | _ => False
  | .field ag off n x => match ev gl fr x with
    | some (.agg cs) => V.partOk ag off n (.agg cs) ∧ K (V.partV ag off n (.agg cs)) h
    | _ => False
  | .idxA sz x i => match ev gl fr x, ev gl fr i with
    | some (.sl xs _), some (.int _ j) => 0 ≤ j ∧ j < xs.length ∧ (xs.getD j.toNat .undef).cells.length = sz ∧ K (.iptr (xs.getD j.toNat .undef) 0) h
    | some (.ref b g off len _), some (.int _ j) => match lk h b with
      | some (.row g' sz' _) => g' = g ∧ sz' = sz ∧ 0 ≤ j ∧ j < len ∧ K (.ptr b g (off + j.toNat) 0) h
      | _ => False
    | _, _ => False
  | .idxP len sz x i => match ev gl fr x, ev gl fr i with
    | some (.iptr y o), some (.int _ j) => 0 ≤ j ∧ j < len ∧ K (.iptr y (o + j.toNat * sz)) h
    | some (.ptr b g k o), some (.int _ j) => 0 ≤ j ∧ j < len ∧ K (.ptr b g k (o + j.toNat * sz)) h
    | _, _ => False
  | .idxV ag len sz x i => match ev gl fr x, ev gl fr i with
    | some (.agg cs), some (.int _ j) => 0 ≤ j ∧ j < len ∧ V.partOk ag (j.toNat * sz) sz (.agg cs) ∧ K (V.partV ag (j.toNat * sz) sz (.agg cs)) h
    | _, _ => False
  | .idxS x i => match ev gl fr x, ev gl fr i with
    | some (.str s), some (.int _ j) => 0 ≤ j ∧ j < s.length ∧ K (.int .u8 (s.getD j.toNat 0).toNat) h
    | _, _ => False
  | .len x => match evN gl fr x with
    | some (.sl xs _) => K (.int .i64 xs.length) h
    | some (.ref _ _ _ len _) => K (.int .i64 len) h
    | _ => False
  | .lenS x => match ev gl fr x with
    | some (.str s) => K (.int .i64 s.length) h
    | _ => False
  | .lenK n => K (.int .i64 n) h
  | .cap x => match evN gl fr x with
    | some (.sl _ (some c)) => K (.int .i64 c) h
    | some (.ref _ _ _ _ (some c)) => K (.int .i64 c) h
    | _ => False
  | .app sz bytes z x y => match evN gl fr x, evN gl fr y with
    | some (.sl xs cap), some vy => elemsW h sz (fun ys => (∀ x ∈ xs, x.cells.length = sz) ∧ cap = some xs.length ∧ bytes ≤ 256 ∧ z.length = sz ∧ xs.length + ys.length ≤ 274877906944 ∧
          (ys = [] → K (.sl xs cap) h) ∧ (ys ≠ [] → ∀ g, K (.ref id g 0 (xs.length + ys.length) none) ((id, .row g sz (xs ++ ys)) :: h))) vy
    | some (.ref b g off len _), some vy => match lk h b with
      | some (.row g' sz' es) => elemsW h sz (fun ys => g' = g ∧ sz' = sz ∧ off + len = es.length ∧ bytes ≤ 256 ∧ z.length = sz ∧ len + ys.length ≤ 274877906944 ∧
          ∀ g2, K (.ref b g2 0 (len + ys.length) none) ((b, .row g2 sz (es.drop off ++ ys)) :: h)) vy
      | _ => False
    | _, _ => False
  | .copy sz x y => match evN gl fr x, evN gl fr y with
    | some (.ref b g off len _), some vy => match lk h b with
      | some (.row g' sz' es) => elemsW h sz (fun ys => g' = g ∧ sz' = sz ∧ off + len ≤ es.length ∧
          K (.int .i64 (min ys.length len)) ((b, .row g sz (es.take off ++ ys.take (min ys.length len) ++ es.drop (off + min ys.length len))) :: h)) vy
      | _ => False
    | _, _ => False
  | .mm mx x y => match ev gl fr x, ev gl fr y with
    | some (.int k a), some (.int _ b) => K (.int k (match mx with | true => max a b | false => min a b)) h
    | _, _ => False
  | .call f args => match ev gl fr f, evs gl fr args with
    | some (.fn g fst cap), some vs => ICall P gl g (fst ++ vs ++ cap) h K
    | _, _ => False
  | .extract x i => match ev gl fr x with
    | some (.tup vs) => match vs[i]? with
      | some v => K v h
      | none => False
    | _ => False
  | .cvs x => match ev gl fr x with
    | some (.str s) => K (.str s) h
    | _ => False
  | .b2s x => match evN gl fr x with
    | some vx => elemsW h 1 (fun es => match bytesOf es with
        | some s => K (.str s) h
        | none => False) vx
    | none => False
  | .n _ => False

end Go.Proofs.YtcdfifbabhfknaaDoor
