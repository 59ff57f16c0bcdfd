/- Operations as a function of the state: each has one value, the blocks that it changes, the blocks that it reads. No program stands in it. Conditions: none. -/
import Derived.Test.YtcdfifbabhfknaaDoorCore17
namespace Go.Proofs.YtcdfifbabhfknaaDoor
open Go

/-- The value, the blocks that are new or changed, the blocks that were read. -/
abbrev Y := V × Hp × List Nat

def gd {α : Type} (c : Bool) (x : Option α) : Option α := match c with
  | true => x
  | false => none
def eb {α β : Type} (x : Option α) (f : α → Option β) : Option β := match x with
  | some v => f v
  | none => none

theorem gd_some {α : Type} {c : Bool} {x : Option α} {y : α} (h : gd c x = some y) : c = true ∧ x = some y := by
  cases c
  · cases h
  · exact ⟨rfl, h⟩
theorem eb_some {α β : Type} {x : Option α} {f : α → Option β} {y : β} (h : eb x f = some y) : ∃ v, x = some v ∧ f v = some y := by
  cases x with
  | none => cases h
  | some v => exact ⟨v, rfl, h⟩

def V.partOkB (ag : Bool) (off n : Nat) (x : V) : Bool := match ag with
  | true => decide (off + n ≤ x.cells.length)
  | false => decide (off < x.cells.length)
theorem V.partOkB_iff {ag : Bool} {off n : Nat} {x : V} : V.partOkB ag off n x = true ↔ V.partOk ag off n x := by cases ag <;> simp [V.partOkB, V.partOk]
def V.putOkB (off n : Nat) (v x : V) : Bool := decide (v.cells.length = n) && v.cellsOk && match x with
  | .agg cs => decide (off + n ≤ cs.length)
  | x => decide (off = 0) && decide (n = 1) && x.isCell && v.isCell
theorem V.putOkB_iff {off n : Nat} {v x : V} : V.putOkB off n v x = true ↔ V.putOk off n v x := by cases x <;> simp [V.putOkB, V.putOk, and_assoc]

def evF (gl : Fr) (F : FF) : IOpd → Option V
  | .t n => F n
  | .g n => lk gl n
  | .c v => some v
  | .f f => some (.fn f [] [])
theorem evF_lk (gl fr : Fr) (x : IOpd) : evF gl (lk fr) x = ev gl fr x := by cases x <;> rfl
def evsF (gl : Fr) (F : FF) : List IOpd → Option (List V)
  | [] => some []
  | x :: r => match evF gl F x, evsF gl F r with
    | some v, some vs => some (v :: vs)
    | _, _ => none
theorem evsF_lk (gl fr : Fr) : ∀ l, evsF gl (lk fr) l = evs gl fr l
  | [] => rfl
  | x :: r => by simp only [evsF, evs, evF_lk, evsF_lk gl fr r]; rfl
def evpsF (gl : Fr) (F : FF) : List (Nat × Nat × IOpd) → Option (List (Nat × Nat × V))
  | [] => some []
  | (o, s, x) :: r => match evF gl F x, evpsF gl F r with
    | some v, some vs => some ((o, s, v) :: vs)
    | _, _ => none
theorem evpsF_lk (gl fr : Fr) : ∀ l, evpsF gl (lk fr) l = evps gl fr l
  | [] => rfl
  | (o, s, x) :: r => by simp only [evpsF, evps, evF_lk, evpsF_lk gl fr r]; rfl

def fillO (cells : List V) : List (Nat × Nat × V) → Option (List V)
  | [] => some cells
  | (off, sz, v) :: r => gd (decide (v.cells.length = sz) && v.cellsOk && decide (off + sz ≤ cells.length)) (fillO (cells.take off ++ v.cells ++ cells.drop (off + sz)) r)

def binO (op : BinOp) : V → V → Option V
  | .int k a, .int k' b =>
    match op with
    | .shl => gd (decide (0 ≤ b)) (some (.int k (k.wrap (a * 2 ^ (min b.toNat k.bits)))))
    | .shr => gd (decide (0 ≤ b)) (some (.int k (a.fdiv (2 ^ (min b.toNat k.bits)))))
    | .add => gd (decide (k = k')) (some (.int k (k.wrap (a + b))))
    | .sub => gd (decide (k = k')) (some (.int k (k.wrap (a - b))))
    | .mul => gd (decide (k = k')) (some (.int k (k.wrap (a * b))))
    | .quo => gd (decide (k = k') && !decide (b = 0)) (some (.int k (k.wrap (a.tdiv b))))
    | .rem => gd (decide (k = k') && !decide (b = 0)) (some (.int k (a.tmod b)))
    | .eql => gd (decide (k = k')) (some (.bool (decide (a = b))))
    | .neq => gd (decide (k = k')) (some (.bool (!decide (a = b))))
    | .lss => gd (decide (k = k')) (some (.bool (decide (a < b))))
    | .leq => gd (decide (k = k')) (some (.bool (decide (a ≤ b))))
    | .gtr => gd (decide (k = k')) (some (.bool (decide (b < a))))
    | .geq => gd (decide (k = k')) (some (.bool (decide (b ≤ a))))
    | .and => gd (decide (k = k')) (some (.int k (bitsI .and k a b)))
    | .or => gd (decide (k = k')) (some (.int k (bitsI .or k a b)))
    | .xor => gd (decide (k = k')) (some (.int k (bitsI .xor k a b)))
    | .andNot => gd (decide (k = k')) (some (.int k (bitsI .andNot k a b)))
  | .str a, .str b =>
    match op with
    | .add => gd (decide (a.length + b.length ≤ 4294967296)) (some (.str (a ++ b)))
    | .eql => some (.bool (decide (a = b)))
    | .neq => some (.bool (!decide (a = b)))
    | .lss => some (.bool (Op.bytesLess a b))
    | .gtr => some (.bool (!(Op.bytesLess a b || decide (a = b))))
    | .leq => some (.bool (Op.bytesLess a b || decide (a = b)))
    | .geq => some (.bool (!Op.bytesLess a b))
    | _ => none
  | _, _ => none

def unO (op : UnOp) : V → Option V
  | .bool b => match op with
    | .not => some (.bool !b)
    | _ => none
  | .int k a => match op with
    | .neg => some (.int k (k.wrap (0 - a)))
    | .xor => some (.int k (bitsI .xor k (if k.signed then -1 else k.max) a))
    | _ => none
  | _ => none

def eqOkB : List V → List V → Bool
  | [], [] => true
  | .int k _ :: r, .int k' _ :: s => decide (k = k') && eqOkB r s
  | _, _ => false
theorem eqOkB_iff : ∀ {a b : List V}, eqOkB a b = true → eqOk a b
  | [], [], _ => trivial
  | .int k _ :: r, .int k' _ :: s, h => by
    simp only [eqOkB, Bool.and_eq_true, decide_eq_true_eq] at h
    exact ⟨h.1, eqOkB_iff h.2⟩

/-- The elements of a slice that is read, and the blocks that are read for it. -/
def elemsO (H : HH) (sz : Nat) : V → Option (List V × List Nat)
  | .sl xs _ => gd (xs.all fun x => decide (x.cells.length = sz)) (some (xs, []))
  | .ref b g off len _ => match H b with
    | some (.row g' sz' es) => gd (decide (g' = g) && decide (sz' = sz) && decide (off + len ≤ es.length)) (some ((es.drop off).take len, [b]))
    | _ => none
  | _ => none

def boundO (gl : Fr) (F : FF) (d : Nat) : Option IOpd → Option Nat
  | none => some d
  | some x => match evF gl F x with
    | some (.int _ n) => gd (decide (0 ≤ n)) (some n.toNat)
    | _ => none
def boundMO (gl : Fr) (F : FF) : Option IOpd → Option (Option Nat)
  | none => some none
  | some x => match evF gl F x with
    | some (.int _ n) => gd (decide (0 ≤ n)) (some (some n.toNat))
    | _ => none
def maxOkB (u len : Nat) : Option Nat → Bool
  | none => true
  | some m => decide (u ≤ m) && decide (m ≤ len)
theorem maxOkB_iff {u len : Nat} {m : Option Nat} : maxOkB u len m = true ↔ maxOk u len m := by cases m <;> simp [maxOkB, maxOk]

def oneCells (sz : Nat) (z : List V) : V := match sz with
  | 1 => z.getD 0 .undef
  | _ => .agg z

def sameK : V → V → Option Bool
  | .str a, .str b => some (decide (a = b))
  | .int k a, .int k' b => bif decide (k = k') then some (decide (a = b)) else none
  | _, _ => none
/-- Where a key stands, and what it holds. -/
def findV (k : V) : List (V × V) → Nat → Option (Option (Nat × V))
  | [], _ => some none
  | e :: es, i => match sameK k e.1 with
    | some true => some (some (i, e.2))
    | some false => findV k es (i + 1)
    | none => none
def idxOf (n : Int) : List UInt8 → Nat → Int
  | [], _ => -1
  | b :: r, i => bif decide ((b.toNat : Int) = n) then i else idxOf n r (i + 1)

def keyFits : Option (Option IntKind) → V → Bool
  | some (some k), .int k' _ => decide (k' = k)
  | some none, .str _ => true
  | _, _ => false
def NOp.pure : NOp → Bool
  | .bad | .isnil .. | .lookup .. | .idxByte .. => true
  | _ => false
def evNF (gl : Fr) (F : FF) (x : IOpd) : Option V := (evF gl F x).map V.norm
theorem evNF_lk (gl fr : Fr) (x : IOpd) : evNF gl (lk fr) x = evN gl fr x := by unfold evNF evN; rw [evF_lk]

def nop (gl : Fr) (gf : Nat → Nat) (id : Nat) (F : FF) (H : HH) : NOp → Option Y
  | .bad => none
  | .isnil neg x => match evF gl F x with
    | some .nil => some (.bool (!neg), [], [])
    | some (.sl (_ :: _) _) => some (.bool neg, [], [])
    | some (.ref b g _ (_ + 1) _) => match H b with
      | some (.row g' _ _) => gd (decide (g' = g)) (some (.bool neg, [], [b]))
      | _ => none
    | _ => none
  | .mkmap => some (.own id (gf id), [(id, .map (gf id) [])], [])
  | .lookup kd ok z m k => match evF gl F m, evF gl F k with
    | some (.own b g), some kv => match H b with
      | some (.map g' es) => gd (decide (g' = g) && keyFits kd kv) (match findV kv es 0 with
        | some (some (_, v)) => some (bif ok then .tup [v, .bool true] else v, [], [b])
        | some none => some (bif ok then .tup [z, .bool false] else z, [], [b])
        | none => none)
      | _ => none
    | _, _ => none
  | .mapup kd m k v => match evF gl F m, evF gl F k, evF gl F v with
    | some (.own b g), some kv, some vv => match H b with
      | some (.map g' es) => gd (decide (g' = g) && keyFits kd kv) (match findV kv es 0 with
        | some (some (i, _)) => some (.undef, [(b, .map g (es.set i (kv, vv)))], [b])
        | some none => some (.undef, [(b, .map g (es ++ [(kv, vv)]))], [b])
        | none => none)
      | _ => none
    | _, _, _ => none
  | .srange x => match evF gl F x with
    | some (.str s) => some (.own id (gf id), [(id, .siter (gf id) s 0)], [])
    | _ => none
  | .snext x => match evF gl F x with
    | some (.own b g) => match H b with
      | some (.siter g' s pos) => gd (decide (g' = g)) (bif decide (pos < s.length) then
          some (.tup [.bool true, .int .i64 pos, .int .i32 (Utf8.decode ⟨s.toArray⟩ pos).1], [(b, .siter g s (pos + (Utf8.decode ⟨s.toArray⟩ pos).2))], [b])
        else some (.tup [.bool false], [(b, .siter g s pos)], [b]))
      | _ => none
    | _ => none
  | .idxByte s c => match evF gl F s, evF gl F c with
    | some (.str l), some (.int .u8 n) => gd (decide (0 ≤ n) && decide (n < 256)) (some (.int .i64 (idxOf n l 0), [], []))
    | _, _ => none

/-- What an operation comes to. 'gf': the generation that a block made or grown now gets. -/
def eop (gl : Fr) (gf : Nat → Nat) (id : Nat) (F : FF) (H : HH) : IOp → Option Y
  | .mv x => eb (evF gl F x) fun v => some (v, [], [])
  | .pick c a b => match evF gl F c with
    | some (.bool t) => (match t with
      | true => eb (evF gl F a) fun v => some (v, [], [])
      | false => eb (evF gl F b) fun v => some (v, [], []))
    | _ => none
  | .box x => eb (evF gl F x) fun v => gd v.cellsOk (some (.ptr id (gf id) 0 0, [(id, .row (gf id) v.cells.length [v])], []))
  | .alloc z => gd z.cellsOk (some (.ptr id (gf id) 0 0, [(id, .row (gf id) z.cells.length [z])], []))
  | .build z ps => eb (evpsF gl F ps) fun l => eb (fillO z l) fun cs => some (.agg cs, [], [])
  | .buildSl sz len z ps => eb (evpsF gl F ps) fun l => eb (fillO z l) fun cs => some (.ref id (gf id) 0 len (some len), [(id, .row (gf id) sz (groups sz len cs))], [])
  | .load ag n a => match evF gl F a with
    | some (.iptr x off) => gd (V.partOkB ag off n x) (some (V.partV ag off n x, [], []))
    | some (.ptr b g i off) => match H b with
      | some (.row g' _ es) => gd (decide (g' = g) && decide (i < es.length) && V.partOkB ag off n (es.getD i .undef)) (some (V.partV ag off n (es.getD i .undef), [], [b]))
      | _ => none
    | _ => none
  | .store n a x => match evF gl F a, evF gl F x with
    | some (.ptr b g i off), some v => match H b with
      | some (.row g' sz es) => gd (decide (g' = g) && decide (i < es.length) && V.putOkB off n v (es.getD i .undef)) (some (.undef, [(b, .row g sz (es.set i (V.putV off n v (es.getD i .undef))))], [b]))
      | _ => none
    | _, _ => none
  | .bin op x y => match evF gl F x, evF gl F y with
    | some a, some b => eb (binO op a b) fun v => some (v, [], [])
    | _, _ => none
  | .eqs neg n x y => match evF gl F x, evF gl F y with
    | some (.agg a), some (.agg b) => gd (decide (a.length = n) && decide (b.length = n) && eqOkB a b) (some (.bool (match neg with | true => !(eqCells a b) | false => eqCells a b), [], []))
    | _, _ => none
  | .beq neg x y => match evF gl F x, evF gl F y with
    | some (.bool a), some (.bool b) => some (.bool (match neg with | true => a != b | false => a == b), [], [])
    | _, _ => none
  | .un op x => eb (evF gl F x) fun a => eb (unO op a) fun v => some (v, [], [])
  | .conv k x => match evF gl F x with
    | some (.int _ n) => some (.int k (k.wrap n), [], [])
    | _ => none
  | .mkfn f a b => match evsF gl F a, evsF gl F b with
    | some va, some vb => some (.fn f va vb, [], [])
    | _, _ => none
  | .mksl z sz bytes l c => match evF gl F l, evF gl F c with
    | some (.int _ a), some (.int _ b) => gd (decide (0 ≤ a) && decide (a ≤ b) && decide (b ≤ 549755813888) && decide (bytes ≤ 256) && decide (z.length = sz) && z.all V.isCell)
        (some (.ref id (gf id) 0 a.toNat (some b.toNat), [(id, .row (gf id) sz (List.replicate a.toNat (oneCells sz z)))], []))
    | _, _ => none
  | .slice sz x lo hi mx => match evNF gl F x with
    | some (.sl xs cap) => eb (boundO gl F 0 lo) fun l => eb (boundO gl F xs.length hi) fun u => eb (boundMO gl F mx) fun m =>
        gd (decide (l ≤ u) && decide (u ≤ xs.length) && (decide (l = 0) || decide (u = l) || decide ((xs.getD l .undef).cells.length = sz)) && maxOkB u xs.length m) (some (.sl ((xs.drop l).take (u - l)) (maxCap l cap m), [], []))
    | some (.ref b g off len cap) => match H b with
      | some (.row g' sz' _) => gd (decide (g' = g) && decide (sz' = sz)) (eb (boundO gl F 0 lo) fun l => eb (boundO gl F len hi) fun u => eb (boundMO gl F mx) fun m =>
          gd (decide (l ≤ u) && decide (u ≤ len) && maxOkB u len m) (some (.ref b g (off + l) (u - l) (maxCap l cap m), [], [b])))
      | _ => none
    | _ => none
  | .sliceS x lo hi => match evF gl F x with
    | some (.str s) => eb (boundO gl F 0 lo) fun l => eb (boundO gl F s.length hi) fun u => gd (decide (l ≤ u) && decide (u ≤ s.length)) (some (.str ((s.drop l).take (u - l)), [], []))
    | _ => none
  | .fieldA off x => match evF gl F x with
    | some (.iptr y o) => some (.iptr y (o + off), [], [])
    | some (.ptr b g i o) => some (.ptr b g i (o + off), [], [])
    | _ => none
  | .field ag off n x => match evF gl F x with
    | some (.agg cs) => gd (V.partOkB ag off n (.agg cs)) (some (V.partV ag off n (.agg cs), [], []))
    | _ => none
  | .idxA sz x i => match evF gl F x, evF gl F i with
    | some (.sl xs _), some (.int _ j) => gd (decide (0 ≤ j) && decide (j < xs.length) && decide ((xs.getD j.toNat .undef).cells.length = sz)) (some (.iptr (xs.getD j.toNat .undef) 0, [], []))
    | some (.ref b g off len _), some (.int _ j) => match H b with
      | some (.row g' sz' _) => gd (decide (g' = g) && decide (sz' = sz) && decide (0 ≤ j) && decide (j < len)) (some (.ptr b g (off + j.toNat) 0, [], [b]))
      | _ => none
    | _, _ => none
  | .idxP len sz x i => match evF gl F x, evF gl F i with
    | some (.iptr y o), some (.int _ j) => gd (decide (0 ≤ j) && decide (j < len)) (some (.iptr y (o + j.toNat * sz), [], []))
    | some (.ptr b g k o), some (.int _ j) => gd (decide (0 ≤ j) && decide (j < len)) (some (.ptr b g k (o + j.toNat * sz), [], []))
    | _, _ => none
  | .idxV ag len sz x i => match evF gl F x, evF gl F i with
    | some (.agg cs), some (.int _ j) => gd (decide (0 ≤ j) && decide (j < len) && V.partOkB ag (j.toNat * sz) sz (.agg cs)) (some (V.partV ag (j.toNat * sz) sz (.agg cs), [], []))
    | _, _ => none
  | .idxS x i => match evF gl F x, evF gl F i with
    | some (.str s), some (.int _ j) => gd (decide (0 ≤ j) && decide (j < s.length)) (some (.int .u8 (s.getD j.toNat 0).toNat, [], []))
    | _, _ => none
  | .len x => match evNF gl F x with
    | some (.sl xs _) => some (.int .i64 xs.length, [], [])
    | some (.ref _ _ _ len _) => some (.int .i64 len, [], [])
    | _ => none
  | .lenS x => match evF gl F x with
    | some (.str s) => some (.int .i64 s.length, [], [])
    | _ => none
  | .lenK n => some (.int .i64 n, [], [])
  | .cap x => match evNF gl F x with
    | some (.sl _ (some c)) => some (.int .i64 c, [], [])
    | some (.ref _ _ _ _ (some c)) => some (.int .i64 c, [], [])
    | _ => none
  | .app sz bytes z x y => match evNF gl F x, evNF gl F y with
    | some (.sl xs cap), some vy => eb (elemsO H sz vy) fun ys => gd ((xs.all fun x => decide (x.cells.length = sz)) && decide (cap = some xs.length) && decide (bytes ≤ 256) && decide (z.length = sz) && decide (xs.length + ys.1.length ≤ 274877906944))
          (match ys.1 with
          | [] => some (.sl xs cap, [], ys.2)
          | _ :: _ => some (.ref id (gf id) 0 (xs.length + ys.1.length) none, [(id, .row (gf id) sz (xs ++ ys.1))], ys.2))
    | some (.ref b g off len _), some vy => match H b with
      | some (.row g' sz' es) => eb (elemsO H sz vy) fun ys => gd (decide (g' = g) && decide (sz' = sz) && decide (off + len = es.length) && decide (bytes ≤ 256) && decide (z.length = sz) && decide (len + ys.1.length ≤ 274877906944))
          (some (.ref b (gf b) 0 (len + ys.1.length) none, [(b, .row (gf b) sz (es.drop off ++ ys.1))], b :: ys.2))
      | _ => none
    | _, _ => none
  | .copy _ _ _ => none
  | .mm mx x y => match evF gl F x, evF gl F y with
    | some (.int k a), some (.int _ b) => some (.int k (match mx with | true => max a b | false => min a b), [], [])
    | _, _ => none
  | .call _ _ => none
  | .extract x i => match evF gl F x with
    | some (.tup vs) => eb vs[i]? fun v => some (v, [], [])
    | _ => none
  | .cvs x => match evF gl F x with
    | some (.str s) => some (.str s, [], [])
    | _ => none
  | .b2s x => eb (evNF gl F x) fun vx => eb (elemsO H 1 vx) fun es => eb (bytesOf es.1) fun s => some (.str s, [], es.2)  | .n x => nop gl gf id F H x
end Go.Proofs.YtcdfifbabhfknaaDoor
