/- Code as a function of the state: its compilation and its run. No program stands in it. Conditions: none. -/
import Derived.Test.YtcdfifbabhfknaaDoorCore21
import Derived.Scope
import Derived.KernelRfl
namespace Go.Proofs.YtcdfifbabhfknaaDoor
open Go

inductive XC where
  | skip
  | ops (l : List IOper)
  | reg (l : List IOper) (chk : List (Nat × Nat))
  | seq (a b : XC)
  | cond (c : IOpd) (a b : XC)
  | block (id : Nat) (a : XC)
  | loop (a : XC)
  | scope (a : XC)
  | exit (id : Nat)
  | goto (l : Nat)
  | label (l : Nat)
  | ret
  deriving Inhabited

structure FnI where
  n : Nat
  rs : List IRes
  code : XC

/-- The frame, the heap, the least number that no block has yet. -/
structure ES where
  fr : T V
  h : T Blk
  c : Nat

/-- A value whose references are taken for what they lead to, 'n' steps deep. -/
def frzF (H : HH) : Nat → V → V
  | 0, v => v.mapR (fun _ _ _ _ _ => .undef) (fun _ _ _ _ => .undef)
  | n + 1, v => v.mapR
      (fun b g off len cap => match H b with
        | some (.row g' _ es) => if g' = g ∧ off + len ≤ es.length then .sl (((es.drop off).take len).map (frzF H n)) cap else .undef
        | _ => .undef)
      (fun b g i off => match H b with
        | some (.row g' _ es) => if g' = g ∧ i < es.length then .iptr (frzF H n (es.getD i .undef)) off else .undef
        | _ => .undef)
theorem frz_eq (h : Hp) : ∀ n, frz h n = frzF (lk h) n
  | 0 => rfl
  | n + 1 => by funext v; simp only [frz, frzF, frz_eq h n]; rfl

/-! ### Compilation -/

def touches : IOp → Bool
  | .load .. | .slice .. | .idxA .. | .b2s _ | .n _ => true
  | io => !isPure io

def slotsIn (ops : Array Oper) : List Oper → List IOper → Bool
  | o :: r, x :: s => x.op.slots.all ((o.looksAt ops).contains ·) && slotsIn ops r s
  | [], [] => true
  | _, _ => false

def slotInd (ops : Array Oper) (x y : Oper) : Bool :=
  (match x.dst with | some t => !((y.looksAt ops).contains t) && y.dst != some t | none => true) && (match y.dst with | some t => !((x.looksAt ops).contains t) | none => true)

def pairsOk (ops : Array Oper) (an : List Nat) : Bool := (List.range ops.size).all fun j => (List.range j).all fun i => bd an i j || match ops[i]?, ops[j]? with
  | some x, some y => slotInd ops x y
  | _, _ => true

def clash (a b : IOp) : Bool := (!isPure a && touches b) || (touches a && !isPure b)

def chkOf (an : List Nat) (l : List IOper) : List (Nat × Nat) := (List.range l.length).flatMap fun j => (List.range j).filterMap fun i =>
  match l[i]?, l[j]? with
  | some x, some y => bif !(bd an i j) && clash x.op y.op then some (i, j) else none
  | _, _ => none

def asCall : IOp → Option (IOpd × List IOpd)
  | .call f as => some (f, as)
  | _ => none

/-! The blocks that a call may reach. -/
def memN (x : Nat) : List Nat → Bool
  | [] => false
  | a :: r => bif Nat.beq x a then true else memN x r
/-- Operations that change a block and never make one. -/
def loudOnlyN : NOp → Bool
  | .mapup .. | .snext .. => true
  | _ => false
def loudOnly : IOp → Bool
  | .store .. => true
  | .n x => loudOnlyN x
  | _ => false
/-- The number of the block that an operation may make. -/
def alOf (x : IOper) : Option Nat := match asCall x.op with
  | some _ => none
  | none => bif isPure x.op then none else x.dst
/-- The number whose generation an operation may change. -/
def exOf (x : IOper) : Option Nat := match asCall x.op with
  | some _ => none
  | none => bif isPure x.op then none else some (x.dst.getD 999999)
/-- No two operations make blocks of one number. -/
def alDist : List IOper → List Nat → Bool
  | x :: r, seen => (match alOf x with | some b => !memN b seen && !(Nat.beq b 999999) && alDist r (b :: seen) | none => alDist r seen)
  | [], _ => true

/-- Operations whose walk a drawn region bears. -/
def regOp (x : IOper) : Bool := match asCall x.op with
  | some _ => true
  | none => isPure x.op || x.dst.isSome || loudOnly x.op

def compReg (P : Program) (n : Nat) (ops : Array Oper) : Option XC :=
  match compOps P n ops ops.toList with
  | none => none
  | some all => if P.follows .mixedOrders = true ∧ ckBack ops = true ∧ slotsIn ops ops.toList all = true ∧ pairsOk ops (ancs ops.toList []) = true ∧ (all.all regOp && alDist all []) = true then some (.reg all (chkOf (ancs ops.toList []) all)) else none

def compX (P : Program) (n : Nat) : Code → Option XC
  | .skip => some .skip
  | .region _ ops draw => match draw with
    | false => (compOps P n ops ops.toList).map .ops
    | true => compReg P n ops
  | .seq a b => match compX P n a, compX P n b with
    | some x, some y => some (.seq x y)
    | _, _ => none
  | .cond c a b => match compX P n a, compX P n b with
    | some x, some y => some (.cond (co c) x y)
    | _, _ => none
  | .block id a => match compX P n a with
    | some x => some (.block id x)
    | none => none
  | .loop a => match compX P n a with
    | some x => some (.loop x)
    | none => none
  | .scope a => match compX P n a with
    | some x => some (.scope x)
    | none => none
  | .exit id => some (.exit id)
  | .goto l => some (.goto l)
  | .label l => some (.label l)
  | .ret => some .ret
  | _ => none

/-! ### The run -/

def gfE (H : HH) (id b : Nat) : Nat := bif Nat.beq b id then 0 else match H b with
  | some (.row g _ _) => g + 1
  | some (.map g _) => g + 1
  | some (.siter g _ _) => g + 1
  | none => 0

def putT (t : T V) : Option Nat → V → Option (T V)
  | none, _ => some t
  | some d, v => t.put d v
def putsT (h : T Blk) : Hp → Option (T Blk)
  | [] => some h
  | (b, k) :: r => eb (putsT h r) fun h' => h'.put b k

def xgd (F : FF) : Option (Nat × Bool) → Option Bool
  | none => some true
  | some (t, want) => match F t with
    | some (.bool b) => some (b == want)
    | _ => none

abbrev CallF := FuncId → List V → T Blk → Nat → Option (V × T Blk × Nat)

def bumpC (io : IOp) (c : Nat) : Nat := bif isPure io then c else c + 1

def xcallee (gl : Fr) (F : FF) (f : IOpd) (as : List IOpd) : Option (FuncId × List V) :=
  match evF gl F f, evsF gl F as with
  | some (.fn g fst cap), some vs => some (g, fst ++ vs ++ cap)
  | _, _ => none

def xop (cl : CallF) (gl : Fr) (io : IOp) (S : ES) : Option (V × T Blk × Nat) :=
  match asCall io with
  | some (f, as) => eb (xcallee gl S.fr.get f as) fun q => cl q.1 q.2 S.h S.c
  | none => eb (eop gl (gfE S.h.get S.c) S.c S.fr.get S.h.get io) fun y => eb (putsT S.h y.2.1) fun h' => some (y.1, h', bumpC io S.c)

def xops (cl : CallF) (gl : Fr) : List IOper → ES → Option ES
  | [], S => some S
  | o :: r, S => match xgd S.fr.get o.guard with
    | some true => eb (xop cl gl o.op S) fun y => eb (putT S.fr o.dst y.1) fun fr => xops cl gl r ⟨fr, y.2.1, y.2.2⟩
    | some false => eb (putT S.fr o.dst .undef) fun fr => xops cl gl r ⟨fr, S.h, S.c⟩
    | none => none

mutual
def V.ids : V → List Nat → List Nat
  | .agg cs, l => V.idsL cs l
  | .tup cs, l => V.idsL cs l
  | .sl xs _, l => V.idsL xs l
  | .iptr x _, l => x.ids l
  | .fn _ a b, l => V.idsL a (V.idsL b l)
  | .ref b _ _ _ _, l => b :: l
  | .ptr b _ _ _, l => b :: l
  | .own b _, l => b :: l
  | .undef, l => l
  | .int _ _, l => l
  | .bool _, l => l
  | .str _, l => l
  | .nilfn, l => l
  | .nil, l => l
def V.idsL : List V → List Nat → List Nat
  | [], l => l
  | v :: r, l => v.ids (V.idsL r l)
end
def Blk.ids : Blk → List Nat → List Nat
  | .row _ _ es, l => V.idsL es l
  | .map _ es, l => V.idsL (es.map (·.1)) (V.idsL (es.map (·.2)) l)
  | .siter .., l => l
/-- All that is reached from a work list. -/
def reach (H : HH) : Nat → List Nat → List Nat → List Nat
  | 0, _, acc => acc
  | _ + 1, [], acc => acc
  | n + 1, b :: r, acc => bif memN b acc then reach H n r acc else match H b with
    | some k => reach H n (k.ids r) (b :: acc)
    | none => reach H n r (b :: acc)

def cutT (H : HH) : List Nat → Option (T Blk)
  | [] => some .lf
  | b :: r => eb (cutT H r) fun t => match H b with
    | some k => t.put b k
    | none => some t
def closedS (H : HH) (S : List Nat) : Bool := S.all fun b => match H b with
  | some k => k.inS (memN · S)
  | none => true
/-- What has become of the blocks: those that differ. -/
def diffT (H H' : HH) : List Nat → Hp
  | [] => []
  | b :: r => match H' b, H b with
    | some k', some k => bif Blk.beq k' k then diffT H H' r else (b, k') :: diffT H H' r
    | some k', none => (b, k') :: diffT H H' r
    | none, _ => diffT H H' r
/-- Whatever block was known is known still. -/
def keepsT (H H' : HH) (S : List Nat) : Bool := S.all fun b => match H b, H' b with
  | some _, none => false
  | _, _ => true
def upTo (c : Nat) : Nat → List Nat
  | 0 => []
  | m + 1 => c :: upTo (c + 1) m

def xcallR (cl : CallF) (H : HH) (c : Nat) (q : FuncId × List V) : Option (V × Hp × List Nat × Nat) :=
  let S := reach H 100000 (V.idsL q.2 []) []
  gd (V.inSL (memN · S) q.2 && closedS H S) (eb (cutT H S) fun hr => eb (cl q.1 q.2 hr c) fun z => gd (keepsT H z.2.1.get S) (some (z.1, diffT H z.2.1.get S ++ diffT H z.2.1.get (upTo c (z.2.2 - c)), S, z.2.2)))

def xopR (cl : CallF) (gl : Fr) (io : IOp) (S : ES) : Option (V × Hp × List Nat × Nat) :=
  match asCall io with
  | some (f, as) => eb (xcallee gl S.fr.get f as) (xcallR cl S.h.get S.c)
  | none => eb (eop gl (gfE S.h.get S.c) S.c S.fr.get S.h.get io) fun y => some (y.1, y.2.1, y.2.2, bumpC io S.c)

/-- The operations of a region in the order of the text, each with what it changes and what it reads. -/
def xregs (cl : CallF) (gl : Fr) : List IOper → ES → Option (ES × List (List Nat × List Nat))
  | [], S => some (S, [])
  | o :: r, S => match xgd S.fr.get o.guard with
    | some true => eb (xopR cl gl o.op S) fun y => eb (putT S.fr o.dst y.1) fun fr => eb (putsT S.h y.2.1) fun h => eb (xregs cl gl r ⟨fr, h, y.2.2.2⟩) fun z => some (z.1, (y.2.1.map (·.1), y.2.2.1) :: z.2)
    | some false => eb (putT S.fr o.dst .undef) fun fr => eb (xregs cl gl r ⟨fr, S.h, S.c⟩) fun z => some (z.1, ([], []) :: z.2)
    | none => none

def indF (a b : List Nat × List Nat) : Bool := a.1.all (fun x => !memN x b.1 && !memN x b.2) && b.1.all (fun x => !memN x a.2)
def indAll (fps : List (List Nat × List Nat)) (chk : List (Nat × Nat)) : Bool := chk.all fun p => indF (fps.getD p.1 ([], [])) (fps.getD p.2 ([], []))

def argT : Nat → List V → Option (T V)
  | _, [] => some .lf
  | i, v :: r => eb (argT (i + 1) r) fun t => t.put i v

def resO (F : FF) (H : HH) : List IRes → Option (List V)
  | [] => some []
  | .tmp t :: r => eb (F t) fun v => eb (resO F H r) fun vs => some (v :: vs)
  | .cell t ag n :: r => match F t with
    | some (.ptr b g i off) => (match H b with
      | some (.row g' _ es) => gd (decide (g' = g) && decide (i < es.length) && V.partOkB ag off n (es.getD i .undef)) (eb (resO F H r) fun vs => some (V.partV ag off n (es.getD i .undef) :: vs))
      | _ => none)
    | _ => none
def oneV : List V → V
  | [v] => v
  | vs => .tup vs

def callX (FT : Nat → Option FnI) (rec : XC → ES → Option (IExit × ES)) : CallF := fun f args h c =>
  eb (FT f) fun fi => gd (Nat.ble args.length fi.n) (eb (argT 0 args) fun fr => match rec fi.code ⟨fr, h, c⟩ with
    | some (.normal, S) => eb (resO S.fr.get S.h.get fi.rs) fun vs => some (oneV vs, S.h, S.c)
    | some (.ret, S) => eb (resO S.fr.get S.h.get fi.rs) fun vs => some (oneV vs, S.h, S.c)
    | _ => none)

def step (FT : Nat → Option FnI) (gl : Fr) (rec : XC → ES → Option (IExit × ES)) (c : XC) (S : ES) : Option (IExit × ES) :=
  match c with
  | .skip => some (.normal, S)
  | .ops l => eb (xops (callX FT rec) gl l S) fun S' => some (.normal, S')
  | .reg l chk => eb (xregs (callX FT rec) gl l S) fun z => gd (indAll z.2 chk) (some (.normal, z.1))
  | .seq a b => match rec a S with
    | some (.normal, S') => rec b S'
    | r => r
  | .cond c a b => match evF gl S.fr.get c with
    | some (.bool t) => (match t with
      | true => rec a S
      | false => rec b S)
    | _ => none
  | .block id a => match rec a S with
    | some (.exit id', S') => bif Nat.beq id' id then some (.normal, S') else some (.exit id', S')
    | r => r
  | .loop a => match rec a S with
    | some (.normal, S') => rec (.loop a) S'
    | r => r
  | .scope a => match rec a S with
    | some (.goto _, _) => none
    | r => r
  | .exit id => some (.exit id, S)
  | .goto l => some (.goto l, S)
  | .label _ => some (.normal, S)
  | .ret => some (.ret, S)

def exec (FT : Nat → Option FnI) (gl : Fr) : Nat → XC → ES → Option (IExit × ES)
  | 0 => fun _ _ => none
  | m + 1 => step FT gl (exec FT gl m)
end Go.Proofs.YtcdfifbabhfknaaDoor
