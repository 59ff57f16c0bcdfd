/- The compilation of the model's code into ideal operations. No program stands in it. Conditions: none. Memory: a new block, a block written anew, a load. No program stands in it. Conditions: none. Each ideal operation but the calls stands for the model's: first part. No program stands in it. Conditions: none. -/
import Derived.Test.YtcdfifbabhfknaaDoorBase1
import Derived.Laws.Strings
namespace Go.Proofs.YtcdfifbabhfknaaDoor
open Go
def co : Operand→IOpd
 | .tmp t=>.t t
 | .const v=>.c (vOf v)
 | .global g=>.g g
 | .func f=>.f f
def isAggD : TypeDesc→Bool
 | .struct _=>true
 | .array _ _=>true
 | _=>false
def tyOf (P : Program) (t : TypeId) : Option (Bool × Nat × Nat):=
 match P.underlying t,P.info? t with
 | some d,some i=>some (isAggD d,i.size,i.bytes)
 | _,_=>none
def zeroOf (P : Program) (t : TypeId) : Option Value:=
 match P.info? t with
 | some i=>match i.zero with
  | some z=>if z.cells.all (·.oneCell') && z.cells.size == i.size then some z else none
  | none=>none
 | none=>none
def placeOf (P : Program) (fields : Array Field) (i : Nat) : Option (Nat × Nat):=
 match fields[i]? with
 | some f=>match tyOf P f.type with
  | some (_,n,_)=>some (f.offset,n)
  | none=>none
 | none=>none
def coParts (place : Nat→Option (Nat × Nat)) : List (Nat × Operand)→Option (List (Nat × Nat × IOpd))
 | []=>some []
 | (i,x) :: r=>match place i,coParts place r with
  | some (o,n),some l=>some ((o,n,co x) :: l)
  | _,_=>none
def flatF (P : Program) (g : TypeId→Option Nat) : List Field→Nat→Option Nat
 | [],off=>some off
 | f :: r,off=>if f.name ≠ "_" ∧ f.offset = off then match g f.type with
  | some k=>flatF P g r (off + k)
  | none=>none
  else none
def flatEq (P : Program) : Nat→TypeId→Option Nat
 | 0,_=>none
 | d + 1,t=>match P.underlying t,tyOf P t with
  | some (.int _),some _=>some 1
  | some (.struct fs),some ty=>match flatF P (flatEq P d) fs.toList 0 with
   | some k=>if P.stoodInHeld t = false∧ty.2.1 = k then some k else none
   | none=>none
  | some (.array n e),some ty=>match flatEq P d e,P.info? e with
   | some k,some _=>if P.cellsOf e = k∧ty.2.1 = n * k then some (n * k) else none
   | _,_=>none
  | _,_=>none
def plainStruct (P : Program) (t : TypeId) : Option Nat:=match P.underlying t with
 | some (.struct _)=>if P.eqGuardType P.depth t = false then flatEq P 100 t else none
 | some (.array _ _)=>if P.eqGuardType P.depth t = false then flatEq P 100 t else none
 | _=>none
def comp1 (P : Program) (o : Oper) : Option IOp:=
 match o.op with
 | .move x=>some (.mv (co x))
 | .assign x=>some (.mv (co x))
 | .pick c a b=>some (.pick (co c) (co a) (co b))
 | .box _ x=>some (.box (co x))
 | .alloc t=>(zeroOf P t).map fun z=>.alloc (vOfZ z)
 | .build t ps=>match zeroOf P t,P.underlying t with
  | some z,some (.struct fields)=>
   if fields.toList.all fun f=>(tyOf P f.type).isSome then (coParts (placeOf P fields) ps.toList).map fun l=>.build (vOfZ z).cells l else none
  | some z,some (.array _ e)=>match tyOf P e with
   | some (_,n,_)=>(coParts (fun i=>some (i * n,n)) ps.toList).map fun l=>.build (vOfZ z).cells l
   | none=>none
  | _,_=>none
 | .buildSlice t len ps=>match P.underlying t with
  | some (.slice e)=>match tyOf P e,zeroOf P e with
   | some (_,n,_),some z=>if len * n ≤ 4096∧n ≠ 0 then
     (coParts (fun i=>some (i * n,n)) ps.toList).map fun l=>.buildSl n len ((List.range (len * n)).map fun i=>(vOfZ z).cells.getD (i % n) .undef) l
    else none
   | _,_=>none
  | _=>none
 | .load t a=>(tyOf P t).map fun x=>.load x.1 x.2.1 (co a)
 | .store t a x=>(tyOf P t).map fun y=>.store y.2.1 (co a) (co x)
 | .binOp op t x y _=>match op with
  | .eql=>match P.underlying t with
   | some (.int _)=>some (.bin op (co x) (co y))
   | some .string=>some (.bin op (co x) (co y))
   | some .bool=>some (.beq false (co x) (co y))
   | _=>(plainStruct P t).map fun n=>.eqs false n (co x) (co y)
  | .neq=>match P.underlying t with
   | some (.int _)=>some (.bin op (co x) (co y))
   | some .string=>some (.bin op (co x) (co y))
   | some .bool=>some (.beq true (co x) (co y))
   | _=>(plainStruct P t).map fun n=>.eqs true n (co x) (co y)
  | _=>some (.bin op (co x) (co y))
 | .unOp op _ x=>some (.un op (co x))
 | .convert s d x=>match P.underlying s,P.underlying d with
  | some (.int _),some (.int k)=>some (.conv k (co x))
  | some .string,some .string=>some (.cvs (co x))
  | some (.slice e),some .string=>match P.underlying e with
   | some (.int .u8)=>some (.b2s (co x))
   | _=>none
  | _,_=>none
 | .makeFunc (.func f) a b=>some (.mkfn f (a.toList.map co) (b.toList.map co))
 | .makeSlice t l c=>match P.underlying t with
  | some (.slice e)=>match tyOf P e,zeroOf P e with
   | some (_,n,by_),some z=>if n ≠ 0 then some (.mksl (vOfZ z).cells n by_ (co l) (co c)) else none
   | _,_=>none
  | _=>none
 | .slice t x lo hi mx=>match P.underlying t with
  | some (.slice e)=>match tyOf P e with
   | some (_,n,_)=>if n ≠ 0∧(mx.isSome = true→hi.isSome = true) then some (.slice n (co x) (lo.map co) (hi.map co) (mx.map co)) else none
   | none=>none
  | some .string=>match mx with
   | none=>some (.sliceS (co x) (lo.map co) (hi.map co))
   | some _=>none
  | _=>none
 | .fieldAddr s x i=>match P.underlying s with
  | some (.struct fields)=>match fields[i]? with
   | some f=>match tyOf P f.type with
    | some (_,n,_)=>if n = 0 then none else some (.fieldA f.offset (co x))
    | none=>none
   | none=>none
  | _=>none
 | .field s x i=>match P.underlying s with
  | some (.struct fields)=>match fields[i]? with
   | some f=>match tyOf P f.type with
    | some (ag,n,_)=>some (.field ag f.offset n (co x))
    | none=>none
   | none=>none
  | _=>none
 | .indexAddr t x i=>match P.underlying t with
  | some (.slice e)=>match tyOf P e with
   | some (_,n,_)=>if n ≠ 0 then some (.idxA n (co x) (co i)) else none
   | none=>none
  | some (.array len e)=>match tyOf P e with
   | some (_,n,_)=>some (.idxP len n (co x) (co i))
   | none=>none
  | _=>none
 | .index t x i=>match P.underlying t with
  | some (.array len e)=>match tyOf P e with
   | some (ag,n,_)=>some (.idxV ag len n (co x) (co i))
   | none=>none
  | some .string=>some (.idxS (co x) (co i))
  | _=>none
 | .extract x i=>some (.extract (co x) i)
 | .call c=>match c.callee with
  | .value f=>some (.call (co f) (c.args.toList.map co))
  | .builtin .len=>match c.argTypes.toList,c.args.toList with
   | [t],[x]=>match P.underlying t with
    | some (.slice _)=>some (.len (co x))
    | some .string=>some (.lenS (co x))
    | some (.array n _)=>some (.lenK n)
    | some (.pointer a)=>match P.underlying a with
     | some (.array n _)=>some (.lenK n)
     | _=>none
    | _=>none
   | _,_=>none
  | .builtin .cap=>match c.argTypes.toList,c.args.toList with
   | [t],[x]=>match P.underlying t with
    | some (.slice _)=>some (.cap (co x))
    | _=>none
   | _,_=>none
  | .builtin .append=>match c.argTypes.toList,c.args.toList with
   | [t,t2],[x,y]=>match P.underlying t,P.underlying t2 with
    | some (.slice e),some (.slice _)=>match tyOf P e,zeroOf P e with
     | some (_,n,by_),some z=>if n ≠ 0 then some (.app n by_ (vOfZ z).cells (co x) (co y)) else none
     | _,_=>none
    | _,_=>none
   | _,_=>none
  | .builtin .max=>match c.args.toList with
   | [x,y]=>some (.mm true (co x) (co y))
   | _=>none
  | .builtin .min=>match c.args.toList with
   | [x,y]=>some (.mm false (co x) (co y))
   | _=>none
  | _=>none
 | _=>none
def isNilC : Operand→Bool
 | .const (.slice none _ _)=>true
 | _=>false
def keyKind (P : Program) (t : TypeId) : Bool:=match P.underlying t with
 | some (.int _)=>true
 | some .string=>true
 | _=>false
def keyOfD (P : Program) (t : TypeId) : Option (Option IntKind):=match P.underlying t with
 | some (.int k)=>some (some k)
 | some .string=>some none
 | _=>none
def isIdxByte (P : Program) (f : FuncId) : Bool:=match P.funcs[f]? with
 | some fn=>fn.name == "internal/bytealg.IndexByteString" && fn.body.isNone && (Extern.findNext fn).isNone
 | none=>false
def isAdd64 (P : Program) (f : FuncId) : Bool:=match P.funcs[f]? with
 | some fn=>fn.name == "math/bits.Add64" && fn.body.isNone && (Extern.findNext fn).isNone
 | none=>false
def comp1N (P : Program) (o : Oper) : Option NOp:=
 match o.op with
 | .binOp op t x y _=>match op,P.underlying t with
  | .eql,some (.slice _)=>if isNilC y = true then some (.isnil false (co x)) else none
  | .neq,some (.slice _)=>if isNilC y = true then some (.isnil true (co x)) else none
  | _,_=>none
 | .makeMap _ none=>some .mkmap
 | .lookup t m k ok=>match P.underlying t with
  | some (.map kt et)=>if keyKind P kt = true then (zeroOf P et).map fun z=>.lookup (keyOfD P kt) ok (vOfZ z) (co m) (co k) else none
  | _=>none
 | .mapUpdate t m k v=>match P.underlying t with
  | some (.map kt _)=>if keyKind P kt = true then some (.mapup (keyOfD P kt) (co m) (co k) (co v)) else none
  | _=>none
 | .range t x=>match P.underlying t with
  | some .string=>some (.srange (co x))
  | some (.map _ _)=>some (.mrange (co x))
  | _=>none
 | .next it true=>some (.snext (co it))
 | .next it false=>some (.mnext (co it))
 | .entry it=>some (.mentry (co it))
 | .call c=>match c.callee,c.args.toList with
  | .value (.func f),[x,y]=>if isIdxByte P f = true then some (.idxByte (co x) (co y)) else none
  | .value (.func f),[x,y,z]=>if isAdd64 P f = true then some (.add64 (co x) (co y) (co z)) else none
  | .builtin .copy,[x,y]=>match c.argTypes.toList with
   | [t,t2]=>match P.underlying t,P.underlying t2 with
    | some (.slice e),some (.slice _)=>match tyOf P e with
     | some ty=>if ty.2.1 ≠ 0 then some (.cpy ty.2.1 (co x) (co y)) else none
     | none=>none
    | _,_=>none
   | _=>none
  | _,_=>none
 | .nilCheck x=>some (.nchk (co x))
 | _=>none
def comp1X (P : Program) (o : Oper) : Option IOp:=
 match comp1N P o with
 | some x=>some (.n x)
 | none=>match comp1 P o with
  | some io=>some io
  | none=>some (.n .bad)
def guardOf (ops : Array Oper) (o : Oper) : Option (Option (Nat × Bool)):=
 match o.guard with
 | none=>some none
 | some (j,want)=>match (ops[j]?).bind (·.dst) with
  | some d=>some (some (d,want))
  | none=>none
def dstOk (n : Nat) : Option Nat→Bool
 | some d=>decide (d < n)
 | none=>true
def compOp (P : Program) (n : Nat) (ops : Array Oper) (o : Oper) : Option IOper:=
 match comp1X P o,guardOf ops o with
 | some io,some g=>if dstOk n o.dst = true then some ⟨o.dst,g,io⟩ else none
 | _,_=>none
def compOps (P : Program) (n : Nat) (ops : Array Oper) : List Oper→Option (List IOper)
 | []=>some []
 | o :: r=>match compOp P n ops o,compOps P n ops r with
  | some x,some l=>some (x :: l)
  | _,_=>none
end Go.Proofs.YtcdfifbabhfknaaDoor
namespace Go.Proofs.YtcdfifbabhfknaaDoor
open Go
def upd {α : Type} (M : Nat→Option α) (b : Nat) (x : α) : Nat→Option α:=fun k=>if k = b then some x else M k
theorem upd_same {α : Type} (M : Nat→Option α) (b : Nat) (x : α) : upd M b x b = some x:=by simp [upd]
theorem upd_ne {α : Type} (M : Nat→Option α) {b k : Nat} (x : α) (h : k ≠ b) : upd M b x k = M k:=by simp [upd,h]
theorem MMap.le_upd {M : MMap} {b : Nat} {mb' : MB} (h : ∀ mb,M b = some mb→mb.gen < mb'.gen∨mb' = mb) : M.le (upd M b mb'):=by
 intro k mb hk
 by_cases hkb : k = b
 ·subst hkb
  refine ⟨mb',upd_same _ _ _,?_,?_⟩
  ·rcases h mb hk with h1 | h1
   ·omega
   ·rw [h1]; exact Nat.le_refl _
  ·intro e
   rcases h mb hk with h1 | h1
   ·omega
   ·exact h1
 ·exact ⟨mb,by rw [upd_ne _ _ hkb]; exact hk,Nat.le_refl _,fun _=>rfl⟩
theorem RowRel.mono {G G' : GMap} {M M' : MMap} {w w' : World} {mb : MB} {es : List V} (hG : G.le G') (hM : M.le M') (hw : ∀ rb,mb.real = some rb→w'.heap[rb]? = w.heap[rb]?) (h : RowRel G M w mb es) : RowRel G' M' w' mb es:=by
 unfold RowRel at *
 split at h
 ·exact h
 ·rename_i rb hn
  obtain ⟨arr,ty,h1,h2,h3,h4,h5⟩:=h
  exact ⟨arr,ty,by rw [hw rb hn]; exact h1,h2,h3,h4,fun i j hi hj=>⟨(h5 i j hi hj).1.mono hG hM,(h5 i j hi hj).2⟩⟩
theorem BlkRel.mono {G G' : GMap} {M M' : MMap} {w w' : World} {b : Nat} {k : Blk} (hG : G.le G') (hM : M.le M') (hb : M' b = M b) (hw : ∀ mb rb,M b = some mb→mb.real = some rb→w'.heap[rb]? = w.heap[rb]?)
  (h : BlkRel G M w b k) : BlkRel G' M' w' b k:=by
 cases k with
 | row g sz es=>
  obtain ⟨mb,h1,h2,h3,h4⟩:=h
  exact ⟨mb,hb ▸ h1,h2,h3,h4.mono hG hM (fun rb hr=>hw mb rb h1 hr)⟩
 | map g es=>
  obtain ⟨mb,rb,h1,h2,h3,h0,entries,clock,h4,h5,h6⟩:=h
  exact ⟨mb,rb,hb ▸ h1,h2,h3,h0,entries,clock,by rw [hw mb rb h1 h3]; exact h4,h5,fun i hi=>⟨(h6 i hi).1.mono hG hM,(h6 i hi).2.mono hG hM⟩⟩
 | siter g s pos=>
  obtain ⟨mb,rb,h1,h2,h3,h0,h4⟩:=h
  exact ⟨mb,rb,hb ▸ h1,h2,h3,h0,by rw [hw mb rb h1 h3]; exact h4⟩
 | loop g n fr ps asg body busy=>
  obtain ⟨mb,rb,h1,h2,h3,h0,r,h4,h5,h6,h7,h8,h9,h10,h11⟩:=h
  exact ⟨mb,rb,hb ▸ h1,h2,h3,h0,r,by rw [hw mb rb h1 h3]; exact h4,h5,h6,h7,h8,h9,h10,fun t v ht=>(h11 t v ht).mono hG hM⟩
 | dead g=>obtain ⟨mb,h1,h2⟩:=h; exact ⟨mb,hb ▸ h1,h2⟩
 | miter g x n seen=>
  obtain ⟨mb,rb,h1,h2,h3,h0,r,h4,h5⟩:=h
  exact ⟨mb,rb,hb ▸ h1,h2,h3,h0,r,h4.mono hG hM,by rw [hw mb rb h1 h3]; exact h5⟩
theorem Sim.change {G : GMap} {M : MMap} {h : Hp} {w w' : World} (hs : Sim G M h w) (b : Nat) (mb' : MB) (k' : Blk)
  (hgen : ∀ mb,M b = some mb→mb.gen < mb'.gen∨mb' = mb)
  (hreal : ∀ rb,mb'.real = some rb→(w.heap.size ≤ rb∧rb < w'.heap.size)∨∃ mb,M b = some mb∧mb.real = some rb)
  (hsize : w.heap.size ≤ w'.heap.size) (hkeep : ∀ k,k < w.heap.size→mb'.real ≠ some k→w'.heap[k]? = w.heap[k]?)
  (hkeep' : ∀ mb rb,M b = some mb→mb.real = some rb→True)
  (hos : w'.os = w.os) (htape : w'.tape = w.tape) (hout : w'.output = w.output)
  (hk : BlkRel G (upd M b mb') w' b k') : Sim G (upd M b mb') ((b,k') :: h) w'∧Ext G M w G (upd M b mb') w':=by
 have hle : M.le (upd M b mb'):=MMap.le_upd hgen
 have hG : ∀ k c,G k = some c→w'.heap[k]? = w.heap[k]?:=by
  intro k c hk'
  obtain ⟨ty,fz,he⟩:=hs.gw k c hk'
  have hlt : k < w.heap.size:=(Array.getElem?_eq_some_iff.1 he).1
  refine hkeep k hlt fun hc=>?_
  rcases hreal k hc with h1 | ⟨mb,h1,h2⟩
  ·omega
  ·have:=(hs.mlt b mb k h1 h2).2; rw [hk'] at this; cases this
 have hother : ∀ b2 mb rb,b2 ≠ b→M b2 = some mb→mb.real = some rb→w'.heap[rb]? = w.heap[rb]?:=by
  intro b2 mb rb hne h1 h2
  refine hkeep rb (hs.mlt b2 mb rb h1 h2).1 fun hc=>?_
  rcases hreal rb hc with h3 | ⟨mb3,h3,h4⟩
  ·have:=(hs.mlt b2 mb rb h1 h2).1; omega
  ·exact hne (hs.inj b2 b mb mb3 rb h1 h3 h2 h4)
 constructor
 ·refine ⟨fun k c hk=>?_,fun b2 k2 hk2=>?_,?_,?_⟩
  ·obtain ⟨ty,fz,he⟩:=hs.gw k c hk
   exact ⟨ty,fz,by rw [hG k c hk]; exact he⟩
  ·by_cases hb : b2 = b
   ·subst hb; simp [lk] at hk2; subst hk2; exact hk
   ·simp only [lk,if_neg hb] at hk2
    exact (hs.hb b2 k2 hk2).mono G.le_refl hle (upd_ne _ _ hb) (fun mb rb h1 h2=>hother b2 mb rb hb h1 h2)
  ·intro b1 b2 m1 m2 rb h1 h2 r1 r2
   by_cases e1 : b1 = b <;> by_cases e2 : b2 = b
   ·rw [e1,e2]
   ·subst e1; rw [upd_same] at h1; cases h1; rw [upd_ne _ _ e2] at h2
    rcases hreal rb r1 with h3 | ⟨mb3,h3,h4⟩
    ·have:=(hs.mlt b2 m2 rb h2 r2).1; omega
    ·exact hs.inj _ _ _ _ _ h3 h2 h4 r2
   ·subst e2; rw [upd_same] at h2; cases h2; rw [upd_ne _ _ e1] at h1
    rcases hreal rb r2 with h3 | ⟨mb3,h3,h4⟩
    ·have:=(hs.mlt b1 m1 rb h1 r1).1; omega
    ·exact hs.inj _ _ _ _ _ h1 h3 r1 h4
   ·rw [upd_ne _ _ e1] at h1; rw [upd_ne _ _ e2] at h2; exact hs.inj _ _ _ _ _ h1 h2 r1 r2
  ·intro b1 m1 rb h1 r1
   by_cases e1 : b1 = b
   ·subst e1; rw [upd_same] at h1; cases h1
    rcases hreal rb r1 with h3 | ⟨mb3,h3,h4⟩
    ·refine ⟨h3.2,?_⟩
     cases hg : G rb with
     | none=>rfl
     | some c=>
      obtain ⟨ty,fz,he⟩:=hs.gw rb c hg
      have:=(Array.getElem?_eq_some_iff.1 he).1; omega
    ·have:=hs.mlt _ mb3 rb h3 h4; exact ⟨by omega,this.2⟩
   ·rw [upd_ne _ _ e1] at h1; have:=hs.mlt _ m1 rb h1 r1; exact ⟨by omega,this.2⟩
 ·refine ⟨G.le_refl,fun _ _ h=>.inl h,hle,?_,hos,htape,hout,hsize,?_⟩
  ·rintro k ⟨b1,m1,h1,r1⟩
   by_cases e1 : b1 = b
   ·subst e1; rw [upd_same] at h1; cases h1
    rcases hreal k r1 with h3 | ⟨mb3,h3,h4⟩
    ·exact .inl h3.1
    ·exact .inr ⟨_,mb3,h3,h4⟩
   ·rw [upd_ne _ _ e1] at h1; exact .inr ⟨b1,m1,h1,r1⟩
  ·intro k hk ho
   refine hkeep k hk fun hc=>?_
   rcases hreal k hc with h3 | ⟨mb3,h3,h4⟩
   ·omega
   ·exact ho ⟨_,mb3,h3,h4⟩
theorem heap_setRow_ne (w : World) (g k : Nat) (cs : Array Value) (h : k ≠ g) : (w.setRow g cs).heap[k]? = w.heap[k]?:=by
 simp only [World.setRow,Array.getElem?_modify]
 rw [if_neg (by omega)]
theorem size_setRow (w : World) (g : Nat) (cs : Array Value) : (w.setRow g cs).heap.size = w.heap.size:=by simp [World.setRow]
theorem Sim.alloc {G : GMap} {M : MMap} {h : Hp} {w : World} (hs : Sim G M h w) (b : Nat) (arr : Array Value) (ty : TypeId) (sz room : Nat) (es : List V)
  (h1 : room * sz ≤ arr.size) (h2 : es.length ≤ room) (h3 : ∀ i,i < es.length→(es.getD i .undef).cells.length = sz)
  (h4 : ∀ i j,i < es.length→j < sz→RelV G M ((es.getD i .undef).cells.getD j .undef) (arr.getD (i * sz + j) undef)∧(arr.getD (i * sz + j) undef).oneCell' = true) :
  Sim G (upd M b ⟨freshGen M b,sz,room,0,some w.heap.size⟩) ((b,.row (freshGen M b) sz es) :: h) (w.alloc (.cells arr ty))∧
  Ext G M w G (upd M b ⟨freshGen M b,sz,room,0,some w.heap.size⟩) (w.alloc (.cells arr ty)):=by
 have hgen : ∀ mb,M b = some mb→mb.gen < (⟨freshGen M b,sz,room,0,some w.heap.size⟩ : MB).gen∨(⟨freshGen M b,sz,room,0,some w.heap.size⟩ : MB) = mb:=by
  intro mb hb; left; simp [freshGen,hb]
 refine hs.change b _ _ hgen ?_ (by simp) ?_ (fun _ _ _ _=>trivial) rfl rfl rfl ?_
 ·intro rb hrb; left; cases hrb; simp
 ·intro k hk _
  show (w.heap.push _)[k]? = _
  rw [Array.getElem?_push,if_neg (by omega)]
 ·refine ⟨_,upd_same _ _ _,rfl,rfl,?_⟩
  simp only [RowRel]
  refine ⟨arr,ty,?_,by simpa using h1,h2,h3,fun i j hi hj=>?_⟩
  ·show (w.heap.push _)[_]? = _
   simp
  ·have:=h4 i j hi hj
   rw [Nat.zero_add]
   exact ⟨this.1.mono G.le_refl (MMap.le_upd hgen),this.2⟩
theorem getD_toArray (l : List Value) (i : Nat) : (l.toArray).getD i undef = l.getD i undef:=by
 simp [Array.getD_eq_getD_getElem?,List.getD_eq_getElem?_getD]
theorem cell_of_row {w : World} {k : Nat} {c : Array Value} {ty : TypeId} {fz : Nat × Nat} (h : w.heap[k]? = some (.cells c ty fz)) (o : Nat) (ho : o < c.size) : w.cell? ⟨k,o,none⟩ = some (c.getD o undef):=by
 simp [World.cell?,h,Array.getD_eq_getD_getElem?,ho]
def Pointee (G : GMap) (M : MMap) (w : World) (x : V) (off : Nat) (r : Value) : Prop:=
 ∃ rb o,r = .pointer (some ⟨rb,o + off,none⟩)∧∀ j,j < x.cells.length→∃ u,w.cell? ⟨rb,o + j,none⟩ = some u∧RelV G M (x.cells.getD j .undef) u∧u.oneCell' = true
theorem pointee_iptr {G : GMap} {M : MMap} {h : Hp} {w : World} (hs : Sim G M h w) {x : V} {off : Nat} {r : Value} (hr : RelV G M (.iptr x off) r) : Pointee G M w x off r:=by
 cases hr with
 | iptr _ _ rb ro cells hG hb hh ho=>
  obtain ⟨ty,fz,he⟩:=hs.gw rb cells hG
  exact ⟨rb,ro,rfl,fun j hj=>⟨_,cell_of_row he (ro + j) (by omega),hh j hj,ho j hj⟩⟩
theorem own_ptr {G : GMap} {M : MMap} {h : Hp} {w : World} (hs : Sim G M h w) {b g i off : Nat} {r : Value} {sz : Nat} {es : List V}
  (hr : RelV G M (.ptr b g i off) r) (hb : lk h b = some (.row g sz es)) (_hi : i < es.length) :
  ∃ mb rb arr ty,M b = some mb∧mb.gen = g∧mb.sz = sz∧mb.real = some rb∧r = .pointer (some ⟨rb,mb.base + i * sz + off,none⟩)∧w.heap[rb]? = some (.cells arr ty (0,0))∧
   mb.base + mb.room * sz ≤ arr.size∧es.length ≤ mb.room∧(∀ i,i < es.length→(es.getD i .undef).cells.length = sz)∧
   ∀ i j,i < es.length→j < sz→RelV G M ((es.getD i .undef).cells.getD j .undef) (arr.getD (mb.base + i * sz + j) undef)∧(arr.getD (mb.base + i * sz + j) undef).oneCell' = true:=by
 obtain ⟨mb,h1,h2,h3,h4⟩:=hs.hb b _ hb
 cases hr with
 | ptr _ _ _ _ ad mb' hM hg hh=>
  rw [h1] at hM; cases hM
  obtain ⟨rb,hr1,rfl⟩:=hh h2.symm
  simp only [RowRel,hr1] at h4
  obtain ⟨arr,ty,q1,q2,q3,q4,q5⟩:=h4
  subst h3
  exact ⟨mb,rb,arr,ty,h1,h2,rfl,hr1,rfl,q1,q2,q3,q4,q5⟩
theorem elem_bound {i sz len room : Nat} (hi : i < len) (hl : len ≤ room) : i * sz + sz ≤ room * sz:=by
 have : (i + 1) * sz ≤ room * sz:=Nat.mul_le_mul_right _ (by omega)
 rw [Nat.add_mul] at this; omega
theorem pointee_ptr {G : GMap} {M : MMap} {h : Hp} {w : World} (hs : Sim G M h w) {b g i off : Nat} {r : Value} {sz : Nat} {es : List V}
  (hr : RelV G M (.ptr b g i off) r) (hb : lk h b = some (.row g sz es)) (hi : i < es.length) : Pointee G M w (es.getD i .undef) off r:=by
 obtain ⟨mb,rb,arr,ty,h1,h2,h3,h4,h5,h6,h7,h8,h9,h10⟩:=own_ptr hs hr hb hi
 refine ⟨rb,mb.base + i * sz,h5,fun j hj=>?_⟩
 rw [h9 i hi] at hj
 have:=elem_bound (sz:=sz) hi h8
 exact ⟨_,cell_of_row h6 (mb.base + i * sz + j) (by omega),h10 i j hi hj⟩
theorem run_isAgg {P : Program} {w : World} {t : TypeId} {d : TypeDesc} (h : P.underlying t = some d) :
  (isAgg t).run P w = .ok (isAggD d) w:=by
 simp only [isAgg,underlying,Sem.run_bind,run_program,Result.andThen_ok,h,Sem.run_pure]
 cases d <;> rfl
theorem tyOf_spec {P : Program} {t : TypeId} {ag : Bool} {n by_ : Nat} (h : tyOf P t = some (ag,n,by_)) :
  (∀ w,(isAgg t).run P w = .ok ag w)∧(∀ w,(sizeOf t).run P w = .ok n w)∧(∀ w,∃ i,(typeInfo t).run P w = .ok i w∧i.bytes = by_∧i.size = n∧P.info? t = some i):=by
 unfold tyOf at h
 split at h
 ·rename_i d i hd hi
  simp only [Option.some.injEq,Prod.mk.injEq] at h
  obtain ⟨rfl,rfl,rfl⟩:=h
  refine ⟨fun w=>by rw [run_isAgg hd],fun w=>by simp [sizeOf,typeInfo,hi],fun w=>⟨i,by simp [typeInfo,hi],rfl,rfl,hi⟩⟩
 ·cases h
theorem run_loadVar_part {P : Program} {G : GMap} {M : MMap} {w : World} {t : TypeId} {ag : Bool} {n by_ : Nat} (ht : tyOf P t = some (ag,n,by_)) {x : V} {off : Nat} {r : Value}
  (hp : Pointee G M w x off r) (hv : V.partOk ag off n x) : ∃ rv,(Instr.loadAt t r).run P w = .ok rv w∧RelV G M (V.partV ag off n x) rv:=by
 obtain ⟨hag,hsz,-⟩:=tyOf_spec ht
 obtain ⟨rb,o,rfl,hc⟩:=hp
 cases ag with
 | true=>
  have hle : off + n ≤ x.cells.length:=hv
  have hcell : ∀ j,j < n→w.cell? ((⟨rb,o + off,none⟩ : Addr).add j) = some ((w.cell? ⟨rb,o + (off + j),none⟩).getD undef):=by
   intro j hj
   obtain ⟨u,hu,-⟩:=hc (off + j) (by omega)
   rw [Addr.add_lit,show o + off + j = o + (off + j) from by omega,hu]; rfl
  have hrun:=run_loadCells (P:=P) w ⟨rb,o + off,none⟩ n (fun j=>(w.cell? ⟨rb,o + (off + j),none⟩).getD undef) hcell
  refine ⟨_,by simp only [Instr.loadAt,Instr.sureAddr,loadVar,Sem.run_bind,Sem.run_pure,Result.andThen_ok,hag,hsz,if_true,hrun]; rfl,?_⟩
  refine .agg _ _ (by simp; omega) (fun i hi=>?_) (fun i hi=>?_)
  all_goals
   have hi' : i < n:=by simp at hi; omega
   obtain ⟨u,hu,hru,hou⟩:=hc (off + i) (by omega)
   simp only [getD_toArray,List.getD_eq_getElem?_getD,List.getElem?_map,List.getElem?_range hi',Option.map_some,Option.getD_some,hu]
  ·simp only [List.getElem?_take,if_pos hi',List.getElem?_drop]
   rw [List.getD_eq_getElem?_getD] at hru; exact hru
  ·exact hou
 | false=>
  have hlt : off < x.cells.length:=hv
  obtain ⟨u,hu,hru,hou⟩:=hc off hlt
  exact ⟨u,by simp [Instr.loadAt,Instr.sureAddr,loadVar,hag,hu],hru⟩
end Go.Proofs.YtcdfifbabhfknaaDoor
namespace Go.Proofs.YtcdfifbabhfknaaDoor
open Go
def RelCells (G : GMap) (M : MMap) (l : List V) (arr : Array Value) : Prop:=
 arr.size = l.length∧∀ i,i < l.length→RelV G M (l.getD i .undef) (arr.getD i undef)∧(arr.getD i undef).oneCell' = true
def OpPost (h : Hp) (id : Nat) (K : V→Hp→Prop) (G : GMap) (M : MMap) (w : World) (o : Oper) (a : Act) : Act→World→Prop:=fun a' w'=>
 ∃ v h' rv G' M',K v h'∧a' = a.put o.dst rv∧RelV G' M' v rv∧Sim G' M' h' w'∧Ext G M w G' M' w'∧∀ b,b ≠ id→lk h b = none→freshGen M' b = freshGen M b
def PurePost (K : V→Hp→Prop) (G : GMap) (M : MMap) (w : World) (o : Oper) (a : Act) (h : Hp) : Act→World→Prop:=fun a' w'=>
 ∃ v rv,K v h∧a' = a.put o.dst rv∧RelV G M v rv∧w' = w
section
variable {P : Program} {gl : Fr} {bs n : Nat} {fr : Fr} {h : Hp} {G : GMap} {M : MMap} {a : Act} {w : World}
theorem ev_co (hr : R bs n gl G M fr h a w) {x : Operand} {v : V} (hx : ev gl fr (co x) = some v) : RelV G M v (a.eval x):=by
 cases x with
 | tmp t=>exact hr.frr t v hx
 | const c=>simp only [co,ev,Option.some.injEq] at hx; subst hx; exact relV_vOf G M c
 | global g=>exact ((hr.gl g v hx).2).mono G.le_refl (fun _ _ h=>by cases h)
 | func f=>
  simp only [co,ev,Option.some.injEq] at hx; subst hx
  exact .fn f [] [] #[] #[] rfl rfl (fun i hi=>by cases hi) (fun i hi=>by cases hi)
theorem evN_co (hr : R bs n gl G M fr h a w) {x : Operand} {v : V} (hx : evN gl fr (co x) = some v) : RelV G M v (a.eval x):=by
 unfold evN at hx
 cases hv : ev gl fr (co x) with
 | none=>rw [hv] at hx; cases hx
 | some u=>rw [hv] at hx; cases hx; exact (ev_co hr hv).norm
theorem fin_value {id : Nat} {o : Oper} {Q : Exit→Act→World→Prop} {K : V→Hp→Prop} {rv : Value} {v : V} {w' : World} {h' : Hp} {G' : GMap} {M' : MMap}
  (hrun : (execOp a.eval o).run P w = .ok (.value rv) w') (hK : K v h') (hv : RelV G' M' v rv) (hs : Sim G' M' h' w') (hx : Ext G M w G' M' w') (hf : ∀ b,b ≠ id→lk h b = none→freshGen M' b = freshGen M b) : o.wp P a w (OpPost h id K G M w o a) Q:=by
 unfold Oper.wp
 rw [hrun]
 exact ⟨v,h',rv,G',M',hK,rfl,hv,hs,hx,hf⟩
theorem fin_pure (_hr : R bs n gl G M fr h a w) {o : Oper} {Q : Exit→Act→World→Prop} {K : V→Hp→Prop} {rv : Value} {v : V}
  (hrun : (execOp a.eval o).run P w = .ok (.value rv) w) (hK : K v h) (hv : RelV G M v rv) : o.wp P a w (PurePost K G M w o a h) Q:=by
 unfold Oper.wp
 rw [hrun]
 exact ⟨v,rv,hK,rfl,hv,rfl⟩
theorem pure_up (hr : R bs n gl G M fr h a w) {id : Nat} {o : Oper} {Q : Exit→Act→World→Prop} {K : V→Hp→Prop} (hp : o.wp P a w (PurePost K G M w o a h) Q) : o.wp P a w (OpPost h id K G M w o a) Q:=
 Oper.wp_mono (fun _ _ ⟨v,rv,h1,h2,h3,h4⟩=>⟨v,h,rv,G,M,h1,h2,h3,h4 ▸ hr.sim,h4 ▸ .refl _ _ _,fun _ _ _=>rfl⟩) hp
theorem fin_skip {id : Nat} {o : Oper} {Q : Exit→Act→World→Prop} {K : V→Hp→Prop} {w' : World} {h' : Hp} {G' : GMap} {M' : MMap}
  (hrun : (execOp a.eval o).run P w = .ok .skip w') (hK : K .undef h') (hs : Sim G' M' h' w') (hx : Ext G M w G' M' w') (hf : ∀ b,b ≠ id→lk h b = none→freshGen M' b = freshGen M b) : o.wp P a w (OpPost h id K G M w o a) Q:=by
 unfold Oper.wp
 rw [hrun]
 exact ⟨_,h',undef,G',M',hK,rfl,.undef _,hs,hx,hf⟩
theorem relV_int_inv {k : IntKind} {x : Int} {r : Value} (h : RelV G M (.int k x) r) : r = .int k x:=by cases h; rfl
theorem relV_bool_inv {b : Bool} {r : Value} (h : RelV G M (.bool b) r) : r = .bool b:=by cases h; rfl
theorem relV_str_inv {s : List UInt8} {r : Value} (h : RelV G M (.str s) r) : r = .string ⟨s.toArray⟩:=by cases h; rfl
theorem relV_agg_inv {cs : List V} {r : Value} (h : RelV G M (.agg cs) r) : ∃ arr,r = .agg arr∧RelCells G M cs arr:=by
 cases h with
 | agg _ arr hs hh ho=>exact ⟨arr,rfl,hs,fun i hi=>⟨hh i hi,ho i hi⟩⟩
theorem relV_agg {cs : List V} {arr : Array Value} (h : RelCells G M cs arr) : RelV G M (.agg cs) (.agg arr):=.agg _ _ h.1 (fun i hi=>(h.2 i hi).1) (fun i hi=>(h.2 i hi).2)
theorem run_part {t : TypeId} {ag : Bool} {m by_ : Nat} (ht : tyOf P t = some (ag,m,by_)) {cs : List V} {arr : Array Value} (hc : RelCells G M cs arr) {off : Nat}
  (hv : V.partOk ag off m (.agg cs)) : ∃ rv,(part t arr off).run P w = .ok rv w∧RelV G M (V.partV ag off m (.agg cs)) rv:=by
 obtain ⟨hag,hsz,-⟩:=tyOf_spec ht
 cases ag with
 | true=>
  have hle : off + m ≤ cs.length:=hv
  refine ⟨.agg (arr.extract off (off + m)),by simp [part,hag,hsz],relV_agg ⟨by simp [hc.1,V.cells]; omega,fun i hi=>?_⟩⟩
  have hi' : i < m:=by simp at hi; omega
  have:=hc.2 (off + i) (by omega)
  have e1 : (arr.extract off (off + m)).getD i undef = arr.getD (off + i) undef:=by
   simp only [Array.getD_eq_getD_getElem?,Array.getElem?_extract]
   rw [if_pos (by have:=hc.1; omega)]
  have e2 : (((V.agg cs).cells.drop off).take m).getD i .undef = cs.getD (off + i) .undef:=by
   simp only [V.cells,List.getD_eq_getElem?_getD,List.getElem?_take,if_pos hi',List.getElem?_drop]
  rw [e1,e2]; exact this
 | false=>
  have hlt : off < cs.length:=hv
  have:=hc.2 off hlt
  have hlt' : off < arr.size:=by have:=hc.1; omega
  refine ⟨arr.getD off undef,?_,this.1⟩
  simp [part,hag,hlt',Array.getD_eq_getD_getElem?]
theorem sound_mv (hr : R bs n gl G M fr h a w) {o : Oper} {x : Operand} {Q : Exit→Act→World→Prop} {K : V→Hp→Prop} (ho : o.op = .move x∨o.op = .assign x) {id : Nat}
  (hi : istep P gl id fr h K (.mv (co x))) : o.wp P a w (PurePost K G M w o a h) Q:=by
 simp only [istep] at hi
 split at hi
 ·rename_i v hv
  refine fin_pure hr (rv:=a.eval x) ?_ hi (ev_co hr hv)
  rcases ho with ho | ho <;> simp [execOp,ho]
 ·exact hi.elim
theorem sound_pick (hr : R bs n gl G M fr h a w) {o : Oper} {c x y : Operand} {Q : Exit→Act→World→Prop} {K : V→Hp→Prop} (ho : o.op = .pick c x y) {id : Nat}
  (hi : istep P gl id fr h K (.pick (co c) (co x) (co y))) : o.wp P a w (PurePost K G M w o a h) Q:=by
 simp only [istep] at hi
 split at hi
 ·rename_i t ht
  have hc:=relV_bool_inv (ev_co hr ht)
  cases t with
  | true=>
   have h1:=hi.1 rfl
   split at h1
   ·rename_i v hv
    exact fin_pure hr (rv:=a.eval x) (by simp [execOp,ho,hc,asBool]) h1 (ev_co hr hv)
   ·exact h1.elim
  | false=>
   have h1:=hi.2 rfl
   split at h1
   ·rename_i v hv
    exact fin_pure hr (rv:=a.eval y) (by simp [execOp,ho,hc,asBool]) h1 (ev_co hr hv)
   ·exact h1.elim
 ·exact hi.elim
def QPost (G : GMap) (M : MMap) (w : World) (dst : Option Nat) (a : Act) (id : Nat) (v : V) (b : Option Blk) : Act→World→Prop:=fun a' w'=>
 ∃ rv G' M',a' = a.put dst rv∧RelV G' M' v rv∧(∀ h,Sim G M h w→Sim G' M' (match b with | some k=>(id,k) :: h | none=>h) w')∧Ext G M w G' M' w'∧∀ i,i ≠ id∨b = none→freshGen M' i = freshGen M i
theorem freshGen_upd (M : MMap) (b i : Nat) (mb : MB) (h : i ≠ b) : freshGen (upd M b mb) i = freshGen M i:=by
 simp [freshGen,upd_ne _ _ h]
theorem fin_q {o : Oper} {Q : Exit→Act→World→Prop} {rv : Value} {v : V} {w' : World} {G' : GMap} {M' : MMap} {id : Nat} {b : Option Blk}
  (hrun : (execOp a.eval o).run P w = .ok (.value rv) w') (hv : RelV G' M' v rv) (hs : ∀ h,Sim G M h w→Sim G' M' (match b with | some k=>(id,k) :: h | none=>h) w') (hx : Ext G M w G' M' w')
  (hf : ∀ i,i ≠ id∨b = none→freshGen M' i = freshGen M i) : o.wp P a w (QPost G M w o.dst a id v b) Q:=by
 unfold Oper.wp
 rw [hrun]
 exact ⟨rv,G',M',rfl,hv,hs,hx,hf⟩
theorem q_up (hr : R bs n gl G M fr h a w) {o : Oper} {Q : Exit→Act→World→Prop} {K : V→Hp→Prop} {id : Nat} {v : V} {k : Blk} (hp : o.wp P a w (QPost G M w o.dst a id v (some k)) Q) (hK : K v ((id,k) :: h)) : o.wp P a w (OpPost h id K G M w o a) Q:=
 Oper.wp_mono (fun _ _ ⟨rv,G',M',h1,h2,h3,h4,h5⟩=>⟨v,_,rv,G',M',hK,h1,h2,h3 h hr.sim,h4,fun b hb _=>h5 b (.inl hb)⟩) hp
theorem relCells_getD1 {x : V} {r : Value} (hx : RelV G M x r) (hc : x.cellsOk = true) : r.cells.size = x.cells.length∧
  ∀ i j,i < 1→j < x.cells.length→RelV G M (([x].getD i .undef).cells.getD j .undef) (r.cells.getD (i * x.cells.length + j) undef)∧(r.cells.getD (i * x.cells.length + j) undef).oneCell' = true:=by
 obtain ⟨h1,h2⟩:=hx.cells hc
 refine ⟨h1,fun i j hi hj=>?_⟩
 obtain rfl : i = 0:=by omega
 rw [Nat.zero_mul,Nat.zero_add]; exact h2 j hj
theorem q_new {o : Oper} {t : TypeId} {x : V} {r : Value} (hs : Sim G M h w) (hx : RelV G M x r) (hc : x.cellsOk = true) (id : Nat)
  (hrun : ∀ ad w',(newVar t r).run P w = .ok ad w'→(execOp a.eval o).run P w = .ok (.value (.pointer (some ad))) w') {Q : Exit→Act→World→Prop} :
  o.wp P a w (QPost G M w o.dst a id (.ptr id (freshGen M id) 0 0) (some (.row (freshGen M id) x.cells.length [x]))) Q:=by
 obtain ⟨h1,h2⟩:=relCells_getD1 hx hc
 have al : ∀ h,Sim G M h w→_:=fun h (hs : Sim G M h w)=>hs.alloc id r.cells t x.cells.length 1 [x] (by omega) (by simp) (by simp) (by simpa using h2)
 refine fin_q (hrun ⟨w.heap.size,0,none⟩ (w.alloc (.cells r.cells t)) (by simp [newVar,newRow])) ?_ (fun h hs=>(al h hs).1) (al h hs).2 (fun i hi=>freshGen_upd _ _ _ _ (by rcases hi with hi | hi <;> first | exact hi | cases hi))
 exact .ptr _ _ _ _ _ _ (upd_same _ _ _) (Nat.le_refl _) fun _=>⟨w.heap.size,rfl,by simp⟩
theorem q_box (hr : R bs n gl G M fr h a w) {o : Oper} {t : TypeId} {x : Operand} {Q : Exit→Act→World→Prop} (ho : o.op = .box t x) {id : Nat} {v : V} (hv : ev gl fr (co x) = some v) (hc : v.cellsOk = true) :
  o.wp P a w (QPost G M w o.dst a id (.ptr id (freshGen M id) 0 0) (some (.row (freshGen M id) v.cells.length [v]))) Q:=
 q_new (t:=t) hr.sim (ev_co hr hv) hc id (fun ad w' hn=>by simp [execOp,ho,Instr.box,hn])
theorem sound_box (hr : R bs n gl G M fr h a w) {o : Oper} {t : TypeId} {x : Operand} {Q : Exit→Act→World→Prop} {K : V→Hp→Prop} (ho : o.op = .box t x) {id : Nat}
  (hi : istep P gl id fr h K (.box (co x))) : o.wp P a w (OpPost h id K G M w o a) Q:=by
 simp only [istep] at hi
 split at hi
 ·rename_i v hv
  exact q_up hr (q_box hr ho hv hi.1) (hi.2 _)
 ·exact hi.elim
theorem vOfZL_eq (l : List Value) : vOfZL l = l.map vOf:=by
 induction l with
 | nil=>rfl
 | cons a r ih=>simp [vOfZL,ih]
theorem vOf_cells (z : Value) : (vOf z).cells = [vOf z]:=by
 unfold vOf; split <;> rfl
theorem vOfZ_not_agg {z : Value} (hz : ∀ arr,z ≠ .agg arr) : vOfZ z = vOf z:=by
 cases z <;> first
  | rfl
  | exact absurd rfl (hz _)
theorem vOfZ_cells (z : Value) : (vOfZ z).cells = z.cells.toList.map vOf:=by
 by_cases ha : ∃ arr,z = .agg arr
 ·obtain ⟨arr,rfl⟩:=ha
  simp [vOfZ,V.cells,Value.cells,vOfZL_eq]
 ·rw [vOfZ_not_agg (fun arr e=>ha ⟨arr,e⟩),vOf_cells]
  have : z.cells = #[z]:=by cases z <;> first | rfl | exact absurd ⟨_,rfl⟩ ha
  rw [this]; rfl
theorem relV_vOfZ (G : GMap) (M : MMap) {z : Value} (hz : z.cells.all (·.oneCell') = true) : RelV G M (vOfZ z) z:=by
 by_cases ha : ∃ arr,z = .agg arr
 ·obtain ⟨arr,rfl⟩:=ha
  simp only [vOfZ,vOfZL_eq]
  refine relV_agg ⟨by simp,fun i hi=>?_⟩
  have hi' : i < arr.size:=by simpa using hi
  have e1 : (arr.toList.map vOf).getD i .undef = vOf (arr.getD i undef):=by
   simp [List.getD_eq_getElem?_getD,Array.getD_eq_getD_getElem?,hi']
  rw [e1]
  refine ⟨relV_vOf _ _ _,?_⟩
  simp only [Value.cells,Array.all_eq_true] at hz
  simpa [Array.getD_eq_getD_getElem?,hi'] using hz i hi'
 ·rw [vOfZ_not_agg (fun arr e=>ha ⟨arr,e⟩)]; exact relV_vOf _ _ _
theorem zeroOf_spec {t : TypeId} {z : Value} (hz : zeroOf P t = some z) : (∀ w,(zeroValue t).run P w = .ok z w)∧z.cells.all (·.oneCell') = true∧(∃ i,P.info? t = some i∧z.cells.size = i.size):=by
 unfold zeroOf at hz
 split at hz
 ·rename_i i hi
  split at hz
  ·rename_i z' hz'
   split at hz
   ·rename_i hc
    cases hz
    simp only [Bool.and_eq_true,beq_iff_eq] at hc
    exact ⟨fun w=>by simp [zeroValue,typeInfo,hi,hz'],hc.1,i,hi,hc.2⟩
   ·cases hz
  ·cases hz
 ·cases hz
theorem q_alloc (hr : R bs n gl G M fr h a w) {o : Oper} {t : TypeId} {z : Value} {Q : Exit→Act→World→Prop} (ho : o.op = .alloc t) (hz : zeroOf P t = some z) {id : Nat} (hc : (vOfZ z).cellsOk = true) :
  o.wp P a w (QPost G M w o.dst a id (.ptr id (freshGen M id) 0 0) (some (.row (freshGen M id) (vOfZ z).cells.length [vOfZ z]))) Q:=by
 obtain ⟨h1,h2,-⟩:=zeroOf_spec hz
 exact q_new (t:=t) hr.sim (relV_vOfZ G M h2) hc id (fun ad w' hn=>by simp [execOp,ho,Instr.alloc,h1,hn])
theorem sound_alloc (hr : R bs n gl G M fr h a w) {o : Oper} {t : TypeId} {z : Value} {Q : Exit→Act→World→Prop} {K : V→Hp→Prop} (ho : o.op = .alloc t) (hz : zeroOf P t = some z) {id : Nat}
  (hi : istep P gl id fr h K (.alloc (vOfZ z))) : o.wp P a w (OpPost h id K G M w o a) Q:=
 q_up hr (q_alloc hr ho hz hi.1) (hi.2 _)
theorem sound_load (hr : R bs n gl G M fr h a w) {o : Oper} {t : TypeId} {x : Operand} {ty : Bool × Nat × Nat} {Q : Exit→Act→World→Prop} {K : V→Hp→Prop} (ho : o.op = .load t x) (ht : tyOf P t = some ty) {id : Nat}
  (hi : istep P gl id fr h K (.load ty.1 ty.2.1 (co x))) : o.wp P a w (PurePost K G M w o a h) Q:=by
 simp only [istep] at hi
 split at hi
 ·rename_i y off hy
  obtain ⟨rv,h1,h2⟩:=run_loadVar_part (by rw [ht]) (pointee_iptr hr.sim (ev_co hr hy)) hi.1
  exact fin_pure hr (by simp [execOp,ho,h1]) hi.2 h2
 ·rename_i b g i off hy
  split at hi
  ·rename_i g' sz es hb
   obtain ⟨rfl,hlt,hv,hi⟩:=hi
   obtain ⟨rv,h1,h2⟩:=run_loadVar_part (by rw [ht]) (pointee_ptr hr.sim (ev_co hr hy) hb hlt) hv
   exact fin_pure hr (by simp [execOp,ho,h1]) hi h2
  ·exact hi.elim
 ·exact hi.elim
theorem sound_bin (hr : R bs n gl G M fr h a w) {o : Oper} {op : BinOp} {t yt : TypeId} {x y : Operand} {Q : Exit→Act→World→Prop} {K : V→Hp→Prop} (ho : o.op = .binOp op t x y yt) {id : Nat}
    (hi : istep P gl id fr h K (.bin op (co x) (co y))) : o.wp P a w (PurePost K G M w o a h) Q:=by
  simp only [istep] at hi
  split at hi
  · rename_i va vb hx hy
    have rx:=ev_co hr hx
    have ry:=ev_co hr hy
    unfold binW at hi
    split at hi
    · rename_i k p k' q
      have ex:=relV_int_inv rx
      have ey:=relV_int_inv ry
      cases op <;> simp only [] at hi <;> first
        | exact hi.elim
        | (obtain ⟨rfl,hi⟩:=hi
           refine fin_pure hr ?_ hi (.int _ _)
           simp [execOp,ho,ex,ey,binOp,Op.intArith,eqGuard]
           done)
        | (obtain ⟨rfl,hi⟩:=hi
           refine fin_pure hr ?_ hi (.bool _)
           simp [execOp,ho,ex,ey,binOp,Op.intCmp,eqGuard]
           try (first | rfl | (rw [Bool.eq_iff_iff]; simp))
           done)
        | (obtain ⟨rfl,hi⟩:=hi
           refine fin_pure hr ?_ hi (.int _ _)
           simp [execOp,ho,ex,ey,binOp,Op.intBits,eqGuard,bitsI]
           done)
        | (obtain ⟨rfl,hne,hi⟩:=hi
           refine fin_pure hr ?_ hi (.int _ _)
           simp [execOp,ho,ex,ey,binOp,Op.intDiv,eqGuard,hne]
           done)
        | (obtain ⟨hne,hi⟩:=hi
           refine fin_pure hr ?_ hi (.int _ _)
           simp [execOp,ho,ex,ey,binOp,Op.shift,eqGuard]
           omega)
    · rename_i p q
      have ex:=relV_str_inv rx
      have ey:=relV_str_inv ry
      cases op <;> simp only [] at hi <;> first
        | exact hi.elim
        | skip
      · obtain ⟨hlen,hi⟩:=hi
        refine fin_pure hr (rv:=.string ⟨(p ++ q).toArray⟩) ?_ hi (.str _)
        simp only [execOp,ho,ex,ey,binOp,Op.stringOp,eqGuard]
        have hsz : ¬ (((⟨p.toArray⟩ : ByteArray).size + (⟨q.toArray⟩ : ByteArray).size : Nat) : Int) > IntKind.i64.max:=by
          simp only [ByteArray.size,List.size_toArray]
          have : IntKind.i64.max = 9223372036854775807:=by decide
          rw [this]; omega
        have hap : (⟨p.toArray⟩ : ByteArray) ++ (⟨q.toArray⟩ : ByteArray) = ⟨(p ++ q).toArray⟩:=by
          apply ByteArray.ext; simp
        rw [if_neg hsz,hap]
        simp
      all_goals
        refine fin_pure hr ?_ hi (.bool _)
        simp [execOp,ho,ex,ey,binOp,Op.stringOp,eqGuard,ByteArray.toList_mk]
        try (rw [Bool.eq_iff_iff]; simp)
    · exact hi.elim
  · exact hi.elim
end
end Go.Proofs.YtcdfifbabhfknaaDoor
