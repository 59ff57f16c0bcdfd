/- Netlists: contracts, a copy taken for what it holds; same. Conditions: none. Netlists: contracts, the law Check. Conditions: none. -/
import Derived.Test.YtcmblmkbdenakaaDoorNet9
set_option linter.unusedSimpArgs false
set_option linter.unusedVariables false
namespace Go.Proofs.YtcmblmkbdenakaaDoor
open Go
theorem VLe.agg {a b : List V} (h : AllLe a b) : VLe (.agg a) (.agg b):=fun G M r hr=>by
 obtain ⟨h1,h2⟩:=h.spec
 cases hr with
 | agg _ arr hs q ho=>exact .agg b arr (by rw [hs,h1]) (fun i hi=>h2 i G M _ (q i (by omega))) (fun i hi=>ho i (by omega))
def CellsLe (a b : V) : Prop:=AllLe a.cells b.cells
theorem VLe.slc {a b : List V} {c : Option Nat} (hl : a.length = b.length) (h : ∀ i,CellsLe (a.getD i .undef) (b.getD i .undef)) : VLe (.sl a c) (.sl b c):=fun G M r hr=>by
 cases hr with
 | slnil cap base rcap hc hb=>
  have : b = []:=List.length_eq_zero_iff.1 (by rw [← hl]; rfl)
  subst this
  exact .slnil _ _ _ hc hb
 | sl _ _ rb ro rcap sz cells hne hG hsz hb hl2 hc hh ho=>
  rw [hl]
  refine .sl b c rb ro rcap sz cells (fun e=>hne (List.length_eq_zero_iff.1 (by rw [hl,e]; rfl))) hG (fun i hi=>?_) (by rw [← hl]; exact hb) (by rw [← hl]; exact hl2) hc (fun i j hi hj=>?_) (fun i j hi hj=>ho i j (by omega) hj)
  ·rw [← (h i).spec.1]; exact hsz i (by omega)
  ·exact (h i).spec.2 j G M _ (hh i j (by omega) hj)
theorem VLe.map {α : Type} {f g : α→V} {c : Option Nat} (h : ∀ x,CellsLe (f x) (g x)) (l : List α) : VLe (.sl (l.map f) c) (.sl (l.map g) c):=by
 refine VLe.slc (by simp) fun i=>?_
 simp only [List.getD_eq_getElem?_getD,List.getElem?_map]
 cases l[i]? with
 | none=>exact AllLe.refl _
 | some x=>exact h x
def Nd.c (x : Nd) : V:=.agg [.int .u8 x.k,.sl (ints x.i) (some x.i.length),.int .i64 x.a,.int .i64 x.b]
def Md.c (x : Md) : V:=.agg [.sl (ints x.a) (some x.a.length),.sl (ints x.d) (some x.d.length),.int .i64 x.w]
def Ci.c (c : Ci) : V:=.agg [.sl (c.n.map Nd.c) (some c.n.length),.sl (c.s.map .str) (some c.s.length),.sl (c.m.map Md.c) (some c.m.length),.sl (ints c.o) (some c.o.length)]
structure Ci.lens (c : Ci) : Prop where
 n : c.n.length < 1000000
 s : c.s.length < 1000000000
 m : c.m.length < 1000000
 o : c.o.length < 1000000000
 i : ∀ x ∈ c.n,x.i.length < 1000000000
 a : ∀ x ∈ c.m,x.a.length < 1000000000∧x.d.length < 1000000000
@[simp] theorem ints_take (l : List Int) : List.take l.length (ints l) = ints l:=List.take_of_length_le (by simp)
end Go.Proofs.YtcmblmkbdenakaaDoor
namespace Go.Proofs.YtcmblmkbdenakaaDoor
open Go
end Go.Proofs.YtcmblmkbdenakaaDoor
namespace Go.Proofs.YtcmblmkbdenakaaDoor
open Go
structure Gx where
 k : Nat
 a : Nat
 b : Nat
 d : Nat
 deriving Inhabited
def u8V (n : Nat) : V:=.int .u8 (n : Int)
def Gx.v (g : Gx) : V:=.agg [u8V g.k,u8V g.a,u8V g.b,u8V g.d]
structure Gx.ok (g : Gx) : Prop where
 k : g.k < 256
 a : g.a < 256
 b : g.b < 256
 d : g.d < 256
structure Cx where
 n : Nat
 f : Nat
 d0 : Nat
 d1 : Nat
 bus : Bool
 mem : Bool
 p0 : Nat
 p1 : Nat
 p2 : Nat
 p3 : Nat
 g : List Gx
 o : List Nat
def Cx.v (x : Cx) : V:=.agg [u8V x.n,u8V x.f,u8V x.d0,u8V x.d1,.bool x.bus,.bool x.mem,u8V x.p0,u8V x.p1,u8V x.p2,u8V x.p3,.sl (x.g.map Gx.v) none,.sl (x.o.map u8V) none]
def trisF : List Nd→Nat→List Nat
 | [],_=>[]
 | x :: r,i=>if x.k = 12 then i :: trisF r (i + 1) else trisF r (i + 1)
def gateKind (bus : Bool) (g : Gx) : Nat:=if bus then g.k % 13 else g.k % 9
def gateC (bus : Bool) (g : Gx) (l : List Nd) : Nat × List Nat:=
 let n:=l.length
 let a:=g.a % n
 let b:=g.b % n
 let d:=g.d % n
 let k:=gateKind bus g
 let ts:=trisF l 0
 if k < 6 then (5 + k,if 128 ≤ g.k then [a,b,d] else [a,b])
 else if k = 6 then (4,[a])
 else if k = 7 then (11,[a,b,d])
 else if k = 9∨k = 10 then (12,[a,b])
 else if 10 < k∧0 < ts.length then (13,ts.getD (g.a % ts.length) 0 :: if 1 < ts.length then [ts.getD ((g.a % ts.length + 1) % ts.length) 0] else [])
 else if 240 < g.k then (1 + g.a % 2,[])
 else (3,[a])
theorem u8i {x : Nat} (h : x < 256) : IntKind.i64.wrap (x : Int) = (x : Int):=by rw [wrap_i64] <;> omega
end Go.Proofs.YtcmblmkbdenakaaDoor
namespace Go.Proofs.YtcmblmkbdenakaaDoor
open Go
structure Ent where
 k : Nat
 l : List Nat
 b : Nat
 m : Option (Nat × Option Nat)
def Ent.nd (e : Ent) : Nd:=⟨e.k,e.l.map fun (x : Nat)=>(x : Int),0,e.b⟩
def Ent.iv (e : Ent) (n : Nat) : V:=match e.m with
 | none=>.nil
 | some (g,cap)=>.ref n g 0 e.l.length cap
def Ent.v (e : Ent) (n : Nat) : V:=.agg [u8V e.k,e.iv n,natV 0,natV e.b]
def Ent.h (e : Ent) (n : Nat) : Hp:=match e.m with
 | none=>[]
 | some (g,_)=>[(n,.row g 1 (natsV e.l))]
def entV (b : Nat) : List Ent→List V
 | []=>[]
 | e :: r=>e.v b :: entV (b + 1) r
@[simp] theorem entV_length (b : Nat) (L : List Ent) : (entV b L).length = L.length:=by
 induction L generalizing b with
 | nil=>rfl
 | cons e r ih=>simp [entV,ih]
def Ent.f (e : Ent) : V:=.agg [u8V e.k,(match e.m with | none=>.nil | some (_,cap)=>.sl (natsV e.l) cap),natV 0,natV e.b]
end Go.Proofs.YtcmblmkbdenakaaDoor
namespace Go.Proofs.YtcmblmkbdenakaaDoor
open Go
def ndN (q : Nat × List Nat) : Nd:=⟨q.1,q.2.map fun (x : Nat)=>(x : Int),0,0⟩
def in0 : Nd:=⟨0,[],0,0⟩
def dffN (d : Nat) : Nd:=⟨14,[(d : Int)],0,0⟩
def Cx.st1 (x : Cx) (j : Nat) : List Nd:=List.replicate (x.n % 4 + 1) in0 ++ List.replicate j (dffN 0)
def Cx.st0 (x : Cx) : List Nd:=x.st1 (x.f % 3) ++ if x.mem = true then [⟨15,[],0,0⟩,⟨15,[],0,1⟩] else []
def gatesN (bus : Bool) : List Gx→List Nd→List Nd
 | [],l=>l
 | g :: r,l=>gatesN bus r (l ++ [ndN (gateC bus g l)])
def Cx.ns0 (x : Cx) : List Nd:=gatesN x.bus (x.g.take 8) x.st0
def Cx.nn (x : Cx) : Nat:=x.ns0.length
def Cx.dat (x : Cx) (i : Nat) : Nat:=(if i = 0 then x.d0 else x.d1) % x.nn
structure Cx.ok (x : Cx) : Prop where
 n : x.n < 256
 f : x.f < 256
 d0 : x.d0 < 256
 d1 : x.d1 < 256
 p0 : x.p0 < 256
 p1 : x.p1 < 256
 p2 : x.p2 < 256
 p3 : x.p3 < 256
 g : ∀ g ∈ x.g,g.ok
 o : ∀ o ∈ x.o,o < 256
def e0 : Ent:=⟨0,[],0,none⟩
end Go.Proofs.YtcmblmkbdenakaaDoor
