/- Circuits evaluated in an order; patterns as data. No program stands in it. Conditions: none. -/
import Derived.Test.YtlmniacemoohpaaGreatDoorNet13
import Derived.Test.YtlmniacemoohpaaGreatDoorBase15
import Derived.Test.YtlmniacemoohpaaGreatDoorNet4
import Derived.Test.YtlmniacemoohpaaGreatDoorNet17
set_option linter.unusedSimpArgs false
set_option linter.unusedVariables false
namespace Go.Proofs.YtlmniacemoohpaaGreatDoor
open Go
variable {α β : Type}
def evl (ev : Nat→(Nat→α)→α) (cb : Nat→Bool) : List Nat→(Nat→α)→(Nat→α)
  | [],f=>f
  | n :: L,f=>evl ev cb L (if cb n = true then upd1 f n (ev n f) else f)
def put : List Nat→List α→(Nat→α)→(Nat→α)
  | n :: ns,v :: vs,f=>put ns vs (upd1 f n v)
  | _,_,f=>f
def ids (k : Int) : List Nd→Nat→List Nat
  | [],_=>[]
  | n :: r,i=>if n.k = k then i :: ids k r (i + 1) else ids k r (i + 1)
def cnt (k : Int) (l : List Nd) : Nat:=(ids k l 0).length
structure Pt where
  i : List Nat
  s : List Nat
def Pt.v (p : Pt) : V:=.agg [.sl (p.i.map u8V) none,.sl (p.s.map u8V) none]
end Go.Proofs.YtlmniacemoohpaaGreatDoor
namespace Go.Proofs.YtlmniacemoohpaaGreatDoor
open Go
def clean (v : Nat) : Nat:=if 3 < v then 2 else v
def rdN (v : Nat) : Nat:=min v 2
def notN (v : Nat) : Nat:=if v ≤ 1 then 1 - v else 2
def dec (lo hi : Nat) : Nat→List Nat→Nat
  | out,[]=>out
  | out,v :: l=>if v = lo then lo else if v = hi then dec lo hi out l else dec lo hi 2 l
def xorN : Nat→List Nat→Nat
  | out,[]=>out
  | out,v :: l=>if v = 0 then xorN out l else if v = 1 then xorN (1 - out) l else 2
def muxN (s a b : Nat) : Nat:=if s = 0 then rdN a else if s = 1 then rdN b else if a = b then rdN a else 2
def triN (e d : Nat) : Nat:=if e = 0 then 3 else if e = 1 then rdN d else 2
def busN (l : List Nat) : Nat:=
  match l.find? (fun v=>v != 3) with
  | none=>3
  | some v=>if (0 ∈ l∧1 ∈ l)∨(∃ u ∈ l,clean u = 2) then 2 else v
def gateN (k : Nat) (l : List Nat) : Nat:=
  if k = 1 then 0 else if k = 2 then 1 else if k = 3 then rdN (l.getD 0 0) else if k = 4 then notN (l.getD 0 0)
  else if k = 5 then dec 0 1 1 l else if k = 6 then notN (dec 0 1 1 l)
  else if k = 7 then dec 1 0 0 l else if k = 8 then notN (dec 1 0 0 l)
  else if k = 9 then xorN 0 l else if k = 10 then notN (xorN 0 l)
  else if k = 11 then muxN (l.getD 0 0) (l.getD 1 0) (l.getD 2 0) else if k = 12 then triN (l.getD 0 0) (l.getD 1 0)
  else if k = 13 then busN l else 2
def logE (k : Nat) (l : List Nat) : Nat:=if (l.length : Int) < kLo k∨kHi k < (l.length : Int) then 2 else gateN k l
end Go.Proofs.YtlmniacemoohpaaGreatDoor
namespace Go.Proofs.YtlmniacemoohpaaGreatDoor
open Go
structure Ci.good (c : Ci) : Prop where
  wf : c.wf
  chk : chkE c = 0
  sh : shE c = 0
  ac : acyc c
  m : c.m = []
  k : ∀ y ∈ c.n,y.k ≠ 15
  n0 : 0 < c.n.length
  n1 : c.n.length ≤ 20
theorem Ci.good.val {c : Ci} (h : c.good) : c.val:=sh_val h.wf h.sh
structure Pt.fit (p : Pt) (c : Ci) : Prop where
  i : p.i.length = cnt 0 c.n
  s : p.s.length = cnt 14 c.n
  iv : ∀ x ∈ p.i,x ≤ 3
  sv : ∀ x ∈ p.s,x ≤ 3
def combC (c : Ci) (n : Nat) : Bool:=combB (c.nd n).k
def ini (c : Ci) (p : Pt) : Nat→Nat:=put (ids 14 c.n 0) p.s (put (ids 0 c.n 0) p.i fun _=>0)
def nevN (c : Ci) (n : Nat) (f : Nat→Nat) : Nat:=logE (c.nd n).k.toNat ((c.g n).map f)
structure Ord (c : Ci) (L : List Nat) : Prop where
  r : InR c.n.length L
  p : L.Pairwise (lexlt (lvOf c))
noncomputable def ordL (c : Ci) : List Nat:=Classical.epsilon fun L=>Ord c L
noncomputable def netN (c : Ci) (p : Pt) : Nat→Nat:=evl (nevN c) (combC c) (ordL c) (ini c p)
theorem Ci.good.o {c : Ci} (h : c.good) {x : Int} (hx : x ∈ c.o) : 0 ≤ x∧x < c.n.length:=by
  have h1:=(sh_zero h.sh).2.2.2.2.2
  rw [List.any_eq_false] at h1
  have:=h1 x hx
  simp [outB] at this
  omega
end Go.Proofs.YtlmniacemoohpaaGreatDoor
