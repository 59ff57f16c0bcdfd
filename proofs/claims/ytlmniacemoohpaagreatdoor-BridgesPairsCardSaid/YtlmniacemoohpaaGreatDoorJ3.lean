/- Circuits whose values are replaced at nets and pins: their values solve equations, and alone do. No program stands in it. Conditions: none. -/
import Derived.Test.YtlmniacemoohpaaGreatDoorS1
import Derived.Test.YtlmniacemoohpaaGreatDoorT7
set_option linter.unusedSimpArgs false
set_option linter.unusedVariables false
namespace Go.Proofs.YtlmniacemoohpaaGreatDoor
open Go
variable {α : Type}
def rdsM (c : Ci) (Q : Nat→Nat→Nat→Nat) (n : Nat) (f : Nat→Nat) : List Nat:=(c.nd n).i.mapIdx fun p x=>Q n p (f x.toNat)
def evM (c : Ci) (W : Nat→Nat→Nat) (Q : Nat→Nat→Nat→Nat) (n : Nat) (f : Nat→Nat) : Nat:=W n (if combC c n = true then logE (c.nd n).k.toNat (rdsM c Q n f) else f n)
noncomputable def netM (c : Ci) (W : Nat→Nat→Nat) (Q : Nat→Nat→Nat→Nat) (p : Pt) : Nat→Nat:=evl (evM c W Q) (fun _=>true) (ordL c) (ini c p)
def idQ : Nat→Nat→Nat→Nat:=fun _ _ v=>v
theorem Ord.all {c : Ci} {L : List Nat} (h : Ord c L) {n : Nat} (hn : n < c.n.length) : n ∈ L:=nodup_full (lex_nodup h.p) h.r.lt (by have:=h.r.len; omega) n hn
variable {c : Ci} {W : Nat→Nat→Nat} {Q : Nat→Nat→Nat→Nat} {p : Pt}
def obsMO (c : Ci) (f : Nat→Nat) : List Nat:=c.o.map fun n=>f n.toNat
def nxtM (c : Ci) (Q : Nat→Nat→Nat→Nat) (f : Nat→Nat) (n : Nat) : Nat:=if (rdsM c Q n f).getD 0 0 = 3 then 2 else (rdsM c Q n f).getD 0 0
def obsMS (c : Ci) (Q : Nat→Nat→Nat→Nat) (f : Nat→Nat) : List Nat:=(ids 14 c.n 0).map (nxtM c Q f)
end Go.Proofs.YtlmniacemoohpaaGreatDoor
namespace Go.Proofs.YtlmniacemoohpaaGreatDoor
open Go
def cyV (c : Ci) (nets NF PF : V) : V:=.agg [.sl (c.n.map Nd.v) none,.sl (c.s.map .str) none,.sl (c.m.map Md.v) none,.sl (ints c.o) none,nets,NF,PF]
@[simp] theorem cy_cells (c : Ci) (a b d : V) : (cyV c a b d).cells = [.sl (c.n.map Nd.v) none,.sl (c.s.map .str) none,.sl (c.m.map Md.v) none,.sl (ints c.o) none,a,b,d]:=rfl
@[simp] theorem cy_okN (c : Ci) (f g : FuncId) (x y z w : List V) : (cyV c .nil (.fn f x y) (.fn g z w)).cellsOk = true:=rfl
@[simp] theorem cy_okS (c : Ci) (f g : FuncId) (xs x y z w : List V) (cap : Option Nat) : (cyV c (.sl xs cap) (.fn f x y) (.fn g z w)).cellsOk = true:=rfl
@[simp] theorem cy_okR (c : Ci) (f g : FuncId) (b gg o l : Nat) (x y z w : List V) (cap : Option Nat) : (cyV c (.ref b gg o l cap) (.fn f x y) (.fn g z w)).cellsOk = true:=rfl
def tU (N : Nat) (f : Nat→Nat) : List V:=tab N fun j=>u8V (f j)
@[simp] theorem tU_length (N : Nat) (f : Nat→Nat) : (tU N f).length = N:=by simp [tU]
@[simp] theorem tU_pure (N : Nat) (f : Nat→Nat) : V.pureL (tU N f) = true:=tabU_pure N f
end Go.Proofs.YtlmniacemoohpaaGreatDoor
namespace Go.Proofs.YtlmniacemoohpaaGreatDoor
open Go
end Go.Proofs.YtlmniacemoohpaaGreatDoor
namespace Go.Proofs.YtlmniacemoohpaaGreatDoor
open Go
end Go.Proofs.YtlmniacemoohpaaGreatDoor
