/- Lemmas. Conditions: none. -/
import Derived.Test.YtlmniacemoohpaaGreatDoorT7
import Derived.Test.YtlmniacemoohpaaGreatDoorI1
set_option linter.all false
namespace Go.Proofs.YtlmniacemoohpaaGreatDoor
section
open Go
def cyV (c:Ci) (nets NF PF:V):V:=.agg [.sl (c.n.map Nd.v) none,.sl (c.s.map .str) none,.sl (c.m.map Md.v) none,.sl (qc1 c.o) none,nets,NF,PF]
@[simp] theorem ja6 (c:Ci) (a b d:V):(cyV c a b d).cells = [.sl (c.n.map Nd.v) none,.sl (c.s.map .str) none,.sl (c.m.map Md.v) none,.sl (qc1 c.o) none,a,b,d]:=rfl
@[simp] theorem cy_okN (c:Ci) (f g:FuncId) (x y z w:List V):(cyV c .nil (.fn f x y) (.fn g z w)).cellsOk = true:=rfl
@[simp] theorem cy_okS (c:Ci) (f g:FuncId) (xs x y z w:List V) (cap:Option Nat):(cyV c (.sl xs cap) (.fn f x y) (.fn g z w)).cellsOk = true:=rfl
@[simp] theorem cy_okR (c:Ci) (f g:FuncId) (b gg o l:Nat) (x y z w:List V) (cap:Option Nat):(cyV c (.ref b gg o l cap) (.fn f x y) (.fn g z w)).cellsOk = true:=rfl
def tU (N:Nat) (f:Nat->Nat):List V:=tab N fun j=>u8V (f j)
@[simp] theorem jaj (N:Nat) (f:Nat->Nat):(tU N f).length = N:=by simp [tU]
@[simp] theorem jgg (N:Nat) (f:Nat->Nat):jgy (tU N f) = true:=qb5 N f
end
section
open Go
end
section
open Go
end
section
open Go
end
end Go.Proofs.YtlmniacemoohpaaGreatDoor
