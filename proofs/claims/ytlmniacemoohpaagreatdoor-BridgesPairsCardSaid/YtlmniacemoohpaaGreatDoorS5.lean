/- Circuits without memories: contracts of the response. Conditions: none. -/
import Derived.Test.YtlmniacemoohpaaGreatDoorS3
import Derived.Test.YtlmniacemoohpaaGreatDoorBase15
set_option linter.unusedSimpArgs false
set_option linter.unusedVariables false
namespace Go.Proofs.YtlmniacemoohpaaGreatDoor
open Go
def runV (c : Ci) (l : V) : V:=.agg [.sl (c.n.map Nd.v) none,.sl (c.s.map .str) none,.sl (c.m.map Md.v) none,.sl (ints c.o) none,l]
@[simp] theorem run_cells (c : Ci) (l : V) : (runV c l).cells = [.sl (c.n.map Nd.v) none,.sl (c.s.map .str) none,.sl (c.m.map Md.v) none,.sl (ints c.o) none,l]:=rfl
@[simp] theorem run_ok (c : Ci) (xs : List V) (cap : Option Nat) : (runV c (.sl xs cap)).cellsOk = true:=rfl
@[simp] theorem run_okR (c : Ci) (b g o l : Nat) (cap : Option Nat) : (runV c (.ref b g o l cap)).cellsOk = true:=rfl
theorem run_pure (c : Ci) (l : List Nat) (cap : Option Nat) : (runV c (.sl (l.map u8V) cap)).pure = true:=by
  have:=ci_pure2 c
  simp only [Ci.v,V.pure,V.pureL,Bool.and_true,Bool.and_eq_true] at this
  simp [runV,this]
end Go.Proofs.YtlmniacemoohpaaGreatDoor
namespace Go.Proofs.YtlmniacemoohpaaGreatDoor
open Go
theorem tabU_pure (N : Nat) (F : Nat→Nat) : V.pureL (tab N fun j=>u8V (F j)) = true:=tab_pure fun _=>rfl
end Go.Proofs.YtlmniacemoohpaaGreatDoor
