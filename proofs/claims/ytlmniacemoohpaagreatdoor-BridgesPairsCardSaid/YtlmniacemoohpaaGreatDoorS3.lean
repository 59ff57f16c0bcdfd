/- The contracts of the logic of lists of values. Conditions: none. -/
import Derived.Test.YtlmniacemoohpaaGreatDoorS1
import Derived.Test.YtlmniacemoohpaaGreatDoorNet13
set_option linter.unusedSimpArgs false
set_option linter.unusedVariables false
namespace Go.Proofs.YtlmniacemoohpaaGreatDoor
open Go
theorem u8s_pure (l : List Nat) : V.pureL (l.map u8V) = true:=V.pureL_map _ l fun _=>rfl
end Go.Proofs.YtlmniacemoohpaaGreatDoor
namespace Go.Proofs.YtlmniacemoohpaaGreatDoor
open Go
attribute [simp] u8s_pure
@[simp] theorem pt_cells (p : Pt) : p.v.cells = [.sl (p.i.map u8V) none,.sl (p.s.map u8V) none]:=rfl
@[simp] theorem pt_cellsOk (p : Pt) : p.v.cellsOk = true:=rfl
@[simp] theorem pt_pure (p : Pt) : V.pure p.v = true:=by simp [Pt.v]
def tkN (l : List Nat) (n most : Nat) : List Nat:=tab n fun i=>if l.length = 0 then 2 else l.getD (i % l.length) 0 % most
@[simp] theorem tkN_length (l : List Nat) (n most : Nat) : (tkN l n most).length = n:=by simp [tkN]
end Go.Proofs.YtlmniacemoohpaaGreatDoor
namespace Go.Proofs.YtlmniacemoohpaaGreatDoor
open Go
end Go.Proofs.YtlmniacemoohpaaGreatDoor
