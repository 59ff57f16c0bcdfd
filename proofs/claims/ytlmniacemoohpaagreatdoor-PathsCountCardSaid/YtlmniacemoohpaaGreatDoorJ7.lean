/- Faults: contracts of replaced lines. Conditions: none. -/
import Derived.Test.YtlmniacemoohpaaGreatDoorJ3
import Derived.Test.YtlmniacemoohpaaGreatDoorXB
set_option linter.unusedSimpArgs false
set_option linter.unusedVariables false
namespace Go.Proofs.YtlmniacemoohpaaGreatDoor
open Go
end Go.Proofs.YtlmniacemoohpaaGreatDoor
namespace Go.Proofs.YtlmniacemoohpaaGreatDoor
open Go
end Go.Proofs.YtlmniacemoohpaaGreatDoor
namespace Go.Proofs.YtlmniacemoohpaaGreatDoor
open Go
def conB (a b : List Nat) (i : Nat) : Bool:=decide (a.getD i 0 ≤ 1) && decide (b.getD i 0 ≤ 1) && decide (a.getD i 0 ≠ b.getD i 0)
def conL (a b : List Nat) (n : Nat) : List Nat:=(List.range n).filter (conB a b)
def cons (a b : List Nat) : List Nat:=conL a b (min a.length b.length)
end Go.Proofs.YtlmniacemoohpaaGreatDoor
namespace Go.Proofs.YtlmniacemoohpaaGreatDoor
open Go
end Go.Proofs.YtlmniacemoohpaaGreatDoor
