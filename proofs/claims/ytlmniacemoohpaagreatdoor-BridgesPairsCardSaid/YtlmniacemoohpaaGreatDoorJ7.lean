/- Faults: contracts of replaced lines. Conditions: none. -/
import Derived.Test.YtlmniacemoohpaaGreatDoorJ3
import Derived.Test.YtlmniacemoohpaaGreatDoorXB
set_option linter.unusedSimpArgs false
set_option linter.unusedVariables false
namespace Go.Proofs.YtlmniacemoohpaaGreatDoor
open Go
def atW (f : Ft) (G : Nat→Nat) : Nat→Nat→Nat:=fun n v=>if f.q = 0∧n = f.n then G v else v
def atQ (f : Ft) (G : Nat→Nat) : Nat→Nat→Nat→Nat:=fun n k v=>if f.q ≠ 0∧n = f.n∧k + 1 = f.q then G v else v
def resK (v : Nat) : Nat:=if v = 1 then 7 else 5
end Go.Proofs.YtlmniacemoohpaaGreatDoor
namespace Go.Proofs.YtlmniacemoohpaaGreatDoor
open Go
end Go.Proofs.YtlmniacemoohpaaGreatDoor
namespace Go.Proofs.YtlmniacemoohpaaGreatDoor
open Go
def conB (a b : List Nat) (i : Nat) : Bool:=decide (a.getD i 0 ≤ 1) && decide (b.getD i 0 ≤ 1) && decide (a.getD i 0 ≠ b.getD i 0)
def conL (a b : List Nat) (n : Nat) : List Nat:=(List.range n).filter (conB a b)
def cons (a b : List Nat) : List Nat:=conL a b (min a.length b.length)
end Go.Proofs.YtlmniacemoohpaaGreatDoor
namespace Go.Proofs.YtlmniacemoohpaaGreatDoor
open Go
end Go.Proofs.YtlmniacemoohpaaGreatDoor
