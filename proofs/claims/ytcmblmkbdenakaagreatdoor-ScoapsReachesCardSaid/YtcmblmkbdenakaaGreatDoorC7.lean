/- Costs: the contracts of the law's own functions. Conditions: none. -/
import Derived.Test.YtcmblmkbdenakaaGreatDoorLV
set_option linter.unusedSimpArgs false
set_option linter.unusedVariables false
namespace Go.Proofs.YtcmblmkbdenakaaGreatDoor
open Go
structure PrS where
 i : Nat
 m : Nat
 s : Nat
 z : Option (Nat × List V)
end Go.Proofs.YtcmblmkbdenakaaGreatDoor
namespace Go.Proofs.YtcmblmkbdenakaaGreatDoor
open Go
def gateD (k : Nat) (ts : List (Nat × Nat)) : Nat × Nat:=
 if k = 0∨k = 14 then (1,1) else if k = 15 then (nev,nev) else if k = 1 then (0,nev) else if k = 2 then (nev,0)
 else if k = 13 then (pls (mnV false ts) 1,pls (mnV true ts) 1)
 else (pls (bst ts fun a=>decide (logE k a = 0)) 1,pls (bst ts fun a=>decide (logE k a = 1)) 1)
def pinD (k p : Nat) (ts : List (Nat × Nat)) : Nat:=if k = 13 then 1 else pls (bsk p 0 ts (sees k p)) 1
structure GaS where
 n : Nat
 x : Nat
 y : Nat
end Go.Proofs.YtcmblmkbdenakaaGreatDoor
namespace Go.Proofs.YtcmblmkbdenakaaGreatDoor
open Go
structure PiS where
 n : Nat
 x : Nat
end Go.Proofs.YtcmblmkbdenakaaGreatDoor
