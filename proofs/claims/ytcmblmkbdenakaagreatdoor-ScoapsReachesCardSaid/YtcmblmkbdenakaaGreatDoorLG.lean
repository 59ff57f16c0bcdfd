/- The logic of single values, and of lists of them. No program stands in it. Conditions: none. -/
import Derived.Test.YtcmblmkbdenakaaGreatDoorNet4
import Derived.Test.YtcmblmkbdenakaaGreatDoorNet13
set_option linter.unusedSimpArgs false
set_option linter.unusedVariables false
namespace Go.Proofs.YtcmblmkbdenakaaGreatDoor
open Go
def clean (v : Nat) : Nat:=if 3 < v then 2 else v
def rdN (v : Nat) : Nat:=min v 2
def notN (v : Nat) : Nat:=if v ≤ 1 then 1 - v else 2
def dec (lo hi : Nat) : Nat→List Nat→Nat
 | out,[]=>out
 | out,v :: l=>if v = lo then lo else if v = hi then dec lo hi out l else dec lo hi 2 l
def xorN : Nat→List Nat→Nat
 | out,[]=>out
 | out,v :: l=>if v = 0 then xorN out l else if v = 1 then xorN (1 - out) l else 2
def muxN (s a b : Nat) : Nat:=if s = 0 then rdN a else if s = 1 then rdN b else if a = b then rdN a else 2
def triN (e d : Nat) : Nat:=if e = 0 then 3 else if e = 1 then rdN d else 2
def busN (l : List Nat) : Nat:=
 match l.find? (fun v=>v != 3) with
 | none=>3
 | some v=>if (0 ∈ l∧1 ∈ l)∨(∃ u ∈ l,clean u = 2) then 2 else v
def gateN (k : Nat) (l : List Nat) : Nat:=
 if k = 1 then 0 else if k = 2 then 1 else if k = 3 then rdN (l.getD 0 0) else if k = 4 then notN (l.getD 0 0)
 else if k = 5 then dec 0 1 1 l else if k = 6 then notN (dec 0 1 1 l)
 else if k = 7 then dec 1 0 0 l else if k = 8 then notN (dec 1 0 0 l)
 else if k = 9 then xorN 0 l else if k = 10 then notN (xorN 0 l)
 else if k = 11 then muxN (l.getD 0 0) (l.getD 1 0) (l.getD 2 0) else if k = 12 then triN (l.getD 0 0) (l.getD 1 0)
 else if k = 13 then busN l else 2
def logE (k : Nat) (l : List Nat) : Nat:=if (l.length : Int) < kLo k∨kHi k < (l.length : Int) then 2 else gateN k l
theorem dec_le (lo hi : Nat) (hlo : lo ≤ 2) : ∀ (l : List Nat) (out : Nat),out ≤ 2→dec lo hi out l ≤ 2
 | [],out,h=>h
 | v :: l,out,h=>by
  rw [dec]
  split
  ·exact hlo
  split
  ·exact dec_le lo hi hlo l out h
  ·exact dec_le lo hi hlo l 2 (by omega)
end Go.Proofs.YtcmblmkbdenakaaGreatDoor
