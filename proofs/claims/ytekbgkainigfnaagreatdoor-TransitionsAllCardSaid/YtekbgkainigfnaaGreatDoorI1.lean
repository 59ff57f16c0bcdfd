/- Circuits whose values are replaced at nets and pins: their values solve equations, and alone do. No program stands in it. Conditions: none. -/
import Derived.Test.YtekbgkainigfnaaGreatDoorS1
namespace Go.Proofs.YtekbgkainigfnaaGreatDoor
open Go
variable {α : Type}
/-- The values that a node reads, replaced at pins. -/
def rdsM (c : Ci) (Q : Nat → Nat → Nat → Nat) (n : Nat) (f : Nat → Nat) : List Nat := (c.nd n).i.mapIdx fun p x => Q n p (f x.toNat)
def evM (c : Ci) (W : Nat → Nat → Nat) (Q : Nat → Nat → Nat → Nat) (n : Nat) (f : Nat → Nat) : Nat := W n (if combC c n = true then logE (c.nd n).k.toNat (rdsM c Q n f) else f n)
/-- The values of all nets, replaced at nets and pins. -/
noncomputable def netM (c : Ci) (W : Nat → Nat → Nat) (Q : Nat → Nat → Nat → Nat) (p : Pt) : Nat → Nat := evl (evM c W Q) (fun _ => true) (ordL c) (ini c p)
def idW : Nat → Nat → Nat := fun _ v => v
def idQ : Nat → Nat → Nat → Nat := fun _ _ v => v
theorem Ord.all {c : Ci} {L : List Nat} (h : Ord c L) {n : Nat} (hn : n < c.n.length) : n ∈ L := nodup_full (lex_nodup h.p) h.r.lt (by have := h.r.len; omega) n hn
variable {c : Ci} {W : Nat → Nat → Nat} {Q : Nat → Nat → Nat → Nat} {p : Pt}
/-- The response. -/
def obsMO (c : Ci) (f : Nat → Nat) : List Nat := c.o.map fun n => f n.toNat
def nxtM (c : Ci) (Q : Nat → Nat → Nat → Nat) (f : Nat → Nat) (n : Nat) : Nat := if (rdsM c Q n f).getD 0 0 = 3 then 2 else (rdsM c Q n f).getD 0 0
def obsMS (c : Ci) (Q : Nat → Nat → Nat → Nat) (f : Nat → Nat) : List Nat := (ids 14 c.n 0).map (nxtM c Q f)
end Go.Proofs.YtekbgkainigfnaaGreatDoor
