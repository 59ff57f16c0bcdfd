/- Costs of nets: the contract of control with a map. Conditions: none. -/
import Derived.Test.YtcmblmkbdenakaaGreatDoorD3
import Derived.Test.YtcmblmkbdenakaaGreatDoorD5
set_option linter.unusedSimpArgs false
set_option linter.unusedVariables false
namespace Go.Proofs.YtcmblmkbdenakaaGreatDoor
open Go
end Go.Proofs.YtcmblmkbdenakaaGreatDoor
namespace Go.Proofs.YtcmblmkbdenakaaGreatDoor
open Go
def leP (p q : Nat × Nat) : Prop:=p.1 ≤ q.1∧p.2 ≤ q.2
theorem leP.trans {p q r : Nat × Nat} (h : leP p q) (k : leP q r) : leP p r:=⟨Nat.le_trans h.1 k.1,Nat.le_trans h.2 k.2⟩
theorem ids_ge (k : Int) : ∀ (l : List Nd) (i x : Nat),x ∈ ids k l i→i ≤ x
 | [],_,_,h=>by simp [ids] at h
 | n :: r,i,x,h=>by
  simp only [ids] at h
  split at h
  ·rcases List.mem_cons.1 h with rfl | h
   ·exact Nat.le_refl _
   ·have:=ids_ge k r (i + 1) x h; omega
  ·have:=ids_ge k r (i + 1) x h; omega
theorem ids_nodup (k : Int) : ∀ (l : List Nd) (i : Nat),(ids k l i).Nodup
 | [],_=>List.nodup_nil
 | n :: r,i=>by
  simp only [ids]
  split
  ·exact List.nodup_cons.2 ⟨fun h=>by have:=ids_ge k r (i + 1) i h; omega,ids_nodup k r (i + 1)⟩
  ·exact ids_nodup k r (i + 1)
end Go.Proofs.YtcmblmkbdenakaaGreatDoor
namespace Go.Proofs.YtcmblmkbdenakaaGreatDoor
open Go
end Go.Proofs.YtcmblmkbdenakaaGreatDoor
