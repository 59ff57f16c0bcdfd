/- Observability: the contract of Reverse. Conditions: none. -/
import Derived.Test.YtcmblmkbdenakaaGreatDoorD3
set_option linter.unusedSimpArgs false
set_option linter.unusedVariables false
namespace Go.Proofs.YtcmblmkbdenakaaGreatDoor
open Go
end Go.Proofs.YtcmblmkbdenakaaGreatDoor
namespace Go.Proofs.YtcmblmkbdenakaaGreatDoor
open Go
theorem dff_in {c : Ci} (hwf : c.wf) (hsh : shE c = 0) {s : Nat} (hs : s ∈ ids 14 c.n 0) : ∃ h : s < c.n.length,c.n[s].i = [(dnN c s : Int)]∧dnN c s < c.n.length:=by
 obtain ⟨h,hk⟩:=ids_lt hs
 refine ⟨h,?_⟩
 have hval:=sh_val hwf hsh
 have h14 : (c.nd s).k = 14:=by rw [c.nd_get h]; exact hk
 have hl : (c.nd s).i.length = 1:=by
  rcases nd_src hwf hsh h (by rw [h14]; rfl) with ⟨-,q⟩ | ⟨-,q⟩
  ·exact q
  ·exact absurd h14 q
 obtain ⟨x,hx⟩:=List.length_eq_one_iff.1 hl
 have hm:=hval.i s h x (by rw [hx]; simp)
 have hd : dnN c s = x.toNat:=by unfold dnN; rw [hx]; rfl
 rw [c.nd_get h] at hx
 rw [hd,hx]
 exact ⟨by rw [Int.toNat_of_nonneg hm.1],by omega⟩
structure ObS where
 d : Nat
structure ObI where
 k : Nat
end Go.Proofs.YtcmblmkbdenakaaGreatDoor
