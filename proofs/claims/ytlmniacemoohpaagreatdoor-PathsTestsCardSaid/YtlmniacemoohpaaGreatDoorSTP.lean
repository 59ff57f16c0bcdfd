/- Paths: the laws' arguments as plain data. Conditions: none. -/
import Derived.Test.YtlmniacemoohpaaGreatDoorST
import Derived.Test.YtlmniacemoohpaaGreatDoorT7
import Derived.Test.YtlmniacemoohpaaGreatDoorP6
set_option linter.unusedSimpArgs false
set_option linter.unusedVariables false
namespace Go.Proofs.YtlmniacemoohpaaGreatDoor
open Go Go.RowKit Go.ChangeShapes
set_option maxRecDepth 100000
variable {v : V} {n : Nat}
theorem caseP_h (h : hasT Tryz.prog (n + 6) 95 v) : ∃ x p q,v = caseV x p q∧x.ok:=by
 obtain ⟨ps,rfl,hp⟩:=hasT_struct Tryz.underlying95 h
 obtain ⟨a,_,rfl,ha,hp⟩:=hasAll_cons hp
 obtain ⟨b,_,rfl,hb,hp⟩:=hasAll_cons hp
 obtain ⟨d,_,rfl,hd,hp⟩:=hasAll_cons hp
 obtain rfl:=hasAll_nil hp
 obtain ⟨x,rfl,hx⟩:=cx_h ha
 obtain ⟨p,rfl,-,-⟩:=pt_h hb
 obtain ⟨q,rfl,-,-⟩:=pt_h hd
 exact ⟨x,p,q,rfl,hx⟩
end Go.Proofs.YtlmniacemoohpaaGreatDoor
