/- Paths: the laws' arguments as plain data. Conditions: none. -/
import Derived.Test.YtlmniacemoohpaaGreatDoorST
import Derived.Test.YtlmniacemoohpaaGreatDoorT7
import Derived.Test.YtlmniacemoohpaaGreatDoorP6
set_option linter.unusedSimpArgs false
set_option linter.unusedVariables false
namespace Go.Proofs.YtlmniacemoohpaaGreatDoor
open Go Go.RowKit Go.ChangeShapes
set_option maxRecDepth 100000
variable {v : V} {n : Nat}
theorem int_h (h : hasT Tryz.prog (n + 1) 3 v) : ∃ a : Int,v = .int .i64 a:=by
 obtain ⟨i,rfl,-⟩:=hasT_int Tryz.underlying3 h
 exact ⟨i,rfl⟩
theorem ln_h (h : hasT Tryz.prog (n + 2) 42 v) : ∃ a : Ln,v = lnI a:=by
 obtain ⟨ps,rfl,hp⟩:=hasT_struct Tryz.underlying42 h
 obtain ⟨a,_,rfl,ha,hp⟩:=hasAll_cons hp
 obtain ⟨b,_,rfl,hb,hp⟩:=hasAll_cons hp
 obtain rfl:=hasAll_nil hp
 obtain ⟨i,rfl⟩:=int_h ha
 obtain ⟨j,rfl⟩:=int_h hb
 exact ⟨(i,j),rfl⟩
theorem lns_h (h : hasT Tryz.prog (n + 3) 89 v) : ∃ P : List Ln,v = .sl (P.map lnI) none:=by
 obtain ⟨xs,rfl,-,hx⟩:=hasT_slice Tryz.underlying89 h
 obtain ⟨l,rfl,-⟩:=list_of (f:=lnI) (Q:=fun _=>True) fun x hx2=>(ln_h (hx x hx2)).imp fun a e=>⟨e,trivial⟩
 exact ⟨l,rfl⟩
end Go.Proofs.YtlmniacemoohpaaGreatDoor
