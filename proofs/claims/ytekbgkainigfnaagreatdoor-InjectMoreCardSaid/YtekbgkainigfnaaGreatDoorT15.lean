/- Faults: arguments of the laws of layer 13. Conditions: none. -/
import Derived.Test.YtekbgkainigfnaaGreatDoorST
import Derived.Test.YtekbgkainigfnaaGreatDoorT14
namespace Go.Proofs.YtekbgkainigfnaaGreatDoor
open Go
set_option maxRecDepth 100000
variable {n : Nat} {v : V}
noncomputable def gl1 : Fr:=glT Tryz.prog Rows.injectSlowRow.laid
theorem up_c {f : FuncId} {args : List V} {res : V} (h : PureC Tryz.prog gl0 f args res) : PureC Tryz.prog gl1 f args res:=
  ⟨h.1,fun G w r hg hgl=>h.2 G w r hg fun g v hv=>hgl g v (by
    simp only [gl0,lk] at hv
    split at hv
    · rename_i e
      subst e
      rw [← hv]
      kernel_rfl
    · cases hv)⟩
theorem caseJ_h (h : hasT Tryz.prog (n + 6) 89 v) : ∃ x z p,v = caseJ x z p∧x.ok∧z.ok:=by
  obtain ⟨ps,rfl,hp⟩:=hasT_struct Tryz.underlying89 h
  obtain ⟨a,_,rfl,ha,hp⟩:=hasAll_cons hp
  obtain ⟨b,_,rfl,hb,hp⟩:=hasAll_cons hp
  obtain ⟨d,_,rfl,hd,hp⟩:=hasAll_cons hp
  obtain rfl:=hasAll_nil hp
  obtain ⟨x,rfl,hx⟩:=cx_h ha
  obtain ⟨z,rfl,hz⟩:=fx_h hb
  obtain ⟨p,rfl,-,-⟩:=pt_h hd
  exact ⟨x,z,p,rfl,hx,hz⟩
end Go.Proofs.YtekbgkainigfnaaGreatDoor
