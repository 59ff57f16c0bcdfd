/- Bridges: the closed check of layer 19. Conditions: none. -/
import Derived.Test.YtlmniacemoohpaaGreatDoorXC1
namespace Go.Proofs.YtlmniacemoohpaaGreatDoor
open Go
set_option maxRecDepth 100000 in
set_option maxHeartbeats 8000000 in
theorem livesB_c : PureC Tryz.prog gl0 17 [] (.bool true):=by
  have h1:=st0_d
  have h2:=st1_d
  have h3:=dt0_d
  have h4:=dt1_d
  have h6:=prs_d
  have h5:=two_d
  have hl : twoV.pure = true:=rfl
  simp only [brV,p2V] at h1 h2 h3 h4
  generalize twoV = L at h1 h2 h3 h4 h5 h6 hl
  refine PureC.of_W 6 ok17 rfl ?_
  simp [i17,x17]
  intro gf1 gf2 gf3 gf4 gf5
  refine CallO.dat 0 h5 rfl ?_
  simp
  refine CallO.dat 0 h6 (by simp [mapR_pure _ hl]) ?_
  simp
  intro gm
  first | refine ⟨_,_,_,.dat 0 h5 rfl,?_⟩ | refine ⟨_,⟨_,_,.dat 0 h5 rfl⟩,?_⟩ | refine ⟨_,_,⟨_,.dat 0 h5 rfl⟩,?_⟩
  simp
  first | refine ⟨_,_,_,.dat 3 h1 (by simp [frz,V.mapR,V.mapRL,lk,mapR_pure _ hl]),?_⟩ | refine ⟨_,⟨_,_,.dat 3 h1 (by simp [frz,V.mapR,V.mapRL,lk,mapR_pure _ hl])⟩,?_⟩ | refine ⟨_,_,⟨_,.dat 3 h1 (by simp [frz,V.mapR,V.mapRL,lk,mapR_pure _ hl])⟩,?_⟩
  simp
  refine ⟨rfl,?_⟩
  intro gm
  first | refine ⟨_,_,_,.dat 0 h5 rfl,?_⟩ | refine ⟨_,⟨_,_,.dat 0 h5 rfl⟩,?_⟩ | refine ⟨_,_,⟨_,.dat 0 h5 rfl⟩,?_⟩
  simp
  first | refine ⟨_,_,_,.dat 3 h2 (by simp [frz,V.mapR,V.mapRL,lk,mapR_pure _ hl]),?_⟩ | refine ⟨_,⟨_,_,.dat 3 h2 (by simp [frz,V.mapR,V.mapRL,lk,mapR_pure _ hl])⟩,?_⟩ | refine ⟨_,_,⟨_,.dat 3 h2 (by simp [frz,V.mapR,V.mapRL,lk,mapR_pure _ hl])⟩,?_⟩
  simp
  refine ⟨rfl,?_⟩
  intro gm
  first | refine ⟨_,_,_,.dat 0 h5 rfl,?_⟩ | refine ⟨_,⟨_,_,.dat 0 h5 rfl⟩,?_⟩ | refine ⟨_,_,⟨_,.dat 0 h5 rfl⟩,?_⟩
  simp
  first | refine ⟨_,_,_,.dat 3 h3 (by simp [frz,V.mapR,V.mapRL,lk,mapR_pure _ hl]),?_⟩ | refine ⟨_,⟨_,_,.dat 3 h3 (by simp [frz,V.mapR,V.mapRL,lk,mapR_pure _ hl])⟩,?_⟩ | refine ⟨_,_,⟨_,.dat 3 h3 (by simp [frz,V.mapR,V.mapRL,lk,mapR_pure _ hl])⟩,?_⟩
  simp
  refine ⟨rfl,?_⟩
  intro gm
  first | refine ⟨_,_,_,.dat 0 h5 rfl,?_⟩ | refine ⟨_,⟨_,_,.dat 0 h5 rfl⟩,?_⟩ | refine ⟨_,_,⟨_,.dat 0 h5 rfl⟩,?_⟩
  simp
  first | refine ⟨_,_,_,.dat 3 h4 (by simp [frz,V.mapR,V.mapRL,lk,mapR_pure _ hl]),?_⟩ | refine ⟨_,⟨_,_,.dat 3 h4 (by simp [frz,V.mapR,V.mapRL,lk,mapR_pure _ hl])⟩,?_⟩ | refine ⟨_,_,⟨_,.dat 3 h4 (by simp [frz,V.mapR,V.mapRL,lk,mapR_pure _ hl])⟩,?_⟩
  simp
  rfl
end Go.Proofs.YtlmniacemoohpaaGreatDoor
