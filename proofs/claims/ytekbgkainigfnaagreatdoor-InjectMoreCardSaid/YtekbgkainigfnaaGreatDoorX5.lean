/- Faults: the closed check of layer 13, run by its parts. Conditions: none. -/
import Derived.Test.YtekbgkainigfnaaGreatDoorXJ
import Derived.Test.YtekbgkainigfnaaGreatDoorXT
import Derived.Test.YtekbgkainigfnaaGreatDoorBase15
namespace Go.Proofs.YtekbgkainigfnaaGreatDoor
open Go
def gateV : V:=.agg [.sl [.agg [.int .u8 0,.nil,.int .i64 0,.int .i64 0],.agg [.int .u8 0,.nil,.int .i64 0,.int .i64 0],.agg [.int .u8 5,.sl [.int .i64 0,.int .i64 1] (some 2),.int .i64 0,.int .i64 0]] (some 3),.sl [.str [97],.str [98],.str [121]] (some 3),.nil,.sl [.int .i64 2] (some 1)]
def p2V (n m : Int) : V:=.agg [.sl [.int .u8 n,.int .u8 m] (some 2),.nil]
def fltV (m n p v o : Int) : V:=.agg [.int .u8 m,.int .i64 n,.int .i64 p,.int .u8 v,.int .i64 o]
theorem gate_d : OwnC Tryz.prog gl0 66 [] (DatK 6 gateV):=OwnC.of_runD FTj_ok (m:=200000) (by kernel_rfl)
theorem run0_c : OwnC Tryz.prog gl0 31 [gateV,fltV 0 0 (-1) 0 0,p2V 1 1] (DatK 6 (.tup [.agg [.sl [.int .u8 0] (some 1),.nil],.sl [.int .u8 0,.int .u8 1,.int .u8 0] (some 3),.int .i64 0])):=OwnC.of_runD FTj_ok (m:=200000) (by kernel_rfl)
theorem run1_c : OwnC Tryz.prog gl0 31 [gateV,fltV 0 2 1 1 0,p2V 1 1] (DatK 6 (.tup [.agg [.sl [.int .u8 1] (some 1),.nil],.sl [.int .u8 1,.int .u8 1,.int .u8 1] (some 3),.int .i64 0])):=OwnC.of_runD FTj_ok (m:=200000) (by kernel_rfl)
theorem dj0_c : OwnC Tryz.prog gl0 26 [gateV,fltV 0 0 (-1) 0 0,p2V 1 1] (DatK 6 (.tup [.bool true,.int .i64 0])):=OwnC.of_runD FTj_ok (m:=200000) (by kernel_rfl)
theorem dj1_c : OwnC Tryz.prog gl0 26 [gateV,fltV 2 0 (-1) 1 1,p2V 1 0] (DatK 6 (.tup [.bool true,.int .i64 0])):=OwnC.of_runD FTj_ok (m:=200000) (by kernel_rfl)
def cutV : V:=.agg [.sl [.agg [.int .u8 0,.nil,.int .i64 0,.int .i64 0],.agg [.int .u8 0,.nil,.int .i64 0,.int .i64 0],.agg [.int .u8 5,.sl [.int .i64 0,.int .i64 3] (some 2),.int .i64 0,.int .i64 0],.agg [.int .u8 2,.nil,.int .i64 0,.int .i64 0]] (some 4),.sl [.str [97],.str [98],.str [121],.str [102,97,117,108,116,48]] (some 4),.nil,.sl [.int .i64 2] (some 1)]
theorem cut0_c : OwnC Tryz.prog gl0 67 [gateV,fltV 0 2 1 1 0] (DatK 6 (.tup [cutV,.int .i64 0])):=OwnC.of_runD FTj_ok (m:=200000) (by kernel_rfl)
end Go.Proofs.YtekbgkainigfnaaGreatDoor
namespace Go.Proofs.YtekbgkainigfnaaGreatDoor
open Go
set_option maxRecDepth 100000 in
set_option maxHeartbeats 8000000 in
theorem livesJ_c : PureC Tryz.prog gl0 32 [] (.bool true):=by
  have h1:=run0_c
  have h2:=run1_c
  have h3:=dj0_c
  have h4:=dj1_c
  have h6:=cut0_c
  have h5:=gate_d
  have hl : gateV.pure = true:=rfl
  simp only [fltV,p2V,cutV] at h1 h2 h3 h4 h6
  generalize gateV = L at h1 h2 h3 h4 h5 h6 hl
  refine PureC.of_W 6 ok32 rfl ?_
  simp [i32,x32]
  intro gf1 gf2 gf3 gf4 gf5 gf6
  intro gm
  first | refine ⟨_,_,_,.dat 0 h5 rfl,?_⟩ | refine ⟨_,⟨_,_,.dat 0 h5 rfl⟩,?_⟩ | refine ⟨_,_,⟨_,.dat 0 h5 rfl⟩,?_⟩
  simp
  first | refine ⟨_,_,_,.dat 3 h1 (by simp [frz,V.mapR,V.mapRL,lk,mapR_pure _ hl]),?_⟩ | refine ⟨_,⟨_,_,.dat 3 h1 (by simp [frz,V.mapR,V.mapRL,lk,mapR_pure _ hl])⟩,?_⟩ | refine ⟨_,_,⟨_,.dat 3 h1 (by simp [frz,V.mapR,V.mapRL,lk,mapR_pure _ hl])⟩,?_⟩
  simp
  refine ⟨rfl,?_⟩
  intro gm
  first | refine ⟨_,_,_,.dat 0 h5 rfl,?_⟩ | refine ⟨_,⟨_,_,.dat 0 h5 rfl⟩,?_⟩ | refine ⟨_,_,⟨_,.dat 0 h5 rfl⟩,?_⟩
  simp
  first | refine ⟨_,_,_,.dat 3 h2 (by simp [frz,V.mapR,V.mapRL,lk,mapR_pure _ hl]),?_⟩ | refine ⟨_,⟨_,_,.dat 3 h2 (by simp [frz,V.mapR,V.mapRL,lk,mapR_pure _ hl])⟩,?_⟩ | refine ⟨_,_,⟨_,.dat 3 h2 (by simp [frz,V.mapR,V.mapRL,lk,mapR_pure _ hl])⟩,?_⟩
  simp
  refine ⟨rfl,?_⟩
  intro gm
  first | refine ⟨_,_,_,.dat 0 h5 rfl,?_⟩ | refine ⟨_,⟨_,_,.dat 0 h5 rfl⟩,?_⟩ | refine ⟨_,_,⟨_,.dat 0 h5 rfl⟩,?_⟩
  simp
  first | refine ⟨_,_,_,.dat 3 h3 (by simp [frz,V.mapR,V.mapRL,lk,mapR_pure _ hl]),?_⟩ | refine ⟨_,⟨_,_,.dat 3 h3 (by simp [frz,V.mapR,V.mapRL,lk,mapR_pure _ hl])⟩,?_⟩ | refine ⟨_,_,⟨_,.dat 3 h3 (by simp [frz,V.mapR,V.mapRL,lk,mapR_pure _ hl])⟩,?_⟩
  simp
  refine ⟨rfl,?_⟩
  intro gm
  first | refine ⟨_,_,_,.dat 0 h5 rfl,?_⟩ | refine ⟨_,⟨_,_,.dat 0 h5 rfl⟩,?_⟩ | refine ⟨_,_,⟨_,.dat 0 h5 rfl⟩,?_⟩
  simp
  first | refine ⟨_,_,_,.dat 3 h4 (by simp [frz,V.mapR,V.mapRL,lk,mapR_pure _ hl]),?_⟩ | refine ⟨_,⟨_,_,.dat 3 h4 (by simp [frz,V.mapR,V.mapRL,lk,mapR_pure _ hl])⟩,?_⟩ | refine ⟨_,_,⟨_,.dat 3 h4 (by simp [frz,V.mapR,V.mapRL,lk,mapR_pure _ hl])⟩,?_⟩
  simp
  refine ⟨rfl,?_⟩
  intro gm
  first | refine ⟨_,_,_,.dat 0 h5 rfl,?_⟩ | refine ⟨_,⟨_,_,.dat 0 h5 rfl⟩,?_⟩ | refine ⟨_,_,⟨_,.dat 0 h5 rfl⟩,?_⟩
  simp
  first | refine ⟨_,_,_,.dat 3 h6 (by simp [frz,V.mapR,V.mapRL,lk,mapR_pure _ hl]),?_⟩ | refine ⟨_,⟨_,_,.dat 3 h6 (by simp [frz,V.mapR,V.mapRL,lk,mapR_pure _ hl])⟩,?_⟩ | refine ⟨_,_,⟨_,.dat 3 h6 (by simp [frz,V.mapR,V.mapRL,lk,mapR_pure _ hl])⟩,?_⟩
  simp
  rfl
end Go.Proofs.YtekbgkainigfnaaGreatDoor
