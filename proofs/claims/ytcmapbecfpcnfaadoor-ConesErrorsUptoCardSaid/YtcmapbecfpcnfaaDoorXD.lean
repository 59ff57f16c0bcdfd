/- Cones: the closed check, its calls run. Conditions: none. -/
import Derived.Test.YtcmapbecfpcnfaaDoorXK
import Derived.Test.YtcmapbecfpcnfaaDoorXG
import Derived.Test.YtcmapbecfpcnfaaDoorBase15
import Derived.Test.YtcmapbecfpcnfaaDoorNet10
set_option linter.unusedSimpArgs false
set_option linter.unusedVariables false
namespace Go.Proofs.YtcmapbecfpcnfaaDoor
open Go
def ndV (k : Int) (l : List Int) : V:=.agg [.int .u8 k,(match l with | []=>.nil | a :: b=>.sl ((a :: b).map (.int .i64)) (some (b.length + 1))),.int .i64 0,.int .i64 0]
def ilV (l : List Int) : V:=.sl (l.map (.int .i64)) (some l.length)
def exV : V:=.agg [.sl [ndV 0 [],ndV 4 [0],ndV 5 [0,1],ndV 4 [2],ndV 7 [3,1]] (some 5),.sl [.str [97],.str [110],.str [103],.str [109],.str [104]] (some 5),.nil,ilV [4]]
def clI (l : List Int) : V:=match l with | []=>.nil | a :: b=>ilV (a :: b)
def okI (l : List Int) : V:=.tup [clI l,.int .i64 0]
theorem ex_d : OwnC Tryd.prog gl0 47 [] (DatK 6 exV):=OwnC.of_runD FTt_ok (m:=200000) (by kernel_rfl)
theorem e_fin : OwnC Tryd.prog gl0 19 [exV,ilV [2]] (DatK 6 (okI [0,1,2])):=OwnC.of_runD FTt_ok (m:=200000) (by kernel_rfl)
theorem e_fin2 : OwnC Tryd.prog gl0 19 [exV,ilV [3,1]] (DatK 6 (okI [0,1,2,3])):=OwnC.of_runD FTt_ok (m:=200000) (by kernel_rfl)
theorem e_fout : OwnC Tryd.prog gl0 20 [exV,ilV [1]] (DatK 6 (okI [1,2,3,4])):=OwnC.of_runD FTt_ok (m:=200000) (by kernel_rfl)
theorem e_reg : OwnC Tryd.prog gl0 23 [exV] (DatK 6 (okI [0,1,4,4,4])):=OwnC.of_runD FTt_ok (m:=200000) (by kernel_rfl)
theorem e_stem : OwnC Tryd.prog gl0 24 [exV] (DatK 6 (okI [0,1,4])):=OwnC.of_runD FTt_ok (m:=200000) (by kernel_rfl)
theorem e_pts : OwnC Tryd.prog gl0 26 [exV] (DatK 6 (ilV [4])):=OwnC.of_runD FTt_ok (m:=200000) (by kernel_rfl)
theorem e_dom0 : OwnC Tryd.prog gl0 21 [exV,.int .i64 0] (DatK 6 (okI [4])):=OwnC.of_runD FTt_ok (m:=200000) (by kernel_rfl)
theorem e_dom1 : OwnC Tryd.prog gl0 21 [exV,.int .i64 1] (DatK 6 (okI [4])):=OwnC.of_runD FTt_ok (m:=200000) (by kernel_rfl)
theorem e_dom2 : OwnC Tryd.prog gl0 21 [exV,.int .i64 2] (DatK 6 (okI [3,4])):=OwnC.of_runD FTt_ok (m:=200000) (by kernel_rfl)
theorem e_dom3 : OwnC Tryd.prog gl0 21 [exV,.int .i64 3] (DatK 6 (okI [4])):=OwnC.of_runD FTt_ok (m:=200000) (by kernel_rfl)
theorem e_dom4 : OwnC Tryd.prog gl0 21 [exV,.int .i64 4] (DatK 6 (okI [])):=OwnC.of_runD FTt_ok (m:=200000) (by kernel_rfl)
theorem e_meet0 : OwnC Tryd.prog gl0 22 [exV,.int .i64 0] (DatK 6 (okI [2,4])):=OwnC.of_runD FTt_ok (m:=200000) (by kernel_rfl)
theorem e_meet1 : OwnC Tryd.prog gl0 22 [exV,.int .i64 1] (DatK 6 (okI [4])):=OwnC.of_runD FTt_ok (m:=200000) (by kernel_rfl)
theorem e_meet2 : OwnC Tryd.prog gl0 22 [exV,.int .i64 2] (DatK 6 (okI [])):=OwnC.of_runD FTt_ok (m:=200000) (by kernel_rfl)
theorem e_meet3 : OwnC Tryd.prog gl0 22 [exV,.int .i64 3] (DatK 6 (okI [])):=OwnC.of_runD FTt_ok (m:=200000) (by kernel_rfl)
theorem e_meet4 : OwnC Tryd.prog gl0 22 [exV,.int .i64 4] (DatK 6 (okI [])):=OwnC.of_runD FTt_ok (m:=200000) (by kernel_rfl)
end Go.Proofs.YtcmapbecfpcnfaaDoor
namespace Go.Proofs.YtcmapbecfpcnfaaDoor
open Go
theorem ie_c (l : List Int) (cb : Option Nat) (hl : l.length < 1000000000000) : PureC Tryd.prog gl0 25 [.sl (ints l) (some l.length),.sl (ints l) cb] (.int .i64 0):=by
  have:=intsL_c l l cb hl
  rwa [if_pos rfl] at this
theorem ie0_c : PureC Tryd.prog gl0 25 [.nil,.nil] (.int .i64 0):=PureC.wide (ie_c [] none (by simp)) ⟨.nil,.nil',trivial⟩ (.refl _)
set_option maxRecDepth 100000 in
set_option maxHeartbeats 8000000 in
theorem lives_c : PureC Tryd.prog gl0 16 [] (.bool true):=by
  have h0:=ex_d
  have h1:=e_fin
  have h2:=e_fin2
  have h3:=e_fout
  have h4:=e_reg
  have h5:=e_stem
  have h6:=e_pts
  have d0:=e_dom0
  have d1:=e_dom1
  have d2:=e_dom2
  have d3:=e_dom3
  have d4:=e_dom4
  have m0:=e_meet0
  have m1:=e_meet1
  have m2:=e_meet2
  have m3:=e_meet3
  have m4:=e_meet4
  have i1:=ie_c [4] (some 1) (by simp)
  have i2:=ie_c [0,1,2] (some 3) (by simp)
  have i3:=ie_c [0,1,2,3] (some 4) (by simp)
  have i4:=ie_c [1,2,3,4] (some 4) (by simp)
  have i5:=ie_c [0,1,4,4,4] (some 5) (by simp)
  have i6:=ie_c [0,1,4] (some 3) (by simp)
  have i7:=ie_c [3,4] (some 2) (by simp)
  have i8:=ie_c [2,4] (some 2) (by simp)
  have i9:=ie0_c
  obtain ⟨A,B,D,hE,hA,hB,hD⟩ : ∃ A B D,exV = .agg [A,B,.nil,D]∧A.pure = true∧B.pure = true∧D.pure = true:=⟨_,_,_,rfl,rfl,rfl,rfl⟩
  simp only [ilV,okI,clI,ints,List.map_cons,List.map_nil,List.length_cons,List.length_nil,Nat.zero_add,Nat.reduceAdd] at h1 h2 h3 h4 h5 h6 d0 d1 d2 d3 d4 m0 m1 m2 m3 m4 i1 i2 i3 i4 i5 i6 i7 i8
  rw [hE] at h0 h1 h2 h3 h4 h5 h6 d0 d1 d2 d3 d4 m0 m1 m2 m3 m4
  clear hE
  refine PureC.of_W 6 ok16 rfl ?_
  simp [i16,x16]
  refine CallO.dat 0 h0 rfl ?_
  simp
  intro gf1 gf2
  refine CallO.dat 3 h1 (by simp [frz,V.mapR,V.mapRL,lk,mapR_pure _ hA,mapR_pure _ hB,mapR_pure _ hD]) ?_
  simp
  intro gf3
  refine CallO.dat 3 h2 (by simp [frz,V.mapR,V.mapRL,lk,mapR_pure _ hA,mapR_pure _ hB,mapR_pure _ hD]) ?_
  simp
  intro gf4
  refine CallO.dat 3 h3 (by simp [frz,V.mapR,V.mapRL,lk,mapR_pure _ hA,mapR_pure _ hB,mapR_pure _ hD]) ?_
  simp
  refine CallO.dat 3 h4 (by simp [frz,V.mapR,V.mapRL,lk,mapR_pure _ hA,mapR_pure _ hB,mapR_pure _ hD]) ?_
  simp
  refine CallO.dat 3 h5 (by simp [frz,V.mapR,V.mapRL,lk,mapR_pure _ hA,mapR_pure _ hB,mapR_pure _ hD]) ?_
  simp
  refine CallO.dat 3 h6 (by simp [frz,V.mapR,V.mapRL,lk,mapR_pure _ hA,mapR_pure _ hB,mapR_pure _ hD]) ?_
  simp
  intro gf5
  refine CallO.borrow 1 i1 (by simp) (by simp) ?_
  simp
  intro gf6
  refine CallO.borrow 1 i2 (by simp) (by simp) ?_
  simp
  intro gf7
  refine CallO.borrow 1 i3 (by simp) (by simp) ?_
  simp
  intro gf8
  refine CallO.borrow 1 i4 (by simp) (by simp) ?_
  simp
  intro gf9
  refine CallO.borrow 1 i5 (by simp) (by simp) ?_
  simp
  intro gf10
  refine CallO.borrow 1 i6 (by simp) (by simp) ?_
  simp
  intro a1 a2 a3 a4 a5 a6 a7 a8
  generalize gf1 1 = g1
  generalize a1 93 = b1
  generalize a2 94 = b2
  generalize a3 95 = b3
  generalize a4 96 = b4
  generalize a5 97 = b5
  generalize a6 98 = b6
  generalize a7 99 = b7
  generalize a8 100 = b8
  refine LoopP.of (X:=Nat) (fun n=>[(14,.int .i64 (n : Int)),(13,.ref 100 b8 0 5 (some 5)),(12,.ref 97 b5 0 5 (some 5)),(1,.ptr 1 g1 0 0)])
    (fun _=>[(100,.row b8 1 [.ref 98 b6 0 2 (some 2),.ref 99 b7 0 1 (some 1),.nil,.nil,.nil]),(99,.row b7 1 [.int .i64 4]),(98,.row b6 1 [.int .i64 2,.int .i64 4]),
      (97,.row b5 1 [.ref 93 b1 0 1 (some 1),.ref 94 b2 0 1 (some 1),.ref 95 b3 0 2 (some 2),.ref 96 b4 0 1 (some 1),.nil]),(96,.row b4 1 [.int .i64 4]),(95,.row b3 1 [.int .i64 3,.int .i64 4]),(94,.row b2 1 [.int .i64 4]),(93,.row b1 1 [.int .i64 4]),(1,.row g1 4 [.agg [A,B,.nil,D]])])
    (fun n=>n ≤ 5) (fun n=>5 - n) 0 (by simp) (by simp) (by simp) ?_
  intro n hn
  have hc : n = 0∨n = 1∨n = 2∨n = 3∨n = 4∨n = 5:=by omega
  rcases hc with rfl | rfl | rfl | rfl | rfl | rfl
  · simp
    refine CallO.dat 3 d0 (by simp [frz,V.mapR,V.mapRL,lk,mapR_pure _ hA,mapR_pure _ hB,mapR_pure _ hD]) ?_
    simp
    refine CallO.dat 3 m0 (by simp [frz,V.mapR,V.mapRL,lk,mapR_pure _ hA,mapR_pure _ hB,mapR_pure _ hD]) ?_
    simp
    intro gm
    first | refine ⟨_,_,_,.borrow 1 i1 (by simp) rfl,?_⟩ | refine ⟨_,⟨_,_,.borrow 1 i1 (by simp) rfl⟩,?_⟩ | refine ⟨_,_,⟨_,.borrow 1 i1 (by simp) rfl⟩,?_⟩
    simp
    first | refine ⟨_,_,_,.borrow 1 i8 (by simp) rfl,?_⟩ | refine ⟨_,⟨_,_,.borrow 1 i8 (by simp) rfl⟩,?_⟩ | refine ⟨_,_,⟨_,.borrow 1 i8 (by simp) rfl⟩,?_⟩
    simp
    refine ⟨rfl,?_⟩
    exact ⟨1,by omega,by simp,by omega⟩
  · simp
    refine CallO.dat 3 d1 (by simp [frz,V.mapR,V.mapRL,lk,mapR_pure _ hA,mapR_pure _ hB,mapR_pure _ hD]) ?_
    simp
    refine CallO.dat 3 m1 (by simp [frz,V.mapR,V.mapRL,lk,mapR_pure _ hA,mapR_pure _ hB,mapR_pure _ hD]) ?_
    simp
    intro gm
    first | refine ⟨_,_,_,.borrow 1 i1 (by simp) rfl,?_⟩ | refine ⟨_,⟨_,_,.borrow 1 i1 (by simp) rfl⟩,?_⟩ | refine ⟨_,_,⟨_,.borrow 1 i1 (by simp) rfl⟩,?_⟩
    simp
    first | refine ⟨_,_,_,.borrow 1 i1 (by simp) rfl,?_⟩ | refine ⟨_,⟨_,_,.borrow 1 i1 (by simp) rfl⟩,?_⟩ | refine ⟨_,_,⟨_,.borrow 1 i1 (by simp) rfl⟩,?_⟩
    simp
    refine ⟨rfl,?_⟩
    exact ⟨2,by omega,by simp,by omega⟩
  · simp
    refine CallO.dat 3 d2 (by simp [frz,V.mapR,V.mapRL,lk,mapR_pure _ hA,mapR_pure _ hB,mapR_pure _ hD]) ?_
    simp
    refine CallO.dat 3 m2 (by simp [frz,V.mapR,V.mapRL,lk,mapR_pure _ hA,mapR_pure _ hB,mapR_pure _ hD]) ?_
    simp
    intro gm
    first | refine ⟨_,_,_,.borrow 1 i7 (by simp) rfl,?_⟩ | refine ⟨_,⟨_,_,.borrow 1 i7 (by simp) rfl⟩,?_⟩ | refine ⟨_,_,⟨_,.borrow 1 i7 (by simp) rfl⟩,?_⟩
    simp
    first | refine ⟨_,_,_,.pure i9 (by simp),?_⟩ | refine ⟨_,⟨_,_,.pure i9 (by simp)⟩,?_⟩ | refine ⟨_,_,⟨_,.pure i9 (by simp)⟩,?_⟩
    simp
    refine ⟨rfl,?_⟩
    exact ⟨3,by omega,by simp,by omega⟩
  · simp
    refine CallO.dat 3 d3 (by simp [frz,V.mapR,V.mapRL,lk,mapR_pure _ hA,mapR_pure _ hB,mapR_pure _ hD]) ?_
    simp
    refine CallO.dat 3 m3 (by simp [frz,V.mapR,V.mapRL,lk,mapR_pure _ hA,mapR_pure _ hB,mapR_pure _ hD]) ?_
    simp
    intro gm
    first | refine ⟨_,_,_,.borrow 1 i1 (by simp) rfl,?_⟩ | refine ⟨_,⟨_,_,.borrow 1 i1 (by simp) rfl⟩,?_⟩ | refine ⟨_,_,⟨_,.borrow 1 i1 (by simp) rfl⟩,?_⟩
    simp
    first | refine ⟨_,_,_,.pure i9 (by simp),?_⟩ | refine ⟨_,⟨_,_,.pure i9 (by simp)⟩,?_⟩ | refine ⟨_,_,⟨_,.pure i9 (by simp)⟩,?_⟩
    simp
    refine ⟨rfl,?_⟩
    exact ⟨4,by omega,by simp,by omega⟩
  · simp
    refine CallO.dat 3 d4 (by simp [frz,V.mapR,V.mapRL,lk,mapR_pure _ hA,mapR_pure _ hB,mapR_pure _ hD]) ?_
    simp
    refine CallO.dat 3 m4 (by simp [frz,V.mapR,V.mapRL,lk,mapR_pure _ hA,mapR_pure _ hB,mapR_pure _ hD]) ?_
    simp
    intro gm
    first | refine ⟨_,_,_,.pure i9 (by simp),?_⟩ | refine ⟨_,⟨_,_,.pure i9 (by simp)⟩,?_⟩ | refine ⟨_,_,⟨_,.pure i9 (by simp)⟩,?_⟩
    simp
    first | refine ⟨_,_,_,.pure i9 (by simp),?_⟩ | refine ⟨_,⟨_,_,.pure i9 (by simp)⟩,?_⟩ | refine ⟨_,_,⟨_,.pure i9 (by simp)⟩,?_⟩
    simp
    refine ⟨rfl,?_⟩
    exact ⟨5,by omega,by simp,by omega⟩
  · simp
end Go.Proofs.YtcmapbecfpcnfaaDoor
