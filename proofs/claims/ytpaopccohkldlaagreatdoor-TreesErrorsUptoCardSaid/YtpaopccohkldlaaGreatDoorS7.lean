/- Circuits without memories: the pattern of unknown values, in memory of one's own. Conditions: none. -/
import Derived.Test.YtpaopccohkldlaaGreatDoorT7
import Derived.Test.YtpaopccohkldlaaGreatDoorXT
set_option linter.unusedSimpArgs false
set_option linter.unusedVariables false
namespace Go.Proofs.YtpaopccohkldlaaGreatDoor
open Go
set_option maxRecDepth 100000 in
theorem mulW_c (m : Nat) (h : m < 24) : PureC Tryz.prog gl0 141 [.int .u64 1,.int .u64 (m : Int)] (.tup [.int .u64 0,.int .u64 (m : Int)]):=by
 have hc : m = 0∨m = 1∨m = 2∨m = 3∨m = 4∨m = 5∨m = 6∨m = 7∨m = 8∨m = 9∨m = 10∨m = 11∨m = 12∨m = 13∨m = 14∨m = 15∨m = 16∨m = 17∨m = 18∨m = 19∨m = 20∨m = 21∨m = 22∨m = 23:=by omega
 rcases hc with rfl | rfl | rfl | rfl | rfl | rfl | rfl | rfl | rfl | rfl | rfl | rfl | rfl | rfl | rfl | rfl | rfl | rfl | rfl | rfl | rfl | rfl | rfl | rfl
 all_goals
  refine PureC.of_W 2 ok141 rfl ?_
  simp [i141,x141,nop]
  try decide
theorem mulV_c (m : Nat) (h : m < 24) : PureC Tryz.prog gl0 102 [.int .u64 1,.int .u64 (m : Int)] (.tup [.int .u64 0,.int .u64 (m : Int)]):=by
 have h1:=mulW_c m h
 refine PureC.of_W 2 ok102 rfl ?_
 simp [i102,x102,nop]
 refine CallO.pure h1 (by simp [V.pureL,V.pure]) ?_
 simp
def rpU (n m : Nat) : List V:=List.replicate n (.int .u8 2) ++ List.replicate (m - n) (.int .u8 0)
@[simp] theorem rpU_length {n m : Nat} (h : n ≤ m) : (rpU n m).length = m:=by simp [rpU]; omega
theorem rpU_step {n m : Nat} (h : n ≤ m) : (rpU n m).take n ++ ((rpU n m).take n).take (min n (m - n)) ++ (rpU n m).drop (n + min n (m - n)) = rpU (n + min n (m - n)) m:=by
 have h1 : (rpU n m).take n = List.replicate n (.int .u8 2):=by
  unfold rpU; rw [List.take_left' (by simp)]
 have h2 : (rpU n m).drop (n + min n (m - n)) = List.replicate (m - (n + min n (m - n))) (.int .u8 0):=by
  unfold rpU
  rw [← List.drop_drop,List.drop_left' (by simp),List.drop_replicate]
  congr 1; omega
 rw [h1,h2]
 unfold rpU
 rw [List.take_replicate,List.replicate_append_replicate]
 congr 2; omega
theorem repeatV_c (m : Nat) (h : m < 24) : OwnC Tryz.prog gl0 66 [.sl [.int .u8 2] (some 1),.int .i64 (m : Int)] (OneB 1 (List.replicate m (.int .u8 2)) (some m)):=by
 refine OwnC.of_W ok66 rfl ?_
 have hm:=mulV_c m h
 have hc : IntKind.u64.wrap (m : Int) = (m : Int):=by
  show ((m : Int) % 18446744073709551616) = _
  omega
 have hc1 : IntKind.u64.wrap 1 = 1:=rfl
 have hi : IntKind.i64.wrap (m : Int) = (m : Int):=by rw [wrap_i64] <;> omega
 simp [i66,x66,hc,hc1]
 refine CallO.pure hm (by simp) ?_
 have hle : ¬ (9223372036854775807 : Int) < (m : Int):=by omega
 simp [hle,hi,nop,show m ≤ 549755813888 by omega]
 obtain ⟨s,hs⟩ : ∃ s,min 1 m = s:=⟨_,rfl⟩
 have hini : List.take s [V.int IntKind.u8 2] ++ List.replicate (m - s) (V.int IntKind.u8 0) = rpU s m:=by
  have : s = 0∨s = 1:=by omega
  rcases this with rfl | rfl <;> rfl
 intro gf
 generalize gf 30 = g
 rw [hs]
 refine LoopP.of (X:=Nat) (fun n=>[(8,natV n),(7,.ref 30 g 0 m (some m))]) (fun n=>[(30,.row g 1 (rpU n m))]) (fun n=>n ≤ m∧(0 < m→1 ≤ n)) (fun n=>m - n) s ⟨by omega,by omega⟩ (by simp [natV]) (by simp [← hini]) ?_
 rintro n ⟨h1,h2⟩
 simp [natV]
 refine BrB.of (fun hb=>?_) (fun hb=>?_)
 ·have hn : n < m:=of_decide_eq_true hb
  have:=h2 (by omega)
  simp [nop,h1,natV]
  exact ⟨n + min n (m - n),⟨by omega,by omega⟩,addN rfl (by omega),by rw [← List.append_assoc]; exact rpU_step h1,by omega⟩
 ·have hn : n = m:=by have:=of_decide_eq_false hb; omega
  subst hn
  have he : rpU n n = List.replicate n (.int .u8 2):=by simp [rpU]
  simp [he]
  refine .move 30 0 _ (by simp) (by simp; rfl) fun g=>.done ?_
  simp
  exact ⟨[(0,.row g 1 (List.replicate n (.int .u8 2)))],by simp [List.map_replicate],g,by simp,rfl⟩
theorem rep2_pure (m : Nat) : V.pureL (List.replicate m (V.int .u8 2)) = true:=by rw [V.pureL_iff]; intro v hv; rw [List.eq_of_mem_replicate hv]; rfl
theorem blank1O_c (m : Nat) (h : m < 24) : OwnC Tryz.prog gl0 65 [.int .i64 (m : Int)] (OneB 1 (List.replicate m (.int .u8 2)) (some m)):=by
 refine OwnC.of_W ok65 rfl ?_
 have hr:=repeatV_c m h
 simp [i65,x65]
 intro gf
 refine CallO.ownBorrow 1 1000 hr (by simp) (by simp) ?_
 rintro v h' ⟨g,rfl,rfl⟩
 refine ⟨rfl,fun b k hb=>?_,fun gf2=>?_⟩
 ·simp only [lk] at hb
  split at hb
  ·cases hb
   show V.noGL _ = true
   rw [V.noGL_iff]; intro v hv; rw [List.eq_of_mem_replicate hv]; rfl
  ·cases hb
 ·have hp:=rep2_pure m
  simp [upH,upS,Blk.rn,map_rn_pure hp]
  refine .move 1000 0 _ (by simp) (by simp; rfl) fun g=>.done ?_
  simp
  exact ⟨[(0,.row g 1 (List.replicate m (.int .u8 2)))],by simp [Blk.rn],g,by simp,rfl⟩
def BlkK (c : Ci) (v : V) (h : Hp) : Prop:=∃ g0 g1,v = .agg [.ref 0 g0 0 (cnt 0 c.n) (some (cnt 0 c.n)),.ref 1 g1 0 (cnt 14 c.n) (some (cnt 14 c.n))]∧
 h = [(0,.row g0 1 (List.replicate (cnt 0 c.n) (.int .u8 2))),(1,.row g1 1 (List.replicate (cnt 14 c.n) (.int .u8 2)))]
theorem blankO_c (c : Ci) (hg : c.good) : OwnC Tryz.prog gl0 22 [c.v] (BlkK c):=by
 have hn1:=hg.n1
 have l0:=cnt_le 0 c.n
 have l1:=cnt_le 14 c.n
 have ci:=inputsN_c c (by omega)
 have cs:=statesN_c c (by omega)
 have hIl : (ids 0 c.n 0).length = cnt 0 c.n:=rfl
 have hSl : (ids 14 c.n 0).length = cnt 14 c.n:=rfl
 unfold BlkK
 generalize ids 0 c.n 0 = I at ci hIl
 generalize ids 14 c.n 0 = S at cs hSl
 generalize cnt 0 c.n = A at ci hIl l0 ⊢
 generalize cnt 14 c.n = B at cs hSl l1 ⊢
 have b0:=blank1O_c A (by omega)
 have b1:=blank1O_c B (by omega)
 refine OwnC.of_W ok22 rfl ?_
 simp [i22,x22]
 intro gf1 gf2 gm
 first | refine ⟨_,_,_,.pure ci (by simp),?_⟩ | refine ⟨_,⟨_,_,.pure ci (by simp)⟩,?_⟩ | refine ⟨_,_,⟨_,.pure ci (by simp)⟩,?_⟩
 simp [hIl]
 refine ⟨_,_,_,.own b0 (by simp) (rep2_pure A) rfl,?_⟩
 simp
 first | refine ⟨_,_,_,.pure cs (by simp),?_⟩ | refine ⟨_,⟨_,_,.pure cs (by simp)⟩,?_⟩ | refine ⟨_,_,⟨_,.pure cs (by simp)⟩,?_⟩
 simp [hSl]
 refine ⟨_,_,_,.own b1 (by simp) (rep2_pure B) rfl,?_⟩
 simp
 refine ⟨by simp [indAll,snocF,indF,memN]; exact rfl,?_⟩
 refine .move 8 0 _ (by simp) (by simp; rfl) fun g0=>.move 13 1 _ (by simp) (by simp; rfl) fun g1=>.done ?_
 simp
 exact ⟨[(0,.row g0 1 (List.replicate A (.int .u8 2))),(1,.row g1 1 (List.replicate B (.int .u8 2)))],by simp,g0,g1,⟨rfl,rfl⟩,rfl⟩
end Go.Proofs.YtpaopccohkldlaaGreatDoor
