/- Trees: the law's small functions. Conditions: none. -/
import Derived.Test.YtpaopccohkldlaaGreatDoorA5
import Derived.Test.YtpaopccohkldlaaGreatDoorT7
import Derived.Test.YtpaopccohkldlaaGreatDoorT13
import Derived.Test.YtpaopccohkldlaaGreatDoorXL7
set_option linter.unusedSimpArgs false
set_option linter.unusedVariables false
namespace Go.Proofs.YtpaopccohkldlaaGreatDoor
open Go
theorem sources_c (c : Ci) (hn : c.n.length < 1000000) : PureC Tryz.prog gl0 59 [c.v] (natV (cnt 0 c.n + cnt 14 c.n)):=by
 have l0:=cnt_le 0 c.n
 refine PureC.of_W 2 ok59 rfl ?_
 simp [i59,x59]
 intro gf
 generalize gf 1 = g1
 refine LoopP.of (X:=Nat) (fun j=>[(4,natV j),(3,natV (cnt 0 (c.n.take j) + cnt 14 (c.n.take j))),(1,.ptr 1 g1 0 0)]) (fun _=>[(1,.row g1 4 [c.v])])
  (fun j=>j ≤ c.n.length) (fun j=>c.n.length - j) 0 (Nat.zero_le _) (by simp [natV,cnt,ids]) (by simp) ?_
 intro j hj
 simp [natV]
 refine BrB.of (fun hb=>?_) (fun hb=>?_)
 ·have hj2 : j < c.n.length:=of_decide_eq_true hb
  have hwj:=wrapN j (by omega)
  obtain ⟨y,hy⟩ : ∃ y,c.n[j] = y:=⟨_,rfl⟩
  have t0:=cnt_take (k:=0) hj2 hy
  have t1:=cnt_take (k:=14) hj2 hy
  have u0:=cnt_le 0 (c.n.take j)
  have u1:=cnt_le 14 (c.n.take j)
  rw [List.length_take] at u0 u1
  obtain ⟨S,hS⟩ : ∃ S,cnt 0 (c.n.take j) + cnt 14 (c.n.take j) = S:=⟨_,rfl⟩
  have hwS:=wrapN S (by omega)
  have hSc : ((cnt 0 (c.n.take j) : Nat) : Int) + ((cnt 14 (c.n.take j) : Nat) : Int) = (S : Int):=by omega
  by_cases k0 : y.k = 0
  ·have k1 : ¬ y.k = 14:=by omega
   rw [if_pos k0] at t0
   rw [if_neg k1] at t1
   simp [hj2,hy,hwj,k0,hSc,hwS]
   exact ⟨j + 1,hj2,⟨by simp,by omega⟩,by omega⟩
  ·by_cases k1 : y.k = 14
   ·rw [if_neg k0] at t0
    rw [if_pos k1] at t1
    simp [hj2,hy,hwj,k0,k1,hSc,hwS]
    exact ⟨j + 1,hj2,⟨by simp,by omega⟩,by omega⟩
   ·rw [if_neg k0] at t0
    rw [if_neg k1] at t1
    simp [hj2,hy,hwj,k0,k1]
    exact ⟨j + 1,hj2,⟨by simp,by omega⟩,by omega⟩
 ·have hj3 : j = c.n.length:=by have:=of_decide_eq_false hb; omega
  subst hj3
  rw [List.take_length]
  simp
theorem bits_c (c : Ci) (hn : c.n.length < 1000000) : PureC Tryz.prog gl0 17 [c.v] (natV (cnt 0 c.n + cnt 14 c.n)):=by
 have h:=sources_c c hn
 refine PureC.of_W 2 ok17 rfl ?_
 simp [i17,x17]
 intro gf
 refine CallO.pure h (by simp) ?_
 simp [natV]
theorem pairsT_c (c : Ci) (hg : c.good) (hk : c.plain) (f : Ft) (hf : f.ok c) (hm : f.m = 0) (p : Pt) (hp : p.fit c) (hc : p.cu) :
  PureC Tryz.prog gl0 37 [c.v,f.w,p.v] (.tup [.sl (tU c.n.length (netN c p)) (some c.n.length),.sl (tU c.n.length (f.M c p)) (some c.n.length),.int .i64 0]):=by
 have h1:=checked_c c hg hk f hf hm p hp hc
 have h2:=tboth_c c hg f hf hm p hp
 have hA : V.pureL (tU c.n.length (netN c p)) = true:=tU_pure _ _
 have hM : V.pureL (tU c.n.length (f.M c p)) = true:=tU_pure _ _
 generalize tU c.n.length (netN c p) = TA at *
 generalize tU c.n.length (f.M c p) = TM at *
 simp only [Pt.v,Ft.w,u8V,natV] at h1 h2 ⊢
 refine PureC.of_W 2 ok37 rfl ?_
 simp [i37,x37]
 intro gf1 gf2 gf3
 refine CallO.pure h1 (by simp) ?_
 simp
 refine CallO.pure h2 (by simp) ?_
 simp [mapRL_pure _ hA,mapRL_pure _ hM,map_frz_pure hA,map_frz_pure hM]
end Go.Proofs.YtpaopccohkldlaaGreatDoor
namespace Go.Proofs.YtpaopccohkldlaaGreatDoor
open Go
end Go.Proofs.YtpaopccohkldlaaGreatDoor
namespace Go.Proofs.YtpaopccohkldlaaGreatDoor
open Go
end Go.Proofs.YtpaopccohkldlaaGreatDoor
