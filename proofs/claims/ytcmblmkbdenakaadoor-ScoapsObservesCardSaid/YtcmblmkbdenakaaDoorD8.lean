/- Observability: the law Observes. Conditions: none. -/
import Derived.Test.YtcmblmkbdenakaaDoorD7
import Derived.Test.YtcmblmkbdenakaaDoorLV
import Derived.Test.YtcmblmkbdenakaaDoorXL4
set_option linter.unusedSimpArgs false
set_option linter.unusedVariables false
namespace Go.Proofs.YtcmblmkbdenakaaDoor
open Go
structure OL where
 n : Nat
structure OI where
 k : Nat
theorem lnC_at {c : Ci} (hwf : c.wf) (hsh : shE c = 0) {n i : Nat} (hn : n < c.n.length) (hi : i < (c.nd n).i.length) : lnC c n i = atD c (ctl c) (obs c) n i:=by
 unfold lnC atD
 rw [if_neg (by omega)]
 simp only [Int.toNat_natCast]
 by_cases h14 : (c.nd n).k = 14
 ·rw [if_pos h14,if_pos h14]
 ·rw [if_neg h14,if_neg h14,pnC_D hwf hsh _ hn hi h14,pls_comm]
set_option maxRecDepth 100000 in
theorem law4_c (x : Cx) (hx : x.ok) : PureC Tryd.prog gl0 4 [x.v] (.bool true):=by
 have hof:=cof_c x hx
 have hgp : V.pureL (x.g.map Gx.v) = true:=pureL_map (fun g=>by simp [Gx.v,u8V]) x.g
 have hop : V.pureL (x.o.map u8V) = true:=u8s_pure x.o
 have hwf:=ci_wf x
 have h0:=chk_ok x
 obtain ⟨hn16,hn0⟩:=ci_nn x
 generalize x.ci = c at hof hwf h0 hn16 hn0
 obtain ⟨hsh,hac⟩:=chk_sh h0
 have hval:=sh_val hwf hsh
 have hol:=(sh_len hsh).2.2.2
 have hCo:=ControlP_c c hwf h0 (by omega)
 have hOb:=ObserveP_c c hwf h0 (by omega)
 have hLn:=LineP_c c hwf h0 (by omega)
 have hCle : ∀ i,(ctl c i).1 ≤ nev∧(ctl c i).2 ≤ nev:=ctL_le c _ (fun _ _ h=>by cases h) _
 have hOle : ∀ i,obs c i ≤ nev:=obsN_le _ _ _
 have hlaw : ∀ k,obs c k = mnN c (atD c (ctl c) (obs c)) (ob0 c) c.n.length k:=obsN_law hwf hsh hac (ord_ex hval hac) _
 have hat:=fun n i hn hi=>lnC_at (c:=c) hwf hsh (n:=n) (i:=i) hn hi
 have hCp:=netsC_pure c.n.length (ctl c)
 have hOp:=natsT_pure c.n.length (obs c)
 have hst : ∀ m : Nat,lnC c m (-1) = obs c m:=fun m=>by unfold lnC; rw [if_pos (by decide)]; rfl
 generalize ctl c = f at *
 generalize obs c = o at *
 refine PureC.of_W 3 ok4 rfl ?_
 simp [i4,x4,Cx.v,u8V]
 intro ga
 generalize ga 1 = g1
 refine CallO.pure hof (by simp [Cx.v,u8V,hgp,hop]) ?_
 simp
 intro gb
 generalize gb 3 = g3
 refine CallO.pure hCo (by simp) ?_
 simp
 refine CallO.pure hOb (by simp) ?_
 simp [netsC_len,natsT_len]
 intro gc
 refine ⟨by omega,?_⟩
 generalize gc 57 = g57
 have hfr : True:=trivial
 refine LoopP.of (X:=Nat) (fun i=>[(9,natV i),(8,.ref 57 g57 0 c.n.length (some c.n.length)),(6,.sl (natsT c.n.length o) (some c.n.length)),(4,.sl (netsC c.n.length f) (some c.n.length)),(3,.ptr 3 g3 0 0)])
  (fun i=>[(57,.row g57 1 (natsT c.n.length (nevU i))),(3,.row g3 4 [c.v])])
  (fun i=>i ≤ c.n.length) (fun i=>c.n.length - i) 0 (by omega) (by simp [natV]) (by simp [natsT_rep]; exact ⟨rfl,rfl⟩) ?_
 intro i hi
 simp [natV]
 refine BrB.of (fun hb=>?_) (fun hb=>?_)
 ·have hi':=of_decide_eq_true hb
  have hw:=wrapN i (by omega)
  have hset:=natsT_set c.n.length (nevU i) i nev
  rw [nevU_next] at hset
  simp [hi',natsT_len,natsT_at,hw]
  exact ⟨i + 1,hi',by simp,hset,by omega⟩
 have hi' : i = c.n.length:=by have:=of_decide_eq_false hb; omega
 subst hi'
 have hc0 : natsT c.n.length (nevU c.n.length) = natsT c.n.length (zeroL ((outsN c).take 0) fun _=>nev):=natsT_congr fun i hi=>by simp [nevU,hi,zeroL]
 rw [hc0]
 simp
 have hON : (outsN c).length = c.o.length:=by simp [outsN]
 refine LoopP.of (X:=Nat) (fun i=>[(10,natV i),(8,.ref 57 g57 0 c.n.length (some c.n.length)),(6,.sl (natsT c.n.length o) (some c.n.length)),(4,.sl (netsC c.n.length f) (some c.n.length)),(3,.ptr 3 g3 0 0)])
  (fun i=>[(57,.row g57 1 (natsT c.n.length (zeroL ((outsN c).take i) fun _=>nev))),(3,.row g3 4 [c.v])])
  (fun i=>i ≤ c.o.length) (fun i=>c.o.length - i) 0 (by omega) (by simp [natV]) (by simp) ?_
 intro i hi
 simp [natV]
 refine BrB.of (fun hb=>?_) (fun hb=>?_)
 ·have hi':=of_decide_eq_true hb
  have hw:=wrapN i (by omega)
  obtain ⟨q,hq,hqN⟩:=out_in hsh hi'
  have hset:=natsT_set c.n.length (zeroL ((outsN c).take i) fun _=>nev) q 0
  have hON2 : (outsN c)[i]'(by omega) = q:=by simp [outsN,hq]
  rw [← zeroL_snoc,← hON2,← take_snoc _ _ (by omega),hON2] at hset
  have h4 : (ints c.o)[i]'(by simpa using hi') = .int .i64 (q : Int):=by simp [ints,hq]
  simp only [Int.natCast_zero] at hset
  simp [hi',natsT_len,natsT_at,hw,h4,hqN]
  exact ⟨i + 1,hi',by simp,hset,by omega⟩
 have hi' : i = c.o.length:=by have:=of_decide_eq_false hb; omega
 subst hi'
 rw [← hON,List.take_length,show (zeroL (outsN c) fun _=>nev) = ob0 c from rfl]
 simp
 refine LoopP.of (X:=OL) (fun z=>[(11,natV z.n),(8,.ref 57 g57 0 c.n.length (some c.n.length)),(6,.sl (natsT c.n.length o) (some c.n.length)),(4,.sl (netsC c.n.length f) (some c.n.length)),(3,.ptr 3 g3 0 0)])
  (fun z=>[(57,.row g57 1 (natsT c.n.length (mnN c (atD c f o) (ob0 c) z.n))),(3,.row g3 4 [c.v])])
  (fun z=>z.n ≤ c.n.length) (fun z=>c.n.length - z.n) ⟨0⟩ (by simp) (by simp [natV]) (by simp [mnN]) ?_
 rintro ⟨n⟩ hn
 dsimp only at hn ⊢
 have hnext : mnN c (atD c f o) (ob0 c) (n + 1) = mnJ (atD c f o n) (c.nd n).i (mnN c (atD c f o) (ob0 c) n) (c.nd n).i.length:=rfl
 have hend : n = c.n.length→mnN c (atD c f o) (ob0 c) n = mnN c (atD c f o) (ob0 c) c.n.length:=fun h=>by rw [h]
 generalize mnN c (atD c f o) (ob0 c) n = w at hnext hend ⊢
 simp [natV]
 refine BrB.of (fun hb=>?_) (fun hb=>?_)
 ·have hn':=of_decide_eq_true hb
  have hw:=wrapN n (by omega)
  obtain ⟨y,hy⟩ : ∃ y,c.n[n] = y:=⟨_,rfl⟩
  have hyc : c.nd n = y:=by rw [c.nd_get hn',hy]
  have hym : y ∈ c.n:=hy ▸ List.getElem_mem hn'
  have hyv:=val_mem hval hym
  have hat2:=hat n
  rw [hyc] at hnext hat2
  have hinp:=linputs_c y c.n.length f (some c.n.length) (by omega) hyv.2
  have hstm:=hLn (n : Int) (-1) (by unfold lnBad; simp only [Int.toNat_natCast,hyc]; omega)
  rw [hst] at hstm
  obtain ⟨k,hkk⟩ : ∃ k : Nat,y.k = k:=⟨y.k.toNat,by have:=(hwf.k y hym).1; omega⟩
  have hk256 : k < 256:=by have:=(hwf.k y hym).2; omega
  simp [hn',hy]
  intro gd
  generalize gd 12 = g12
  refine LoopP.of (X:=OI) (fun z=>[(13,natV z.k),(12,.ptr 12 g12 0 0),(11,natV n),(8,.ref 57 g57 0 c.n.length (some c.n.length)),(6,.sl (natsT c.n.length o) (some c.n.length)),(4,.sl (netsC c.n.length f) (some c.n.length)),(3,.ptr 3 g3 0 0)])
   (fun z=>[(12,.row g12 4 [y.v]),(57,.row g57 1 (natsT c.n.length (mnJ (atD c f o n) y.i w z.k))),(3,.row g3 4 [c.v])])
   (fun z=>z.k ≤ y.i.length) (fun z=>y.i.length - z.k) ⟨0⟩ (by simp) (by simp [natV]) (by simp [mnJ]) ?_
  rintro ⟨k2⟩ hk2
  dsimp only at hk2 ⊢
  have hJn : mnJ (atD c f o n) y.i w (k2 + 1) = upd1 (mnJ (atD c f o n) y.i w k2) (y.i.getD k2 0).toNat (min (mnJ (atD c f o n) y.i w k2 (y.i.getD k2 0).toNat) (atD c f o n k2)):=rfl
  have hJe : k2 = y.i.length→mnJ (atD c f o n) y.i w k2 = mnJ (atD c f o n) y.i w y.i.length:=fun h=>by rw [h]
  generalize mnJ (atD c f o n) y.i w k2 = oj at hJn hJe ⊢
  simp [natV]
  refine BrB.of (fun hb2=>?_) (fun hb2=>?_)
  ·have hk3:=of_decide_eq_true hb2
   have hw2:=wrapN k2 (by omega)
   obtain ⟨q,hq⟩ : ∃ q : Nat,y.i[k2] = q:=⟨y.i[k2].toNat,by have:=(hyv.2 _ (List.getElem_mem hk3)).1; omega⟩
   have hqN : q < c.n.length:=by have:=(hyv.2 _ (List.getElem_mem hk3)).2; omega
   have h5 : (ints y.i)[k2]'(by simpa using hk3) = .int .i64 (q : Int):=by simp [ints,hq]
   have hqd : (y.i.getD k2 0).toNat = q:=by rw [List.getD_eq_getElem?_getD,List.getElem?_eq_getElem hk3]; simp [hq]
   rw [hqd] at hJn
   have hln:=hLn (n : Int) (k2 : Int) (by unfold lnBad; simp only [Int.toNat_natCast,hyc]; omega)
   rw [hat2 k2 hn' hk3] at hln
   by_cases h14 : k = 14
   ·have ha0 : atD c f o n k2 = 0:=by unfold atD; rw [hyc,hkk,if_pos (by omega)]
    rw [ha0] at hln hJn
    have hset:=natsT_set c.n.length oj q (min (oj q) 0)
    rw [← hJn] at hset
    simp only [natV,Nat.min_zero,Int.natCast_zero] at hset hln
    have hd : decide (k = 14) = true:=decide_eq_true h14
    have hm0 : min ((oj q : Nat) : Int) 0 = 0:=by omega
    simp [hkk,hd,hk3,h5,hqN,natsT_len,natsT_at,hm0]
    refine CallO.pure hln (by simp) ?_
    simp [hw2]
    exact ⟨⟨k2 + 1⟩,hk3,by simp,hset,by dsimp only; omega⟩
   ·have hd : decide (k = 14) = false:=decide_eq_false h14
    have ha1 : atD c f o n k2 = pls (pinD k k2 (insC f y)) (o n):=by unfold atD; rw [hyc,hkk,if_neg (by omega)]; rfl
    have hinl : (insC f y).length = y.i.length:=by simp [insC]
    have hinle : ∀ p ∈ insC f y,p.1 ≤ nev∧p.2 ≤ nev:=fun p hp=>by
     obtain ⟨j,-,rfl⟩:=List.mem_map.1 hp
     exact hCle _
    have p1:=lpin_c k k2 hk256 ((insC f y).map icost) none (by rw [List.length_map,hinl]; omega) (by rw [List.length_map,hinl]; omega)
    rw [icost_c hinle,icost_v] at p1
    have hip:=nCs_pure (insC f y)
    have hL : (insC f y).map nC ≠ []:=fun h=>by
     have:=congrArg List.length h
     simp [hinl] at this
     rw [this] at hk3
     simp at hk3
    rw [listV_ne hL] at hinp
    have hPle : pinD k k2 (insC f y) ≤ nev:=by
     unfold pinD; split
     ·simp only [nev]; omega
     ·exact pls_le _ _
    have hon:=hOle n
    generalize pinD k k2 (insC f y) = P at p1 ha1 hPle
    rw [ha1] at hln hJn
    have hset:=natsT_set c.n.length oj q (min (oj q) (pls P (o n)))
    rw [← hJn] at hset
    simp only [natV,u8V] at hset hln p1
    have hwP : IntKind.i64.wrap ((P : Int) + (o n : Int)) = (P : Int) + o n:=by
     simp only [nev] at hPle hon
     rw [wrap_i64] <;> omega
    simp [hkk,hd]
    intro gm
    first | refine ⟨_,_,_,.pure hinp (by simp [hCp]),?_⟩ | refine ⟨_,⟨_,_,.pure hinp (by simp [hCp])⟩,?_⟩ | refine ⟨_,_,⟨_,.pure hinp (by simp [hCp])⟩,?_⟩
    simp
    first | refine ⟨_,_,_,.pure p1 (by simp [hip]),?_⟩ | refine ⟨_,⟨_,_,.pure p1 (by simp [hip])⟩,?_⟩ | refine ⟨_,_,⟨_,.pure p1 (by simp [hip])⟩,?_⟩
    simp [hn',natsT_len,natsT_at,hwP,pls_i]
    refine ⟨by simp [indAll,snocF,indF,memN],?_⟩
    intro gm2
    simp [hk3,h5,hqN,natsT_len,natsT_at,min_i]
    refine CallO.pure hln (by simp) ?_
    simp [hw2]
    exact ⟨⟨k2 + 1⟩,hk3,by simp,hset,by dsimp only; omega⟩
  ·have hk3 : k2 = y.i.length:=by have:=of_decide_eq_false hb2; omega
   subst hk3
   simp
   refine CallO.pure hstm (by simp) ?_
   simp [natV,hn',natsT_len,natsT_at,hw]
   exact ⟨⟨n + 1⟩,hn',by simp,by rw [hnext,hJe rfl],by dsimp only; omega⟩
 ·have hn' : n = c.n.length:=by have:=of_decide_eq_false hb; omega
  have hc1 : natsT c.n.length (mnN c (atD c f o) (ob0 c) c.n.length) = natsT c.n.length o:=natsT_congr fun i _=>(hlaw i).symm
  rw [hend hn',hc1]
  simp
  refine LoopP.of (X:=OL) (fun z=>[(19,natV z.n),(8,.ref 57 g57 0 c.n.length (some c.n.length)),(6,.sl (natsT c.n.length o) (some c.n.length))])
   (fun z=>[(57,.row g57 1 (natsT c.n.length o))])
   (fun z=>z.n ≤ c.n.length) (fun z=>c.n.length - z.n) ⟨0⟩ (by simp) (by simp [natV]) (by simp) ?_
  rintro ⟨n2⟩ hn2
  dsimp only at hn2 ⊢
  simp [natV]
  refine BrB.of (fun hb=>?_) (fun hb=>?_)
  ·have hn3:=of_decide_eq_true hb
   have hw:=wrapN n2 (by omega)
   simp [hn3,natsT_len,natsT_at,hw]
   exact ⟨⟨n2 + 1⟩,hn3,by simp,by dsimp only; omega⟩
  ·simp
   refine CallO.pure lives_c rfl ?_
   simp
end Go.Proofs.YtcmblmkbdenakaaDoor
