/- Paths: the law Kinds of layer 20. Conditions: none. -/
import Derived.Test.YtlmniacemoohpaaGreatDoorP19
import Derived.Test.YtlmniacemoohpaaGreatDoorPC
import Derived.Test.YtlmniacemoohpaaGreatDoorXL14
import Derived.Test.YtlmniacemoohpaaGreatDoorT14
set_option linter.unusedSimpArgs false
set_option linter.unusedVariables false
namespace Go.Proofs.YtlmniacemoohpaaGreatDoor
open Go
def allP (c : Ci) : List Pth:=allF c 68719476736 (srcT c c.n.length) []
theorem srcT_mT {c : Ci} (hg : c.good) (hr : c.nar) : mT c (srcT c c.n.length) ≤ 68719476736:=by
 have hn1:=hr.n
 have h1:=srcT_len c c.n.length
 have h2 : mT c (srcT c c.n.length) ≤ (srcT c c.n.length).length * 4294967296:=sum_le fun P _=>ts_16 hg hr _
 omega
theorem allP_prop {c : Ci} (hg : c.good) (hr : c.nar) : (allP c).length ≤ 5000∧(5000 ≤ (allP c).length∨AllI c [] (allP c)):=allF_prop hg hr _ _ _ (AllI.start c) (srcT_mT hg hr) (by simp)
theorem allP_c (c : Ci) (hg : c.good) (hr : c.nar) : PureC Tryz.prog gl0 30 [c.v] (.sl ((allP c).map pv) none):=by
 refine (all_c c hg hr).wide ⟨VLe.refl _,trivial⟩ ?_
 change VLe (listV ((allP c).map pv)) _
 cases (allP c).map pv with
 | nil=>exact VLe.nil'
 | cons a r=>exact VLe.refl _
theorem howT_zero (c : Ci) (A B : Nat→Nat) (F : Nat→Bool) : ∀ Q,howT c A B F Q 0 = 0
 | []=>rfl
 | l :: Q=>by rw [howT,Nat.zero_min]; exact howT_zero c A B F Q
theorem notN_iff {a b : Nat} : (a ≤ 1∧b = notN a)↔¬ (1 < a∨1 < b∨a = b):=by
 unfold notN
 constructor
 ·rintro ⟨h1,h2⟩
  rw [if_pos h1] at h2
  omega
 ·intro h
  have h1 : a ≤ 1:=by omega
  rw [if_pos h1]
  omega
set_option maxRecDepth 100000 in
set_option maxHeartbeats 8000000 in
theorem law14_c (x : Cx) (hx : x.ok) (p q : Pt) : PureC Tryz.prog gl0 14 [caseV x p q] (.bool true):=by
 have hg:=nm_good x
 have hr:=ci_nar x.nm
 have hcs:=caseP_c x hx p q
 have hcp:=case_pure x p q
 generalize x.nm.ci = c at hcs hg hr
 have ha:=pof_fit c p
 have hb:=pof_fit c q
 generalize pof c p = p1 at hcs ha
 generalize pof c q = q1 at hcs hb
 have hn1:=hg.n1
 have hn0:=hg.n0
 have hst:=steadyS_c c hg p1 q1 ha hb
 have r1:=run_c c hg p1 ha
 have r2:=run_c c hg q1 hb
 have hal:=allP_c c hg hr
 obtain ⟨hO1,hO2⟩:=allP_prop hg hr
 have hts:=fun P cap=>tests_c c hg p1 q1 ha hb P cap
 have htb:=fun n k h1 h2 h3=>table_c c hg (netN c q1) (firmN c (netN c p1) (netN c q1)) (net3 hb) (some c.n.length) (some c.n.length) n k h1 h2 h3
 generalize allP c = O at hal hO1 hO2
 generalize obsO c (netN c p1) = OO1 at r1
 generalize obsS c (netN c p1) = S1 at r1
 generalize obsO c (netN c q1) = OO2 at r2
 generalize obsS c (netN c q1) = S2 at r2
 generalize firmN c (netN c p1) (netN c q1) = F at hst hts htb
 generalize netN c p1 = A at r1 hts
 generalize netN c q1 = B at r2 hts htb
 have pA:=tabU_pure c.n.length A
 have pB:=tabU_pure c.n.length B
 have pF:=boolsV_pure c.n.length F
 have hcl : c.v.cells = [.sl (c.n.map Nd.v) none,.sl (c.s.map .str) none,.sl (c.m.map Md.v) none,.sl (ints c.o) none]:=rfl
 simp only [caseV,prV,rspV,Pt.v,u8V,natV] at hcs hcp hst r1 r2 pA pB hts htb
 refine PureC.of_W 2 ok14 rfl ?_
 simp [i14,x14,caseV,u8V]
 intro gf1
 generalize gf1 1 = g1
 refine CallO.pure hcs (by simpa [u8V] using hcp) ?_
 simp
 intro gf3 gf4
 generalize gf3 3 = g3
 generalize gf4 4 = g4
 refine CallO.pure hal (by simp) ?_
 simp
 by_cases h5 : 5000 ≤ O.length
 ·simp [h5]
  refine CallO.pure livesP_c rfl ?_
  simp
 have hAI : AllI c [] O:=by rcases hO2 with h | h; exact absurd h h5; exact h
 have hOL : O.length < 5000:=by omega
 simp [h5,hOL]
 refine CallO.pure hst (by simp) ?_
 simp
 refine CallO.pure r1 (by simp) ?_
 simp
 intro gf5
 refine CallO.pure r2 (by simp) ?_
 simp
 intro gf6
 refine LoopP.of (X:=Nat) (fun i=>[(14,natV i),(5,.sl (O.map pv) none),(6,.sl (boolsV c.n.length F) (some c.n.length)),(9,.sl (tab c.n.length fun j=>.int .u8 (A j : Int)) (some c.n.length)),(12,.sl (tab c.n.length fun j=>.int .u8 (B j : Int)) (some c.n.length)),(3,.ptr 3 g3 0 0),(4,.ptr 4 g4 0 0)]) (fun _=>[(3,.row g3 4 [c.v]),(4,.row g4 4 [prV p1 q1])])
  (fun i=>i ≤ O.length) (fun i=>O.length - i) 0 (by simp) (by simp [natV]) (by simp [prV]; rfl) ?_
 rintro i q0
 by_cases hi : i < O.length
 case neg=>
  simp [natV,hi]
  refine CallO.pure livesP_c rfl ?_
  simp
 by_cases h60 : i < 60
 case neg=>
  simp [natV,hi,h60]
  refine CallO.pure livesP_c rfl ?_
  simp
 have hwi:=wrapN i (by omega)
 obtain ⟨P,hP⟩ : ∃ P,O[i] = P:=⟨_,rfl⟩
 have hOe : O[i]? = some P:=by rw [List.getElem?_eq_getElem hi,hP]
 have hPB:=hAI.o P (by rw [← hP]; exact List.getElem_mem hi)
 have hPl:=pp_len hg hr (isPB_iff.1 hPB).1
 have hnr:=hr.n
 obtain ⟨hP0,hlk⟩:=isPB_lnk hPB
 obtain ⟨s,hs,hsn,-⟩:=lnk_src hP0 (hlk 0 hP0)
 obtain ⟨cp,hpv⟩ : ∃ cp,pv P = .sl (P.map lnI) cp:=⟨_,rfl⟩
 have ht:=hts P cp (by omega) hPB
 obtain ⟨a,ha⟩ : ∃ a,A s = a:=⟨_,rfl⟩
 obtain ⟨b,hb⟩ : ∃ a,B s = a:=⟨_,rfl⟩
 have hgd : P.getD 0 (0,0) = P[0]:=by rw [List.getD_eq_getElem?_getD,List.getElem?_eq_getElem hP0]; rfl
 have htp : tstP c A B F P = if a ≤ 1∧b = notN a then howT c A B F (P.drop 1) 2 else 0:=by
  unfold tstP; rw [hgd,hs]; simp only [Int.toNat_natCast,ha,hb]
 rw [htp] at ht
 clear htp
 have pP:=lnI_pure P
 obtain ⟨w0,hw0⟩ : ∃ w : Nat,w = if 1 < a∨1 < b∨a = b then 0 else 2:=⟨_,rfl⟩
 obtain ⟨R,hR⟩ : ∃ R,howT c A B F (P.drop 1) w0 = R:=⟨_,rfl⟩
 have hRe : (if a ≤ 1∧b = notN a then howT c A B F (P.drop 1) 2 else 0) = R:=by
  by_cases h : 1 < a∨1 < b∨a = b
  ·rw [if_neg (fun h2=>notN_iff.1 h2 h),← hR,hw0,if_pos h,howT_zero]
  ·rw [if_pos (notN_iff.2 h),← hR,hw0,if_neg h]
 rw [hRe] at ht
 have hw2 : w0 ≤ 2:=by rw [hw0]; split <;> omega
 have e1 : 1 < a→w0 = 0:=fun h=>by rw [hw0,if_pos (.inl h)]
 have e2 : 1 < b→w0 = 0:=fun h=>by rw [hw0,if_pos (.inr (.inl h))]
 have e3 : a = b→w0 = 0:=fun h=>by rw [hw0,if_pos (.inr (.inr h))]
 have e4 : ¬ 1 < a→¬ 1 < b→¬ a = b→w0 = 2:=fun h h' h''=>by rw [hw0,if_neg (fun o=>o.elim h fun o=>o.elim h' h'')]
 clear hw0
 have step : ∀ {G C : Prop},(G→C)→G→C:=fun f g=>f g
 refine step (G:=?G) ?a ?b
 case a=>
  intro hkey
  by_cases h1 : 1 < a
  case' pos=>
   have hw0:=e1 h1
   simp [natV,hi,h60,hP,hpv,hP0,hs,lnI,hsn,tab_get,ha,hb,h1]
  case' neg=>
   by_cases h2 : 1 < b
   case' pos=>
    have hw0:=e2 h2
    simp [natV,hi,h60,hP,hpv,hP0,hs,lnI,hsn,tab_get,ha,hb,h1,h2]
   case' neg=>
    by_cases h3 : a = b
    case' pos=>
     have hw0:=e3 h3
     simp [natV,hi,h60,hP,hpv,hP0,hs,lnI,hsn,tab_get,ha,hb,h1,h2,h3]
    case' neg=>
     have hw0:=e4 h1 h2 h3
     simp [natV,hi,h60,hP,hpv,hP0,hs,lnI,hsn,tab_get,ha,hb,h1,h2,h3]
  all_goals
   refine LoopP.of (X:=Nat × Nat) (fun z=>[(17,natV z.1),(16,natV z.2),(14,natV i),(5,.sl (O.map pv) none),(6,.sl (boolsV c.n.length F) (some c.n.length)),(9,.sl (tab c.n.length fun j=>.int .u8 (A j : Int)) (some c.n.length)),(12,.sl (tab c.n.length fun j=>.int .u8 (B j : Int)) (some c.n.length)),(3,.ptr 3 g3 0 0),(4,.ptr 4 g4 0 0)]) (fun _=>[(3,.row g3 4 [c.v]),(4,.row g4 4 [prV p1 q1])])
    (fun z=>1 ≤ z.1∧z.1 ≤ P.length∧z.2 ≤ 2∧howT c A B F (P.drop z.1) z.2 = R) (fun z=>P.length - z.1) (1,w0) ⟨by simp,hP0,hw2,hR⟩ (by simp [natV,hw0]) (by simp) ?_
   exact hkey
 case b=>
  rintro ⟨k,w⟩ ⟨k1,k2,k3,k4⟩
  dsimp only at k1 k2 k3 k4
  simp [natV,hi,hP,hpv]
  refine BrB.of (fun hb2=>?_) (fun hb2=>?_)
  ·have hk : k < P.length:=of_decide_eq_true hb2
   have hw:=wrapN k (by omega)
   have hpin : ∃ n q : Nat,P[k] = ((n : Int),(q : Int))∧n < c.n.length∧combC c n = true∧q < (c.g n).length:=by
    obtain ⟨j,rfl⟩ : ∃ j,k = j + 1:=⟨k - 1,by omega⟩
    obtain ⟨n,q,e,h1,h2,h3,-⟩:=lnk_pin hg hk (hlk (j + 1) hk)
    exact ⟨n,q,e,h1,h2,h3⟩
   obtain ⟨n,kk,e,hn,hc,hkk⟩:=hpin
   have hl:=htb n kk hn hc hkk
   rw [List.drop_eq_getElem_cons hk,e,howT] at k4
   simp only [Int.toNat_natCast] at k4
   obtain ⟨t,ht2⟩ : ∃ t,lnT B F (c.nd n).k.toNat kk (sideN (c.g n) kk) (B ((c.g n).getD kk 0)) = t:=⟨_,rfl⟩
   rw [ht2] at hl k4
   simp [hi,hP,hpv,hk,e,lnI]
   intro gm
   first | refine ⟨_,_,_,.pure hl (by simp [pB,pF]),?_⟩ | refine ⟨_,⟨_,_,.pure hl (by simp [pB,pF])⟩,?_⟩ | refine ⟨_,_,⟨_,.pure hl (by simp [pB,pF])⟩,?_⟩
   obtain ⟨mn,hmn⟩ : ∃ m,min w t = m:=⟨_,rfl⟩
   rw [hmn] at k4
   have hm2 : min (w : Int) (t : Int) = (mn : Int):=by omega
   simp [hm2]
   exact ⟨k + 1,mn,⟨by omega,hk,by omega,k4⟩,⟨by simp [hw],rfl⟩,by omega⟩
  ·have hk : k = P.length:=by have:=of_decide_eq_false hb2; omega
   subst hk
   rw [List.drop_length,howT] at k4
   subst k4
   simp [hi,hP,hpv]
   intro gm
   first | refine ⟨_,_,_,.pure ht (by simp [pP,prV]),?_⟩ | refine ⟨_,⟨_,_,.pure ht (by simp [pP,prV])⟩,?_⟩ | refine ⟨_,_,⟨_,.pure ht (by simp [pP,prV])⟩,?_⟩
   simp
   exact ⟨i + 1,hi,by simp [hwi],by omega⟩
end Go.Proofs.YtlmniacemoohpaaGreatDoor
