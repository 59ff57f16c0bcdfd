/- Paths: late, and the law Tests of layer 20. Conditions: none. -/
import Derived.Test.YtlmniacemoohpaaGreatDoorPA
import Derived.Test.YtlmniacemoohpaaGreatDoorPC
import Derived.Test.YtlmniacemoohpaaGreatDoorT14
import Derived.Test.YtlmniacemoohpaaGreatDoorP21
import Derived.Test.YtlmniacemoohpaaGreatDoorXL13
set_option linter.unusedSimpArgs false
set_option linter.unusedVariables false
namespace Go.Proofs.YtlmniacemoohpaaGreatDoor
open Go
theorem shr_bitF : ∀ (i : Fin 8) (k : Fin 4),∃ w : Fin 2,IntKind.u8.wrap (bitsI .and .i64 ((i.1 : Int).fdiv (2 ^ min k.1 IntKind.i64.bits)) 1) = (w.1 : Int):=by decide
theorem shr_bit (i k : Nat) (hi : i < 8) (hk : k < 4) : ∃ w : Nat,w ≤ 1∧IntKind.u8.wrap (bitsI .and .i64 ((i : Int).fdiv (2 ^ min k IntKind.i64.bits)) 1) = (w : Int):=by
 obtain ⟨w,h⟩:=shr_bitF ⟨i,hi⟩ ⟨k,hk⟩
 exact ⟨w.1,by omega,h⟩
structure LtS where
 j : Nat
 k : Nat
 U : Nat→Nat
set_option maxRecDepth 100000 in
set_option maxHeartbeats 8000000 in
theorem late_c (c : Ci) (hg : c.good) (hr : c.nar) (B : Nat→Nat) (F : Nat→Bool) (hB : ∀ m,B m ≤ 3) (cb cf : Option Nat) (n q : Nat) (al : Bool) (hn : n < c.n.length) (hc : combC c n = true) (hq : q < (c.g n).length)
  (hBn : B n = logE (c.nd n).k.toNat ((c.g n).map B)) (hv1 : B ((c.g n).getD q 0) ≤ 1)
  (hh : (if al = true then 2 else 1) ≤ lnT B F (c.nd n).k.toNat q (sideN (c.g n) q) (B ((c.g n).getD q 0))) :
  PureC Tryz.prog gl0 40 [c.v,.agg [natV n,natV q],.sl (tab c.n.length fun j=>u8V (B j)) cb,.sl (boolsV c.n.length F) cf,.bool al] (.bool true)∧B n ≤ 1:=by
 have hval:=hg.val
 have hn1:=hg.n1
 have hgi:=g_comb hc
 have hr3:=hr.i n hn
 obtain ⟨y,hy⟩ : ∃ y,c.n[n] = y:=⟨_,rfl⟩
 obtain ⟨l,hl⟩ : ∃ l,c.g n = l:=⟨_,rfl⟩
 obtain ⟨k0,k14,hw⟩:=nd_kw hg hn
 have hyi:=hval.i n hn
 have hcb : combC c n = decide (1 ≤ y.k∧y.k ≤ 13):=by unfold combC combB; rw [c.nd_get hn,hy]
 rw [hc] at hcb
 have hk13:=of_decide_eq_true hcb.symm
 rw [c.nd_get hn,hy] at hyi k0 k14 hw hgi hr3 hBn hh
 rw [hl] at hq hgi hBn hv1 hh
 have hyl2 : y.i = l.map fun (x : Nat)=>(x : Int):=by
  rw [hgi,List.map_map]
  have hid : ∀ x ∈ y.i,((fun (x : Nat)=>(x : Int)) ∘ Int.toNat) x = id x:=fun x hx=>Int.toNat_of_nonneg (hyi x hx).1
  rw [List.map_congr_left hid,List.map_id]
 have hlN : ∀ x ∈ l,x < c.n.length:=fun x hx=>by
  have:=(hyi (x : Int) (by rw [hyl2]; exact List.mem_map_of_mem hx)).2
  omega
 have hin : ints y.i = natsV l:=by rw [hyl2,← natsV_ints]
 have hlen : l.length = y.i.length:=by rw [hyl2]; simp
 rw [← hlen] at hw hr3
 obtain ⟨kk,hkk⟩ : ∃ k : Nat,y.k = (k : Int):=⟨y.k.toNat,(Int.toNat_of_nonneg k0).symm⟩
 rw [hkk,Int.toNat_natCast] at hBn hh
 rw [hkk] at k14 hw hk13
 have hk3 : 3 ≤ kk:=by
  refine Nat.le_of_not_lt fun h=>?_
  have : kk = 1∨kk = 2:=by omega
  rcases this with rfl | rfl
  all_goals
   simp [widB,kLo,kHi,tLo,tHi] at hw
   simp [hw] at hq
 have hw34 : kk = 3∨kk = 4→l.length = 1:=by
  rintro (rfl | rfl)
  all_goals simp [widB,kLo,kHi,tLo,tHi] at hw; omega
 have hw5 : 5 ≤ kk∧kk ≤ 10→2 ≤ l.length:=by
  intro h
  have : kk = 5∨kk = 6∨kk = 7∨kk = 8∨kk = 9∨kk = 10:=by omega
  rcases this with rfl | rfl | rfl | rfl | rfl | rfl
  all_goals simp [widB,kLo,kHi,tLo,tHi] at hw; omega
 have hw11 : kk = 11→l.length = 3:=by
  rintro rfl
  simp [widB,kLo,kHi,tLo,tHi] at hw; omega
 have plain:=fun U h1 h2=>late_plain kk q l B U F al ⟨hk3,by omega⟩ hq hr3 hw34 hw5 hw11 hv1 hB hh h1 h2
 have hBn1 : B n ≤ 1:=by
  have:=(plain (fun p=>if p = q then notN (B (l.getD q 0)) else B (l.getD p 0)) (if_pos rfl) (fun p _ hpq=>.inl (if_neg hpq))).2
  rwa [← hBn] at this
 refine ⟨?_,hBn1⟩
 obtain ⟨v,hv⟩ : ∃ v,B (l.getD q 0) = v:=⟨_,rfl⟩
 have hlq : l.getD q 0 = l[q]:=by rw [List.getD_eq_getElem?_getD,List.getElem?_eq_getElem hq]; rfl
 have hqN:=hlN l[q] (List.getElem_mem hq)
 have hyv : y.v = .agg [.int .u8 (kk : Int),.sl (natsV l) none,.int .i64 y.a,.int .i64 y.b]:=by unfold Nd.v; rw [hin,hkk]
 simp only [u8V,natV]
 refine PureC.of_W 2 ok40 rfl ?_
 simp [i40,x40]
 intro gf1 gf2
 generalize gf1 5 = g5
 generalize gf2 6 = g6
 simp [hn,hy,hyv]
 intro gf3
 generalize gf3 11 = g11
 refine LoopP.of (X:=Nat) (fun i=>[(12,natV i),(11,.ptr 11 g11 0 0),(6,.ptr 6 g6 0 0),(5,.ptr 5 g5 0 0),(2,.sl (tab c.n.length fun j=>.int .u8 (B j : Int)) cb),(3,.sl (boolsV c.n.length F) cf),(4,.bool al)]) (fun _=>[(11,.row g11 4 [y.v]),(6,.row g6 2 [.agg [natV n,natV q]]),(5,.row g5 4 [c.v])])
  (fun i=>i ≤ 8) (fun i=>8 - i) 0 (by simp) (by simp [natV]) (by simp [natV,hyv]) ?_
 rintro i hi
 simp [natV,hyv]
 refine BrB.of (fun hb=>?_) (fun hb=>?_)
 ·have hi8 : i < 8:=by have:=of_decide_eq_true hb; omega
  have hwi:=wrapN i (by omega)
  simp
  intro gf4
  generalize gf4 29 = g29
  refine ⟨by omega,?_⟩
  refine LoopP.of (X:=LtS) (fun z=>[(15,natV z.j),(14,.int .u64 z.k),(13,.ref 29 g29 0 l.length (some l.length)),(12,natV i),(11,.ptr 11 g11 0 0),(6,.ptr 6 g6 0 0),(5,.ptr 5 g5 0 0),(2,.sl (tab c.n.length fun j=>.int .u8 (B j : Int)) cb),(3,.sl (boolsV c.n.length F) cf),(4,.bool al)]) (fun z=>[(29,.row g29 1 (tab l.length fun p=>.int .u8 (z.U p : Int))),(11,.row g11 4 [y.v]),(6,.row g6 2 [.agg [natV n,natV q]]),(5,.row g5 4 [c.v])])
   (fun z=>z.j ≤ l.length∧z.k ≤ z.j∧(q < z.j→z.U q = notN v)∧∀ p,p < z.j→p ≠ q→z.U p = B (l.getD p 0)∨(al = true∧F (l.getD p 0) = false∧z.U p ≤ 1)) (fun z=>l.length - z.j) ⟨0,0,fun _=>0⟩ ⟨by simp,by simp,by simp,by simp⟩ (by simp [natV]) (by simp [natV,hyv,tab_const]) ?_
  rintro ⟨j,k,U⟩ ⟨r1,r2,r3,r4⟩
  dsimp only at r1 r2 r3 r4
  have hrow : ∀ (j : Nat) (a b : V) (w : Nat),tab l.length (upd1 (upd1 (fun p=>V.int .u8 (U p : Int)) j a) j (.int .u8 (w : Int))) = tab l.length fun p=>V.int .u8 ((upd1 U j w p : Nat) : Int):=fun j a _ w=>tab_congr fun p _=>by unfold upd1; split <;> rfl
  have hrow1 : ∀ (j w : Nat),tab l.length (upd1 (fun p=>V.int .u8 (U p : Int)) j (.int .u8 (w : Int))) = tab l.length fun p=>V.int .u8 ((upd1 U j w p : Nat) : Int):=fun j w=>tab_congr fun p _=>by unfold upd1; split <;> rfl
  simp [natV,hyv]
  refine BrB.of (fun hb2=>?_) (fun hb2=>?_)
  ·have hj : j < l.length:=of_decide_eq_true hb2
   have hwj:=wrapN j (by omega)
   have hlj : l.getD j 0 = l[j]:=by rw [List.getD_eq_getElem?_getD,List.getElem?_eq_getElem hj]; rfl
   have hjN:=hlN l[j] (List.getElem_mem hj)
   obtain ⟨m,hm⟩ : ∃ m,l[j] = m:=⟨_,rfl⟩
   rw [hm] at hlj hjN
   obtain ⟨z,hz⟩ : ∃ z,B m = z:=⟨_,rfl⟩
   obtain ⟨f,hf⟩ : ∃ f,F m = f:=⟨_,rfl⟩
   by_cases hjq : j = q
   ·subst hjq
    have hnt:=lnot_c z
    simp only [u8V] at hnt
    have hzv : z = v:=by rw [← hz,← hv,hlj]
    simp [hj,natsV_get,hm,hjN,tab_get,tab_set,hz]
    refine CallO.pure hnt (by simp) ?_
    simp [hj,tab_set,tab_get,hwj]
    exact ⟨⟨j + 1,k,upd1 U j (notN z)⟩,⟨hj,by dsimp only; omega,fun _=>by rw [hzv]; exact upd1_same _ _ _,fun p hp hpq=>by
     dsimp only at hp ⊢
     rw [upd1_ne _ _ hpq]
     exact r4 p (by omega) hpq⟩,⟨by simp,rfl⟩,hrow _ _ .nil _,by dsimp only; omega⟩
   ·have hnew : ∀ w,(w = z∨(al = true∧f = false∧w ≤ 1))→(q < j + 1→upd1 U j w q = notN v)∧∀ p,p < j + 1→p ≠ q→upd1 U j w p = B (l.getD p 0)∨(al = true∧F (l.getD p 0) = false∧upd1 U j w p ≤ 1):=by
     intro w hw
     refine ⟨fun h=>by rw [upd1_ne _ _ (fun e=>hjq e.symm)]; exact r3 (by omega),fun p hp hpq=>?_⟩
     by_cases hpj : p = j
     ·subst hpj
      rw [hlj,hz,hf]
      simpa [upd1] using hw
     ·rw [upd1_ne _ _ hpj]
      exact r4 p (by omega) hpq
    by_cases hup : al = true∧f = false
    ·obtain ⟨rfl,rfl⟩:=hup
     obtain ⟨w,hw1,hw⟩:=shr_bit i k (by omega) (by omega)
     have hwk : IntKind.u64.wrap ((k : Int) + 1) = ((k + 1 : Nat) : Int):=by simp [IntKind.wrap,IntKind.bits,IntKind.signed]; omega
     have hn2:=hnew w (.inr ⟨rfl,rfl,hw1⟩)
     simp [hj,natsV_get,hm,hjN,tab_get,tab_set,hz,hjq,boolsV_get,hf,hw,hwk,hwj]
     exact ⟨⟨j + 1,k + 1,upd1 U j w⟩,⟨hj,by dsimp only; omega,hn2.1,fun p hp hpq=>(hn2.2 p hp hpq).imp_right fun h=>⟨h.2.1,h.2.2⟩⟩,⟨by simp,by simp⟩,hrow _ _ .nil _,by dsimp only; omega⟩
    ·have hn2:=hnew z (.inl rfl)
     cases al
     ·simp [hj,natsV_get,hm,hjN,tab_get,tab_set,hz,hjq,boolsV_get,hf,hwj]
      exact ⟨⟨j + 1,k,upd1 U j z⟩,⟨hj,by dsimp only; omega,hn2.1,fun p hp hpq=>(hn2.2 p hp hpq).resolve_right (fun h=>by cases h.1)⟩,⟨by simp,rfl⟩,hrow1 _ _,by dsimp only; omega⟩
     ·cases f
      ·exact absurd ⟨rfl,rfl⟩ hup
      ·simp [hj,natsV_get,hm,hjN,tab_get,tab_set,hz,hjq,boolsV_get,hf,hwj,hn,hy,hyv]
       exact ⟨⟨j + 1,k,upd1 U j z⟩,⟨hj,by dsimp only; omega,hn2.1,fun p hp hpq=>(hn2.2 p hp hpq).imp_right fun h=>⟨h.2.1,h.2.2⟩⟩,⟨by simp,rfl⟩,hrow1 _ _,by dsimp only; omega⟩
  ·have hj : j = l.length:=by have:=of_decide_eq_false hb2; omega
   subst hj
   obtain ⟨p1,-⟩:=plain U (by rw [r3 hq,← hv]) r4
   rw [← hBn] at p1
   obtain ⟨bn,hbn⟩ : ∃ x,B n = x:=⟨_,rfl⟩
   rw [hbn] at p1 hBn1
   have hlg:=logE_c kk (by omega) ((List.range l.length).map U) (some l.length) (by simp; omega)
   have hnt:=lnot_c bn
   rw [p1] at hlg
   have hul : ((List.range l.length).map U).map u8V = tab l.length fun p=>.int .u8 (U p : Int):=by simp [tab,u8V,Function.comp_def]
   rw [hul] at hlg
   simp only [u8V] at hlg hnt
   have hpt : V.pureL (tab l.length fun p=>V.int .u8 (U p : Int)) = true:=tabU_pure _ _
   have hbor : ∀ h : Hp,lk h 29 = some (.row g29 1 (tab l.length fun p=>.int .u8 (U p : Int)))→[V.int .u8 (kk : Int),V.ref 29 g29 0 l.length (some l.length)].map (frz h 2) = [.int .u8 (kk : Int),.sl (tab l.length fun p=>.int .u8 (U p : Int)) (some l.length)]:=by
    intro h hh
    have htl : (tab l.length fun p=>V.int .u8 (U p : Int)).length = l.length:=by simp
    generalize (tab l.length fun p=>V.int .u8 (U p : Int)) = T at hh hpt htl ⊢
    have htk : T.take l.length = T:=List.take_of_length_le (by omega)
    simp [frz,V.mapR,V.mapRL,hh,htl,map_frz_pure hpt,htk]
   have hb1 : ¬ 1 < bn:=by omega
   simp [hn,tab_get,hbn,hb1]
   intro gm
   first | refine ⟨_,_,_,.borrow 2 hlg (hbor _ (by simp)) rfl,?_⟩ | refine ⟨_,⟨_,_,.borrow 2 hlg (hbor _ (by simp)) rfl⟩,?_⟩ | refine ⟨_,_,⟨_,.borrow 2 hlg (hbor _ (by simp)) rfl⟩,?_⟩
   simp [hn,tab_get,hbn]
   first | refine ⟨_,_,_,.pure hnt (by simp),?_⟩ | refine ⟨_,⟨_,_,.pure hnt (by simp)⟩,?_⟩ | refine ⟨_,_,⟨_,.pure hnt (by simp)⟩,?_⟩
   simp
   exact ⟨rfl,i + 1,by omega,by simp [hwi],by omega⟩
 ·simp
theorem howT_leL (c : Ci) (A B : Nat→Nat) (F : Nat→Bool) : ∀ (Q : List Ln) (h : Nat),howT c A B F Q h ≤ h∧∀ l ∈ Q,howT c A B F Q h ≤ lnT B F (c.nd l.1.toNat).k.toNat l.2.toNat (sideN (c.g l.1.toNat) l.2.toNat) (B ((c.g l.1.toNat).getD l.2.toNat 0))
 | [],h=>⟨Nat.le_refl _,fun l hl=>by simp at hl⟩
 | x :: Q,h=>by
  obtain ⟨h1,h2⟩:=howT_leL c A B F Q (min h (lnT B F (c.nd x.1.toNat).k.toNat x.2.toNat (sideN (c.g x.1.toNat) x.2.toNat) (B ((c.g x.1.toNat).getD x.2.toNat 0))))
  rw [howT]
  refine ⟨by omega,fun l hl=>?_⟩
  rcases List.mem_cons.1 hl with rfl | hl
  ·omega
  ·exact h2 l hl
set_option maxRecDepth 100000 in
set_option maxHeartbeats 8000000 in
theorem law13_c (x : Cx) (hx : x.ok) (p q : Pt) : PureC Tryz.prog gl0 13 [caseV x p q] (.bool true):=by
 have hg:=nm_good x
 have hr:=ci_nar x.nm
 have hcs:=caseP_c x hx p q
 have hcp:=case_pure x p q
 generalize x.nm.ci = c at hcs hg hr
 have ha:=pof_fit c p
 have hb:=pof_fit c q
 generalize pof c p = p1 at hcs ha
 generalize pof c q = q1 at hcs hb
 have hn1:=hg.n1
 have hn0:=hg.n0
 have hst:=steadyS_c c hg p1 q1 ha hb
 have r1:=run_c c hg p1 ha
 have r2:=run_c c hg q1 hb
 have hal:=allP_c c hg hr
 obtain ⟨hO1,hO2⟩:=allP_prop hg hr
 have hts:=fun P cap=>tests_c c hg p1 q1 ha hb P cap
 have hlt:=fun n k al h1 h2 h3=>late_c c hg hr (netN c q1) (firmN c (netN c p1) (netN c q1)) (net3 hb) (some c.n.length) (some c.n.length) n k al h1 h2 h3 (netN_comb hg hg.ord h1 h2)
 generalize allP c = O at hal hO1 hO2
 generalize obsO c (netN c p1) = OO1 at r1
 generalize obsS c (netN c p1) = S1 at r1
 generalize obsO c (netN c q1) = OO2 at r2
 generalize obsS c (netN c q1) = S2 at r2
 generalize firmN c (netN c p1) (netN c q1) = F at hst hts hlt
 generalize netN c p1 = A at r1 hts
 generalize netN c q1 = B at r2 hts hlt
 have pA:=tabU_pure c.n.length A
 have pB:=tabU_pure c.n.length B
 have pF:=boolsV_pure c.n.length F
 have hcl : c.v.cells = [.sl (c.n.map Nd.v) none,.sl (c.s.map .str) none,.sl (c.m.map Md.v) none,.sl (ints c.o) none]:=rfl
 simp only [caseV,prV,rspV,Pt.v,u8V,natV] at hcs hcp hst r1 r2 pA pB hts hlt
 refine PureC.of_W 2 ok13 rfl ?_
 simp [i13,x13,caseV,u8V]
 intro gf1
 generalize gf1 1 = g1
 refine CallO.pure hcs (by simpa [u8V] using hcp) ?_
 simp
 intro gf3 gf4
 generalize gf3 3 = g3
 generalize gf4 4 = g4
 refine CallO.pure hal (by simp) ?_
 simp
 by_cases h5 : 5000 ≤ O.length
 ·simp [h5]
  refine CallO.pure livesP_c rfl ?_
  simp
 have hAI : AllI c [] O:=by rcases hO2 with h | h; exact absurd h h5; exact h
 have hOL : O.length < 5000:=by omega
 simp [h5,hOL]
 refine CallO.pure hst (by simp) ?_
 simp
 refine CallO.pure r1 (by simp) ?_
 simp
 intro gf5
 refine CallO.pure r2 (by simp) ?_
 simp
 intro gf6
 refine LoopP.of (X:=Nat) (fun i=>[(14,natV i),(5,.sl (O.map pv) none),(6,.sl (boolsV c.n.length F) (some c.n.length)),(9,.sl (tab c.n.length fun j=>.int .u8 (A j : Int)) (some c.n.length)),(12,.sl (tab c.n.length fun j=>.int .u8 (B j : Int)) (some c.n.length)),(3,.ptr 3 g3 0 0),(4,.ptr 4 g4 0 0)]) (fun _=>[(3,.row g3 4 [c.v]),(4,.row g4 4 [prV p1 q1])])
  (fun i=>i ≤ O.length) (fun i=>O.length - i) 0 (by simp) (by simp [natV]) (by simp [prV]; rfl) ?_
 rintro i q0
 by_cases hi : i < O.length
 case neg=>
  simp [natV,hi]
  refine CallO.pure livesP_c rfl ?_
  simp
 by_cases h60 : i < 60
 case neg=>
  simp [natV,hi,h60]
  refine CallO.pure livesP_c rfl ?_
  simp
 have hwi:=wrapN i (by omega)
 obtain ⟨P,hP⟩ : ∃ P,O[i] = P:=⟨_,rfl⟩
 have hPB:=hAI.o P (by rw [← hP]; exact List.getElem_mem hi)
 have hPl:=pp_len hg hr (isPB_iff.1 hPB).1
 have hnr:=hr.n
 obtain ⟨hP0,hlk⟩:=isPB_lnk hPB
 obtain ⟨s,hs,hsn,-⟩:=lnk_src hP0 (hlk 0 hP0)
 obtain ⟨cp,hpv⟩ : ∃ cp,pv P = .sl (P.map lnI) cp:=⟨_,rfl⟩
 have ht:=hts P cp (by omega) hPB
 obtain ⟨a,ha⟩ : ∃ a,A s = a:=⟨_,rfl⟩
 obtain ⟨b,hb⟩ : ∃ a,B s = a:=⟨_,rfl⟩
 have hgd : P.getD 0 (0,0) = P[0]:=by rw [List.getD_eq_getElem?_getD,List.getElem?_eq_getElem hP0]; rfl
 have htp : tstP c A B F P = if a ≤ 1∧b = notN a then howT c A B F (P.drop 1) 2 else 0:=by
  unfold tstP; rw [hgd,hs]; simp only [Int.toNat_natCast,ha,hb]
 rw [htp] at ht
 clear htp
 have pP:=lnI_pure P
 obtain ⟨w,hw⟩ : ∃ w : Nat,w = if a ≤ 1∧b = notN a then howT c A B F (P.drop 1) 2 else 0:=⟨_,rfl⟩
 rw [← hw] at ht
 have hw2 : w ≤ 2:=by
  rw [hw]
  split
  ·exact (howT_leL c A B F _ _).1
  ·omega
 have hwl : ∀ l ∈ P.drop 1,w ≤ lnT B F (c.nd l.1.toNat).k.toNat l.2.toNat (sideN (c.g l.1.toNat) l.2.toNat) (B ((c.g l.1.toNat).getD l.2.toNat 0)):=by
  intro l hl
  rw [hw]
  split
  ·exact (howT_leL c A B F _ _).2 l hl
  ·omega
 have e1 : 1 < a∨1 < b∨a = b→w = 0:=fun h=>by rw [hw,if_neg (fun h2=>notN_iff.1 h2 h)]
 have hw2' : ¬ 2 < w:=by omega
 obtain ⟨al,hal2⟩ : ∃ b : Bool,decide (w = 2) = b:=⟨_,rfl⟩
 have step : ∀ {G C : Prop},(G→C)→G→C:=fun f g=>f g
 have h0 : ¬ (1 < a∨1 < b∨a = b)→¬ 1 < a∧¬ 1 < b∧¬ a = b:=fun h=>⟨fun h1=>h (.inl h1),fun h1=>h (.inr (.inl h1)),fun h1=>h (.inr (.inr h1))⟩
 by_cases hcc : 1 < a∨1 < b∨a = b
 ·have hw0:=e1 hcc
  subst hw0
  simp [natV,hi,h60,hP,hpv]
  intro gm
  first | refine ⟨_,_,_,.pure ht (by simp [pP,prV]),?_⟩ | refine ⟨_,⟨_,_,.pure ht (by simp [pP,prV])⟩,?_⟩ | refine ⟨_,_,⟨_,.pure ht (by simp [pP,prV])⟩,?_⟩
  by_cases h1 : 1 < a
  ·simp [hi,hP,hpv,hP0,hs,lnI,hsn,tab_get,ha,hb,h1,hwi]
   exact ⟨i + 1,hi,by simp,by omega⟩
  ·by_cases h2 : 1 < b
   ·simp [hi,hP,hpv,hP0,hs,lnI,hsn,tab_get,ha,hb,h1,h2,hwi]
    exact ⟨i + 1,hi,by simp,by omega⟩
   ·have h3 : a = b:=by omega
    simp [hi,hP,hpv,hP0,hs,lnI,hsn,tab_get,ha,hb,h1,h2,h3,hwi]
    exact ⟨i + 1,hi,by simp,by omega⟩
 ·obtain ⟨h1,h2,h3⟩:=h0 hcc
  simp [natV,hi,h60,hP,hpv]
  intro gm
  first | refine ⟨_,_,_,.pure ht (by simp [pP,prV]),?_⟩ | refine ⟨_,⟨_,_,.pure ht (by simp [pP,prV])⟩,?_⟩ | refine ⟨_,_,⟨_,.pure ht (by simp [pP,prV])⟩,?_⟩
  simp [hi,hP,hpv,hP0,hs,lnI,hsn,tab_get,ha,hb,h1,h2,h3,hwi,hw2']
  refine LoopP.of (X:=Nat) (fun k=>[(18,natV k),(15,natV w),(14,natV i),(5,.sl (O.map pv) none),(6,.sl (boolsV c.n.length F) (some c.n.length)),(9,.sl (tab c.n.length fun j=>.int .u8 (A j : Int)) (some c.n.length)),(12,.sl (tab c.n.length fun j=>.int .u8 (B j : Int)) (some c.n.length)),(3,.ptr 3 g3 0 0),(4,.ptr 4 g4 0 0)]) (fun _=>[(3,.row g3 4 [c.v]),(4,.row g4 4 [prV p1 q1])])
   (fun k=>1 ≤ k∧k ≤ P.length∧B (P.getD (k - 1) (0,0)).1.toNat ≤ 1) (fun k=>P.length - k) 1 ⟨by simp,hP0,by rw [Nat.sub_self,hgd,hs]; simp only [Int.toNat_natCast,hb]; omega⟩ (by simp [natV]) (by simp) ?_
  rintro k ⟨k1,k2,k3⟩
  by_cases hk : k < P.length
  ·by_cases hwp : 0 < w
   ·have hwk:=wrapN k (by omega)
    have hpin : ∃ n q : Nat,P[k] = ((n : Int),(q : Int))∧n < c.n.length∧combC c n = true∧q < (c.g n).length∧(((c.g n).getD q 0 : Nat) : Int) = (P.getD (k - 1) (0,0)).1:=by
     obtain ⟨j,rfl⟩ : ∃ j,k = j + 1:=⟨k - 1,by omega⟩
     obtain ⟨n,q,e,h1,h2,h3,h4⟩:=lnk_pin hg hk (hlk (j + 1) hk)
     refine ⟨n,q,e,h1,h2,h3,?_⟩
     rw [h4,Nat.add_sub_cancel,List.getD_eq_getElem?_getD,List.getElem?_eq_getElem (show j < P.length by omega)]
     rfl
    obtain ⟨n,kk,e,hn,hc,hkk,hpr⟩:=hpin
    have hPk : P.getD k (0,0) = ((n : Int),(kk : Int)):=by rw [List.getD_eq_getElem?_getD,List.getElem?_eq_getElem hk,e]; rfl
    have hv1 : B ((c.g n).getD kk 0) ≤ 1:=by rw [← hpr,Int.toNat_natCast] at k3; exact k3
    have hln:=hwl (P[k]) (by
     rw [List.mem_drop_iff_getElem]
     exact ⟨k - 1,by omega,by congr 1; omega⟩)
    rw [e] at hln
    simp only [Int.toNat_natCast] at hln
    obtain ⟨hl,hbn⟩:=hlt n kk al hn hc hkk hv1 (by
     cases al with
     | true=>have:=of_decide_eq_true hal2; rw [if_pos rfl]; omega
     | false=>rw [if_neg (by simp)]; omega)
    rw [← hal2] at hl
    simp [natV,hi,hP,hpv,hk,hwp,e,lnI]
    intro gm
    first | refine ⟨_,_,_,.pure hl (by simp [pB,pF]),?_⟩ | refine ⟨_,⟨_,_,.pure hl (by simp [pB,pF])⟩,?_⟩ | refine ⟨_,_,⟨_,.pure hl (by simp [pB,pF])⟩,?_⟩
    simp
    exact ⟨k + 1,⟨by omega,hk,by
     rw [List.getD_eq_getElem?_getD] at hPk
     try rw [Nat.add_sub_cancel]
     rw [hPk]
     exact hbn⟩,by simp [hwk],by omega⟩
   ·simp [natV,hi,hP,hpv,hk,hwp,hwi]
    exact ⟨i + 1,hi,by simp,by omega⟩
  ·simp [natV,hi,hP,hpv,hk,hwi]
   exact ⟨i + 1,hi,by simp,by omega⟩
end Go.Proofs.YtlmniacemoohpaaGreatDoor
