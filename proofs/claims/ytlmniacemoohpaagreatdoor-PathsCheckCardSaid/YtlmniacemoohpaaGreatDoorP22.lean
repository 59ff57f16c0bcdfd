/- Paths: the law Check of layer 20. Conditions: none. -/
import Derived.Test.YtlmniacemoohpaaGreatDoorPA
import Derived.Test.YtlmniacemoohpaaGreatDoorPC
import Derived.Test.YtlmniacemoohpaaGreatDoorXL10
set_option linter.unusedSimpArgs false
set_option linter.unusedVariables false
namespace Go.Proofs.YtlmniacemoohpaaGreatDoor
open Go
theorem pureL_rep (n : Nat) (v : V) (h : v.pure = true) : V.pureL (List.replicate n v) = true:=by
 induction n with
 | zero=>rfl
 | succ n ih=>rw [List.replicate_succ]; simp only [V.pureL,h,ih,Bool.and_self]
theorem equal_c (a b : List Ln) (ca cb : Option Nat) (ha : a.length < 1000000) : PureC Tryz.prog gl0 34 [.sl (a.map lnI) ca,.sl (b.map lnI) cb] (.bool (decide (a = b))):=by
 refine PureC.of_W 2 ok34 rfl ?_
 simp [i34,x34]
 by_cases hl : a.length = b.length
 case neg=>
  have hne : ¬ a = b:=fun h=>hl (by rw [h])
  have hli : ¬ (a.length : Int) = b.length:=by omega
  simp [hl,hne]
 obtain ⟨R,hR⟩ : ∃ R,decide (a = b) = R:=⟨_,rfl⟩
 rw [hR]
 simp [hl]
 refine LoopP.of (X:=Nat) (fun i=>[(5,natV i),(0,.sl (a.map lnI) ca),(1,.sl (b.map lnI) cb)]) (fun _=>[])
  (fun i=>i ≤ a.length∧a.take i = b.take i) (fun i=>a.length - i) 0 (by simp) (by simp [natV]) (by simp) ?_
 rintro i ⟨hi,he⟩
 simp [natV]
 refine BrB.of (fun hb=>?_) (fun hb=>?_)
 ·have hi1 : i < a.length:=by have:=of_decide_eq_true hb; omega
  have hi2 : i < b.length:=by omega
  have hw:=wrapN i (by omega)
  obtain ⟨⟨p,q⟩,hp⟩ : ∃ x,a[i] = x:=⟨_,rfl⟩
  obtain ⟨⟨r,s⟩,hq⟩ : ∃ x,b[i] = x:=⟨_,rfl⟩
  by_cases h1 : p = r
  ·by_cases h2 : q = s
   ·subst h1
    subst h2
    simp [hi1,hi2,hp,hq,lnI]
    exact ⟨i + 1,⟨hi1,by rw [List.take_succ_eq_append_getElem hi1,List.take_succ_eq_append_getElem hi2,hp,hq,he]⟩,by simp [hw],by omega⟩
   ·have hne : ¬ a = b:=by
     rintro rfl
     rw [hp] at hq
     simp at hq
     exact h2 hq.2
    simp [hi1,hi2,hp,hq,lnI,h1,h2,← hR,hne]
  ·have hne : ¬ a = b:=by
    rintro rfl
    rw [hp] at hq
    simp at hq
    exact h1 hq.1
   simp [hi1,hi2,hp,hq,lnI,h1,← hR,hne]
 ·have hi1 : i = a.length:=by have:=of_decide_eq_false hb; omega
  subst hi1
  have hab : a = b:=by
   rw [List.take_length,hl,List.take_length] at he
   exact he
  rw [← hR,decide_eq_true hab]
  simp
set_option maxRecDepth 100000 in
set_option maxHeartbeats 8000000 in
theorem law10_c (x : Cx) (hx : x.ok) (P : List Ln) : PureC Tryz.prog gl0 10 [x.v,.sl (P.map lnI) none] (.bool true):=by
 have hg:=nm_good x
 have hr:=ci_nar x.nm
 have hof:=circU_c x hx
 have hgp : V.pureL (x.g.map Gx.v) = true:=pureL_map (fun g=>by simp [Gx.v,u8V]) x.g
 generalize x.nm.ci = c at hof hg hr
 have hn1:=hg.n1
 have hal:=allP_c c hg hr
 obtain ⟨hO1,hO2⟩:=allP_prop hg hr
 generalize allP c = O at hal hO1 hO2
 have hpO:=pvs_pure O
 have hpP:=lnI_pure P
 have hcl : c.v.cells = [.sl (c.n.map Nd.v) none,.sl (c.s.map .str) none,.sl (c.m.map Md.v) none,.sl (ints c.o) none]:=rfl
 simp only [u8V] at hof
 refine PureC.of_W 4 ok10 rfl ?_
 simp [i10,x10,Cx.v,u8V]
 intro gf1
 generalize gf1 2 = g2
 refine CallO.pure hof (by simp [u8V,hgp]) ?_
 simp
 intro gf2
 generalize gf2 5 = g5
 refine CallO.pure hal (by simp) ?_
 simp
 by_cases h5 : 5000 ≤ O.length
 ·simp [h5]
  refine CallO.pure livesP_c rfl ?_
  simp
 have hAI : AllI c [] O:=by rcases hO2 with h | h; exact absurd h h5; exact h
 have hOL : O.length < 5000:=by omega
 by_cases h20 : 20 < P.length
 ·simp [h5,hOL,h20]
  refine CallO.pure livesP_c rfl ?_
  simp
 have hck:=check_pc c hg P none (by omega)
 have hck2:=fun cap=>check_pc c hg (List.replicate 257 (0,0)) cap (by simp)
 have e1 : chkP c P = if isPB c P = true then 0 else 1:=by unfold chkP; rw [if_neg (by omega)]
 have e2 : chkP c (List.replicate 257 (0,0)) = 3:=by unfold chkP; rw [if_pos (by simp)]
 rw [e1] at hck
 simp only [e2] at hck2
 have hrp : (List.replicate 257 ((0,0) : Ln)).map lnI = List.replicate 257 (.agg [.int .i64 0,.int .i64 0]):=by rw [List.map_replicate]; rfl
 rw [hrp] at hck2
 have hmem : isPB c P = true↔P ∈ O:=by
  constructor
  ·intro h
   rcases hAI.all P h with h | ⟨Q,R,h,-⟩
   ·exact h
   ·simp at h
  ·exact hAI.o P
 simp [h5,hOL,h20]
 refine LoopP.of (X:=Nat) (fun i=>[(8,natV i),(7,.int .i64 (if P ∈ O.take i then 0 else 1)),(6,.sl (O.map pv) none),(1,.sl (P.map lnI) none),(5,.ptr 5 g5 0 0)]) (fun _=>[(5,.row g5 4 [c.v])])
  (fun i=>i ≤ O.length) (fun i=>O.length - i) 0 (by simp) (by simp [natV]) (by simp; rfl) ?_
 rintro i q1
 simp [natV]
 refine BrB.of (fun hb1=>?_) (fun hb1=>?_)
 ·have hi : i < O.length:=of_decide_eq_true hb1
  have hw:=wrapN i (by omega)
  obtain ⟨Q,hQ⟩ : ∃ Q,O[i] = Q:=⟨_,rfl⟩
  obtain ⟨cp,hpv⟩ : ∃ cp,pv Q = .sl (Q.map lnI) cp:=⟨_,rfl⟩
  have hQl:=pp_len hg hr (isPB_iff.1 (hAI.o Q (by rw [← hQ]; exact List.getElem_mem hi))).1
  have heq:=equal_c Q P cp none (by omega)
  have pQ:=lnI_pure Q
  have hnx : (P ∈ O.take (i + 1))↔(P ∈ O.take i∨Q = P):=by rw [List.take_succ_eq_append_getElem hi,hQ,List.mem_append,List.mem_singleton,eq_comm (a:=P)]
  simp [hi,hQ,hpv]
  refine CallO.pure heq (by simp [pQ,hpP]) ?_
  simp
  by_cases hqp : Q = P
  ·simp [hqp,hw]
   refine ⟨i + 1,hi,⟨by simp,?_⟩,by omega⟩
   exact hnx.2 (.inr hqp)
  ·simp [hqp,hw]
   refine ⟨i + 1,hi,⟨by simp,?_⟩,by omega⟩
   by_cases hm : P ∈ O.take i
   ·rw [if_pos hm,if_pos (hnx.2 (.inl hm))]
   ·rw [if_neg hm,if_neg (fun h=>(hnx.1 h).elim hm hqp)]
 ·have hi : i = O.length:=by have:=of_decide_eq_false hb1; omega
  subst hi
  rw [List.take_length]
  have hsame : (if isPB c P = true then (0 : Int) else 1) = if P ∈ O then 0 else 1:=by
   by_cases h : P ∈ O
   ·rw [if_pos h,if_pos (hmem.2 h)]
   ·rw [if_neg h,if_neg (fun h2=>h (hmem.1 h2))]
  rw [hsame] at hck
  generalize (if P ∈ O then (0 : Int) else 1) = wn at hck ⊢
  simp [-List.reduceReplicate]
  intro gm
  first | refine ⟨_,_,_,.pure hck (by simp [hpP]),?_⟩ | refine ⟨_,⟨_,_,.pure hck (by simp [hpP])⟩,?_⟩ | refine ⟨_,_,⟨_,.pure hck (by simp [hpP])⟩,?_⟩
  simp [-List.reduceReplicate]
  have hpr : V.pureL (List.replicate 257 (V.agg [.int .i64 0,.int .i64 0])) = true:=pureL_rep _ _ rfl
  have hlr : (List.replicate 257 (V.agg [.int .i64 0,.int .i64 0])).length = 257:=List.length_replicate
  generalize List.replicate 257 (V.agg [.int .i64 0,.int .i64 0]) = rp at hck2 hpr hlr ⊢
  have hbor : ∀ g41,[c.v,V.ref 41 g41 0 257 (some 257)].map (frz [(41,Blk.row g41 2 rp),(5,.row g5 4 [c.v])] 2) = [c.v,.sl rp (some 257)]:=by
   intro g41
   have htk : rp.take 257 = rp:=List.take_of_length_le (by omega)
   simp [frz,V.mapR,V.mapRL,lk,hlr,mapR_pure _ (ci_pure2 c),map_frz_pure hpr,htk]
  first | refine ⟨_,_,_,.borrow 2 (hck2 (some 257)) (hbor _) rfl,?_⟩ | refine ⟨_,⟨_,_,.borrow 2 (hck2 (some 257)) (hbor _) rfl⟩,?_⟩ | refine ⟨_,_,⟨_,.borrow 2 (hck2 (some 257)) (hbor _) rfl⟩,?_⟩
  simp
  first | refine ⟨_,_,_,.pure livesP_c rfl,?_⟩ | refine ⟨_,⟨_,_,.pure livesP_c rfl⟩,?_⟩ | refine ⟨_,_,⟨_,.pure livesP_c rfl⟩,?_⟩
  simp
  rfl
end Go.Proofs.YtlmniacemoohpaaGreatDoor
