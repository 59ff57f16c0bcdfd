/- Paths: the table of the law for one line of a path. Conditions: none. -/
import Derived.Test.YtlmniacemoohpaaGreatDoorP17
set_option linter.unusedSimpArgs false
set_option linter.unusedVariables false
namespace Go.Proofs.YtlmniacemoohpaaGreatDoor
open Go
def badT (B : Nat→Nat) (k q : Nat) (l : List Nat) (p : Nat) : Bool:=
 if k = 5∨k = 6 then !decide (B (l.getD p 0) = 1)
 else if k = 7∨k = 8 then !decide (B (l.getD p 0) = 0)
 else if k = 9∨k = 10 then decide (1 < B (l.getD p 0))
 else if k = 11 then decide (q = 0) && (decide (1 < B (l.getD p 0)) || decide (B (l.getD 1 0) = B (l.getD 2 0))) || decide (0 < q) && decide (p = 0) && !decide ((B (l.getD p 0) : Int) = (q : Int) - 1)
 else false
def stT (F : Nat→Bool) (k q v : Nat) (l : List Nat) (p : Nat) : Bool:=
 if k = 5∨k = 6 then F (l.getD p 0) || !decide (v = 0)
 else if k = 7∨k = 8 then F (l.getD p 0) || !decide (v = 1)
 else if k = 11 then F (l.getD p 0) || decide (0 < q) && decide (0 < p)
 else F (l.getD p 0)
def tabT (B : Nat→Nat) (F : Nat→Bool) (k q v : Nat) (l : List Nat) : Nat:=
 if (List.range l.length).any (fun p=>!decide (p = q) && badT B k q l p) = true then 0
 else if k = 12∨k = 13 then 0
 else if (List.range l.length).all (fun p=>decide (p = q) || stT F k q v l p) = true then 2 else 1
theorem sideN_all {l : List Nat} {q : Nat} (hq : q < l.length) (f : Nat→Bool) : (sideN l q).all f = (List.range l.length).all fun p=>decide (p = q) || f (l.getD p 0):=by
 rw [Bool.eq_iff_iff,List.all_eq_true,List.all_eq_true]
 constructor
 ·intro h p hp
  rw [List.mem_range] at hp
  by_cases hpq : p = q
  ·simp [hpq]
  ·rw [List.getD_eq_getElem?_getD,List.getElem?_eq_getElem hp,Option.getD_some,h l[p] ?_]
   ·simp
   ·unfold sideN
    by_cases hlt : p < q
    ·exact List.mem_append.2 (.inl (List.mem_take_iff_getElem.2 ⟨p,by omega,rfl⟩))
    ·refine List.mem_append.2 (.inr (List.mem_drop_iff_getElem.2 ⟨p - (q + 1),by omega,?_⟩))
     congr 1
     omega
 ·intro h x hx
  unfold sideN at hx
  rcases List.mem_append.1 hx with hx | hx
  ·obtain ⟨p,hp,rfl⟩:=List.mem_take_iff_getElem.1 hx
   have:=h p (List.mem_range.2 (by omega))
   rw [decide_eq_false (by omega),Bool.false_or,List.getD_eq_getElem?_getD,List.getElem?_eq_getElem (by omega),Option.getD_some] at this
   exact this
  ·obtain ⟨p,hp,rfl⟩:=List.mem_drop_iff_getElem.1 hx
   have:=h (q + 1 + p) (List.mem_range.2 (by omega))
   rw [decide_eq_false (by omega),Bool.false_or,List.getD_eq_getElem?_getD,List.getElem?_eq_getElem (by omega),Option.getD_some] at this
   exact this
theorem any_all_not {n : Nat} {f g : Nat→Bool} (h : ∀ p,f p = !g p) : (List.range n).any f = !(List.range n).all g:=by
 rw [List.not_all_eq_any_not]
 congr 1
 funext p
 rw [h p]
theorem tabT_eq (B : Nat→Nat) (F : Nat→Bool) (k q : Nat) (l : List Nat) (hk : 3 ≤ k∧k ≤ 13) (hq : q < l.length) (h1 : k = 3∨k = 4→l.length = 1) (h3 : k = 11→l.length = 3) : tabT B F k q (B (l.getD q 0)) l = lnT B F k q (sideN l q) (B (l.getD q 0)):=by
 have key : ∀ (f g : Nat→Bool) (w : Bool),(∀ p,badT B k q l p = !f (l.getD p 0))→(∀ p,stT F k q (B (l.getD q 0)) l p = (F (l.getD p 0) || w))→¬ (k = 12∨k = 13)→
   tabT B F k q (B (l.getD q 0)) l = if (sideN l q).all f = true then (if ((sideN l q).all F || w) = true then 2 else 1) else 0:=by
  intro f _ w hb hs hk
  unfold tabT
  rw [any_all_not (g:=fun p=>decide (p = q) || f (l.getD p 0)) (fun p=>by rw [hb]; simp),← sideN_all hq,if_neg hk]
  have hst : ((List.range l.length).all fun p=>decide (p = q) || stT F k q (B (l.getD q 0)) l p) = ((sideN l q).all F || w):=by
   rw [sideN_all hq]
   cases w
   ·rw [Bool.or_false]
    congr 1
    funext p
    rw [hs,Bool.or_false]
   ·rw [Bool.or_true,List.all_eq_true]
    intro p _
    rw [hs]
    simp
  rw [hst]
  cases (sideN l q).all f <;> simp
 have hal : ∀ o : List Nat,(o.all fun _=>true) = true:=fun o=>List.all_eq_true.2 fun _ _=>rfl
 by_cases h34 : k = 3∨k = 4
 ·have hl:=h1 h34
  have hs : sideN l q = []:=List.length_eq_zero_iff.1 (by rw [sideN_len hq]; omega)
  rw [key (fun _=>true) F false (fun p=>by unfold badT; rw [if_neg (by omega),if_neg (by omega),if_neg (by omega),if_neg (by omega)]; rfl) (fun p=>by unfold stT; rw [if_neg (by omega),if_neg (by omega),if_neg (by omega),Bool.or_false]) (by omega),hs]
  unfold lnT okT quT
  rw [if_pos h34,if_pos h34]
  rfl
 by_cases h56 : k = 5∨k = 6
 ·rw [key (fun m=>decide (B m = notN (ctlV k))) F (!decide (B (l.getD q 0) = ctlV k)) (fun p=>by unfold badT ctlV notN; rw [if_pos h56,if_pos h56]; rfl) (fun p=>by unfold stT ctlV; rw [if_pos h56,if_pos h56]) (by omega)]
  unfold lnT okT quT
  have h58 : k = 5∨k = 6∨k = 7∨k = 8:=by omega
  rw [if_neg h34,if_pos h58,if_neg h34,if_pos h58]
 by_cases h78 : k = 7∨k = 8
 ·rw [key (fun m=>decide (B m = notN (ctlV k))) F (!decide (B (l.getD q 0) = ctlV k)) (fun p=>by unfold badT ctlV notN; rw [if_neg h56,if_pos h78,if_neg h56,if_pos h78]; rfl) (fun p=>by unfold stT ctlV; rw [if_neg h56,if_pos h78,if_neg h56,if_pos h78]) (by omega)]
  unfold lnT okT quT
  have h58 : k = 5∨k = 6∨k = 7∨k = 8:=by omega
  rw [if_neg h34,if_pos h58,if_neg h34,if_pos h58]
 by_cases h9 : k = 9∨k = 10
 ·rw [key (fun m=>decide (B m ≤ 1)) F false (fun p=>by
   unfold badT
   rw [if_neg h56,if_neg h78,if_pos h9]
   by_cases h : B (l.getD p 0) ≤ 1
   ·rw [decide_eq_true h,decide_eq_false (by omega)]; rfl
   ·rw [decide_eq_false h,decide_eq_true (by omega)]; rfl) (fun p=>by unfold stT; rw [if_neg h56,if_neg h78,if_neg (by omega),Bool.or_false]) (by omega)]
  unfold lnT okT quT
  have n58 : ¬ (k = 5∨k = 6∨k = 7∨k = 8):=by omega
  have n11 : ¬ k = 11:=by omega
  have n11q : ¬ (k = 11∧0 < q):=by omega
  rw [if_neg h34,if_neg n58,if_neg n11,if_pos h9,if_neg h34,if_neg n58,if_neg n11q,Bool.or_false]
 by_cases h11 : k = 11
 ·have hl:=h3 h11
  obtain ⟨a,b,d,rfl⟩ : ∃ a b d,l = [a,b,d]:=by
   match l,hl with
   | [a,b,d],_=>exact ⟨a,b,d,rfl⟩
  subst h11
  have hr : List.range [a,b,d].length = [0,1,2]:=rfl
  have hq3 : q = 0∨q = 1∨q = 2:=by simp at hq; omega
  unfold tabT lnT badT stT okT quT
  rw [hr]
  rcases hq3 with rfl | rfl | rfl
  ·by_cases e1 : B b = B d <;> by_cases e2 : B b ≤ 1 <;> by_cases e3 : B d ≤ 1 <;> cases hb : F b <;> cases hd : F d <;> simp [sideN,e1,e2,e3,hb,hd] <;> omega
  ·by_cases e1 : B a = 0 <;> cases hb : F a <;> simp [sideN,e1,hb] <;> omega
  ·by_cases e1 : B a = 1 <;> cases hb : F a <;> simp [sideN,e1,hb] <;> omega
 ·unfold tabT lnT
  have ho : okT B k q (sideN l q) = false:=by
   unfold okT
   have n58 : ¬ (k = 5∨k = 6∨k = 7∨k = 8):=by omega
   rw [if_neg h34,if_neg n58,if_neg h11,if_neg h9]
  have hb : (List.range l.length).any (fun p=>!decide (p = q) && badT B k q l p) = false:=by
   rw [List.any_eq_false]
   intro p _
   unfold badT
   rw [if_neg h56,if_neg h78,if_neg h9,if_neg h11]
   simp
  have h12 : k = 12∨k = 13:=by omega
  rw [ho,hb,if_neg (by simp),if_pos h12]
  rfl
end Go.Proofs.YtlmniacemoohpaaGreatDoor
namespace Go.Proofs.YtlmniacemoohpaaGreatDoor
open Go
set_option maxRecDepth 100000 in
set_option maxHeartbeats 8000000 in
theorem table_c (c : Ci) (hg : c.good) (B : Nat→Nat) (F : Nat→Bool) (hB : ∀ m,B m ≤ 3) (cb cf : Option Nat) (n q : Nat) (hn : n < c.n.length) (hc : combC c n = true) (hq : q < (c.g n).length) :
  PureC Tryz.prog gl0 41 [c.v,.agg [natV n,natV q],.sl (tab c.n.length fun j=>u8V (B j)) cb,.sl (boolsV c.n.length F) cf] (natV (lnT B F (c.nd n).k.toNat q (sideN (c.g n) q) (B ((c.g n).getD q 0)))):=by
 have hval:=hg.val
 have hn1:=hg.n1
 have hgi:=g_comb hc
 obtain ⟨y,hy⟩ : ∃ y,c.n[n] = y:=⟨_,rfl⟩
 obtain ⟨l,hl⟩ : ∃ l,c.g n = l:=⟨_,rfl⟩
 obtain ⟨k0,k14,hw⟩:=nd_kw hg hn
 have hyi:=hval.i n hn
 have hyl:=hval.l n hn
 have hcb : combC c n = decide (1 ≤ y.k∧y.k ≤ 13):=by unfold combC combB; rw [c.nd_get hn,hy]
 rw [hc] at hcb
 have hk13:=of_decide_eq_true hcb.symm
 rw [c.nd_get hn,hy] at hyi hyl k0 k14 hw hgi ⊢
 rw [hl] at hq hgi ⊢
 have hyl2 : y.i = l.map fun (x : Nat)=>(x : Int):=by
  rw [hgi,List.map_map]
  have hid : ∀ x ∈ y.i,((fun (x : Nat)=>(x : Int)) ∘ Int.toNat) x = id x:=fun x hx=>Int.toNat_of_nonneg (hyi x hx).1
  rw [List.map_congr_left hid,List.map_id]
 have hlN : ∀ x ∈ l,x < c.n.length:=fun x hx=>by
  have:=(hyi (x : Int) (by rw [hyl2]; exact List.mem_map_of_mem hx)).2
  omega
 have hll : l.length ≤ 16:=by rw [hyl2] at hyl; simpa using hyl
 have hin : ints y.i = natsV l:=by rw [hyl2,← natsV_ints]
 have hlen : l.length = y.i.length:=by rw [hyl2]; simp
 obtain ⟨kk,hkk⟩ : ∃ k : Nat,y.k = (k : Int):=⟨y.k.toNat,(Int.toNat_of_nonneg k0).symm⟩
 rw [hkk,Int.toNat_natCast]
 rw [hkk] at k14 hw hk13
 have hw34 : kk = 3∨kk = 4→l.length = 1:=by
  rintro (rfl | rfl)
  all_goals simp [widB,kLo,kHi,tLo,tHi] at hw; omega
 have hw11 : kk = 11→l.length = 3:=by
  rintro rfl
  simp [widB,kLo,kHi,tLo,tHi] at hw; omega
 have hk3 : 3 ≤ kk:=by
  refine Nat.le_of_not_lt fun h=>?_
  have : kk = 1∨kk = 2:=by omega
  rw [← hlen] at hw
  rcases this with rfl | rfl
  all_goals
   simp [widB,kLo,kHi,tLo,tHi] at hw
   simp [hw] at hq
 rw [← tabT_eq B F kk q l ⟨hk3,by omega⟩ hq hw34 hw11]
 obtain ⟨v,hv⟩ : ∃ v,B (l.getD q 0) = v:=⟨_,rfl⟩
 have hlq : l.getD q 0 = l[q]:=by rw [List.getD_eq_getElem?_getD,List.getElem?_eq_getElem hq]; rfl
 have hqN:=hlN l[q] (List.getElem_mem hq)
 rw [hv]
 rw [hlq] at hv
 obtain ⟨VB,hVB⟩ : ∃ f : Nat→Bool,∀ j,f j = (List.range j).any (fun p=>!decide (p = q) && badT B kk q l p):=⟨_,fun _=>rfl⟩
 obtain ⟨VS,hVS⟩ : ∃ f : Nat→Bool,∀ j,f j = (List.range j).all (fun p=>decide (p = q) || stT F kk q v l p):=⟨_,fun _=>rfl⟩
 obtain ⟨HW,hHW⟩ : ∃ f : Nat→Nat,∀ j,f j = if VS j = true then 2 else 1:=⟨_,fun _=>rfl⟩
 have hVB0 : VB 0 = false:=by rw [hVB]; rfl
 have hHW0 : HW 0 = 2:=by rw [hHW,hVS]; rfl
 have hVBs : ∀ j,VB (j + 1) = (VB j || (!decide (j = q) && badT B kk q l j)):=fun j=>by rw [hVB,hVB,List.range_succ,List.any_append]; simp
 have hHWs : ∀ j,HW (j + 1) = if (decide (j = q) || stT F kk q v l j) = true then HW j else 1:=fun j=>by
  rw [hHW,hHW,hVS,hVS,List.range_succ,List.all_append]
  cases h : (decide (j = q) || stT F kk q v l j) <;> simp [h]
 have hbad : ∀ j,j ≤ l.length→VB j = true→VB l.length = true:=by
  intro j hj h
  rw [hVB,List.any_eq_true] at h ⊢
  obtain ⟨p,hp,h⟩:=h
  exact ⟨p,List.mem_range.2 (by have:=List.mem_range.1 hp; omega),h⟩
 have hR : tabT B F kk q v l = if VB l.length = true then 0 else if kk = 12∨kk = 13 then 0 else HW l.length:=by unfold tabT; rw [hVB,hHW,hVS]
 rw [hR]
 have hyv : y.v = .agg [.int .u8 (kk : Int),.sl (natsV l) none,.int .i64 y.a,.int .i64 y.b]:=by unfold Nd.v; rw [hin,hkk]
 simp only [u8V,natV]
 refine PureC.of_W 2 ok41 rfl ?_
 simp [i41,x41]
 intro gf1 gf2
 generalize gf1 4 = g4
 generalize gf2 5 = g5
 simp [hn,hy,hyv,hq,natsV_get,hqN,tab_get,hv]
 intro gf3
 generalize gf3 9 = g9
 refine LoopP.of (X:=Nat) (fun j=>[(12,natV j),(11,natV (HW j)),(10,.int .u8 (v : Int)),(9,.ptr 9 g9 0 0),(5,.ptr 5 g5 0 0),(4,.ptr 4 g4 0 0),(2,.sl (tab c.n.length fun j=>.int .u8 (B j : Int)) cb),(3,.sl (boolsV c.n.length F) cf)]) (fun _=>[(9,.row g9 4 [y.v]),(5,.row g5 2 [.agg [natV n,natV q]]),(4,.row g4 4 [c.v])])
  (fun j=>j ≤ l.length∧VB j = false) (fun j=>l.length - j) 0 ⟨by simp,hVB0⟩ (by simp [natV,hHW0]) (by simp [natV,hyv]) ?_
 rintro j ⟨r1,r2⟩
 simp [natV,hyv]
 refine BrB.of (fun hb=>?_) (fun hb=>?_)
 ·have hj : j < l.length:=of_decide_eq_true hb
  have hwj:=wrapN j (by omega)
  have hb1:=hVBs j
  have hh1:=hHWs j
  rw [r2,Bool.false_or] at hb1
  by_cases hjq : j = q
  ·rw [decide_eq_true hjq] at hb1 hh1
   simp at hb1 hh1
   have hwq:=wrapN q (by omega)
   subst hjq
   simp [hwj]
   exact ⟨j + 1,⟨hj,hb1⟩,⟨by simp,by simp [hh1]⟩,by omega⟩
  ·rw [decide_eq_false hjq] at hb1 hh1
   simp at hb1 hh1
   have hlj : l.getD j 0 = l[j]:=by rw [List.getD_eq_getElem?_getD,List.getElem?_eq_getElem hj]; rfl
   have hjN:=hlN l[j] (List.getElem_mem hj)
   obtain ⟨m,hm⟩ : ∃ m,l[j] = m:=⟨_,rfl⟩
   rw [hm] at hlj hjN
   obtain ⟨z,hz⟩ : ∃ z,B m = z:=⟨_,rfl⟩
   have hz3:=hB m
   rw [hz] at hz3
   obtain ⟨f,hf⟩ : ∃ f,F m = f:=⟨_,rfl⟩
   have hbl:=hbad (j + 1) hj
   by_cases h11 : kk = 11
   ·subst h11
    have hl3:=hw11 rfl
    obtain ⟨a,b,d,rfl⟩ : ∃ a b d,l = [a,b,d]:=by
     match l,hl3 with
     | [a,b,d],_=>exact ⟨a,b,d,rfl⟩
    have hn3 : natsV [a,b,d] = [natV a,natV b,natV d]:=rfl
    have haN:=hlN a (by simp)
    have hbN:=hlN b (by simp)
    have hdN:=hlN d (by simp)
    have hwz:=u8i (x:=z) (by omega)
    obtain ⟨xb,hxb⟩ : ∃ x,B b = x:=⟨_,rfl⟩
    obtain ⟨xd,hxd⟩ : ∃ x,B d = x:=⟨_,rfl⟩
    simp only [badT,stT,hlj,hz,hf] at hb1 hh1
    have hq3 : q = 0∨q = 1∨q = 2:=by simp at hq; omega
    have hj3 : j = 0∨j = 1∨j = 2:=by simp at hj; omega
    have hw11 : IntKind.i64.wrap (1 - 1) = 0:=by decide
    have hw21 : IntKind.i64.wrap (2 - 1) = 1:=by decide
    simp only [natV] at hn3
    rcases hq3 with rfl | rfl | rfl
    ·by_cases hz1 : 1 < z
     ·simp [hz1] at hb1
      have hb3 : VB 3 = true:=hbl hb1
      rcases hj3 with rfl | rfl | rfl
      ·exact absurd rfl hjq
      all_goals
       simp at hm
       subst hm
       simp [hn3,hjN,tab_get,hz,boolsV_get,hf,hwz,hw11,hw21,hbN,hdN,hxb,hxd,hz1,hb3]
     ·by_cases he : xb = xd
      ·simp [hz1,hxb,hxd,he] at hb1
       have hb3 : VB 3 = true:=hbl hb1
       rcases hj3 with rfl | rfl | rfl
       ·exact absurd rfl hjq
       ·simp at hm
        subst hm
        obtain rfl : z = xb:=hz.symm.trans hxb
        subst he
        simp [hn3,hjN,tab_get,hz,boolsV_get,hf,hwz,hw11,hw21,hbN,hdN,hxb,hxd,hz1,hb3]
       ·simp at hm
        subst hm
        obtain rfl : z = xd:=hz.symm.trans hxd
        simp [hn3,hjN,tab_get,hz,boolsV_get,hf,hwz,hw11,hw21,hbN,hdN,hxb,hxd,hz1,hb3,he]
      ·cases f
       all_goals
        simp [hz1,hxb,hxd,he] at hb1 hh1
        rcases hj3 with rfl | rfl | rfl
        ·exact absurd rfl hjq
        ·simp at hm
         subst hm
         obtain rfl : z = xb:=hz.symm.trans hxb
         simp [hn3,hjN,tab_get,hz,boolsV_get,hf,hwz,hw11,hw21,hbN,hdN,hxb,hxd,hz1,he]
         exact ⟨2,⟨by simp,hb1⟩,⟨by simp,by simp [hh1]⟩,by simp⟩
        ·simp at hm
         subst hm
         obtain rfl : z = xd:=hz.symm.trans hxd
         simp [hn3,hjN,tab_get,hz,boolsV_get,hf,hwz,hw11,hw21,hbN,hdN,hxb,hxd,hz1,he]
         exact ⟨3,⟨by simp,hb1⟩,⟨by simp,by simp [hh1]⟩,by simp⟩
    ·rcases hj3 with rfl | rfl | rfl
     ·simp at hm
      subst hm
      by_cases hz1 : z = 0
      ·subst hz1
       cases f
       all_goals
        simp at hb1 hh1
        simp [hn3,hjN,tab_get,hz,boolsV_get,hf,hwz,hw11,hw21,hbN,hdN,hxb,hxd]
        exact ⟨1,⟨by simp,hb1⟩,⟨by simp,by simp [hh1]⟩,by simp⟩
      ·simp [hz1] at hb1
       have hb3 : VB 3 = true:=hbl hb1
       simp [hn3,hjN,tab_get,hz,boolsV_get,hf,hwz,hw11,hw21,hbN,hdN,hxb,hxd,hz1,hb3]
     ·exact absurd rfl hjq
     ·simp at hm
      subst hm
      simp at hb1 hh1
      cases f
      all_goals
       simp [hn3,hjN,tab_get,hz,boolsV_get,hf,hwz,hw11,hw21,hbN,hdN,hxb,hxd]
       exact ⟨3,⟨by simp,hb1⟩,⟨by simp,by simp [hh1]⟩,by simp⟩
    ·rcases hj3 with rfl | rfl | rfl
     ·simp at hm
      subst hm
      by_cases hz1 : z = 1
      ·subst hz1
       cases f
       all_goals
        simp at hb1 hh1
        simp [hn3,hjN,tab_get,hz,boolsV_get,hf,hwz,hw11,hw21,hbN,hdN,hxb,hxd]
        exact ⟨1,⟨by simp,hb1⟩,⟨by simp,by simp [hh1]⟩,by simp⟩
      ·simp [hz1] at hb1
       have hb3 : VB 3 = true:=hbl hb1
       simp [hn3,hjN,tab_get,hz,boolsV_get,hf,hwz,hw11,hw21,hbN,hdN,hxb,hxd,hz1,hb3]
     ·simp at hm
      subst hm
      simp at hb1 hh1
      cases f
      all_goals
       simp [hn3,hjN,tab_get,hz,boolsV_get,hf,hwz,hw11,hw21,hbN,hdN,hxb,hxd]
       exact ⟨2,⟨by simp,hb1⟩,⟨by simp,by simp [hh1]⟩,by simp⟩
     ·exact absurd rfl hjq
   ·simp only [badT,stT,hlj,hz,hf,h11,if_false,false_and] at hb1 hh1
    by_cases hN : kk = 3∨kk = 4∨kk = 12∨kk = 13
    ·cases f
     all_goals
      rcases hN with rfl | rfl | rfl | rfl
      all_goals
       simp at hb1 hh1
       simp [hjq,hj,natsV_get,hm,hjN,tab_get,hz,boolsV_get,hf,hwj]
       exact ⟨j + 1,⟨hj,hb1⟩,⟨by simp,by simp [hh1]⟩,by omega⟩
    by_cases hN2 : kk = 9∨kk = 10
    ·by_cases hz1 : 1 < z
     ·rcases hN2 with rfl | rfl
      all_goals
       simp [hz1] at hb1
       simp [hjq,hj,natsV_get,hm,hjN,tab_get,hz,boolsV_get,hf,hwj,hz1,hbl hb1]
     ·cases f
      all_goals
       rcases hN2 with rfl | rfl
       all_goals
        simp [hz1] at hb1 hh1
        simp [hjq,hj,natsV_get,hm,hjN,tab_get,hz,boolsV_get,hf,hwj,hz1]
        exact ⟨j + 1,⟨hj,hb1⟩,⟨by simp,by simp [hh1]⟩,by omega⟩
    by_cases hN3 : kk = 5∨kk = 6
    ·by_cases hz1 : z = 1
     case neg=>
      rcases hN3 with rfl | rfl
      all_goals
       simp [hz1] at hb1
       simp [hjq,hj,natsV_get,hm,hjN,tab_get,hz,boolsV_get,hf,hwj,hz1,hbl hb1]
     case pos=>
      subst hz1
      cases f
      all_goals
       by_cases hv0 : v = 0
       all_goals
        rcases hN3 with rfl | rfl
        all_goals
         simp [hv0] at hb1 hh1
         simp [hjq,hj,natsV_get,hm,hjN,tab_get,hz,boolsV_get,hf,hwj,hv0]
         exact ⟨j + 1,⟨hj,hb1⟩,⟨by simp,by simp [hh1]⟩,by omega⟩
    ·have hN4 : kk = 7∨kk = 8:=by omega
     by_cases hz1 : z = 0
     case neg=>
      rcases hN4 with rfl | rfl
      all_goals
       simp [hz1] at hb1
       simp [hjq,hj,natsV_get,hm,hjN,tab_get,hz,boolsV_get,hf,hwj,hz1,hbl hb1]
     case pos=>
      subst hz1
      cases f
      all_goals
       by_cases hv0 : v = 1
       all_goals
        rcases hN4 with rfl | rfl
        all_goals
         simp [hv0] at hb1 hh1
         simp [hjq,hj,natsV_get,hm,hjN,tab_get,hz,boolsV_get,hf,hwj,hv0]
         exact ⟨j + 1,⟨hj,hb1⟩,⟨by simp,by simp [hh1]⟩,by omega⟩
 ·have hj : j = l.length:=by have:=of_decide_eq_false hb; omega
  subst hj
  rw [r2]
  simp
  by_cases h12 : kk = 12
  ·simp [h12,BrB]
  ·by_cases h13 : kk = 13
   ·simp [h13,BrB]
   ·simp [h12,h13,BrB]
end Go.Proofs.YtlmniacemoohpaaGreatDoor
