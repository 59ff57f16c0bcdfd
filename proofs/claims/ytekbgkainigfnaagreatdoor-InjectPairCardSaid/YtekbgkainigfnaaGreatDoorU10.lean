/- Faults: the response by recursion. Conditions: none. -/
import Derived.Test.YtekbgkainigfnaaGreatDoorU9
set_option linter.unusedSimpArgs false
set_option linter.unusedVariables false
namespace Go.Proofs.YtekbgkainigfnaaGreatDoor
open Go
theorem tU_map (n : Nat) (M : Nat→Nat) : tU n M = (tab n M).map u8V:=by
  unfold tU tab; rw [List.map_map]; rfl
theorem rep_tU (n : Nat) : List.replicate n (V.int .u8 0) = tU n fun _=>0:=by
  refine List.ext_getElem (by simp) fun i h1 h2=>?_
  rw [tU_get,List.getElem_replicate]; rfl
theorem same35_c (a b : List Nat) (ca cb : Option Nat) (hl : a.length < 1000000000) : PureC Tryz.prog gl0 35 [.sl (a.map u8V) ca,.sl (b.map u8V) cb] (.bool (decide (a = b))):=by
  obtain ⟨q,hq⟩ : ∃ r,decide (a = b) = r:=⟨_,rfl⟩
  rw [hq]
  have hne : a ≠ b→q = false:=fun h=>by rw [← hq]; simp [h]
  have heq : a = b→q = true:=fun h=>by rw [← hq]; simp [h]
  refine PureC.of_W 2 ok35 rfl ?_
  by_cases hab : a.length = b.length
  rotate_left
  · have:=hne fun e=>hab (by rw [e])
    simp [i35,x35,hab,this]
  simp [i35,x35,hab]
  refine LoopP.of (X:=Nat) (fun i=>[(5,natV i),(1,.sl (b.map u8V) cb),(0,.sl (a.map u8V) ca)]) (fun _=>[])
    (fun i=>i ≤ a.length∧a.take i = b.take i) (fun i=>a.length - i) 0 ⟨by simp,by simp⟩ (by simp [natV]) (by simp) ?_
  rintro i ⟨h3,h4⟩
  simp [natV]
  refine BrB.of (fun h5=>?_) (fun h5=>?_)
  · have hi : i < a.length:=of_decide_eq_true h5
    have hj : i < b.length:=by omega
    have hw:=wrapN i (by omega)
    obtain ⟨x,hx⟩ : ∃ x,a[i] = x:=⟨_,rfl⟩
    obtain ⟨y,hy⟩ : ∃ y,b[i] = y:=⟨_,rfl⟩
    simp
    intro gm
    simp [hi,hj,hx,hy,u8V]
    refine BrB.of (fun h6=>?_) (fun h6=>?_)
    · have he : x = y:=by simpa using h6
      simp [hw]
      refine ⟨i + 1,⟨by omega,?_⟩,rfl,by omega⟩
      rw [List.take_succ_eq_append_getElem hi,List.take_succ_eq_append_getElem hj,h4,hx,hy,he]
    · have:=hne fun e=>by subst e; rw [hx] at hy; subst hy; simp at h6
      simp [this]
  · have hi : i = a.length:=by have:=of_decide_eq_false h5; omega
    have : a = b:=by rw [hi,List.take_length,hab,List.take_length] at h4; exact h4
    simp [heq this]
theorem fits33_c (c : Ci) (hg : c.good) (p : Pt) (hp : p.fit c) : PureC Tryz.prog gl0 33 [c.v,p.v] (.bool true):=by
  have hn0:=hg.n0
  have c1:=inputsN_c c (by have:=hg.n1; omega)
  have c2:=statesN_c c (by have:=hg.n1; omega)
  have e1:=hp.i
  have e2:=hp.s
  have l1 : (ids 0 c.n 0).length = cnt 0 c.n:=rfl
  have l2 : (ids 14 c.n 0).length = cnt 14 c.n:=rfl
  refine PureC.of_W 2 ok33 rfl ?_
  simp [i33,x33]
  intro gf1 gf2 gm
  have hne : c.n ≠ []:=by intro e; rw [e] at hn0; simp at hn0
  simp [hn0,hne]
  first | refine ⟨_,_,_,.pure c1 (by simp [V.pureL,V.pure]),?_⟩ | refine ⟨_,⟨_,_,.pure c1 (by simp [V.pureL,V.pure])⟩,?_⟩ | refine ⟨_,_,⟨_,.pure c1 (by simp [V.pureL,V.pure])⟩,?_⟩
  simp [e1,l1]
  first | refine ⟨_,_,_,.pure c2 (by simp [V.pureL,V.pure]),?_⟩ | refine ⟨_,⟨_,_,.pure c2 (by simp [V.pureL,V.pure])⟩,?_⟩ | refine ⟨_,_,⟨_,.pure c2 (by simp [V.pureL,V.pure])⟩,?_⟩
  simp [e2,l2]
  try rfl
theorem VLe.tup {a b : List V} (h : AllLe a b) : VLe (.tup a) (.tup b):=fun G M r hr=>by
  obtain ⟨h1,h2⟩:=h.spec
  cases hr with
  | tup _ arr hs q=>exact .tup b arr (by rw [hs,h1]) fun i hi=>h2 i G M _ (q i (by omega))
theorem map_mapR {F : Nat→Nat→Nat→Nat→Option Nat→V} {G : Nat→Nat→Nat→Nat→V} {l : List V} (hp : V.pureL l = true) : l.map (fun x=>V.mapR F G x) = l:=by
  have : ∀ x ∈ l,V.mapR F G x = x:=fun x hx=>mapR_pure x ((V.pureL_iff l).1 hp x hx)
  rw [List.map_congr_left this,List.map_id']
theorem listV_ne : ∀ {l : List V},l ≠ []→listV l = .sl l none
  | [],h=>absurd rfl h
  | _ :: _,_=>rfl
def optV (l : List V) : Option (Nat × List V)→V
  | none=>.nil
  | some _=>.sl l none
theorem optV_none (l : List V) : optV l none = .nil:=rfl
theorem optV_some (l : List V) (z : Nat × List V) : optV l (some z) = .sl l none:=rfl
structure RuSt where
  k : Nat
  acc : Option (Nat × List V)
  D : Nat→Bool
set_option maxRecDepth 100000 in
set_option maxHeartbeats 8000000 in
theorem run_mc (c : Ci) (hg : c.good) (p : Pt) (hp : p.fit c) (f : Ft) (hf : f.okM c) (A M : Nat→Nat) (hM : MEq c p f A M) :
    PureC Tryz.prog gl0 34 [c.v,p.v,f.w,.sl (tU c.n.length A) (some c.n.length)] (.tup [.agg [.sl ((obsMO c M).map u8V) none,.sl ((obsMS c (f.mQ c A) M).map u8V) none],.sl (tU c.n.length M) (some c.n.length)]):=by
  refine PureC.wide (res:=.tup [.agg [listV ((obsMO c M).map u8V),listV ((obsMS c (f.mQ c A) M).map u8V)],.sl (tU c.n.length M) (some c.n.length)]) ?_ (AllLe.refl _) ?_
  rotate_left
  · exact VLe.tup ⟨VLe.agg ⟨listV_le _,listV_le _,trivial⟩,.refl _,trivial⟩
  have hn1:=hg.n1
  have hno : c.o.length ≤ 16384:=(sh_len hg.sh).2.2.2
  have hlp : V.pureL (tU c.n.length A) = true:=tU_pure _ _
  have hcl0 : clD c fun _=>false:=fun x _ h=>by cases h
  have cs:=statesN_c c (by omega)
  have hsl:=cnt_le 14 c.n
  refine PureC.of_W 2 ok34 rfl ?_
  simp [i34,x34]
  intro gf1 gf2 gf3 gf4 gm
  simp [boolsV_rep,rep_tU,show c.n.length ≤ 549755813888 by omega]
  refine ⟨rfl,?_⟩
  intro gf5
  generalize gf5 11 = g11
  generalize gm 30 = g30
  generalize gm 24 = g24
  generalize gm 28 = g28
  generalize gf1 4 = g4
  generalize gf4 8 = g8
  obtain ⟨OV,hOV⟩ : ∃ OV,(obsMO c M).map u8V = OV:=⟨_,rfl⟩
  have hOl : OV.length = c.o.length:=by rw [← hOV]; simp [obsMO]
  have hOg : ∀ k (h : k < OV.length) (h' : k < c.o.length),OV[k] = u8V (M (c.o[k]).toNat):=fun k h h'=>by subst hOV; simp [obsMO]
  have hOp : V.pureL OV = true:=by rw [← hOV]; exact u8s_pure _
  rw [hOV]
  clear hOV
  refine LoopP.of (X:=RuSt) (fun z=>[(12,natV z.k),(11,.ptr 11 g11 0 0),(10,.ptr 30 g30 0 0),(8,.ptr 8 g8 0 0),(4,.ptr 4 g4 0 0)])
    (fun z=>mH c p f A M g30 g24 g28 z.D ++ [(11,.row g11 2 [.agg [accV 48 z.acc,.nil]]),(8,.row g8 2 [.agg [.nil,.nil]]),(4,.row g4 4 [c.v])] ++ accH 48 1 z.acc)
    (fun z=>z.k ≤ c.o.length∧clD c z.D∧(z.acc = none↔z.k = 0)∧accL z.acc = OV.take z.k) (fun z=>c.o.length - z.k) ⟨0,none,fun _=>false⟩ ⟨Nat.zero_le _,hcl0,by simp,by simp [accL]⟩
    (by simp [natV]) (by simp [mH,accV,accH]; exact ⟨rfl,rfl⟩) ?_
  rintro ⟨k,acc,D⟩ ⟨q1,q2,q3,q4⟩
  dsimp only at q1 q2 q3 q4 ⊢
  simp [natV,mH]
  refine BrB.of (fun hb=>?_) (fun hb=>?_)
  · have hk : k < c.o.length:=of_decide_eq_true hb
    have hw:=wrapN k (by omega)
    have ho:=hg.o (List.getElem_mem hk)
    obtain ⟨x,hx⟩ : ∃ x : Nat,c.o[k] = (x : Int):=⟨(c.o[k]).toNat,by omega⟩
    have hxN : x < c.n.length:=by omega
    have hnet:=net_mc c hg p hp f hf A M hM g30 g24 g28 (lvOf c x + 1) x D (by omega) hxN q2
    have hcl:=clD_ex hg q2 hxN
    have hnx : OV.take (k + 1) = OV.take k ++ [u8V (M x)]:=by
      rw [List.take_succ_eq_append_getElem (by omega),hOg k (by omega) hk,hx]; rfl
    rw [← q4] at hnx
    have hwi:=heapIn_mH c p f A M g30 g24 g28 D
    have hwj:=heapIn_mH c p f A M g30 g24 g28 (exD c D x)
    generalize exD c D x = D2 at hnet hcl hwj
    obtain ⟨xm,hxm⟩ : ∃ xm,M x = xm:=⟨_,rfl⟩
    rw [hxm] at hnet hnx
    simp only [natV,u8V] at hnet hnx
    rcases acc with _ | ⟨ga,r⟩
    · simp [accV,accH]
      intro gm2
      simp [hk,hx,ints_getE]
      first | refine ⟨_,_,_,.lend [30,24,28] hnet (by simp) (by simp [mH]) hwi (fun _ _ e=>e) rfl hwj (by simp [mH,genIn]) (by simp [mH]),?_⟩ | refine ⟨_,⟨_,_,.lend [30,24,28] hnet (by simp) (by simp [mH]) hwi (fun _ _ e=>e) rfl hwj (by simp [mH,genIn]) (by simp [mH])⟩,?_⟩ | refine ⟨_,_,⟨_,.lend [30,24,28] hnet (by simp) (by simp [mH]) hwi (fun _ _ e=>e) rfl hwj (by simp [mH,genIn]) (by simp [mH])⟩,?_⟩
      simp [mH]
      exact ⟨rfl,⟨k + 1,some (gm2 48,[.int .u8 (xm : Int)]),D2⟩,⟨hk,hcl,by simp,by simpa [accL] using hnx.symm⟩,by simp [hw],by simp,by dsimp only; omega⟩
    · have hrl:=congrArg List.length q4
      simp [accL] at hrl
      simp [accV,accH]
      intro gm2
      simp [hk,hx,ints_getE]
      first | refine ⟨_,_,_,.lend [30,24,28] hnet (by simp) (by simp [mH]) hwi (fun _ _ e=>e) rfl hwj (by simp [mH,genIn]) (by simp [mH]),?_⟩ | refine ⟨_,⟨_,_,.lend [30,24,28] hnet (by simp) (by simp [mH]) hwi (fun _ _ e=>e) rfl hwj (by simp [mH,genIn]) (by simp [mH])⟩,?_⟩ | refine ⟨_,_,⟨_,.lend [30,24,28] hnet (by simp) (by simp [mH]) hwi (fun _ _ e=>e) rfl hwj (by simp [mH,genIn]) (by simp [mH])⟩,?_⟩
      simp [mH,show r.length ≤ 274877906943 by omega]
      exact ⟨rfl,⟨k + 1,some (ga + 1,r ++ [.int .u8 (xm : Int)]),D2⟩,⟨hk,hcl,by simp,by simpa [accL] using hnx.symm⟩,by simp [hw],by simp,by dsimp only; omega⟩
  · have hk : k = c.o.length:=by have:=of_decide_eq_false hb; omega
    subst hk
    rw [List.take_of_length_le (by omega)] at q4
    clear hb q1
    obtain ⟨SV,hSV⟩ : ∃ SV,(obsMS c (f.mQ c A) M).map u8V = SV:=⟨_,rfl⟩
    have hSl : SV.length = (ids 14 c.n 0).length:=by rw [← hSV]; simp [obsMS]
    have hSg : ∀ k (h : k < SV.length) (h' : k < (ids 14 c.n 0).length),SV[k] = u8V (nxtM c (f.mQ c A) M ((ids 14 c.n 0)[k])):=fun k h h'=>by subst hSV; simp [obsMS]
    have hSp : V.pureL SV = true:=by rw [← hSV]; exact u8s_pure _
    rw [hSV]
    clear hSV
    obtain ⟨LS,hLS⟩ : ∃ LS,ids 14 c.n 0 = LS:=⟨_,rfl⟩
    have hLl : LS.length = cnt 14 c.n:=by rw [← hLS]; rfl
    rw [hLS] at cs hSl hSg
    obtain ⟨acc0,hacc⟩ : ∃ a,a = acc:=⟨_,rfl⟩
    rcases acc with _ | ⟨ga,r⟩
    case' none=>
      have hO0 : OV = []:=by simpa [accL] using q4.symm
      simp [accV,accH]
    case' some=>
      simp only [accL] at q4
      simp [accV,accH]
    all_goals
      refine CallO.pure cs (by simp [V.pureL,V.pure]) ?_
      simp
      refine LoopP.of (X:=RuSt) (fun z=>[(14,natV z.k),(13,.sl (natsV LS) (some (cnt 14 c.n))),(11,.ptr 11 g11 0 0),(10,.ptr 30 g30 0 0),(8,.ptr 8 g8 0 0),(4,.ptr 4 g4 0 0)])
        (fun z=>mH c p f A M g30 g24 g28 z.D ++ [(11,.row g11 2 [.agg [accV 48 acc0,accV 70 z.acc]]),(8,.row g8 2 [.agg [.nil,.nil]]),(4,.row g4 4 [c.v])] ++ accH 48 1 acc0 ++ accH 70 1 z.acc)
        (fun z=>z.k ≤ LS.length∧clD c z.D∧(z.acc = none↔z.k = 0)∧accL z.acc = SV.take z.k) (fun z=>LS.length - z.k) ⟨0,none,D⟩ ⟨by simp,q2,by simp,by simp [accL]⟩
        (by simp [natV]) (by simp [mH,hacc,accV,accH]) ?_
      rintro ⟨k,acc,D⟩ ⟨p1,p2,p3,p4⟩
      dsimp only at p1 p2 p3 p4 ⊢
      simp [natV,mH]
      refine BrB.of (fun hb=>?_) (fun hb=>?_)
      · have hk : k < LS.length:=of_decide_eq_true hb
        have hw:=wrapN k (by omega)
        obtain ⟨n,hn⟩ : ∃ n,LS[k] = n:=⟨_,rfl⟩
        have hmem : n ∈ ids 14 c.n 0:=by rw [hLS,← hn]; exact List.getElem_mem hk
        obtain ⟨hnN,xi,hxi,h0,h1,-⟩:=nd_dff hg hmem
        obtain ⟨x,rfl⟩ : ∃ x : Nat,xi = (x : Int):=⟨xi.toNat,by omega⟩
        have hxN : x < c.n.length:=by omega
        have hnd : (c.nd n).i = [(x : Int)]:=by rw [c.nd_get hnN]; exact hxi
        have hread:=read_mc c hg p f hf A M g30 g24 g28 hnN (k:=0) (x:=x) (by rw [hnd]; simp) (by simp only [hnd]; rfl) D (net_mc c hg p hp f hf A M hM g30 g24 g28 (lvOf c x + 1) x D (by omega) hxN p2)
        have hcl:=clD_ex hg p2 hxN
        have hnx0 : nxtM c (f.mQ c A) M n = if f.mQ c A n 0 (M x) = 3 then 2 else f.mQ c A n 0 (M x):=by
          unfold nxtM rdsM
          simp [hnd]
        have hnx : SV.take (k + 1) = SV.take k ++ [u8V (if f.mQ c A n 0 (M x) = 3 then 2 else f.mQ c A n 0 (M x))]:=by
          rw [List.take_succ_eq_append_getElem (by omega),hSg k (by omega) hk,hn,hnx0]
        rw [← p4] at hnx
        have hwi:=heapIn_mH c p f A M g30 g24 g28 D
        have hwj:=heapIn_mH c p f A M g30 g24 g28 (exD c D x)
        generalize exD c D x = D2 at hread hcl hwj
        generalize f.mQ c A n 0 (M x) = qv at hread hnx
        simp only [natV,u8V] at hread hnx
        simp [hk,hn,natsV,natV]
        refine CallO.lend [30,24,28] (mH c p f A M g30 g24 g28 D) ([(11,.row g11 2 [.agg [accV 48 acc0,accV 70 acc]]),(8,.row g8 2 [.agg [.nil,.nil]]),(4,.row g4 4 [c.v])] ++ accH 48 1 acc0 ++ accH 70 1 acc) hread (by simp) (by simp [mH]) hwi (by cases acc <;> simp [hacc,accV,accH]) (by cases acc <;> simp [hacc,accH]) ?_
        rintro v h ⟨rfl,rfl⟩
        refine ⟨rfl,hwj,?_⟩
        by_cases e3 : qv = 3
        · rw [if_pos e3] at hnx
          have hnx : accL acc ++ [V.int .u8 2] = SV.take (k + 1):=hnx.symm
          have hnx:=hnx.symm
          rcases acc with _ | ⟨gb,r2⟩
          · simp [e3,hacc,accV,accH,mH]
            intro ga1 gb1
            exact ⟨⟨k + 1,some (gb1 70,[.int .u8 2]),D2⟩,⟨hk,hcl,by simp,by simpa [accL] using hnx.symm⟩,by simp [hw],by simp [hacc,accV,accH],by dsimp only; omega⟩
          · have hrl:=congrArg List.length p4
            simp [accL] at hrl
            simp [e3,hacc,accV,accH,mH,show r2.length ≤ 274877906943 by omega]
            intro ga1 gb1
            exact ⟨⟨k + 1,some (gb1 70,r2 ++ [.int .u8 2]),D2⟩,⟨hk,hcl,by simp,by simpa [accL] using hnx.symm⟩,by simp [hw],by simp [hacc,accV,accH],by dsimp only; omega⟩
        · rw [if_neg e3] at hnx
          rcases acc with _ | ⟨gb,r2⟩
          · simp [e3,hacc,accV,accH,mH]
            intro ga1 gb1
            exact ⟨⟨k + 1,some (gb1 70,[.int .u8 (qv : Int)]),D2⟩,⟨hk,hcl,by simp,by simpa [accL] using hnx.symm⟩,by simp [hw],by simp [hacc,accV,accH],by dsimp only; omega⟩
          · have hrl:=congrArg List.length p4
            simp [accL] at hrl
            simp [e3,hacc,accV,accH,mH,show r2.length ≤ 274877906943 by omega]
            intro ga1 gb1
            exact ⟨⟨k + 1,some (gb1 70,r2 ++ [.int .u8 (qv : Int)]),D2⟩,⟨hk,hcl,by simp,by simpa [accL] using hnx.symm⟩,by simp [hw],by simp [hacc,accV,accH],by dsimp only; omega⟩
      · have hk : k = LS.length:=by have:=of_decide_eq_false hb; omega
        subst hk
        rw [List.take_of_length_le (by omega)] at p4
        simp
        refine LoopP.of (X:=RuSt) (fun z=>[(16,natV z.k),(11,.ptr 11 g11 0 0),(10,.ptr 30 g30 0 0),(8,.ptr 8 g8 0 0),(4,.ptr 4 g4 0 0)])
          (fun z=>mH c p f A M g30 g24 g28 z.D ++ ([(11,.row g11 2 [.agg [accV 48 acc0,accV 70 acc]]),(8,.row g8 2 [.agg [.nil,.nil]]),(4,.row g4 4 [c.v])] ++ accH 48 1 acc0 ++ accH 70 1 acc))
          (fun z=>z.k ≤ c.n.length∧clD c z.D∧∀ j,j < z.k→z.D j = true) (fun z=>c.n.length - z.k) ⟨0,none,D⟩ ⟨Nat.zero_le _,p2,fun j hj=>absurd hj (Nat.not_lt_zero _)⟩
          (by simp [natV]) (by cases acc <;> simp [mH,hacc,accV,accH]) ?_
        rintro ⟨k,acx,D⟩ ⟨s1,s2,s3⟩
        dsimp only at s1 s2 s3 ⊢
        simp [natV,mH]
        refine BrB.of (fun hb=>?_) (fun hb=>?_)
        · have hk : k < c.n.length:=of_decide_eq_true hb
          have hw:=wrapN k (by omega)
          have hnet:=net_mc c hg p hp f hf A M hM g30 g24 g28 (lvOf c k + 1) k D (by omega) hk s2
          have hcl:=clD_ex hg s2 hk
          have hDn : ∀ j,j < k + 1→exD c D k j = true:=fun j hj=>by
            unfold exD
            by_cases e : j = k
            · subst e; rw [Bool.or_eq_true]; right; simp [dep]
            · rw [s3 j (by omega)]; rfl
          have hwi:=heapIn_mH c p f A M g30 g24 g28 D
          have hwj:=heapIn_mH c p f A M g30 g24 g28 (exD c D k)
          generalize exD c D k = D2 at hnet hcl hwj hDn
          simp only [natV,u8V] at hnet
          simp
          refine CallO.lend [30,24,28] (mH c p f A M g30 g24 g28 D) ([(11,.row g11 2 [.agg [accV 48 acc0,accV 70 acc]]),(8,.row g8 2 [.agg [.nil,.nil]]),(4,.row g4 4 [c.v])] ++ accH 48 1 acc0 ++ accH 70 1 acc) hnet (by simp) (by simp [mH]) hwi (by cases acc <;> simp [hacc,accV,accH]) (by cases acc <;> simp [hacc,accH]) ?_
          rintro v h ⟨rfl,rfl⟩
          refine ⟨rfl,hwj,?_⟩
          simp [hw]
          exact ⟨⟨k + 1,none,D2⟩,⟨hk,hcl,hDn⟩,by simp,by cases acc <;> simp [hacc,accV,accH,mH],by dsimp only; omega⟩
        · have hk : k = c.n.length:=by have:=of_decide_eq_false hb; omega
          subst hk
          have hMM : tU c.n.length (mS M D) = tU c.n.length M:=by
            unfold tU
            refine tab_congr fun i hi=>?_
            unfold mS
            rw [if_pos (s3 i hi)]
          rw [hMM]
          have hSV : listV SV = optV SV acc:=by
            cases acc with
            | none=>rw [show SV = [] by simpa [accL] using p4.symm]; rfl
            | some z=>
              refine listV_ne fun e=>?_
              rw [e] at hSl
              have:=p3.2 hSl.symm
              cases this
          have hOV2 : listV OV = optV OV acc0:=by
            rw [hacc]
            first
            | (rw [hO0]; rfl)
            | (refine listV_ne fun e=>?_
               rw [e] at hOl
               have:=q3.2 hOl.symm
               cases this)
          rw [hSV,hOV2,hacc]
          clear hSV hOV2
          try subst q4
          rcases acc with _ | ⟨gb,r2⟩
          case' none=>
            simp [hacc,accV,accH,optV_none,optV_some]
          case' some=>
            simp only [accL] at p4
            subst p4
            simp [hacc,accV,accH,optV_none,optV_some]
          all_goals
            intro gm2
            simp [nop,map_mapR hOp,map_mapR hSp,map_mapR (tU_pure c.n.length M)]
            exact ⟨rfl,List.take_of_length_le (by simp)⟩
end Go.Proofs.YtekbgkainigfnaaGreatDoor
