/- Nets that follow some nets through gates: the contract of follows. Conditions: none. -/
import Derived.Test.YtcmblmkbdenakaaGreatDoorD5
import Derived.Test.YtcmblmkbdenakaaGreatDoorD11
import Derived.Test.YtcmblmkbdenakaaGreatDoorD7
set_option linter.unusedSimpArgs false
set_option linter.unusedVariables false
namespace Go.Proofs.YtcmblmkbdenakaaGreatDoor
open Go
inductive Rch (c : Ci) (fr : List Nat) : Nat→Prop
 | base {n : Nat} : n ∈ fr→Rch c fr n
 | step {n i : Nat} : n < c.n.length→(c.nd n).k ≠ 14→i < (c.nd n).i.length→Rch c fr ((c.nd n).i.getD i 0).toNat→Rch c fr n
open Classical in
noncomputable def rchN (c : Ci) (fr : List Nat) (n : Nat) : Nat:=if Rch c fr n then 1 else 0
def zer (N : Nat) (o : Nat→Nat) : Nat:=sumR (fun j=>if o j = 1 then 0 else 1) N
theorem zer_le (N : Nat) (o : Nat→Nat) (n : Nat) : zer N (upd1 o n 1) ≤ zer N o:=sumR_mono fun j _=>by
 by_cases h : j = n
 ·subst h; rw [upd1_same]; simp
 ·rw [upd1_ne _ _ h]; exact Nat.le_refl _
theorem zer_lt {N : Nat} {o : Nat→Nat} {n : Nat} (hn : n < N) (h : o n ≠ 1) : zer N (upd1 o n 1) < zer N o:=by
 have e : zer N o = sumR (fun j=>(if upd1 o n 1 j = 1 then 0 else 1) + (if n = j then 1 else 0)) N:=sumR_congr (fun j=>by
  by_cases hj : j = n
  ·subst hj; rw [upd1_same,if_neg h]; simp
  ·rw [upd1_ne _ _ hj,if_neg (fun e : n = j=>hj e.symm)]; rfl) N
 rw [e,sumR_add,sumR_oneN,if_pos hn]
 exact Nat.lt_succ_self _
structure FoI (c : Ci) (fr : List Nat) (o : Nat→Nat) : Prop where
 le : ∀ n,o n ≤ 1
 so : ∀ n,o n = 1→Rch c fr n
 ba : ∀ n ∈ fr,o n = 1
def FoC (c : Ci) (o : Nat→Nat) (n : Nat) : Prop:=(c.nd n).k = 14∨o n = 1∨∀ i,i < (c.nd n).i.length→o ((c.nd n).i.getD i 0).toNat ≠ 1
theorem FoI.all {c : Ci} {fr : List Nat} {o : Nat→Nat} (h : FoI c fr o) (hc : ∀ n,n < c.n.length→FoC c o n) : ∀ n,o n = rchN c fr n:=by
 have key : ∀ n,Rch c fr n→o n = 1:=fun n hn=>by
  induction hn with
  | base hm=>exact h.ba _ hm
  | step hn hk hi _ ih=>
   rcases hc _ hn with q | q | q
   ·exact absurd q hk
   ·exact q
   ·exact absurd ih (q _ hi)
 intro n
 unfold rchN
 by_cases hn : Rch c fr n
 ·rw [if_pos hn]; exact key n hn
 ·rw [if_neg hn]
  have:=h.le n
  have h2 : o n ≠ 1:=fun e=>hn (h.so n e)
  omega
theorem FoI.upd {c : Ci} {fr : List Nat} {o : Nat→Nat} (h : FoI c fr o) {n : Nat} (hn : Rch c fr n) : FoI c fr (upd1 o n 1):=by
 refine ⟨fun m=>?_,fun m hm=>?_,fun m hm=>?_⟩
 ·by_cases e : m = n
  ·subst e; rw [upd1_same]; exact Nat.le_refl _
  ·rw [upd1_ne _ _ e]; exact h.le m
 ·by_cases e : m = n
  ·subst e; exact hn
  ·rw [upd1_ne _ _ e] at hm; exact h.so m hm
 ·by_cases e : m = n
  ·subst e; rw [upd1_same]
  ·rw [upd1_ne _ _ e]; exact h.ba m hm
def oneL : List Nat→(Nat→Nat)→Nat→Nat
 | [],f=>f
 | n :: l,f=>oneL l (upd1 f n 1)
theorem oneL_snoc (n : Nat) : ∀ (l : List Nat) (f : Nat→Nat),oneL (l ++ [n]) f = upd1 (oneL l f) n 1
 | [],_=>rfl
 | _ :: l,_=>oneL_snoc n l _
theorem oneL_at (k : Nat) : ∀ (l : List Nat) (f : Nat→Nat),oneL l f k = if k ∈ l then 1 else f k
 | [],f=>by simp [oneL]
 | n :: l,f=>by
  rw [show oneL (n :: l) f = oneL l (upd1 f n 1) from rfl,oneL_at k l]
  by_cases h : k ∈ l
  ·simp [h]
  ·by_cases e : k = n
   ·subst e; simp [h,upd1_same]
   ·simp [h,e,upd1_ne _ _ e]
theorem FoI.start (c : Ci) (fr : List Nat) : FoI c fr (oneL fr fun _=>0):=by
 refine ⟨fun n=>?_,fun n hn=>?_,fun n hn=>?_⟩
 ·rw [oneL_at]; split <;> omega
 ·rw [oneL_at] at hn
  split at hn
  ·rename_i h; exact .base h
  ·cases hn
 ·rw [oneL_at,if_pos hn]
def FoQ (c : Ci) (fr : List Nat) (o : Nat→Nat) (n : Nat) (y : Nd) (i : Nat) (q : Nat→Nat) (ag : Bool) : Prop:=
 i ≤ y.i.length∧FoI c fr q∧(ag = false→q = o∧o n ≠ 1∧(∀ m,m < n→FoC c o m)∧∀ j,j < i→o (y.i.getD j 0).toNat ≠ 1)∧(ag = true→zer c.n.length q < zer c.n.length o)
structure FoS where
 o : Nat→Nat
 ag : Bool
structure FoN where
 n : Nat
 o : Nat→Nat
 ag : Bool
set_option maxRecDepth 100000 in
theorem followsO_c (c : Ci) (hval : c.val) (hN : c.n.length < 1000000) (fr : List Nat) (cap : Option Nat) (hfr : ∀ n ∈ fr,n < c.n.length) (hfl : fr.length < 1000000) :
  OwnC Tryz.prog gl0 17 [c.v,.sl (natsV fr) cap] (OneB 1 (natsT c.n.length (rchN c fr)) (some c.n.length)):=by
 refine OwnC.of_W ok17 rfl ?_
 simp [i17,x17]
 intro ga gb
 refine ⟨by omega,?_⟩
 generalize ga 2 = g2
 generalize gb 13 = g13
 refine LoopP.of (X:=Nat) (fun i=>[(6,natV i),(5,.ref 13 g13 0 c.n.length (some c.n.length)),(2,.ptr 2 g2 0 0),(1,.sl (natsV fr) cap)])
  (fun i=>[(13,.row g13 1 (natsT c.n.length (oneL (fr.take i) fun _=>0))),(2,.row g2 4 [c.v])])
  (fun i=>i ≤ fr.length) (fun i=>fr.length - i) 0 (by omega) (by simp [natV]) (by simp [natsT_rep,oneL]) ?_
 intro i hi
 simp [natV]
 refine BrB.of (fun hb=>?_) (fun hb=>?_)
 ·have hi':=of_decide_eq_true hb
  have hw:=wrapN i (by omega)
  obtain ⟨q,hq⟩ : ∃ q,fr[i] = q:=⟨_,rfl⟩
  have hqN:=hfr q (hq ▸ List.getElem_mem hi')
  have hset:=natsT_set c.n.length (oneL (fr.take i) fun _=>0) q 1
  rw [← oneL_snoc,← hq,← take_snoc _ _ hi',hq] at hset
  have h4 : (natsV fr)[i]'(by simpa using hi') = .int .i64 (q : Int):=by rw [natsV_get]; rw [hq]
  simp only [Int.natCast_one] at hset
  simp [hi',natsT_len,natsT_at,hw,h4,hqN]
  exact ⟨i + 1,hi',by simp,hset,by omega⟩
 have hi' : i = fr.length:=by have:=of_decide_eq_false hb; omega
 subst hi'
 rw [List.take_length]
 simp
 refine LoopP.of (X:=FoS) (fun z=>[(7,.bool z.ag),(5,.ref 13 g13 0 c.n.length (some c.n.length)),(2,.ptr 2 g2 0 0)])
  (fun z=>[(13,.row g13 1 (natsT c.n.length z.o)),(2,.row g2 4 [c.v])])
  (fun z=>FoI c fr z.o∧(z.ag = false→∀ n,n < c.n.length→FoC c z.o n)) (fun z=>2 * zer c.n.length z.o + if z.ag = true then 1 else 0) ⟨oneL fr fun _=>0,true⟩ ⟨FoI.start c fr,fun h=>by cases h⟩ (by simp) (by simp) ?_
 rintro ⟨o,ag⟩ ⟨hI,hC⟩
 dsimp only at hI hC ⊢
 cases ag with
 | false=>
  simp
  have hall:=hI.all (hC rfl)
  have hres : natsT c.n.length o = natsT c.n.length (rchN c fr):=natsT_congr fun i _=>hall i
  have hp:=natsT_pure c.n.length (rchN c fr)
  have hl:=natsT_len c.n.length (rchN c fr)
  rw [hres]
  refine .move 13 0 _ (by simp) (by simp; rfl) fun g=>.done ?_
  have hmp : ∀ t : Nat→Nat→Nat × Nat,(natsT c.n.length (rchN c fr)).map (V.rn t) = natsT c.n.length (rchN c fr):=fun t=>map_rn_pure (natsT_pure c.n.length (rchN c fr))
  simp
  exact ⟨[(0,.row g 1 (natsT c.n.length (rchN c fr)))],by simp [Blk.rn,hmp],g,by simp [natsT_len],rfl⟩
 | true=>
  simp
  refine LoopP.of (X:=FoN) (fun z=>[(8,natV z.n),(7,.bool z.ag),(5,.ref 13 g13 0 c.n.length (some c.n.length)),(2,.ptr 2 g2 0 0)])
   (fun z=>[(13,.row g13 1 (natsT c.n.length z.o)),(2,.row g2 4 [c.v])])
   (fun z=>z.n ≤ c.n.length∧FoI c fr z.o∧(z.ag = false→z.o = o∧∀ m,m < z.n→FoC c o m)∧(z.ag = true→zer c.n.length z.o < zer c.n.length o)) (fun z=>c.n.length - z.n) ⟨0,o,false⟩ ⟨by simp,hI,fun _=>⟨rfl,fun m hm=>by simp at hm⟩,fun h=>by cases h⟩ (by simp [natV]) (by simp) ?_
  rintro ⟨n,p,ag⟩ ⟨hn,hI2,hA,hB⟩
  dsimp only at hn hI2 hA hB ⊢
  simp [natV]
  refine BrB.of (fun hb=>?_) (fun hb=>?_)
  ·have hn':=of_decide_eq_true hb
   have hw:=wrapN n (by omega)
   obtain ⟨y,hy⟩ : ∃ y,c.n[n] = y:=⟨_,rfl⟩
   have hyc : c.nd n = y:=by rw [c.nd_get hn',hy]
   have hym : y ∈ c.n:=hy ▸ List.getElem_mem hn'
   have hyv:=val_mem hval hym
   simp [hn',hy]
   refine BrB.of (fun hb14=>?_) (fun hb14=>?_)
   ·have h14:=of_decide_eq_true hb14
    simp [hb14,hw]
    refine ⟨⟨n + 1,p,ag⟩,⟨hn',hI2,fun h=>⟨(hA h).1,fun m hm=>?_⟩,hB⟩,by simp,rfl,by dsimp only; omega⟩
    dsimp only at hm
    by_cases e : m = n
    ·subst e; exact .inl (by rw [hyc]; exact h14)
    ·exact (hA h).2 m (by omega)
   have h14 : ¬ y.k = 14:=of_decide_eq_false hb14
   simp [hb14,hn',natsT_len,natsT_at]
   refine BrB.of (fun hb1=>?_) (fun hb1=>?_)
   ·have h1 : p n = 1:=by have:=of_decide_eq_true hb1; omega
    simp [hw]
    refine ⟨⟨n + 1,p,ag⟩,⟨hn',hI2,fun h=>⟨(hA h).1,fun m hm=>?_⟩,hB⟩,by simp,rfl,by dsimp only; omega⟩
    dsimp only at hm
    by_cases e : m = n
    ·subst e; exact .inr (.inl (by rw [← (hA h).1]; exact h1))
    ·exact (hA h).2 m (by omega)
   have h1 : ¬ p n = 1:=by have:=of_decide_eq_false hb1; omega
   simp
   refine LoopP.of (X:=FoN) (fun z=>[(9,natV z.n),(8,natV n),(7,.bool z.ag),(5,.ref 13 g13 0 c.n.length (some c.n.length)),(2,.ptr 2 g2 0 0)])
    (fun z=>[(13,.row g13 1 (natsT c.n.length z.o)),(2,.row g2 4 [c.v])])
    (fun z=>FoQ c fr o n y z.n z.o z.ag) (fun z=>y.i.length - z.n)
    ⟨0,p,ag⟩ ⟨by simp,hI2,fun h=>⟨(hA h).1,by rw [← (hA h).1]; exact h1,(hA h).2,fun i hi=>by simp at hi⟩,hB⟩ (by simp [natV]) (by simp) ?_
   rintro ⟨i,q,ag2⟩ ⟨hi,hI3,hA3,hB3⟩
   dsimp only at hi hI3 hA3 hB3 ⊢
   simp [natV,hn',hy]
   refine BrB.of (fun hb2=>?_) (fun hb2=>?_)
   ·have hi':=of_decide_eq_true hb2
    have hw2:=wrapN i (by omega)
    obtain ⟨r,hr⟩ : ∃ r : Nat,y.i[i] = r:=⟨y.i[i].toNat,by have:=(hyv.2 _ (List.getElem_mem hi')).1; omega⟩
    have hrN : r < c.n.length:=by have:=(hyv.2 _ (List.getElem_mem hi')).2; omega
    have h5 : (ints y.i)[i]'(by simpa using hi') = .int .i64 (r : Int):=by simp [ints,hr]
    have hrd : (y.i.getD i 0).toNat = r:=by rw [List.getD_eq_getElem?_getD,List.getElem?_eq_getElem hi']; simp [hr]
    simp [hn',hy,hi',h5,hrN,natsT_len,natsT_at]
    refine BrB.of (fun hb3=>?_) (fun hb3=>?_)
    ·have h3 : q r = 1:=by have:=of_decide_eq_true hb3; omega
     have hrch : Rch c fr n:=.step hn' (by rw [hyc]; exact h14) (i:=i) (by rw [hyc]; exact hi') (by rw [hyc,hrd]; exact hI3.so r h3)
     have hset:=natsT_set c.n.length q n 1
     simp only [Int.natCast_one] at hset
     simp [hn',natsT_len,natsT_at,hset,hw2]
     refine ⟨⟨i + 1,upd1 q n 1,true⟩,⟨hi',hI3.upd hrch,(fun h=>nomatch h),fun _=>?_⟩,⟨by simp,rfl⟩,rfl,by dsimp only; omega⟩
     dsimp only
     cases ag2 with
     | true=>exact Nat.lt_of_le_of_lt (zer_le _ _ _) (hB3 rfl)
     | false=>
      obtain ⟨e,e2,-⟩:=hA3 rfl
      rw [e]
      exact zer_lt hn' e2
    ·have h3 : ¬ q r = 1:=by have:=of_decide_eq_false hb3; omega
     simp [hw2]
     refine ⟨⟨i + 1,q,ag2⟩,⟨hi',hI3,fun h=>?_,hB3⟩,by simp,rfl,by dsimp only; omega⟩
     obtain ⟨e,e2,e3,e4⟩:=hA3 h
     refine ⟨e,e2,e3,fun j hj=>?_⟩
     dsimp only at hj
     by_cases ej : j = i
     ·subst ej; rw [hrd,← e]; exact h3
     ·exact e4 j (by omega)
   ·have hi' : i = y.i.length:=by have:=of_decide_eq_false hb2; omega
    simp [hw]
    refine ⟨⟨n + 1,q,ag2⟩,⟨hn',hI3,fun h=>?_,hB3⟩,by simp,rfl,by dsimp only; omega⟩
    obtain ⟨e,e2,e3,e4⟩:=hA3 h
    refine ⟨e,fun m hm=>?_⟩
    dsimp only at hm
    by_cases em : m = n
    ·subst em
     refine .inr (.inr fun j hj=>?_)
     rw [hyc] at hj ⊢
     exact e4 j (by rw [hi']; exact hj)
    ·exact e3 m (by omega)
  ·have hn' : n = c.n.length:=by have:=of_decide_eq_false hb; omega
   simp
   refine ⟨⟨p,ag⟩,⟨hI2,fun h=>?_⟩,rfl,rfl,?_⟩
   ·obtain ⟨e,hm⟩:=hA h
    dsimp only at e ⊢
    rw [e]
    intro m hmN
    exact hm m (by omega)
   ·dsimp only
    cases ag with
    | true=>have:=hB rfl; simp; omega
    | false=>have:=(hA rfl).1; simp [this]
end Go.Proofs.YtcmblmkbdenakaaGreatDoor
namespace Go.Proofs.YtcmblmkbdenakaaGreatDoor
open Go
theorem gateP_src {k : Nat} (hk : k = 0∨15 ≤ k) {ts us : List (Nat × Nat)} (h : ts.length = us.length) : gateP k ts = gateP k us:=by
 unfold gateP
 rw [h]
 rcases hk with rfl | hk
 ·simp
 ·by_cases e : k = 15
  ·subst e; simp
  ·rw [if_pos (by simp; omega),if_pos (by simp; omega)]
theorem ctE_congr {c : Ci} (hwf : c.wf) (st : Nat→Option (Nat × Nat)) {n : Nat} (hn : n < c.n.length) {f f' : Nat→Nat × Nat} (h : ∀ x ∈ c.g n,f x = f' x) : ctE c st n f = ctE c st n f':=by
 have hk:=hwf.k (c.nd n) (by rw [c.nd_get hn]; exact List.getElem_mem hn)
 unfold ctE
 congr 1
 unfold ctV
 by_cases h14 : (c.nd n).k = 14
 ·rw [if_pos h14,if_pos h14]
 rw [if_neg h14,if_neg h14]
 by_cases hc : combB (c.nd n).k = true
 ·have : insC f (c.nd n) = insC f' (c.nd n):=List.map_congr_left fun j hj=>h _ (by
   unfold Ci.g; rw [if_pos hc]; exact List.mem_map.2 ⟨j,hj,rfl⟩)
  rw [this]
 ·refine gateP_src ?_ (by simp [insC])
  simp [combB] at hc
  omega
theorem ctL_eq {c : Ci} (hwf : c.wf) (hv : c.val) (hac : acyc c) (st : Nat→Option (Nat × Nat)) {n : Nat} (hn : n < c.n.length) : ctL c st (ordL c) n = ctE c st n (ctL c st (ordL c)):=by
 have ho:=ord_ex hv hac
 have hT : Topo c.g [] (ordL c):=topo_of hv.g hac.lv (ordL c) [] ho.r.lt (fun x hx=>.inr (ho.mem.2 hx)) ho.p
 have hself : ∀ m,m < c.n.length→m ∉ c.g m:=fun m hm h=>by have:=lv_read hac hm h; omega
 let ev : Nat→(Nat→Nat × Nat)→Nat × Nat:=fun n f=>if n < c.n.length then ctE c st n f else (0,0)
 have hE : ∀ (L : List Nat) f,(∀ m ∈ L,m < c.n.length)→evl (ctE c st) (fun _=>true) L f = evl ev (fun _=>true) L f:=by
  intro L
  induction L with
  | nil=>intro f _; rfl
  | cons m L ih=>
   intro f h
   simp only [evl,if_true]
   rw [ih _ fun x hx=>h x (List.mem_cons_of_mem _ hx)]
   have : ev m f = ctE c st m f:=if_pos (h m List.mem_cons_self)
   rw [this]
 have hc : EvC c.g ev:=fun m f f' h _=>by
  show (if m < c.n.length then _ else _) = (if m < c.n.length then _ else _)
  by_cases hm : m < c.n.length
  ·rw [if_pos hm,if_pos hm]; exact ctE_congr hwf st hm h
  ·rw [if_neg hm,if_neg hm]
 have h1:=evl_eq hc (ordL c) [] (fun _=>(0,0)) hT (lex_nodup ho.p) (by simp) n (ho.mem.2 hn)
 rw [← hE _ _ ho.r.lt] at h1
 have h2 : ev n (upd1 (evl (ctE c st) (fun _=>true) (ordL c) fun _=>(0,0)) n (0,0)) = ctE c st n (upd1 (evl (ctE c st) (fun _=>true) (ordL c) fun _=>(0,0)) n (0,0)):=if_pos hn
 rw [h2] at h1
 show evl (ctE c st) (fun _=>true) (ordL c) (fun _=>(0,0)) n = _
 rw [h1]
 refine ctE_congr hwf st hn fun x hx=>?_
 have : x ≠ n:=fun e=>hself n hn (e ▸ hx)
 rw [upd1_ne _ _ this]; rfl
theorem mem_dff {c : Ci} {n : Nat} (hn : n < c.n.length) : n ∈ ids 14 c.n 0↔(c.nd n).k = 14:=by
 rw [ids_mem,c.nd_get hn]
 constructor
 ·rintro ⟨j,hj,e,h⟩
  have : n = j:=by omega
  subst this; exact h
 ·exact fun h=>⟨n,hn,by omega,h⟩
theorem ctl_dff {c : Ci} (hwf : c.wf) (hv : c.val) (hac : acyc c) {n : Nat} (hn : n < c.n.length) (h14 : (c.nd n).k = 14) : ctl c n = (1,1):=by
 have h1:=ctL_eq hwf hv hac (fun _=>none) hn
 rw [show ctl c n = ctL c (fun _=>none) (ordL c) n from rfl,h1]
 unfold ctE ctV
 rw [if_pos h14]; rfl
theorem ctl_gate {c : Ci} (hwf : c.wf) (hv : c.val) (hac : acyc c) {n : Nat} (hn : n < c.n.length) (h14 : (c.nd n).k ≠ 14) : ctl c n = gateP (c.nd n).k.toNat (insC (ctl c) (c.nd n)):=by
 have h1:=ctL_eq hwf hv hac (fun _=>none) hn
 rw [show ctl c n = ctL c (fun _=>none) (ordL c) n from rfl,h1]
 unfold ctE ctV
 rw [if_neg h14]; rfl
end Go.Proofs.YtcmblmkbdenakaaGreatDoor
