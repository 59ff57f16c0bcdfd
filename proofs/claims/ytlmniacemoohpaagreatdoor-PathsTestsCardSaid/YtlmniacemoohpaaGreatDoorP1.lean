/- Paths: steady nets, and what they hold. No program stands in it. Conditions: none. -/
import Derived.Test.YtlmniacemoohpaaGreatDoorU3
import Derived.Test.YtlmniacemoohpaaGreatDoorBase20
import Derived.Test.YtlmniacemoohpaaGreatDoorXP
import Derived.Test.YtlmniacemoohpaaGreatDoorT10
set_option linter.unusedSimpArgs false
set_option linter.unusedVariables false
namespace Go.Proofs.YtlmniacemoohpaaGreatDoor
open Go
theorem put_get {n v : Nat} : ∀ (ns vs : List Nat) (f : Nat→Nat) (j : Nat) (h : j < ns.length) (h' : j < vs.length),ns.Nodup→ns[j] = n→vs[j] = v→put ns vs f n = v
 | [],_,_,j,h,_,_,_,_=>by simp at h
 | _ :: _,[],_,j,_,h',_,_,_=>by simp at h'
 | m :: ns,w :: vs,f,0,_,_,hd,e1,e2=>by
  simp only [List.getElem_cons_zero] at e1 e2
  subst e1 e2
  rw [put,put_ne _ _ _ (List.nodup_cons.1 hd).1,upd1_same]
 | m :: ns,w :: vs,f,j + 1,h,h',hd,e1,e2=>by
  rw [put]
  exact put_get ns vs _ j (by simpa using h) (by simpa using h') (List.nodup_cons.1 hd).2 (by simpa using e1) (by simpa using e2)
def ctlB (k v : Nat) : Bool:=(decide (k = 5) || decide (k = 6)) && decide (v = 0) || (decide (k = 7) || decide (k = 8)) && decide (v = 1)
def stE (c : Ci) (A B : Nat→Nat) (n : Nat) (f : Nat→Bool) : Bool:=
 bif combC c n then ((c.g n).all f || (c.g n).any fun m=>f m && ctlB (c.nd n).k.toNat (B m)) && decide (B n ≤ 1) else decide (A n ≤ 1) && decide (A n = B n)
noncomputable def firmN (c : Ci) (A B : Nat→Nat) : Nat→Bool:=evl (stE c A B) (fun _=>true) (ordL c) (fun _=>false)
theorem all_congr' {α : Type} {p q : α→Bool} : ∀ {l : List α},(∀ x ∈ l,p x = q x)→l.all p = l.all q
 | [],_=>rfl
 | a :: l,h=>by rw [List.all_cons,List.all_cons,h a List.mem_cons_self,all_congr' fun x hx=>h x (List.mem_cons_of_mem _ hx)]
theorem any_congr' {α : Type} {p q : α→Bool} : ∀ {l : List α},(∀ x ∈ l,p x = q x)→l.any p = l.any q
 | [],_=>rfl
 | a :: l,h=>by rw [List.any_cons,List.any_cons,h a List.mem_cons_self,any_congr' fun x hx=>h x (List.mem_cons_of_mem _ hx)]
theorem stE_congr {c : Ci} {A B : Nat→Nat} {n : Nat} {f f' : Nat→Bool} (h : ∀ x ∈ c.g n,f x = f' x) : stE c A B n f = stE c A B n f':=by
 unfold stE
 rw [all_congr' h,any_congr' (q:=fun m=>f' m && ctlB (c.nd n).k.toNat (B m)) fun x hx=>by rw [h x hx]]
theorem firm_eq {c : Ci} (hg : c.good) (ho : Ord c (ordL c)) (A B : Nat→Nat) {n : Nat} (hn : n < c.n.length) : firmN c A B n = stE c A B n (firmN c A B):=by
 have h:=evl_eq (g:=c.g) (ev:=stE c A B) (fun n f f' h _=>stE_congr h) (ordL c) [] (fun _=>false) (ho.topo hg) (lex_nodup ho.p) (by simp) n (ho.all hn)
 unfold firmN
 rw [h]
 refine stE_congr fun x hx=>upd1_ne _ _ fun e=>?_
 subst e
 have hlv : IsLv c.n.length c.g (lvOf c):=hg.ac.lv
 have:=hlv x hn
 have:=le_mx (f:=lvOf c) hx
 omega
theorem netN_comb {c : Ci} (hg : c.good) (ho : Ord c (ordL c)) {p : Pt} {n : Nat} (hn : n < c.n.length) (hc : combC c n = true) : netN c p n = logE (c.nd n).k.toNat ((c.g n).map (netN c p)):=by
 have h:=netN_sol (p:=p) hg ho n hn
 unfold idW at h
 rw [if_pos hc,rdsM_id hc] at h
 exact h
theorem netN_ini {c : Ci} (hg : c.good) (ho : Ord c (ordL c)) {p : Pt} {n : Nat} (hn : n < c.n.length) (hc : combC c n = false) : netN c p n = ini c p n:=by
 have h:=netN_sol (p:=p) hg ho n hn
 unfold idW at h
 rw [if_neg (by rw [hc]; exact Bool.false_ne_true)] at h
 exact h
def Pt.mid (p q r : Pt) : Prop:=(∀ (i v : Nat),p.i[i]? = some v→q.i[i]? = some v→v ≤ 1→r.i[i]? = some v)∧(∀ (i v : Nat),p.s[i]? = some v→q.s[i]? = some v→v ≤ 1→r.s[i]? = some v)
end Go.Proofs.YtlmniacemoohpaaGreatDoor
namespace Go.Proofs.YtlmniacemoohpaaGreatDoor
open Go Go.Shelf
def renD : Ren:=⟨fun n=>if n = 23 then 146 else n,fun n=>if n = 22 then 37 else n,fun n=>n⟩
theorem lays23 : Lays2.n23 Tryz.prog renD where
 mixed:=by kernel_rfl
 f23:=by kernel_rfl
 t0:=by kernel_rfl
 a0:=fun w=>by kernel_rfl
 z0:=fun w=>by kernel_rfl
 v0:=fun w=>by kernel_rfl
 t3:=by kernel_rfl
 a3:=fun w=>by kernel_rfl
 z3:=fun w=>by kernel_rfl
 v3:=fun w=>by kernel_rfl
 t4:=by kernel_rfl
 a4:=fun w=>by kernel_rfl
 z4:=fun w=>by kernel_rfl
 v4:=fun w=>by kernel_rfl
 t22:=by kernel_rfl
 a22:=fun w=>by kernel_rfl
 z22:=fun w=>by kernel_rfl
 v22:=fun w=>by kernel_rfl
 i3:=by kernel_rfl
end Go.Proofs.YtlmniacemoohpaaGreatDoor
namespace Go.Proofs.YtlmniacemoohpaaGreatDoor
open Go
theorem source_c (y : Nd) : PureC Tryz.prog gl0 69 [y.v] (.bool (decide (y.k = 0) || decide (y.k = 14))):=by
 refine PureC.of_W 2 ok69 rfl ?_
 simp [i69,x69,Nd.v]
 intro gf1
 by_cases h : y.k = 0
 ·simp [h]
 ·simp [h]
def ctlV (k : Nat) : Nat:=if k = 5∨k = 6 then 0 else if k = 7∨k = 8 then 1 else 2
def ctlH (k : Nat) : Bool:=decide (k = 5∨k = 6∨k = 7∨k = 8)
theorem ctlB_eq (k v : Nat) : ctlB k v = (ctlH k && decide (v = ctlV k)):=by
 unfold ctlB ctlH ctlV
 by_cases h1 : k = 5∨k = 6
 ·rcases h1 with rfl | rfl <;> simp
 ·by_cases h2 : k = 7∨k = 8
  ·rcases h2 with rfl | rfl <;> simp
  ·have e1 : ¬ k = 5:=fun h=>h1 (.inl h)
   have e2 : ¬ k = 6:=fun h=>h1 (.inr h)
   have e3 : ¬ k = 7:=fun h=>h2 (.inl h)
   have e4 : ¬ k = 8:=fun h=>h2 (.inr h)
   simp [e1,e2,e3,e4]
theorem control_c (k : Nat) (hk : k < 256) : PureC Tryz.prog gl0 114 [u8V k] (.tup [u8V (ctlV k),.bool (ctlH k)]):=by
 refine PureC.of_W 2 ok114 rfl ?_
 simp only [u8V]
 by_cases h1 : k = 5
 ·subst h1; simp [i114,x114,ctlV,ctlH]
 ·by_cases h2 : k = 6
  ·subst h2; simp [i114,x114,ctlV,ctlH]
  ·by_cases h3 : k = 7
   ·subst h3; simp [i114,x114,ctlV,ctlH]
   ·by_cases h4 : k = 8
    ·subst h4; simp [i114,x114,ctlV,ctlH]
    ·have e1 : ¬ (k : Int) = 5:=by omega
     have e2 : ¬ (k : Int) = 6:=by omega
     have e3 : ¬ (k : Int) = 7:=by omega
     have e4 : ¬ (k : Int) = 8:=by omega
     simp [i114,x114,ctlV,ctlH,e1,e2,e3,e4,h1,h2,h3,h4]
set_option maxRecDepth 100000 in
set_option maxHeartbeats 4000000 in
theorem steady_c (c : Ci) (hg : c.good) (A B : Nat→Nat) (ca cb : Option Nat) : PureC Tryz.prog gl0 79 [c.v,.sl (tab c.n.length fun j=>u8V (A j)) ca,.sl (tab c.n.length fun j=>u8V (B j)) cb] (.sl (boolsV c.n.length (firmN c A B)) (some c.n.length)):=by
 have hn1:=hg.n1
 have hval:=hg.val
 refine PureC.of_W 2 ok79 rfl ?_
 simp [i79,x79]
 intro gf1 gf2
 generalize gf1 3 = g3
 generalize gf2 22 = g22
 refine ⟨by omega,CallO.own 1000 (order_c c hg.wf) (by simp) (by simp) ?_⟩
 rintro v h (⟨h1,-⟩ | ⟨-,g,L,rfl,rfl,hR,hpw⟩) gf4
 ·exact absurd hg.chk h1
 have hord : Ord c L:=⟨hR,hpw (by omega)⟩
 have hLl : L.length = c.n.length:=hR.len
 simp [upH,upS,Blk.rn,map_rn_pure (natsV_pure L)]
 generalize gf4 1000 + g = g9
 obtain ⟨N,hN⟩ : ∃ N,c.n.length = N:=⟨_,rfl⟩
 rw [hN] at hLl hn1 ⊢
 have hLN : ∀ x ∈ L,x < N:=fun x hx=>by rw [← hN]; exact hR.lt x hx
 refine LoopP.of (X:=Nat) (fun i=>[(30,natV i),(29,natV N),(28,.ref 1000 g9 0 N (some N)),(7,.ref 22 g22 0 N (some N)),(3,.ptr 3 g3 0 0),(1,.sl (tab N fun j=>u8V (A j)) ca),(2,.sl (tab N fun j=>u8V (B j)) cb)])
  (fun i=>[(3,.row g3 4 [c.v]),(1000,.row g9 1 (natsV L)),(22,.row g22 1 (boolsV N (evl (stE c A B) (fun _=>true) (L.take i) (fun _=>false))))])
  (fun i=>i ≤ N) (fun i=>N - i) 0 (by simp) (by simp [natV]) (by simp [boolsV,evl,tab_const]) ?_
 rintro i q1
 obtain ⟨F,hF⟩ : ∃ F,evl (stE c A B) (fun _=>true) (L.take i) (fun _=>false) = F:=⟨_,rfl⟩
 rw [hF]
 simp [natV]
 refine BrB.of (fun hb=>?_) (fun hb=>?_)
 ·have hi : i < N:=of_decide_eq_true hb
  have hw:=wrapN i (by omega)
  have hiL : i < L.length:=by omega
  obtain ⟨n,hn⟩ : ∃ n,L[i] = n:=⟨_,rfl⟩
  have hnN : n < N:=hLN n (by rw [← hn]; exact List.getElem_mem hiL)
  have hnc : n < c.n.length:=by omega
  obtain ⟨y,hy⟩ : ∃ y,c.n[n] = y:=⟨_,rfl⟩
  have hst : evl (stE c A B) (fun _=>true) (L.take (i + 1)) (fun _=>false) = upd1 F n (stE c A B n F):=by
   rw [List.take_succ_eq_append_getElem hiL,hn,evl_snoc,hF]; rfl
  have hcb : combC c n = decide (1 ≤ y.k∧y.k ≤ 13):=by unfold combC combB; rw [c.nd_get hnc,hy]
  obtain ⟨k0,k14,-⟩:=nd_kw hg hnc
  rw [c.nd_get hnc,hy] at k0 k14
  have hsc:=source_c y
  simp [hi,hLl,natsV_get,hn,hnc,hy]
  intro gf6
  refine CallO.pure hsc (by simp) ?_
  obtain ⟨b1,hb1⟩ : ∃ b,F n = b:=⟨_,rfl⟩
  by_cases hs : y.k = 0∨y.k = 14
  ·have hq : combC c n = false:=by rw [hcb]; simp; omega
   have hsE : stE c A B n F = (decide (A n ≤ 1) && decide (A n = B n)):=by unfold stE; rw [hq]; rfl
   have hkn:=known_c (A n)
   rw [hsE] at hst
   have hst2 : (decide (y.k = 0) || decide (y.k = 14)) = true:=by simpa using hs
   obtain ⟨xa,hxa⟩ : ∃ v,A n = v:=⟨_,rfl⟩
   obtain ⟨xb,hxb⟩ : ∃ v,B n = v:=⟨_,rfl⟩
   rw [hxa,hxb] at hst
   rw [hxa] at hkn
   simp only [u8V] at hkn
   simp [hst2,hnN,tab_get,hxa,hxb,u8V]
   intro gm
   first | refine ⟨_,_,_,.pure hkn (by simp),?_⟩ | refine ⟨_,⟨_,_,.pure hkn (by simp)⟩,?_⟩ | refine ⟨_,_,⟨_,.pure hkn (by simp)⟩,?_⟩
   simp
   by_cases h1 : xa ≤ 1
   ·rw [show (decide (xa ≤ 1) && decide (xa = xb)) = decide (xa = xb) by simp [h1]] at hst
    simp [h1,hnN,tab_get,hxa,hxb,u8V,boolsV_get,boolsV_set]
    exact ⟨i + 1,hi,by simp [hw],by rw [hst],by omega⟩
   ·rw [show (decide (xa ≤ 1) && decide (xa = xb)) = false by simp [h1]] at hst
    simp [h1,hnN,boolsV_get,boolsV_set]
    exact ⟨i + 1,hi,by simp [hw],by rw [hst],by omega⟩
  ·have hq : combC c n = true:=by rw [hcb]; simp; omega
   obtain ⟨l,hl⟩ : ∃ l,c.g n = l:=⟨_,rfl⟩
   have hyi:=hval.i n hnc
   have hyl:=hval.l n hnc
   rw [c.nd_get hnc,hy] at hyi hyl
   have hyl2 : y.i = l.map fun (x : Nat)=>(x : Int):=by
    rw [← hl,g_comb hq,c.nd_get hnc,hy,List.map_map]
    have hid : ∀ x ∈ y.i,((fun (x : Nat)=>(x : Int)) ∘ Int.toNat) x = id x:=fun x hx=>Int.toNat_of_nonneg (hyi x hx).1
    rw [List.map_congr_left hid,List.map_id]
   have hlN : ∀ x ∈ l,x < N:=fun x hx=>by
    have:=(hyi (x : Int) (by rw [hyl2]; exact List.mem_map_of_mem hx)).2
    omega
   have hll : l.length ≤ 16:=by rw [hyl2] at hyl; simpa using hyl
   have hin : ints y.i = natsV l:=by rw [hyl2,← natsV_ints]
   obtain ⟨kk,hkk⟩ : ∃ k : Nat,y.k = (k : Int):=⟨y.k.toNat,(Int.toNat_of_nonneg k0).symm⟩
   have hcc:=control_c kk (by omega)
   have hsE : stE c A B n F = ((l.all F || l.any fun m=>F m && (ctlH kk && decide (B m = ctlV kk))) && decide (B n ≤ 1)):=by
    unfold stE; rw [hq,hl,c.nd_get hnc,hy,hkk]; simp only [ctlB_eq,Int.toNat_natCast,cond_true]
   have hkn:=known_c (B n)
   rw [hsE] at hst
   have hst2 : (decide (y.k = 0) || decide (y.k = 14)) = false:=by simpa using hs
   obtain ⟨xb,hxb⟩ : ∃ v,B n = v:=⟨_,rfl⟩
   rw [hxb] at hst hkn
   generalize ctlV kk = cv at hcc hst
   generalize ctlH kk = ch at hcc hst
   simp only [u8V] at hkn hcc
   have hyv : y.v = .agg [.int .u8 (kk : Int),.sl (natsV l) none,.int .i64 y.a,.int .i64 y.b]:=by unfold Nd.v; rw [hin,hkk]
   simp [hst2,hyv]
   refine CallO.pure hcc (by simp) ?_
   simp
   obtain ⟨VA,hVA⟩ : ∃ f : Nat→Bool,∀ j,f j = (l.take j).all F:=⟨_,fun _=>rfl⟩
   obtain ⟨VO,hVO⟩ : ∃ f : Nat→Bool,∀ j,f j = (l.take j).any fun m=>F m && (ch && decide (B m = cv)):=⟨_,fun _=>rfl⟩
   have hA0 : VA 0 = true:=by rw [hVA]; simp
   have hO0 : VO 0 = false:=by rw [hVO]; simp
   refine LoopP.of (X:=Nat) (fun j=>[(69,natV j),(68,natV l.length),(67,.sl (natsV l) none),(13,.bool (VA j)),(14,.bool (VO j)),(15,u8V cv),(16,.bool ch),(12,.ptr 12 (gf6 12) 0 0),(11,natV n),(30,natV i),(29,natV N),(28,.ref 1000 g9 0 N (some N)),(7,.ref 22 g22 0 N (some N)),(3,.ptr 3 g3 0 0),(1,.sl (tab N fun j=>u8V (A j)) ca),(2,.sl (tab N fun j=>u8V (B j)) cb)])
    (fun _=>[(3,.row g3 4 [c.v]),(1000,.row g9 1 (natsV L)),(22,.row g22 1 (boolsV N F)),(12,.row (gf6 12) 4 [y.v])])
    (fun j=>j ≤ l.length) (fun j=>l.length - j) 0 (by simp) (by simp [natV,u8V,hA0,hO0]) (by simp [hyv]) ?_
   rintro j q2
   simp [natV]
   refine BrB.of (fun hb2=>?_) (fun hb2=>?_)
   ·have hj : j < l.length:=of_decide_eq_true hb2
    have hw2:=wrapN j (by omega)
    obtain ⟨m,hm⟩ : ∃ m,l[j] = m:=⟨_,rfl⟩
    have hmN:=hlN m (by rw [← hm]; exact List.getElem_mem hj)
    have hall : VA (j + 1) = (VA j && F m):=by rw [hVA,hVA,List.take_succ_eq_append_getElem hj,hm]; simp
    have hany : VO (j + 1) = (VO j || (F m && (ch && decide (B m = cv)))):=by rw [hVO,hVO,List.take_succ_eq_append_getElem hj,hm]; simp
    generalize VA j = va at hall ⊢
    generalize VO j = vo at hany ⊢
    obtain ⟨fm,hfm⟩ : ∃ b,F m = b:=⟨_,rfl⟩
    obtain ⟨bm,hbm⟩ : ∃ b,B m = b:=⟨_,rfl⟩
    rw [hfm] at hall hany
    rw [hbm] at hany
    simp [hj,natsV_get,hm]
    cases va <;> cases vo <;> cases ch <;> cases fm <;> simp [boolsV_get,hmN,hfm,tab_get,hbm,u8V] <;> (refine ⟨j + 1,hj,?_⟩; simp [hw2,hall,hany]; try omega)
   ·have hj : j = l.length:=by have:=of_decide_eq_false hb2; omega
    subst hj
    have hall:=hVA l.length
    have hany:=hVO l.length
    rw [List.take_length] at hall hany
    rw [← hall,← hany] at hst
    generalize VA l.length = va at hst ⊢
    generalize VO l.length = vo at hst ⊢
    simp
    cases va <;> cases vo
    case' false.false=>
     simp [hnN,boolsV_get,boolsV_set]
     exact ⟨i + 1,hi,by simp [hw],by rw [hst]; rfl,by omega⟩
    all_goals
     simp [hnN,tab_get,hxb,u8V]
     refine CallO.pure hkn (by simp) ?_
     simp [hnN,boolsV_get,boolsV_set]
     exact ⟨i + 1,hi,by simp [hw],by rw [hst]; rfl,by omega⟩
 ·have hi : i = N:=by have:=of_decide_eq_false hb; omega
  subst hi
  rw [List.take_of_length_le (by omega),← hord.eq] at hF
  have hF2 : firmN c A B = F:=hF
  rw [hF2]
  simp
  simp [map_frz_pure (boolsV_pure _ _)]
  exact List.take_of_length_le (by simp)
theorem nets_c (c : Ci) (hg : c.good) (p q : Pt) (hp : p.fit c) (hq : q.fit c) : PureC Tryz.prog gl0 78 [c.v,prV p q] (.tup [.sl (tab c.n.length fun i=>u8V (netN c p i)) (some c.n.length),.sl (tab c.n.length fun i=>u8V (netN c q i)) (some c.n.length),.int .i64 0]):=by
 have r1:=run_c c hg p hp
 have r2:=run_c c hg q hq
 generalize obsO c (netN c p) = O1 at r1
 generalize obsS c (netN c p) = S1 at r1
 generalize obsO c (netN c q) = O2 at r2
 generalize obsS c (netN c q) = S2 at r2
 generalize netN c p = A at r1 ⊢
 generalize netN c q = B at r2 ⊢
 have pA:=tabU_pure c.n.length A
 have pB:=tabU_pure c.n.length B
 simp only [rspV,Pt.v,prV,u8V] at r1 r2 pA pB ⊢
 refine PureC.of_W 2 ok78 rfl ?_
 simp [i78,x78]
 intro gf1 gf2
 refine CallO.pure r1 (by simp) ?_
 simp
 refine CallO.pure r2 (by simp) ?_
 simp [mapRL_pure,pA,pB]
theorem steadyS_c (c : Ci) (hg : c.good) (p q : Pt) (hp : p.fit c) (hq : q.fit c) : PureC Tryz.prog gl0 37 [c.v,prV p q] (.tup [.sl (boolsV c.n.length (firmN c (netN c p) (netN c q))) (some c.n.length),.int .i64 0]):=by
 have r1:=nets_c c hg p q hp hq
 have r2:=steady_c c hg (netN c p) (netN c q) (some c.n.length) (some c.n.length)
 have hl:=lines_c c hg
 generalize firmN c (netN c p) (netN c q) = F at r2 ⊢
 generalize netN c p = A at r1 r2 ⊢
 generalize netN c q = B at r1 r2 ⊢
 have pA:=tabU_pure c.n.length A
 have pB:=tabU_pure c.n.length B
 simp only [rspV,Pt.v,prV,u8V] at r1 r2 pA pB ⊢
 refine PureC.of_W 2 ok37 rfl ?_
 simp [i37,x37]
 intro gf1 gf2
 refine CallO.pure hl (by simp) ?_
 simp
 refine CallO.pure r1 (by simp) ?_
 simp
 refine CallO.pure r2 (by simp [pA,pB]) ?_
 simp [mapRL_pure,boolsV_pure]
end Go.Proofs.YtlmniacemoohpaaGreatDoor
