/- Paths: Count, and the law Count of layer 20. Conditions: none. -/
import Derived.Test.YtlmniacemoohpaaGreatDoorP25
import Derived.Test.YtlmniacemoohpaaGreatDoorPC
import Derived.Test.YtlmniacemoohpaaGreatDoorXL8
set_option linter.unusedSimpArgs false
set_option linter.unusedVariables false
namespace Go.Proofs.YtlmniacemoohpaaGreatDoor
open Go
theorem pw416 {n : Nat} (h : n ≤ 16) : 4 ^ n ≤ 4294967296:=by
 have : 4 ^ 16 = 4294967296:=by decide
 rw [← this]
 exact Nat.pow_le_pow_right (by omega) h
set_option maxRecDepth 100000 in
set_option maxHeartbeats 8000000 in
theorem countP_c (c : Ci) (hg : c.good) (hr : c.nar) : PureC Tryz.prog gl0 32 [c.v] (.tup [.int .u64 ((sm c.n.length fun n=>ob c n * mn c n : Nat) : Int),.int .i64 0]):=by
 have hnr:=hr.n
 have hval:=hg.val
 have hln:=lines_c c hg
 have hob:=observed_c c hg
 have hmn16 : ∀ n,n < c.n.length→mn c n ≤ 4294967296:=fun n hn=>Nat.le_trans (mn_le hr n hn) (pw416 (by omega))
 have hlp : V.pureL (lnsN c c.n.length) = true:=lnsN_pure _ _
 refine PureC.of_W 2 ok32 rfl ?_
 simp [i32,x32]
 intro gf1
 generalize gf1 1 = g1
 refine CallO.pure hln (by simp) ?_
 simp
 refine CallO.own 1000 (order_c c hg.wf) (by simp) (by simp) ?_
 rintro v h (⟨h1,-⟩ | ⟨-,g,L,rfl,rfl,hR,hpw⟩) gf4
 ·exact absurd hg.chk h1
 have hord : Ord c L:=⟨hR,hpw (by omega)⟩
 have hLl : L.length = c.n.length:=hR.len
 simp [upH,upS,Blk.rn,map_rn_pure (natsV_pure L)]
 generalize gf4 1000 + g = g9
 refine CallO.pure hob (by simp) ?_
 simp
 have htopo:=hord.topo hg
 have hnd:=lex_nodup hord.p
 have hfin:=ord_sum hord fun n=>ob c n * mn c n
 rw [← hfin]
 obtain ⟨N,hN⟩ : ∃ N,c.n.length = N:=⟨_,rfl⟩
 rw [hN] at hLl hnr hmn16 ⊢
 have hLN : ∀ x ∈ L,x < N:=fun x hx=>by rw [← hN]; exact hR.lt x hx
 obtain ⟨PS,hPS⟩ : ∃ f : Nat→Nat,∀ i,f i = ((L.take i).map fun n=>ob c n * mn c n).sum:=⟨_,fun _=>rfl⟩
 have hPSe : PS N = (L.map fun n=>ob c n * mn c n).sum:=by rw [hPS,List.take_of_length_le (by omega)]
 rw [← hPSe]
 have hPSb : ∀ i,PS i ≤ 68719476736:=by
  intro i
  rw [hPS]
  refine Nat.le_trans (sum_le (B:=4294967296) fun x hx=>?_) ?_
  ·have h1:=hmn16 x (hLN x (List.mem_of_mem_take hx))
   unfold ob
   split <;> omega
  ·have : (L.take i).length ≤ 16:=by rw [List.length_take]; omega
   omega
 obtain ⟨W,hW⟩ : ∃ f : Nat→Nat→Nat,∀ i m,f i m = if m ∈ L.take i then mn c m else 0:=⟨_,fun _ _=>rfl⟩
 have hW0 : W 0 = fun _=>0:=by funext m; rw [hW]; simp
 have hPS0 : PS 0 = 0:=by rw [hPS]; simp
 intro gf5
 refine ⟨by omega,fun gf6=>⟨by omega,?_⟩⟩
 generalize gf5 36 = g36
 generalize gf6 40 = g40
 refine LoopP.of (X:=Nat) (fun i=>[(43,natV i),(42,natV N),(41,.ref 1000 g9 0 N (some N)),(11,.int .u64 (PS i : Int)),(8,.sl (boolsV N (obsF c)) (some N)),(9,.ref 36 g36 0 N (some N)),(10,.ref 40 g40 0 N (some N)),(1,.ptr 1 g1 0 0)])
  (fun i=>[(1,.row g1 4 [c.v]),(1000,.row g9 1 (natsV L)),(36,.row g36 1 (tab N fun m=>.int .u64 (W i m : Int))),(40,.row g40 1 (boolsV N fun _=>false))])
  (fun i=>i ≤ N) (fun i=>N - i) 0 (by simp) (by simp [natV,hPS0,hLl]) (by simp [boolsV,hW0,tab_const]) ?_
 rintro i q1
 simp [natV]
 refine BrB.of (fun hb=>?_) (fun hb=>?_)
 ·have hi : i < N:=of_decide_eq_true hb
  have hw:=wrapN i (by omega)
  have hiL : i < L.length:=by omega
  obtain ⟨n,hn⟩ : ∃ n,L[i] = n:=⟨_,rfl⟩
  have hnN : n < N:=hLN n (by rw [← hn]; exact List.getElem_mem hiL)
  have hnc : n < c.n.length:=by omega
  obtain ⟨y,hy⟩ : ∃ y,c.n[n] = y:=⟨_,rfl⟩
  have htk : L.take (i + 1) = L.take i ++ [n]:=by rw [List.take_succ_eq_append_getElem hiL,hn]
  have hnt : n ∉ L.take i:=by
   intro h
   obtain ⟨j,hj,he⟩:=List.mem_take_iff_getElem.1 h
   have:=(List.getElem_inj (h₀:=by omega) (h₁:=hiL) hnd).1 (he.trans hn.symm)
   omega
  have hWn : W i n = 0:=by rw [hW,if_neg hnt]
  have hWs : W (i + 1) = upd1 (W i) n (mn c n):=by
   funext m
   unfold upd1
   rw [hW,htk]
   by_cases hm : m = n
   ·subst hm
    rw [if_pos rfl,if_pos (by simp)]
   ·rw [if_neg hm,hW]
    by_cases h2 : m ∈ L.take i
    ·rw [if_pos h2,if_pos (List.mem_append.2 (.inl h2))]
    ·rw [if_neg h2,if_neg fun h=>by rcases List.mem_append.1 h with h | h; exact h2 h; exact hm (List.mem_singleton.1 h)]
  have hPs : PS (i + 1) = PS i + ob c n * mn c n:=by rw [hPS,hPS,htk,List.map_append,sum_app]; simp
  have hb1:=hPSb i
  have hb2:=hPSb (i + 1)
  have hmn:=hmn16 n hnN
  have hmne:=mn_eq hr hnc
  have hcb : combC c n = decide (1 ≤ y.k∧y.k ≤ 13):=by unfold combC combB; rw [c.nd_get hnc,hy]
  obtain ⟨k0,k14,-⟩:=nd_kw hg hnc
  rw [c.nd_get hnc,hy] at k0 k14
  have hsc:=source_c y
  have hrow : ∀ (w : Nat),tab N (upd1 (fun m=>V.int .u64 (W i m : Int)) n (.int .u64 (w : Int))) = tab N fun m=>.int .u64 ((upd1 (W i) n w m : Nat) : Int):=fun w=>tab_congr fun p _=>by unfold upd1; split <;> rfl
  simp [hi,hLl,natsV_get,hn,hnc,hy]
  intro gf7
  generalize gf7 15 = g15
  refine CallO.pure hsc (by simp) ?_
  by_cases hs : y.k = 0∨y.k = 14
  ·have hq : combC c n = false:=by rw [hcb]; simp; omega
   rw [hq] at hmne
   simp at hmne
   have hst2 : (decide (y.k = 0) || decide (y.k = 14)) = true:=by simpa using hs
   rw [hmne] at hWs hPs
   have hm1 : ((PS i : Int) + 1) % 18446744073709551616 = ((PS i + 1 : Nat) : Int):=by omega
   have hm2 : ((PS i : Int) + 1) / 18446744073709551616 = 0:=by omega
   have hr1:=hrow 1
   rw [← hWs] at hr1
   by_cases hof : obsF c n = true
   ·have hob1 : ob c n = 1:=by unfold ob; rw [if_pos hof]
    rw [hob1] at hPs
    simp at hPs
    simp [hst2,hnN,tab_set,tab_get,boolsV_get,hof]
    intro gf8
    simp [nop,hm1,hm2,hnN,boolsV_get]
    exact ⟨i + 1,hi,⟨by simp [hw],by rw [hPs]; simp⟩,hr1,by omega⟩
   ·have hob1 : ob c n = 0:=by unfold ob; rw [if_neg hof]
    rw [hob1] at hPs
    simp at hPs
    simp [hst2,hnN,tab_set,tab_get,boolsV_get,hof]
    exact ⟨i + 1,hi,⟨by simp [hw],hPs.symm⟩,hr1,by omega⟩
  ·have hq : combC c n = true:=by rw [hcb]; simp; omega
   rw [if_pos hq] at hmne
   have hst2 : (decide (y.k = 0) || decide (y.k = 14)) = false:=by simpa using hs
   obtain ⟨l,hl⟩ : ∃ l,c.g n = l:=⟨_,rfl⟩
   have hyi:=hval.i n hnc
   have hl3:=hr.i n hnc
   rw [c.nd_get hnc,hy] at hyi hl3
   have hgi:=g_comb hq
   rw [c.nd_get hnc,hy,hl] at hgi
   have hyl2 : y.i = l.map fun (x : Nat)=>(x : Int):=by
    rw [hgi,List.map_map]
    have hid : ∀ x ∈ y.i,((fun (x : Nat)=>(x : Int)) ∘ Int.toNat) x = id x:=fun x hx=>Int.toNat_of_nonneg (hyi x hx).1
    rw [List.map_congr_left hid,List.map_id]
   have hin : ints y.i = natsV l:=by rw [hyl2,← natsV_ints]
   have hlen : y.i.length = l.length:=by rw [hyl2]; simp
   have hlN : ∀ x ∈ l,x < N:=fun x hx=>by
    have:=(hyi (x : Int) (by rw [hyl2]; exact List.mem_map_of_mem hx)).2
    omega
   obtain ⟨k',hkk⟩ : ∃ k : Nat,y.k = (k : Int):=⟨y.k.toNat,(Int.toNat_of_nonneg k0).symm⟩
   have hyv : y.v = .agg [.int .u8 (k' : Int),.sl (natsV l) none,.int .i64 y.a,.int .i64 y.b]:=by unfold Nd.v; rw [hin,hkk]
   rw [hl] at hmne
   have hin2 : ∀ x ∈ l,x ∈ L.take i:=fun x hx=>by
    have:=topo_take L [] htopo i hiL x (by rw [hn,hl]; exact hx)
    simpa using this
   obtain ⟨QS,hQS⟩ : ∃ f : Nat→Nat,∀ j,f j = ((l.take j).map (mn c)).sum:=⟨_,fun _=>rfl⟩
   have hQ0 : QS 0 = 0:=by rw [hQS]; simp
   have hQe : QS l.length = mn c n:=by rw [hQS,List.take_length,hmne]
   have hQb : ∀ j,QS j ≤ 68719476736:=by
    intro j
    rw [hQS]
    refine Nat.le_trans (sum_le (B:=4294967296) fun x hx=>hmn16 x (hlN x (List.mem_of_mem_take hx))) ?_
    have : (l.take j).length ≤ 3:=by rw [List.length_take]; omega
    omega
   have hU0 : upd1 (W i) n 0 = W i:=by
    funext m
    unfold upd1
    split
    ·rename_i h; rw [h,hWn]
    ·rfl
   simp [hst2,hyv]
   refine LoopP.of (X:=Nat) (fun j=>[(60,natV j),(59,natV l.length),(58,.sl (natsV l) none),(14,natV n),(15,.ptr 15 g15 0 0),(43,natV i),(42,natV N),(41,.ref 1000 g9 0 N (some N)),(11,.int .u64 (PS i : Int)),(8,.sl (boolsV N (obsF c)) (some N)),(9,.ref 36 g36 0 N (some N)),(10,.ref 40 g40 0 N (some N)),(1,.ptr 1 g1 0 0)])
    (fun j=>[(15,.row g15 4 [y.v]),(1,.row g1 4 [c.v]),(1000,.row g9 1 (natsV L)),(36,.row g36 1 (tab N fun m=>.int .u64 ((upd1 (W i) n (QS j) m : Nat) : Int))),(40,.row g40 1 (boolsV N fun _=>false))])
    (fun j=>j ≤ l.length) (fun j=>l.length - j) 0 (by simp) (by simp [natV]) (by simp [hyv,hQ0,hU0]) ?_
   rintro j q2
   simp [natV]
   refine BrB.of (fun hb3=>?_) (fun hb3=>?_)
   ·have hj : j < l.length:=of_decide_eq_true hb3
    have hwj:=wrapN j (by omega)
    obtain ⟨m,hm⟩ : ∃ m,l[j] = m:=⟨_,rfl⟩
    have hml : m ∈ l:=by rw [← hm]; exact List.getElem_mem hj
    have hmN:=hlN m hml
    have hmn2 : m ≠ n:=fun e=>hnt (e ▸ hin2 m hml)
    have hWm : W i m = mn c m:=by rw [hW,if_pos (hin2 m hml)]
    have hQs : QS (j + 1) = QS j + mn c m:=by rw [hQS,hQS,List.take_succ_eq_append_getElem hj,List.map_append,sum_app,hm]; simp
    have hq1:=hQb (j + 1)
    have hm1 : ((QS j : Int) + (mn c m : Int)) % 18446744073709551616 = ((QS (j + 1) : Nat) : Int):=by omega
    have hm2 : ((QS j : Int) + (mn c m : Int)) / 18446744073709551616 = 0:=by omega
    simp [hj,natsV_get,hm,hmN,hnN,tab_get,tab_set,upd1_ne _ _ hmn2,hWm,hm1,hm2]
    intro gm
    simp [nop,hm1,hm2,hnN,hmN,boolsV_get,boolsV_set,tab_set,tab_get]
    exact ⟨j + 1,hj,by simp [hwj],⟨tab_congr fun p _=>by unfold upd1; by_cases h : p = n <;> simp [h],by congr 1; funext p; unfold upd1; split <;> rfl⟩,by omega⟩
   ·have hj : j = l.length:=by have:=of_decide_eq_false hb3; omega
    subst hj
    rw [hQe]
    have hm1 : ((PS i : Int) + (mn c n : Int)) % 18446744073709551616 = ((PS i + mn c n : Nat) : Int):=by omega
    have hm2 : ((PS i : Int) + (mn c n : Int)) / 18446744073709551616 = 0:=by omega
    by_cases hof : obsF c n = true
    ·have hob1 : ob c n = 1:=by unfold ob; rw [if_pos hof]
     rw [hob1,Nat.one_mul] at hPs
     simp [hnN,tab_get,boolsV_get,hof]
     intro gf8
     simp [nop,hm1,hm2,hnN,boolsV_get]
     exact ⟨i + 1,hi,⟨by simp [hw],by rw [hPs]; simp⟩,by rw [hWs],by omega⟩
    ·have hob1 : ob c n = 0:=by unfold ob; rw [if_neg hof]
     rw [hob1,Nat.zero_mul,Nat.add_zero] at hPs
     simp [hnN,tab_get,boolsV_get,hof]
     exact ⟨i + 1,hi,⟨by simp [hw],by omega⟩,by rw [hWs],by omega⟩
 ·have hi : i = N:=by have:=of_decide_eq_false hb; omega
  subst hi
  simp
set_option maxRecDepth 100000 in
set_option maxHeartbeats 8000000 in
theorem law8_c (x : Cx) (hx : x.ok) : PureC Tryz.prog gl0 8 [x.v] (.bool true):=by
 have hg:=nm_good x
 have hr:=ci_nar x.nm
 have hof:=circU_c x hx
 have hgp : V.pureL (x.g.map Gx.v) = true:=pureL_map (fun g=>by simp [Gx.v,u8V]) x.g
 generalize x.nm.ci = c at hof hg hr
 have hn1:=hg.n1
 have hal:=allP_c c hg hr
 have hct:=countP_c c hg hr
 have hcn:=allP_cnt hg hr
 generalize allP c = O at hal hcn
 generalize (sm c.n.length fun n=>ob c n * mn c n) = M at hct hcn
 have hcl : c.v.cells = [.sl (c.n.map Nd.v) none,.sl (c.s.map .str) none,.sl (c.m.map Md.v) none,.sl (ints c.o) none]:=rfl
 simp only [u8V] at hof
 refine PureC.of_W 4 ok8 rfl ?_
 simp [i8,x8,Cx.v,u8V]
 intro gf1
 generalize gf1 1 = g1
 refine CallO.pure hof (by simp [u8V,hgp]) ?_
 simp
 intro gf2
 generalize gf2 3 = g3
 refine CallO.pure hal (by simp) ?_
 simp
 by_cases h5 : 5000 ≤ O.length
 ·simp [h5]
  refine CallO.pure livesP_c rfl ?_
  simp
 have hM:=hcn (by omega)
 subst hM
 have hwu : IntKind.u64.wrap (O.length : Int) = (O.length : Int):=by simp [IntKind.wrap,IntKind.bits,IntKind.signed]; omega
 simp [h5]
 refine CallO.pure hct (by simp) ?_
 simp [hwu]
 refine CallO.pure livesP_c rfl ?_
 simp
end Go.Proofs.YtlmniacemoohpaaGreatDoor
