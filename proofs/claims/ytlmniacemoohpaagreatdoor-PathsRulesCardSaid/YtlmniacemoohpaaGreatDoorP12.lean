/- Paths: the case of the laws; the law Rules of layer 20. Conditions: none. -/
import Derived.Test.YtlmniacemoohpaaGreatDoorP11
import Derived.Test.YtlmniacemoohpaaGreatDoorT7
import Derived.Test.YtlmniacemoohpaaGreatDoorXL12
set_option linter.unusedSimpArgs false
set_option linter.unusedVariables false
namespace Go.Proofs.YtlmniacemoohpaaGreatDoor
open Go
theorem caseP_c (x : Cx) (hx : x.ok) (p q : Pt) : PureC Tryz.prog gl0 36 [caseV x p q] (.tup [x.nm.ci.v,prV (pof x.nm.ci p) (pof x.nm.ci q)]):=by
  have hof:=circU_c x hx
  have hpu:=cxU_pure x
  have hg:=nm_good x
  generalize x.nm.ci = c at hof hg ⊢
  have hn1:=hg.n1
  have hp:=pofV_c p c (by omega)
  have hq:=pofV_c q c (by omega)
  generalize pof c p = a at hp ⊢
  generalize pof c q = b at hq ⊢
  have hcl : c.v.cells = [.sl (c.n.map Nd.v) none,.sl (c.s.map .str) none,.sl (c.m.map Md.v) none,.sl (ints c.o) none]:=rfl
  simp only [Pt.v] at hp hq
  refine PureC.of_W 2 ok36 rfl ?_
  simp [i36,x36]
  intro gf1 gf2 gf3
  refine CallO.pure hof hpu ?_
  simp
  intro gf4 gm
  first | refine ⟨_,_,_,.pure hp (by simp),?_⟩ | refine ⟨_,⟨_,_,.pure hp (by simp)⟩,?_⟩ | refine ⟨_,_,⟨_,.pure hp (by simp)⟩,?_⟩
  simp
  first | refine ⟨_,_,_,.pure hq (by simp),?_⟩ | refine ⟨_,⟨_,_,.pure hq (by simp)⟩,?_⟩ | refine ⟨_,_,⟨_,.pure hq (by simp)⟩,?_⟩
  simp [mapRL_pure,nds_pure,mds_pure,ints_pure,prV]
  exact ⟨rfl,rfl⟩
theorem ctlB_eq2 (k v : Nat) : ctlB k v = (decide (v = 0) && (decide (k = 5) || decide (k = 6)) || decide (v = 1) && (decide (k = 7) || decide (k = 8))):=by
  unfold ctlB
  rw [Bool.and_comm (decide (v = 0)),Bool.and_comm (decide (v = 1))]
set_option maxRecDepth 100000 in
set_option maxHeartbeats 8000000 in
theorem law12_c (x : Cx) (hx : x.ok) (p q : Pt) : PureC Tryz.prog gl0 12 [caseV x p q] (.bool true):=by
  have hg:=nm_good x
  have hcs:=caseP_c x hx p q
  have hcp:=case_pure x p q
  generalize x.nm.ci = c at hcs hg
  have ha:=pof_fit c p
  have hb:=pof_fit c q
  generalize pof c p = p1 at hcs ha
  generalize pof c q = q1 at hcs hb
  have hn1:=hg.n1
  have hn0:=hg.n0
  have hst:=steadyS_c c hg p1 q1 ha hb
  have r1:=run_c c hg p1 ha
  have r2:=run_c c hg q1 hb
  have hfe:=fun n hn=>firm_eq hg hg.ord (netN c p1) (netN c q1) (n:=n) hn
  generalize obsO c (netN c p1) = O1 at r1
  generalize obsS c (netN c p1) = S1 at r1
  generalize obsO c (netN c q1) = O2 at r2
  generalize obsS c (netN c q1) = S2 at r2
  generalize firmN c (netN c p1) (netN c q1) = F at hst hfe
  generalize netN c p1 = A at r1 hfe
  generalize netN c q1 = B at r2 hfe
  have pA:=tabU_pure c.n.length A
  have pB:=tabU_pure c.n.length B
  have pF:=boolsV_pure c.n.length F
  have hcl : c.v.cells = [.sl (c.n.map Nd.v) none,.sl (c.s.map .str) none,.sl (c.m.map Md.v) none,.sl (ints c.o) none]:=rfl
  simp only [caseV,prV,rspV,Pt.v,u8V] at hcs hcp hst r1 r2 pA pB
  refine PureC.of_W 2 ok12 rfl ?_
  simp [i12,x12,caseV,u8V]
  intro gf1
  generalize gf1 1 = g1
  refine CallO.pure hcs (by simpa [u8V] using hcp) ?_
  simp
  intro gf3 gf4
  generalize gf3 3 = g3
  generalize gf4 4 = g4
  refine CallO.pure hst (by simp) ?_
  simp
  refine CallO.pure r1 (by simp) ?_
  simp
  intro gf5
  refine CallO.pure r2 (by simp) ?_
  simp
  intro gf6
  have hval:=hg.val
  refine LoopP.of (X:=Nat) (fun i=>[(13,natV i),(5,.sl (boolsV c.n.length F) (some c.n.length)),(8,.sl (tab c.n.length fun j=>.int .u8 (A j : Int)) (some c.n.length)),(11,.sl (tab c.n.length fun j=>.int .u8 (B j : Int)) (some c.n.length)),(3,.ptr 3 g3 0 0)]) (fun _=>[(3,.row g3 4 [c.v])])
    (fun i=>i ≤ c.n.length) (fun i=>c.n.length - i) 0 (by simp) (by simp [natV]) (by simp; rfl) ?_
  rintro n q1
  simp [natV]
  refine BrB.of (fun hb1=>?_) (fun hb1=>?_)
  · have hn:=of_decide_eq_true hb1
    have hw:=wrapN n (by omega)
    have hfn:=hfe n hn
    obtain ⟨y,hy⟩ : ∃ y,c.n[n] = y:=⟨_,rfl⟩
    obtain ⟨k0,k14,-⟩:=nd_kw hg hn
    have hyi:=hval.i n hn
    have hyl:=hval.l n hn
    rw [c.nd_get hn,hy] at k0 k14 hyi hyl
    have hcb : combC c n = decide (1 ≤ y.k∧y.k ≤ 13):=by unfold combC combB; rw [c.nd_get hn,hy]
    obtain ⟨kk,hkk⟩ : ∃ k : Nat,y.k = (k : Int):=⟨y.k.toNat,(Int.toNat_of_nonneg k0).symm⟩
    obtain ⟨xa,hxa⟩ : ∃ v,A n = v:=⟨_,rfl⟩
    obtain ⟨xb,hxb⟩ : ∃ v,B n = v:=⟨_,rfl⟩
    obtain ⟨fn,hfn2⟩ : ∃ v,F n = v:=⟨_,rfl⟩
    rw [hfn2] at hfn
    by_cases hs : y.k = 0∨y.k = 14
    · have hq : combC c n = false:=by rw [hcb]; simp; omega
      have hE : fn = (decide (xa ≤ 1) && decide (xa = xb)):=by rw [hfn]; unfold stE; rw [hq,hxa,hxb]; rfl
      rcases hs with hs | hs
      all_goals
        simp [hn,hy,hs,tab_get,hxa,hxb]
        by_cases h1 : xa = xb
        · subst h1
          simp [hn,boolsV_get,hfn2,tab_get,hxb,hE,hw]
          exact ⟨n + 1,hn,by simp,by omega⟩
        · simp [h1,hn,boolsV_get,hfn2,hE,hw]
          exact ⟨n + 1,hn,by simp,by omega⟩
    · have hq : combC c n = true:=by rw [hcb]; simp; omega
      have hgi:=g_comb hq
      obtain ⟨l,hl⟩ : ∃ l,c.g n = l:=⟨_,rfl⟩
      rw [c.nd_get hn,hy,hl] at hgi
      have hyl2 : y.i = l.map fun (x : Nat)=>(x : Int):=by
        rw [hgi,List.map_map]
        have hid : ∀ x ∈ y.i,((fun (x : Nat)=>(x : Int)) ∘ Int.toNat) x = id x:=fun x hx=>Int.toNat_of_nonneg (hyi x hx).1
        rw [List.map_congr_left hid,List.map_id]
      have hlN : ∀ x ∈ l,x < c.n.length:=fun x hx=>by
        have:=(hyi (x : Int) (by rw [hyl2]; exact List.mem_map_of_mem hx)).2
        omega
      have hll : l.length ≤ 16:=by rw [hyl2] at hyl; simpa using hyl
      have hin : ints y.i = natsV l:=by rw [hyl2,← natsV_ints]
      have hil : y.i.length = l.length:=by rw [hyl2]; simp
      have hE : fn = ((l.all F || l.any fun m=>F m && ctlB kk (B m)) && decide (xb ≤ 1)):=by
        rw [hfn]; unfold stE; rw [hq,hl,c.nd_get hn,hy,hkk,hxb]; rfl
      have hs0 : ¬ kk = 0:=fun h=>hs (.inl (by omega))
      have hs14 : ¬ kk = 14:=fun h=>hs (.inr (by omega))
      have hyv : y.v = .agg [.int .u8 (kk : Int),.sl (natsV l) none,.int .i64 y.a,.int .i64 y.b]:=by unfold Nd.v; rw [hin,hkk]
      obtain ⟨VA,hVA⟩ : ∃ f : Nat→Bool,∀ j,f j = (l.take j).all F:=⟨_,fun _=>rfl⟩
      have hA0 : VA 0 = true:=by rw [hVA]; simp
      have hAe : VA l.length = l.all F:=by rw [hVA,List.take_length]
      obtain ⟨VO,hVO⟩ : ∃ f : Nat→Bool,∀ j,f j = (VA l.length || (l.take j).any fun m=>F m && ctlB kk (B m)):=⟨_,fun _=>rfl⟩
      have hO0 : VO 0 = VA l.length:=by rw [hVO]; simp
      have hOe : VO l.length = (l.all F || l.any fun m=>F m && ctlB kk (B m)):=by rw [hVO,List.take_length,hAe]
      simp [hn,hy,hyv,hs0,hs14]
      refine LoopP.of (X:=Nat) (fun j=>[(16,natV j),(14,.bool (VA j)),(13,natV n),(15,.int .u8 (kk : Int)),(5,.sl (boolsV c.n.length F) (some c.n.length)),(8,.sl (tab c.n.length fun j=>.int .u8 (A j : Int)) (some c.n.length)),(11,.sl (tab c.n.length fun j=>.int .u8 (B j : Int)) (some c.n.length)),(3,.ptr 3 g3 0 0)]) (fun _=>[(3,.row g3 4 [c.v])])
        (fun j=>j ≤ l.length) (fun j=>l.length - j) 0 (by simp) (by simp [natV,hA0]) (by simp) ?_
      rintro j q2
      simp [natV,hn,hy,hyv]
      refine BrB.of (fun hb2=>?_) (fun hb2=>?_)
      · have hj : j < l.length:=of_decide_eq_true hb2
        have hwj:=wrapN j (by omega)
        obtain ⟨m,hm⟩ : ∃ m,l[j] = m:=⟨_,rfl⟩
        have hmN:=hlN m (by rw [← hm]; exact List.getElem_mem hj)
        have hall : VA (j + 1) = (VA j && F m):=by rw [hVA,hVA,List.take_succ_eq_append_getElem hj,hm]; simp
        generalize VA j = va at hall ⊢
        cases va
        case' false=>simp [hn,hy,hyv,hj,hwj]
        case' true=>simp [hn,hy,hyv,hj,natsV_get,hm,hmN,boolsV_get,hwj]
        all_goals
          refine ⟨j + 1,hj,?_⟩
          simp [hall]
          try omega
      · have hj : j = l.length:=by have:=of_decide_eq_false hb2; omega
        subst hj
        simp
        refine LoopP.of (X:=Nat) (fun j=>[(17,natV j),(14,.bool (VO j)),(13,natV n),(15,.int .u8 (kk : Int)),(5,.sl (boolsV c.n.length F) (some c.n.length)),(8,.sl (tab c.n.length fun j=>.int .u8 (A j : Int)) (some c.n.length)),(11,.sl (tab c.n.length fun j=>.int .u8 (B j : Int)) (some c.n.length)),(3,.ptr 3 g3 0 0)]) (fun _=>[(3,.row g3 4 [c.v])])
          (fun j=>j ≤ l.length) (fun j=>l.length - j) 0 (by simp) (by simp [natV,hO0]) (by simp) ?_
        rintro j q3
        simp [natV,hn,hy,hyv]
        refine BrB.of (fun hb3=>?_) (fun hb3=>?_)
        · have hj : j < l.length:=of_decide_eq_true hb3
          have hwj:=wrapN j (by omega)
          obtain ⟨m,hm⟩ : ∃ m,l[j] = m:=⟨_,rfl⟩
          have hmN:=hlN m (by rw [← hm]; exact List.getElem_mem hj)
          have hany : VO (j + 1) = (VO j || (F m && ctlB kk (B m))):=by rw [hVO,hVO,List.take_succ_eq_append_getElem hj,hm]; simp [Bool.or_assoc]
          obtain ⟨fm,hfm⟩ : ∃ b,F m = b:=⟨_,rfl⟩
          obtain ⟨bm,hbm⟩ : ∃ b,B m = b:=⟨_,rfl⟩
          rw [ctlB_eq2,hfm,hbm] at hany
          generalize VO j = vo at hany ⊢
          cases vo
          case' true=>
            simp [hj,hn,hy,hyv,natsV_get,hm,hwj]
            exact ⟨j + 1,hj,by simp [hany],by omega⟩
          case' false=>
            simp [hj,hn,hy,hyv,natsV_get,hm,hmN,boolsV_get,hfm,hwj]
            cases fm
            · simp [hn,hy,hyv,hj,hwj]
              exact ⟨j + 1,hj,by simp [hany],by omega⟩
            by_cases b0 : bm = 0
            · by_cases k5 : kk = 5
              · simp [hmN,tab_get,hbm,b0,k5,hn,hy,hyv,hj,hwj]
                exact ⟨j + 1,hj,by simp [hany,b0,k5],by omega⟩
              · by_cases k6 : kk = 6
                · simp [hmN,tab_get,hbm,b0,k6,hn,hy,hyv,hj,hwj]
                  exact ⟨j + 1,hj,by simp [hany,b0,k6],by omega⟩
                · simp [hmN,tab_get,hbm,b0,k5,k6,hn,hy,hyv,hj,hwj]
                  exact ⟨j + 1,hj,by simp [hany,b0,k5,k6],by omega⟩
            · by_cases b1 : bm = 1
              · by_cases k7 : kk = 7
                · simp [hmN,tab_get,hbm,b1,k7,hn,hy,hyv,hj,hwj]
                  exact ⟨j + 1,hj,by simp [hany,b1,k7],by omega⟩
                · by_cases k8 : kk = 8
                  · simp [hmN,tab_get,hbm,b1,k8,hn,hy,hyv,hj,hwj]
                    exact ⟨j + 1,hj,by simp [hany,b1,k8],by omega⟩
                  · simp [hmN,tab_get,hbm,b1,k7,k8,hn,hy,hyv,hj,hwj]
                    exact ⟨j + 1,hj,by simp [hany,b1,k7,k8],by omega⟩
              · simp [hmN,tab_get,hbm,b0,b1,hn,hy,hyv,hj,hwj]
                exact ⟨j + 1,hj,by simp [hany,b0,b1],by omega⟩
        · have hj : j = l.length:=by have:=of_decide_eq_false hb3; omega
          subst hj
          rw [← hOe] at hE
          generalize VO l.length = vo at hE ⊢
          cases vo
          · simp [hn,boolsV_get,hfn2,hE,hw]
            exact ⟨n + 1,hn,by simp,by omega⟩
          · by_cases h1 : xb ≤ 1
            · simp [hn,boolsV_get,hfn2,hE,tab_get,hxb,h1,hw]
              exact ⟨n + 1,hn,by simp,by omega⟩
            · simp [hn,boolsV_get,hfn2,hE,tab_get,hxb,h1,hw]
              exact ⟨n + 1,hn,by simp,by omega⟩
  · have hn : n = c.n.length:=by have:=of_decide_eq_false hb1; omega
    subst hn
    simp
    refine CallO.pure livesP_c rfl ?_
    simp
end Go.Proofs.YtlmniacemoohpaaGreatDoor
