/- Cones: the law Block. Conditions: none. -/
import Derived.Test.YtcmapbecfpcnfaaDoorK22
import Derived.Test.YtcmapbecfpcnfaaDoorK21
set_option linter.unusedSimpArgs false
set_option linter.unusedVariables false
namespace Go.Proofs.YtcmapbecfpcnfaaDoor
open Go
theorem ci_last (x : Cx) : ptB x.ci (x.ci.n.length - 1) = true:=by
  have h:=(cxn_ok x).2
  unfold ptB
  rw [decide_eq_true_iff,h]
  simp [obsL,Cx.ci]
theorem any_snoc (P : Nat→Prop) [DecidablePred P] (l : List Nat) (y : Nat) : decide (∃ x ∈ l ++ [y],P x) = (decide (∃ x ∈ l,P x) || decide (P y)):=by
  rw [Bool.eq_iff_iff]
  simp only [Bool.or_eq_true,decide_eq_true_iff,List.mem_append,List.mem_singleton]
  constructor
  · rintro ⟨x,h | rfl,h2⟩
    · exact .inl ⟨x,h,h2⟩
    · exact .inr h2
  · rintro (⟨x,h,h2⟩ | h)
    · exact ⟨x,.inl h,h2⟩
    · exact ⟨y,.inr rfl,h⟩
set_option maxRecDepth 100000 in
set_option maxHeartbeats 8000000 in
theorem lawBlock_c (x : Cx) (hx : x.ok) (G : List Nat) (hG : ∀ a ∈ G,a < 256) (p q : Nat) (hp : p < 256) (hq : q < 256) : PureC Tryd.prog gl0 10 [x.v,.sl (G.map u8V) none,.agg [u8V p,u8V q]] (.bool true):=by
  have hof:=cof_c x hx
  have hpx:=cx_pure x
  have hf:=ci_fit x
  have hN:=ci_n x
  have hlast:=ci_last x
  generalize x.ci = c at hof hf hN hlast
  obtain ⟨hv,ha⟩:=ck_val hf.wf hf.ck
  have hd:=ci_dag hv ha
  obtain ⟨n,hn⟩ : ∃ n,p % c.n.length = n:=⟨_,rfl⟩
  obtain ⟨to,hto⟩ : ∃ to,q % 4 = to:=⟨_,rfl⟩
  have hnN : n < c.n.length:=by rw [← hn]; exact Nat.mod_lt _ (by omega)
  have c1:=orderP_c c hf.wf hf.ck hf.n
  have c2:=dom_c c hf.wf hf.ck hf.n hf.l n hnN
  have c3:=points_c c hf.l
  have c4:=fanoutC_c c hf.wf hf.ck [n] (some 1) (by simpa using hnN) (by simp)
  have c5:=settled_c c hf G hG none 0
  have c6:=settled_c c hf G hG (some n) to
  have hdl:=domL_ok hv ha hnN
  have hdif:=sv_dif hd G n to
  have hLl:=ordL_len hv ha
  have hmP : ∀ y,y ∈ fL c.n.length (ptB c)↔y < c.n.length∧ptB c y = true:=fun y=>fL_mem
  have hmC : ∀ y,y ∈ foutL c [n]↔y < c.n.length∧Rch c.g y n:=fun y=>by rw [mem_foutL]; simp
  obtain ⟨A,hA⟩ : ∃ A,sv c G none 0 = A:=⟨_,rfl⟩
  obtain ⟨B,hB⟩ : ∃ B,sv c G (some n) to = B:=⟨_,rfl⟩
  rw [hA] at c5 hdif
  rw [hB] at c6 hdif
  have hblk : ∀ nt : Option Nat,(∀ d,nt = some d→A d = B d)→(∃ y ∈ fL c.n.length (ptB c),A y ≠ B y)→Sn c.g (Pp c) nt n:=fun nt h1 ⟨y,h2,h3⟩=>
    block hd (P:=Pp c) (D:=fun y=>A y ≠ B y) (fun m hm=>hdif m hm) (fun d hd hq=>hq (h1 d hd)) ((hmP y).1 h2).2 h3
  have hcn : n ∈ foutL c [n]:=(hmC n).2 ⟨hnN,.rfl _⟩
  have hpn : c.n.length - 1 ∈ fL c.n.length (ptB c):=(hmP _).2 ⟨by omega,hlast⟩
  obtain ⟨L,hL⟩ : ∃ L,ordL c = L:=⟨_,rfl⟩
  obtain ⟨Dm,hDm⟩ : ∃ F,domL c n = F:=⟨_,rfl⟩
  obtain ⟨Pt,hPt⟩ : ∃ F,fL c.n.length (ptB c) = F:=⟨_,rfl⟩
  obtain ⟨Cn,hCn⟩ : ∃ F,foutL c [n] = F:=⟨_,rfl⟩
  rw [hDm] at hdl
  simp only [okV,hL,hDm,hPt,hCn,ntI] at c1 c2 c3 c4 c5 c6 hLl hmP hmC hblk hcn hpn
  have hDmN : ∀ y ∈ Dm,y < c.n.length:=fun y hy=>((hdl.m y).1 hy).lt hd
  have hne1 : Pt ≠ []:=fun e=>by rw [e] at hpn; simp at hpn
  have hne2 : Cn ≠ []:=fun e=>by rw [e] at hcn; simp at hcn
  have hlP : Pt.length ≤ c.n.length:=by rw [← hPt]; exact fL_len _ _
  have hlC : Cn.length ≤ c.n.length:=by rw [← hCn]; exact fL_len _ _
  have hlD : Dm.length ≤ c.n.length:=by rw [← hDm,domL_len hv ha hnN]; exact fL_len _ _
  obtain ⟨N,hNn⟩ : ∃ N,c.n.length = N:=⟨_,rfl⟩
  have hu:=u8i hp
  simp only [hNn] at c5 c6 hLl hmP hmC hn hnN hN hDmN hlP hlC hlD c1
  refine PureC.of_W 2 ok10 rfl ?_
  simp [i10,x10,cx_agg]
  intro gf1 gf2
  refine CallO.pure hof (cx_pureL x) ?_
  have hmod:=modN hn
  have hm4 : ((q : Int)).tmod 4 = (to : Int):=modN (b:=4) hto
  simp [u8V,hu,hNn,hmod,show ¬ N = 0 by omega]
  intro gf3
  generalize gf3 7 = g7
  refine CallO.pure c1 (by simp) ?_
  simp
  refine CallO.pure c2 (by simp) ?_
  simp
  refine CallO.pure c3 (by simp) ?_
  simp
  intro gf4
  refine CallO.frzB 49 (by simp; exact ⟨rfl,rfl,rfl⟩) (by simp) ?_
  simp [fzV,V.mapR,V.mapRL,fzp,fzf,fzH,Blk.fz,mapR_pure _ (ci_pure c),mapRL_pure,natsV_pure]
  refine CallO.pure c4 (by simp) ?_
  simp [hLl,hNn,hne1,hne2]
  refine CallO.pure c5 (by simp [natsV_pure,u8s_pure]) ?_
  simp [u8i hq,hm4]
  refine CallO.pure c6 (by simp [natsV_pure,u8s_pure]) ?_
  simp
  have htl : ∀ f : Nat→V,(tab N f).length = N:=fun f=>by simp [tab]
  obtain ⟨SM,hSM⟩ : ∃ SM : Nat→Bool,(fun k=>!decide (∃ y ∈ Pt.take k,A y ≠ B y)) = SM:=⟨_,rfl⟩
  have hSMk : ∀ k,SM k = !decide (∃ y ∈ Pt.take k,A y ≠ B y):=fun k=>by rw [← hSM]
  refine LoopP.of (X:=Nat) (fun k=>[(19,natV k),(18,.bool (SM k)),(16,.sl (tab N fun i=>u8V (A i)) (some N)),(17,.sl (tab N fun i=>u8V (B i)) (some N)),(13,.sl (natsV Pt) (some Pt.length)),(11,.sl (natsV Dm) (some Dm.length)),(14,.sl (natsV Cn) (some Cn.length))]) (fun _=>[]) (fun k=>k ≤ Pt.length) (fun k=>Pt.length - k) 0 (by simp) (by simp [natV,hSMk,u8V]) (by simp) ?_
  intro k h1
  simp [natV]
  refine BrB.of (fun hb=>?_) (fun hb=>?_)
  · have hk : k < Pt.length:=of_decide_eq_true hb
    have hw:=wrapN k (by omega)
    obtain ⟨y,hy⟩ : ∃ y,Pt[k] = y:=⟨_,rfl⟩
    have hyN : y < N:=((hmP y).1 (by rw [← hy]; exact List.getElem_mem hk)).1
    have hsn : SM (k + 1) = (SM k && decide (A y = B y)):=by
      rw [hSMk,hSMk,List.take_succ_eq_append_getElem hk,hy,any_snoc,Bool.not_or]
      simp
    cases hS : SM k
    all_goals
      rw [hS] at hsn
      simp [hk,natsV_get,hy,htl,hyN,show ¬ N ≤ y by omega,tab_get,u8V,hw,natV]
      exact ⟨k + 1,hk,⟨by simp,by rw [hsn]; simp⟩,by omega⟩
  · have hk : k = Pt.length:=by have:=of_decide_eq_false hb; omega
    subst k
    have hS1:=hSMk Pt.length
    rw [List.take_length] at hS1
    generalize SM Pt.length = S at hS1
    clear hb h1
    simp
    have hdom : ∀ y ∈ Dm,A y = B y→S = true:=fun y hy hab=>by
      rw [hS1,Bool.not_eq_true']
      refine decide_eq_false fun ⟨z,h2,h3⟩=>?_
      have:=hblk (some y) (fun d e=>by cases e; exact hab) ⟨z,h2,h3⟩
      exact ((hdl.m y).1 hy).2.2 this
    refine LoopP.of (X:=Nat) (fun k=>[(20,natV k),(18,.bool S),(16,.sl (tab N fun i=>u8V (A i)) (some N)),(17,.sl (tab N fun i=>u8V (B i)) (some N)),(13,.sl (natsV Pt) (some Pt.length)),(11,.sl (natsV Dm) (some Dm.length)),(14,.sl (natsV Cn) (some Cn.length))]) (fun _=>[]) (fun k=>k ≤ Dm.length) (fun k=>Dm.length - k) 0 (by simp) (by simp [natV]) (by simp) ?_
    intro k h1
    simp [natV]
    refine BrB.of (fun hb=>?_) (fun hb=>?_)
    · have hk : k < Dm.length:=of_decide_eq_true hb
      have hw:=wrapN k (by omega)
      obtain ⟨y,hy⟩ : ∃ y,Dm[k] = y:=⟨_,rfl⟩
      have hym : y ∈ Dm:=by rw [← hy]; exact List.getElem_mem hk
      have hyN:=hDmN y hym
      have hdy:=hdom y hym
      by_cases hab : A y = B y
      · have hSt:=hdy hab
        simp [hk,natsV_get,hy,htl,hyN,show ¬ N ≤ y by omega,tab_get,u8V,hw,natV,hab,hSt]
        exact ⟨k + 1,hk,by simp,by omega⟩
      · simp [hk,natsV_get,hy,htl,hyN,show ¬ N ≤ y by omega,tab_get,u8V,hw,natV,hab]
        exact ⟨k + 1,hk,by simp,by omega⟩
    · have hk : k = Dm.length:=by have:=of_decide_eq_false hb; omega
      subst k
      clear hb h1
      simp
      obtain ⟨PA,hPA⟩ : ∃ PA : Nat→Bool,(fun i=>decide (∃ y ∈ Cn.take i,y ∈ Pt)) = PA:=⟨_,rfl⟩
      have hPAk : ∀ k,PA k = decide (∃ y ∈ Cn.take k,y ∈ Pt):=fun k=>by rw [← hPA]
      refine LoopP.of (X:=Nat) (fun i=>[(22,natV i),(21,.bool (PA i)),(18,.bool S),(13,.sl (natsV Pt) (some Pt.length)),(11,.sl (natsV Dm) (some Dm.length)),(14,.sl (natsV Cn) (some Cn.length))]) (fun _=>[]) (fun i=>i ≤ Cn.length) (fun i=>Cn.length - i) 0 (by simp) (by simp [natV,hPAk]) (by simp) ?_
      intro i h1
      simp [natV]
      refine BrB.of (fun hb=>?_) (fun hb=>?_)
      · have hi : i < Cn.length:=of_decide_eq_true hb
        have hw:=wrapN i (by omega)
        obtain ⟨y,hy⟩ : ∃ y,Cn[i] = y:=⟨_,rfl⟩
        have hsn : PA (i + 1) = (PA i || decide (y ∈ Pt)):=by
          rw [hPAk,hPAk,List.take_succ_eq_append_getElem hi,hy,any_snoc]
        obtain ⟨P0,hP0⟩ : ∃ b,PA i = b:=⟨_,rfl⟩
        rw [hP0] at hsn ⊢
        obtain ⟨PB,hPB⟩ : ∃ PB : Nat→Bool,(fun k=>P0 || decide (y ∈ Pt.take k)) = PB:=⟨_,rfl⟩
        have hPBk : ∀ k,PB k = (P0 || decide (y ∈ Pt.take k)):=fun k=>by rw [← hPB]
        simp
        refine LoopP.of (X:=Nat) (fun k=>[(23,natV k),(21,.bool (PB k)),(22,natV i),(18,.bool S),(13,.sl (natsV Pt) (some Pt.length)),(11,.sl (natsV Dm) (some Dm.length)),(14,.sl (natsV Cn) (some Cn.length))]) (fun _=>[]) (fun k=>k ≤ Pt.length) (fun k=>Pt.length - k) 0 (by simp) (by simp [natV,hPBk]) (by simp) ?_
        intro k h2
        simp [natV]
        refine BrB.of (fun hb2=>?_) (fun hb2=>?_)
        · have hk : k < Pt.length:=of_decide_eq_true hb2
          have hwk:=wrapN k (by omega)
          obtain ⟨u,hu2⟩ : ∃ u,Pt[k] = u:=⟨_,rfl⟩
          have htk : Pt.take (k + 1) = Pt.take k ++ [u]:=by rw [List.take_succ_eq_append_getElem hk,hu2]
          have hfin : PB (k + 1) = (PB k || decide (y = u)):=by rw [hPBk,hPBk,htk,Bool.or_assoc]; simp [Bool.decide_or]
          cases hT : PB k
          all_goals
            rw [hT] at hfin
            simp [hk,hi,natsV_get,hy,hu2,natV,hwk]
            exact ⟨k + 1,hk,⟨by simp,by rw [hfin]; simp⟩,by omega⟩
        · have hk : k = Pt.length:=by have:=of_decide_eq_false hb2; omega
          subst k
          have hPe : PB Pt.length = PA (i + 1):=by rw [hPBk,List.take_length,hsn]
          rw [hPe]
          simp [hw]
          exact ⟨i + 1,hi,by simp,by omega⟩
      · have hi : i = Cn.length:=by have:=of_decide_eq_false hb; omega
        subst i
        have hP1:=hPAk Cn.length
        rw [List.take_length] at hP1
        have hno : PA Cn.length = false→S = true∧Dm = []:=fun h=>by
          rw [h] at hP1
          have hns : ¬ Sn c.g (Pp c) none n:=fun hs=>by
            obtain ⟨p,h3,h4⟩:=sn_rch.1 hs
            have hpN : p < N:=by
              cases h4 with
              | rfl=>exact hnN
              | head hx _=>have:=(hd.b _ _ hx).2; omega
            exact of_decide_eq_false hP1.symm ⟨p,(hmC p).2 ⟨hpN,h4⟩,(hmP p).2 ⟨hpN,h3⟩⟩
          refine ⟨?_,?_⟩
          · rw [hS1,Bool.not_eq_true']
            exact decide_eq_false fun q=>hns (hblk none (fun d e=>by cases e) q)
          · rw [← hDm]; exact domL_eq (domL_none hns)
        cases hPl : PA Cn.length
        · obtain ⟨e1,e2⟩:=hno hPl
          simp [e1,e2]
          refine CallO.pure lives_c (by simp) ?_
          simp
        · simp
          refine CallO.pure lives_c (by simp) ?_
          simp
end Go.Proofs.YtcmapbecfpcnfaaDoor
