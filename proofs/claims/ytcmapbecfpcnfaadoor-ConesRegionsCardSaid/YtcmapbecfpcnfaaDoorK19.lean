/- Cones: the law Regions. Conditions: none. -/
import Derived.Test.YtcmapbecfpcnfaaDoorK17
import Derived.Test.YtcmapbecfpcnfaaDoorK18
import Derived.Test.YtcmapbecfpcnfaaDoorXL7
set_option linter.unusedSimpArgs false
set_option linter.unusedVariables false
namespace Go.Proofs.YtcmapbecfpcnfaaDoor
open Go
set_option maxRecDepth 100000 in
set_option maxHeartbeats 8000000 in
theorem lawReg_c (x : Cx) (hx : x.ok) : PureC Tryd.prog gl0 7 [x.v] (.bool true):=by
  have hof:=cof_c x hx
  have hpx:=cx_pure x
  have hf:=ci_fit x
  have hN:=ci_n x
  generalize x.ci = c at hof hf hN
  obtain ⟨hv,ha⟩:=ck_val hf.wf hf.ck
  have c1:=reg_c c hf.wf hf.ck hf.n hf.l
  have c2:=stems_c c hf.wf hf.ck hf.n hf.l
  have c3:=fun n (hn : n < c.n.length)=>stemR_c c hf n hn
  have c4:=fun n (hn : n < c.n.length)=>dom_c c hf.wf hf.ck hf.n hf.l n hn
  have c5:=fun n (hn : n < c.n.length)=>seen_c c hf n hn none
  have hdl : ∀ n,n < c.n.length→n ≠ stemOf c n→decide (stemOf c n ∈ domL c n) = bP (Sn c.g (Pp c) none n):=fun n hn hne=>by
    rw [Bool.eq_iff_iff,decide_eq_true_iff,bP_iff,(domL_ok hv ha hn).m]
    exact (st_ex hv ha n hn).dom hv ha fun e=>hne e.symm
  have hdlen : ∀ n,n < c.n.length→(domL c n).length ≤ c.n.length:=fun n hn=>by
    rw [domL_len hv ha hn]; exact fL_len _ _
  have i1:=intsE_c (fL c.n.length (stemB c)) none (by have:=fL_len c.n.length (stemB c); omega)
  have hsl : (stL c).length = c.n.length:=by simp [stL,tab]
  have hsg : ∀ i (h : i < (stL c).length),(stL c)[i] = stemOf c i:=fun i h=>by simp only [stL]; rw [tab_get]
  obtain ⟨N,hNn⟩ : ∃ N,c.n.length = N:=⟨_,rfl⟩
  simp only [okV,ntI] at c1 c2 c4 c5
  rw [hsl] at c1
  simp only [hNn] at hN c1 c2 c3 c4 c5 hdl hdlen i1 hsl
  refine PureC.of_W 2 ok7 rfl ?_
  simp [i7,x7,cx_agg]
  intro gf1
  refine CallO.pure hof (cx_pureL x) ?_
  simp
  intro gf3
  generalize gf3 3 = g3
  refine CallO.pure c1 (by simp) ?_
  simp
  refine CallO.pure c2 (by simp) ?_
  simp [hsl,hNn]
  refine LoopP.of (X:=AcSt) (fun z=>[(9,natV z.i),(8,accV 70 z.a),(4,.sl (natsV (stL c)) (some N)),(6,.sl (natsV (fL N (stemB c))) (some (fL N (stemB c)).length)),(3,.ptr 3 g3 0 0)]) (fun z=>(3,.row g3 4 [c.v]) :: accH 70 1 z.a)
    (fun z=>z.i ≤ N∧(z.a = none∨accL z.a ≠ [])∧accL z.a = natsV (fL z.i (stemB c))) (fun z=>N - z.i) ⟨0,none⟩ ⟨by simp,by simp,by simp [accL,fL,natsV]⟩ (by simp [natV,accV]) (by simp [accH]; try rfl) ?_
  rintro ⟨i,acc⟩ ⟨q1,q2,q3⟩
  dsimp only at q1 q2 q3 ⊢
  simp [natV,hsl]
  have hll : (accL acc).length ≤ i:=by rw [q3,natsV_length]; exact fL_len i _
  refine BrB.of (fun hb=>?_) (fun hb=>?_)
  · have hi : i < N:=of_decide_eq_true hb
    have hw:=wrapN i (by omega)
    have c3i:=c3 i hi
    simp only [natV] at c3i
    simp [hi,hsl,natsV_get,hsg,natV]
    intro gm
    first | refine ⟨_,_,_,.pure c3i (by simp),?_⟩ | refine ⟨_,⟨_,_,.pure c3i (by simp)⟩,?_⟩ | refine ⟨_,_,⟨_,.pure c3i (by simp)⟩,?_⟩
    simp
    refine ⟨rfl,?_⟩
    have hs:=fL_succ i (stemB c)
    simp [hi,hsl,natsV_get,hsg,natV]
    refine BrB.of (fun hb2=>?_) (fun hb2=>?_)
    · have hst : stemOf c i = i:=of_decide_eq_true hb2
      have hD : stemB c i = true:=by unfold stemB; rw [hst]; simp
      simp [hD] at hs
      have hn2 : natsV (fL (i + 1) (stemB c)) = natsV (fL i (stemB c)) ++ [.int .i64 (i : Int)]:=by rw [hs]; simp [natsV,natV]
      cases acc with
      | none=>
        simp only [accL] at q3
        simp [accV,accH,hw]
        refine fun gf5 gf6=>⟨⟨i + 1,some (gf6 70,[.int .i64 i])⟩,⟨hi,by simp [accL],by dsimp only; rw [hn2,← q3]; rfl⟩,by simp [accV],by simp [accH],by dsimp only; omega⟩
      | some gl=>
        obtain ⟨g,l⟩:=gl
        simp only [accL] at q3 hll
        have hle : l.length + 1 ≤ 274877906944:=by omega
        simp [accV,accH,hw,hle]
        refine fun gf5 gf6=>⟨⟨i + 1,some (gf6 70,l ++ [.int .i64 i])⟩,⟨hi,by simp [accL],by dsimp only [accL]; rw [hn2,← q3]⟩,by simp [accV],by simp [accH],by dsimp only; omega⟩
    · have hst : ¬ stemOf c i = i:=of_decide_eq_false hb2
      have hD : stemB c i = false:=by unfold stemB; exact decide_eq_false fun e=>hst e.symm
      simp [hD] at hs
      have c4i:=c4 i hi
      have c5i:=c5 i hi
      have hd1:=hdl i hi fun e=>hst e.symm
      have hd2:=hdlen i hi
      rw [← hd1] at c5i
      obtain ⟨F,hF⟩ : ∃ F,domL c i = F:=⟨_,rfl⟩
      obtain ⟨t,ht⟩ : ∃ t,stemOf c i = t:=⟨_,rfl⟩
      have hgi:=hsg i (by omega)
      rw [hF] at c4i hd2 c5i
      rw [ht] at c5i hgi
      simp only [natV] at c4i c5i
      simp
      refine CallO.pure c4i (by simp) ?_
      simp
      refine LoopP.of (X:=Nat) (fun k=>[(13,natV k),(12,.bool (decide (t ∈ F.take k))),(10,.sl (natsV F) (some F.length)),(11,natV 0),(9,natV i),(8,accV 70 acc),(4,.sl (natsV (stL c)) (some N)),(6,.sl (natsV (fL N (stemB c))) (some (fL N (stemB c)).length)),(3,.ptr 3 g3 0 0)])
        (fun _=>(3,.row g3 4 [c.v]) :: accH 70 1 acc) (fun k=>k ≤ F.length) (fun k=>F.length - k) 0 (by simp) (by simp [natV]) (by cases acc <;> simp [accH]) ?_
      intro k h2
      simp [natV]
      refine BrB.of (fun hb3=>?_) (fun hb3=>?_)
      · have hk : k < F.length:=of_decide_eq_true hb3
        have hwk:=wrapN k (by omega)
        obtain ⟨y,hy⟩ : ∃ y,F[k] = y:=⟨_,rfl⟩
        have htk : F.take (k + 1) = F.take k ++ [y]:=by rw [List.take_succ_eq_append_getElem hk,hy]
        by_cases hT : t ∈ F.take k
        all_goals
          simp [hk,natsV_get,hy,natV,hwk,hT,hi,hsl,hgi]
          refine ⟨k + 1,hk,⟨by simp,?_⟩,by cases acc <;> simp [accH],by omega⟩
          simp [htk,hT,eq_comm]
      · have hk : k = F.length:=by have:=of_decide_eq_false hb3; omega
        subst k
        rw [List.take_length]
        simp
        refine CallO.pure c5i (by simp) ?_
        simp [hw]
        exact ⟨⟨i + 1,acc⟩,⟨hi,q2,by dsimp only; rw [hs]; exact q3⟩,by simp,by cases acc <;> simp [accH],by dsimp only; omega⟩
  · have hi : i = N:=by have:=of_decide_eq_false hb; omega
    clear hll
    subst i
    cases acc with
    | none=>
      simp only [accL] at q3
      have hL0 : fL N (stemB c) = []:=by
        cases hh : fL N (stemB c) with
        | nil=>rfl
        | cons x l=>rw [hh] at q3; cases q3
      rw [hL0]
      rw [hL0] at i1
      simp [accV]
      refine CallO.pure (i1.wide ⟨.refl _,.nil',trivial⟩ (.refl _)) (by simp [natsV_pure]) ?_
      simp
      refine CallO.pure lives_c (by simp) ?_
      simp
    | some gl=>
      obtain ⟨g,l⟩:=gl
      simp only [accL] at q3
      subst q3
      simp [accV,accH]
      refine CallO.frzB 70 (by simp; exact ⟨rfl,rfl,rfl⟩) (natsV_pure _) ?_
      simp [fzV,V.mapR,V.mapRL,fzp,fzf,fzH,Blk.fz,mapR_pure _ (ci_pure c),mapRL_pure,boolsV_pure,natsV_pure,map_fzV (boolsV_pure _ _)]
      rw [List.take_of_length_le (by simp)]
      refine CallO.pure i1 (by simp [natsV_pure]) ?_
      simp
      refine CallO.pure lives_c (by simp) ?_
      simp
end Go.Proofs.YtcmapbecfpcnfaaDoor
