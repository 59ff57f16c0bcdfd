/- Cones: the law Again. Conditions: none. -/
import Derived.Test.YtcmapbecfpcnfaaDoorK17
import Derived.Test.YtcmapbecfpcnfaaDoorK18
import Derived.Test.YtcmapbecfpcnfaaDoorXL9
set_option linter.unusedSimpArgs false
set_option linter.unusedVariables false
namespace Go.Proofs.YtcmapbecfpcnfaaDoor
open Go
theorem fin_fin {c : Ci} (hv : c.val) {n : Nat} (hn : n < c.n.length) : finL c (finL c [n]) = finL c [n]:=by
  unfold finL
  refine fL_congr fun j hj=>bP_congr ?_
  constructor
  · rintro ⟨x,hx,h⟩
    obtain ⟨z,h1,h2⟩:=(mem_finL hv (by simpa using hn)).1 (show x ∈ finL c [n] from hx)
    exact ⟨z,h1,h2.trans h⟩
  · rintro ⟨x,hx,h⟩
    exact ⟨x,(mem_finL hv (by simpa using hn)).2 ⟨x,hx,.rfl _⟩,h⟩
theorem mem_foutL {c : Ci} {l : List Nat} {j : Nat} : j ∈ foutL c l↔j < c.n.length∧∃ x ∈ l,Rch c.g j x:=by
  unfold foutL
  rw [fL_mem,bP_iff]
theorem fout_fout {c : Ci} {n : Nat} (hn : n < c.n.length) : foutL c (foutL c [n]) = foutL c [n]:=by
  unfold foutL
  refine fL_congr fun j hj=>bP_congr ?_
  constructor
  · rintro ⟨x,hx,h⟩
    obtain ⟨-,z,h1,h2⟩:=mem_foutL.1 (show x ∈ foutL c [n] from hx)
    exact ⟨z,h1,h.trans h2⟩
  · rintro ⟨x,hx,h⟩
    refine ⟨x,mem_foutL.2 ⟨?_,x,hx,.rfl _⟩,h⟩
    rw [List.mem_singleton.1 hx]; exact hn
set_option maxRecDepth 100000 in
set_option maxHeartbeats 8000000 in
theorem lawAgain_c (x : Cx) (hx : x.ok) (z : Nat) (hz : z < 256) : PureC Tryd.prog gl0 9 [x.v,u8V z] (.bool true):=by
  have hof:=cof_c x hx
  have hpx:=cx_pure x
  have hf:=ci_fit x
  have hN:=ci_n x
  generalize x.ci = c at hof hf hN
  obtain ⟨hv,ha⟩:=ck_val hf.wf hf.ck
  have hd:=ci_dag hv ha
  obtain ⟨n,hn⟩ : ∃ n,z % c.n.length = n:=⟨_,rfl⟩
  have hnN : n < c.n.length:=by rw [← hn]; exact Nat.mod_lt _ (by omega)
  have lA : (finL c [n]).length ≤ c.n.length:=fL_len _ _
  have lD : (foutL c [n]).length ≤ c.n.length:=fL_len _ _
  have lP : (fL c.n.length (ptB c)).length ≤ c.n.length:=fL_len _ _
  have mA : ∀ x ∈ finL c [n],x < c.n.length:=fun x hx=>(fL_mem.1 hx).1
  have mD : ∀ x ∈ foutL c [n],x < c.n.length:=fun x hx=>(fL_mem.1 hx).1
  have mP : ∀ x ∈ fL c.n.length (ptB c),x < c.n.length:=fun x hx=>(fL_mem.1 hx).1
  have f1:=faninC_c c hf.wf hf.ck [n] (some 1) (by simpa using hnN) (by simp)
  have f2:=faninC_c c hf.wf hf.ck (finL c [n]) (some (finL c [n]).length) mA (by omega)
  have f3:=fanoutC_c c hf.wf hf.ck [n] (some 1) (by simpa using hnN) (by simp)
  have f4:=fanoutC_c c hf.wf hf.ck (foutL c [n]) (some (foutL c [n]).length) mD (by omega)
  have f5:=points_c c hf.l
  have f6:=faninC_c c hf.wf hf.ck (fL c.n.length (ptB c)) (some (fL c.n.length (ptB c)).length) mP (by omega)
  rw [fin_fin hv hnN] at f2
  rw [fout_fout hnN] at f4
  have c4:=dom_c c hf.wf hf.ck hf.n hf.l n hnN
  have c5:=seen_c c hf n hnN none
  have hseen : decide (n ∈ finL c (fL c.n.length (ptB c))) = bP (Sn c.g (Pp c) none n):=by
    rw [Bool.eq_iff_iff,decide_eq_true_iff,bP_iff,sn_rch,mem_finL hv mP]
    constructor
    · rintro ⟨y,h1,h2⟩; exact ⟨y,(fL_mem.1 h1).2,h2⟩
    · rintro ⟨y,h1,h2⟩
      refine ⟨y,fL_mem.2 ⟨?_,h1⟩,h2⟩
      cases h2 with
      | rfl=>exact hnN
      | head hx _=>exact (hd.b _ _ hx).2
  have hdom : bP (Sn c.g (Pp c) none n) = false→domL c n = []:=fun h=>domL_eq (domL_none (bP_not.1 h))
  have i1:=intsE_c (finL c [n]) (some (finL c [n]).length) (by omega)
  have i2:=intsE_c (foutL c [n]) (some (foutL c [n]).length) (by omega)
  have lL : (finL c (fL c.n.length (ptB c))).length ≤ c.n.length:=fL_len _ _
  rw [← hseen] at c5 hdom
  obtain ⟨A,hA⟩ : ∃ A,finL c [n] = A:=⟨_,rfl⟩
  obtain ⟨D,hD⟩ : ∃ D,foutL c [n] = D:=⟨_,rfl⟩
  obtain ⟨Pt,hP⟩ : ∃ P,fL c.n.length (ptB c) = P:=⟨_,rfl⟩
  rw [hP] at lP f5 f6 hseen c5 hdom lL
  obtain ⟨F,hF⟩ : ∃ F,finL c Pt = F:=⟨_,rfl⟩
  obtain ⟨Dm,hDm⟩ : ∃ F,domL c n = F:=⟨_,rfl⟩
  obtain ⟨N,hNn⟩ : ∃ N,c.n.length = N:=⟨_,rfl⟩
  have hu:=u8i hz
  simp only [okV,hA,hD,hF,hDm,hNn,ntI] at f1 f2 f3 f4 f5 f6 c4 c5 i1 i2 hdom hn hnN hN lL
  refine PureC.of_W 2 ok9 rfl ?_
  simp [i9,x9,cx_agg]
  intro gf1
  refine CallO.pure hof (cx_pureL x) ?_
  have hmod:=modN hn
  simp [u8V,hu,hNn,hmod,show ¬ N = 0 by omega]
  intro gf2 gf3
  generalize gf2 5 = g5
  refine CallO.frzB 32 (by simp; exact ⟨rfl,rfl,rfl⟩) (by simp) ?_
  simp [fzV,V.mapR,V.mapRL,fzp,fzf,fzH,Blk.fz,mapR_pure _ (ci_pure c),mapRL_pure,natsV_pure]
  refine CallO.pure f1 (by simp) ?_
  simp
  refine CallO.pure f2 (by simp [natsV_pure]) ?_
  simp
  intro gf4
  refine CallO.frzB 45 (by simp; exact ⟨rfl,rfl,rfl⟩) (by simp) ?_
  simp [fzV,V.mapR,V.mapRL,fzp,fzf,fzH,Blk.fz,mapR_pure _ (ci_pure c),mapRL_pure,natsV_pure]
  refine CallO.pure f3 (by simp) ?_
  simp
  refine CallO.pure f4 (by simp [natsV_pure]) ?_
  simp
  intro gm
  first | refine ⟨_,_,_,.pure f5 (by simp),?_⟩ | refine ⟨_,⟨_,_,.pure f5 (by simp)⟩,?_⟩ | refine ⟨_,_,⟨_,.pure f5 (by simp)⟩,?_⟩
  simp
  first | refine ⟨_,_,_,.pure f6 (by simp [natsV_pure]),?_⟩ | refine ⟨_,⟨_,_,.pure f6 (by simp [natsV_pure])⟩,?_⟩ | refine ⟨_,_,⟨_,.pure f6 (by simp [natsV_pure])⟩,?_⟩
  simp
  refine ⟨rfl,?_⟩
  refine CallO.pure i1 (by simp [natsV_pure]) ?_
  simp
  refine CallO.pure i2 (by simp [natsV_pure]) ?_
  simp
  refine LoopP.of (X:=Nat) (fun k=>[(18,natV k),(17,.bool (decide (n ∈ F.take k))),(15,.sl (natsV F) (some F.length)),(6,natV n),(5,.ptr 5 g5 0 0)]) (fun _=>[(5,.row g5 4 [c.v])]) (fun k=>k ≤ F.length) (fun k=>F.length - k) 0 (by simp) (by simp [natV]) (by simp; try rfl) ?_
  intro k h2
  simp [natV]
  refine BrB.of (fun hb3=>?_) (fun hb3=>?_)
  · have hk : k < F.length:=of_decide_eq_true hb3
    have hwk:=wrapN k (by omega)
    obtain ⟨y,hy⟩ : ∃ y,F[k] = y:=⟨_,rfl⟩
    have htk : F.take (k + 1) = F.take k ++ [y]:=by rw [List.take_succ_eq_append_getElem hk,hy]
    by_cases hT : n ∈ F.take k
    all_goals
      simp [hk,natsV_get,hy,natV,hwk,hT]
      refine ⟨k + 1,hk,⟨by simp,?_⟩,by omega⟩
      simp [htk,hT,eq_comm]
  · have hk : k = F.length:=by have:=of_decide_eq_false hb3; omega
    subst k
    rw [List.take_length]
    simp
    refine CallO.pure c4 (by simp) ?_
    simp
    refine CallO.pure c5 (by simp) ?_
    simp
    by_cases hT : n ∈ F
    · simp [hT]
      refine CallO.pure lives_c (by simp) ?_
      simp
    · have hDm0 : Dm = []:=hdom (by simp [hT])
      simp [hT,hDm0]
      refine CallO.pure lives_c (by simp) ?_
      simp
end Go.Proofs.YtcmapbecfpcnfaaDoor
