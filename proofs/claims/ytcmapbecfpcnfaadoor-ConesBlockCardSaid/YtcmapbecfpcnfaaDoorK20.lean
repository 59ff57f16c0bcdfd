/- Cones: the law Meets. Conditions: none. -/
import Derived.Test.YtcmapbecfpcnfaaDoorK18
import Derived.Test.YtcmapbecfpcnfaaDoorXL8
set_option linter.unusedSimpArgs false
set_option linter.unusedVariables false
namespace Go.Proofs.YtcmapbecfpcnfaaDoor
open Go
theorem foldl_max {b : Nat} : ∀ (l : List Nat) (a : Nat),l.foldl max a ≤ b↔a ≤ b∧∀ x ∈ l,x ≤ b
  | [],a=>by simp
  | y :: l,a=>by
    rw [List.foldl_cons,foldl_max l (max a y)]
    simp only [List.mem_cons,forall_eq_or_imp]
    constructor
    · rintro ⟨h1,h2⟩; exact ⟨by omega,by omega,h2⟩
    · rintro ⟨h1,h2,h3⟩; exact ⟨by omega,h3⟩
noncomputable def mostN (c : Ci) (n : Nat) (l : List Nat) : Nat:=(l.map (wy c n)).foldl max 1
theorem mostN_snoc (c : Ci) (n : Nat) (l : List Nat) (x : Nat) : mostN c n (l ++ [x]) = max (mostN c n l) (wy c n x):=by simp [mostN]
theorem mostN_ge (c : Ci) (n : Nat) (l : List Nat) : 1 ≤ mostN c n l:=((foldl_max _ _).1 (Nat.le_refl _)).1
theorem most_one {c : Ci} (hv : c.val) (ha : acyc c) {n : Nat} (hn : n < c.n.length) {l : List Nat} (hm : ∀ x,x ∈ l↔x < c.n.length) : mostN c n l = 1↔fL c.n.length (meetB c n) = []:=by
  have hd:=ci_dag hv ha
  have h1 : mostN c n l = 1↔∀ x,x < c.n.length→wy c n x ≤ 1:=by
    have h2:=mostN_ge c n l
    have h3 : mostN c n l ≤ 1↔_:=foldl_max (b:=1) (l.map (wy c n)) 1
    constructor
    · intro h x hx
      exact (h3.1 (by omega)).2 _ (List.mem_map_of_mem ((hm x).2 hx))
    · intro h
      have:=h3.2 ⟨Nat.le_refl _,fun y hy=>by
        obtain ⟨x,hx,rfl⟩:=List.mem_map.1 hy
        exact h x ((hm x).1 hx)⟩
      omega
  have hout : ∀ i,¬ i < c.n.length→c.g i = []:=fun i hi=>by
    cases hg : c.g i with
    | nil=>rfl
    | cons a l=>exact absurd (hd.b i a (by rw [hg]; simp)).2 hi
  have h4 : (∀ x,x < c.n.length→wy c n x ≤ 1)↔∀ x,wy c n x ≤ 1:=⟨fun h x=>by
    by_cases hx : x < c.n.length
    · exact h x hx
    · rw [wy_eq hd,hout x hx]
      split <;> simp,fun h x _=>h x⟩
  rw [h1,h4,← meet_ways hd n]
  constructor
  · intro h
    refine List.filter_eq_nil_iff.2 fun x _=>?_
    have:=h x
    unfold meetB onB
    simp only [decide_eq_true_eq]; omega
  · intro h i
    by_cases hi : i < c.n.length
    · refine Nat.le_of_not_lt fun q=>?_
      have : i ∈ fL c.n.length (meetB c n):=fL_mem.2 ⟨hi,by unfold meetB; exact decide_eq_true q⟩
      rw [h] at this; simp at this
    · unfold pinC; rw [hout i hi]; simp
noncomputable def wT (c : Ci) (n : Nat) (l : List Nat) (x : Nat) : Nat:=if x ∈ l then wy c n x else if x = n then 1 else 0
noncomputable def wS (c : Ci) (n i j : Nat) : Nat:=(if i = n then 1 else 0) + (((c.g i).take j).map (wy c n)).sum
theorem wS_0 (c : Ci) (n i : Nat) {l : List Nat} (hi : i ∉ l) : upd1 (wT c n l) i (wS c n i 0) = wT c n l:=by
  funext x
  show (if x = i then _ else _) = _
  by_cases e : x = i
  · subst e; simp [wT,hi,wS]
  · rw [if_neg e]
theorem wS_end {c : Ci} (hd : Dag c.g c.n.length (lvOf c)) (n i : Nat) {l : List Nat} : upd1 (wT c n l) i (wS c n i (c.g i).length) = wT c n (l ++ [i]):=by
  funext x
  show (if x = i then _ else _) = _
  by_cases e : x = i
  · subst e; rw [if_pos rfl]; unfold wS wT; rw [List.take_length,← wy_eq hd]; simp
  · rw [if_neg e]; unfold wT; simp [e]
theorem wS_step (c : Ci) (n i : Nat) {j w : Nat} (hj : j < (c.g i).length) (hw : (c.g i)[j] = w) : wS c n i (j + 1) = wS c n i j + wy c n w:=by
  unfold wS
  rw [List.take_succ_eq_append_getElem hj,hw]
  simp; omega
theorem sum_take_le (f : Nat→Nat) : ∀ (l : List Nat) (j : Nat),((l.take j).map f).sum ≤ (l.map f).sum
  | [],j=>by simp
  | a :: l,0=>by simp
  | a :: l,j + 1=>by
    have:=sum_take_le f l j
    simp only [List.take_succ_cons,List.map_cons,List.sum_cons]; omega
theorem wS_le {c : Ci} (hd : Dag c.g c.n.length (lvOf c)) (hl : ∀ i,(c.g i).length ≤ 16) (n i j : Nat) (hb : lvOf c i < 16) : wS c n i j ≤ 16 ^ 15:=by
  have h1:=wy_le hd hl n _ i (Nat.lt_succ_self _)
  rw [wy_eq hd] at h1
  have h2:=sum_take_le (wy c n) (c.g i) j
  have h3 : 16 ^ lvOf c i ≤ 16 ^ 15:=Nat.pow_le_pow_right (by omega) (by omega)
  unfold wS; omega
set_option maxRecDepth 100000 in
set_option maxHeartbeats 8000000 in
theorem lawMeet_c (x : Cx) (hx : x.ok) (z : Nat) (hz : z < 256) : PureC Tryd.prog gl0 8 [x.v,u8V z] (.bool true):=by
  have hof:=cof_c x hx
  have hpx:=cx_pure x
  have hf:=ci_fit x
  have hN:=ci_n x
  generalize x.ci = c at hof hf hN
  obtain ⟨hv,ha⟩:=ck_val hf.wf hf.ck
  have hd:=ci_dag hv ha
  have hgl:=fun i=>g_len hv i
  obtain ⟨n,hn⟩ : ∃ n,z % c.n.length = n:=⟨_,rfl⟩
  have hnN : n < c.n.length:=by rw [← hn]; exact Nat.mod_lt _ (by omega)
  have c1:=meets_c c hf.wf hf.ck n hnN
  have c2:=rorder_c c hv ha (by omega) (by omega) (ordL c) ⟨ordL_len hv ha,fun x hx=>(ordL_mem hv ha).1 hx⟩ (ordL_pw c)
  have c3:=rmeets_c c hf n hnN
  have c4:=lset_c c.n.length (by omega) (meetB c n) (some c.n.length)
  have i1:=intsE_c (fL c.n.length (meetB c n)) none (by have:=fL_len c.n.length (meetB c n); omega)
  have hone:=most_one hv ha hnN (l:=ordL c) (fun x=>ordL_mem hv ha)
  have hlv : ∀ x,x < c.n.length→lvOf c x < 16:=fun x hx=>by have:=ha.lv.lt hv.g x hx; omega
  have hLl:=ordL_len hv ha
  have hLm : ∀ x,x ∈ ordL c↔x < c.n.length:=fun x=>ordL_mem hv ha
  have hLp:=ordL_pw c
  have hgb : ∀ k y,y ∈ c.g k→y < c.n.length:=fun k y hy=>(hd.b k y hy).1
  have hnd:=lex_nodup hLp
  obtain ⟨N,hNn⟩ : ∃ N,c.n.length = N:=⟨_,rfl⟩
  obtain ⟨L,hL⟩ : ∃ L,ordL c = L:=⟨_,rfl⟩
  simp only [okV] at c1
  have hu:=u8i hz
  simp only [hL,hNn] at c1 c2 c3 c4 i1 hn hnN hN hone hlv hLl hLm hLp hgb hnd
  refine PureC.of_W 2 ok8 rfl ?_
  simp [i8,x8,cx_agg]
  intro gf1
  refine CallO.pure hof (cx_pureL x) ?_
  have hmod:=modN hn
  simp [u8V,hu,hNn,hmod,show ¬ N = 0 by omega]
  intro gf2
  generalize gf2 5 = g5
  refine CallO.pure c1 (by simp) ?_
  simp
  refine CallO.pure c2 (by simp) ?_
  have hz0 : (List.replicate N (V.int .i64 0)).set n (.int .i64 1) = tab N fun x=>natV (wT c n [] x):=by
    have : List.replicate N (V.int .i64 0) = tab N fun _=>V.int .i64 0:=by
      refine List.ext_getElem (by simp [tab]) fun i h1 h2=>?_
      rw [tab_get,List.getElem_replicate]
    rw [this,tab_set]
    refine tab_congr fun j hj=>?_
    show (if j = n then _ else _) = _
    by_cases e : j = n <;> simp [e,wT,natV]
  simp [hNn,show N ≤ 549755813888 by omega,hnN,hz0]
  intro gf3
  generalize gf3 34 = g34
  have htl : ∀ f : Nat→V,(tab N f).length = N:=fun f=>by simp [tab]
  refine LoopP.of (X:=Nat) (fun t=>[(12,natV t),(11,natV (mostN c n (L.take t))),(10,.ref 34 g34 0 N (some N)),(9,.sl (natsV L) none),(7,.sl (natsV (fL N (meetB c n))) (some (fL N (meetB c n)).length)),(8,natV 0),(6,natV n),(5,.ptr 5 g5 0 0)])
    (fun t=>[(34,.row g34 1 (tab N fun x=>natV (wT c n (L.take t) x))),(5,.row g5 4 [c.v])]) (fun t=>t ≤ N) (fun t=>N - t) 0 (by simp) (by simp [natV,mostN]) (by simp; try rfl) ?_
  intro t h1
  simp [natV,hLl]
  refine BrB.of (fun hb=>?_) (fun hb=>?_)
  · have ht : t < N:=of_decide_eq_true hb
    have hw:=wrapN t (by omega)
    obtain ⟨i,hi⟩ : ∃ i,L[t]'(by omega) = i:=⟨_,rfl⟩
    have hiN : i < N:=(hLm i).1 (by rw [← hi]; exact List.getElem_mem _)
    obtain ⟨y,hy⟩ : ∃ y,c.n[i] = y:=⟨_,rfl⟩
    have hnd2 : c.nd i = y:=by rw [c.nd_get (by omega),hy]
    have htk : L.take (t + 1) = L.take t ++ [i]:=by rw [List.take_succ_eq_append_getElem (by omega),hi]
    have hni : i ∉ L.take t:=fun q=>by
      obtain ⟨k,hk,e⟩:=List.getElem_of_mem q
      have hk2 : k < t:=by simp at hk; omega
      rw [List.getElem_take] at e
      have:=(List.getElem_inj hnd (h₀:=by omega) (h₁:=by omega)).1 (e.trans hi.symm)
      omega
    have hsrc : ∀ w ∈ c.g i,w ∈ L.take t:=fun w hw=>by
      have h3:=hd.lt i w hw
      obtain ⟨k,hk,e⟩:=List.getElem_of_mem ((hLm w).2 (hgb i w hw))
      have hkt : k < t:=by
        refine Nat.lt_of_not_le fun q=>?_
        rcases Nat.lt_or_eq_of_le q with q | q
        · have:=List.pairwise_iff_getElem.1 hLp t k (by omega) hk q
          rw [hi,e] at this
          rcases this with h | ⟨h,-⟩ <;> omega
        · subst q; rw [hi] at e; rw [e] at h3; omega
      rw [← e]
      exact List.mem_take_iff_getElem.2 ⟨k,by omega,rfl⟩
    have hgc : combB y.k = true→c.g i = y.i.map Int.toNat:=fun h=>by unfold Ci.g; rw [hnd2,if_pos h]
    have hgn : combB y.k = false→c.g i = []:=fun h=>by unfold Ci.g; rw [hnd2,if_neg (by simp [h])]
    have hyi:=hv.i i (by omega)
    have hyl:=hv.l i (by omega)
    rw [hnd2] at hyi hyl
    simp [ht,hLl,natsV_get,hi,hiN,hNn,hy]
    intro gm
    refine ⟨rfl,?_⟩
    generalize gm 13 = g13
    refine LoopP.of (X:=Nat) (fun j=>[(14,natV j),(13,.ptr 13 g13 0 0),(12,natV t),(11,natV (mostN c n (L.take t))),(10,.ref 34 g34 0 N (some N)),(9,.sl (natsV L) none),(7,.sl (natsV (fL N (meetB c n))) (some (fL N (meetB c n)).length)),(8,natV 0),(6,natV n),(5,.ptr 5 g5 0 0)])
      (fun j=>[(34,.row g34 1 (tab N fun x=>natV (upd1 (wT c n (L.take t)) i (wS c n i j) x))),(13,.row g13 4 [y.v]),(5,.row g5 4 [c.v])]) (fun j=>j ≤ (c.g i).length) (fun j=>(c.g i).length - j) 0 (by simp) (by simp [natV]) (by simp [wS_0 c n i hni,natV]; try rfl) ?_
    intro j h2
    simp [natV,Nd.v]
    have hend : j = (c.g i).length→upd1 (wT c n (L.take t)) i (wS c n i j) = wT c n (L.take (t + 1)):=fun e=>by rw [e,htk]; exact wS_end hd n i
    have hwi : wT c n (L.take (t + 1)) i = wy c n i:=by unfold wT; rw [htk]; simp
    obtain ⟨mx,hmx⟩ : ∃ mx,mostN c n (L.take (t + 1)) = mx:=⟨_,rfl⟩
    have hmx2 : max (mostN c n (L.take t) : Int) (wy c n i : Int) = (mx : Int):=by rw [← hmx,htk,mostN_snoc]; omega
    refine BrB.of (fun hb2=>?a1) (fun hb2=>?a2)
    case' a1=>
      have hj1 : j < y.i.length:=of_decide_eq_true hb2
      simp [hb2]
      refine CallO.pure (rcomb2_c y.k) (by simp) ?_
      simp
      refine BrB.of (fun hcb=>?a3) (fun hcb=>?a4)
    case' a3=>
      have hgi:=hgc hcb
      have hj : j < (c.g i).length:=by rw [hgi,List.length_map]; exact hj1
      have hwj:=wrapN j (by omega)
      obtain ⟨w,hwe⟩ : ∃ w,(c.g i)[j] = w:=⟨_,rfl⟩
      have hwm : w ∈ c.g i:=by rw [← hwe]; exact List.getElem_mem hj
      have hwN:=hgb i w hwm
      have hwi2 : w ≠ i:=fun e=>by have:=hd.lt i w hwm; rw [e] at this; omega
      have hyw : y.i[j] = (w : Int):=by
        have h3:=hyi _ (List.getElem_mem hj1)
        have h4 : (y.i.map Int.toNat)[j]'(by simpa using hj1) = w:=by rw [← hwe]; simp only [hgi]
        rw [List.getElem_map] at h4
        omega
      have hT : upd1 (wT c n (L.take t)) i (wS c n i j) w = wy c n w:=by
        rw [upd1_off _ _ hwi2]; unfold wT; rw [if_pos (hsrc w hwm)]
      have hT0 : upd1 (wT c n (L.take t)) i (wS c n i j) i = wS c n i j:=upd1_at _ _ _
      have hst:=wS_step c n i hj hwe
      have hle:=wS_le hd hgl n i (j + 1) (hlv i hiN)
      have hset : ∀ v : Nat,(tab N fun x=>V.int .i64 ((upd1 (wT c n (L.take t)) i (wS c n i j) x : Nat) : Int)).set i (.int .i64 (v : Int)) = tab N fun x=>V.int .i64 ((upd1 (wT c n (L.take t)) i v x : Nat) : Int):=fun v=>by
        rw [tab_set]
        refine tab_congr fun k hk=>?_
        show (if k = i then _ else _) = _
        by_cases e : k = i
        · subst e; rw [if_pos rfl,upd1_at]
        · rw [if_neg e]
          show V.int .i64 ((upd1 _ i _ k : Nat) : Int) = _
          rw [upd1_off _ _ e,upd1_off _ _ e]
      have hwr : IntKind.i64.wrap ((wS c n i j : Int) + (wy c n w : Int)) = (wS c n i (j + 1) : Int):=by rw [wrap_i64] <;> omega
      simp [htl,ht,hLl,natsV_get,hi,hiN,hj1,ints_getE,hyw,hwN,tab_get,hT,hT0,natV,hwr,hset,hwj]
      exact ⟨j + 1,hj,by simp,rfl,by omega⟩
    case' a4=>
      have hje : j = (c.g i).length:=by
        have h3:=hgn hcb
        rw [h3] at h2 ⊢; simp at h2 ⊢; exact h2
    case' a2=>
      have hje : j = (c.g i).length:=by
        have h3 : ¬ j < y.i.length:=of_decide_eq_false hb2
        by_cases hcb : combB y.k = true
        · have h4:=hgc hcb
          rw [h4,List.length_map] at h2 ⊢; omega
        · have h4:=hgn (by simpa using hcb)
          rw [h4] at h2 ⊢; simp at h2 ⊢; exact h2
      simp [hb2]
    all_goals
      rw [hend hje]
      simp [htl,ht,hLl,natsV_get,hi,hiN,tab_get,hwi,hmx2,hw]
      exact ⟨t + 1,ht,⟨by simp,by rw [hmx]⟩,rfl,by omega⟩
  · have ht : t = N:=by have:=of_decide_eq_false hb; omega
    subst t
    rw [show L.take N = L from List.take_of_length_le (by omega)]
    simp
    refine CallO.pure c3 (by simp) ?_
    simp
    refine CallO.pure c4 (by simp [boolsV_pure]) ?_
    simp
    refine CallO.pure i1 (by simp [natsV_pure]) ?_
    by_cases hF : fL N (meetB c n) = []
    · have h1:=hone.2 hF
      simp [hF,h1]
      refine CallO.pure lives_c (by simp) ?_
      simp
    · have h1 : ¬ mostN c n L = 1:=fun q=>hF (hone.1 q)
      simp [hF,h1]
      refine CallO.pure lives_c (by simp) ?_
      simp
end Go.Proofs.YtcmapbecfpcnfaaDoor
