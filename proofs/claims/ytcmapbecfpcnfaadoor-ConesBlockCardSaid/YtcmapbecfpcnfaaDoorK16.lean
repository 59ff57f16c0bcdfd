/- Cones: the contracts of the reference: Seen, Dominators, Stem, Meets; the law's set. Conditions: none. -/
import Derived.Test.YtcmapbecfpcnfaaDoorK13
set_option linter.unusedSimpArgs false
set_option linter.unusedVariables false
namespace Go.Proofs.YtcmapbecfpcnfaaDoor
open Go
structure Ci.fit (c : Ci) : Prop where
  wf : c.wf
  ck : chkE c = 0
  n : c.n.length ≤ 20
  l : c.lens
  o : (obsL c).length ≤ 1000000000
theorem lset_c (n : Nat) (hn : n < 1000000) (D : Nat→Bool) (cap : Option Nat) : PureC Tryd.prog gl0 27 [.sl (boolsV n D) cap] (.sl (natsV (fL n D)) none):=by
  have key : PureC Tryd.prog gl0 27 [.sl (boolsV n D) cap] (listV (natsV (fL n D))):=by
    refine PureC.of_W 1 ok27 rfl ?_
    simp [i27,x27]
    refine LoopP.of (X:=AcSt) (fun z=>[(4,natV z.i),(0,.sl (boolsV n D) cap),(3,accV 18 z.a)]) (fun z=>accH 18 1 z.a)
      (fun z=>z.i ≤ n∧(z.a = none∨accL z.a ≠ [])∧accL z.a = natsV (fL z.i D)) (fun z=>n - z.i) ⟨0,none⟩ ⟨by simp,by simp,by simp [accL,fL,natsV]⟩ (by simp [natV,accV]) (by simp [accH]) ?_
    rintro ⟨i,acc⟩ ⟨h1,q2,q3⟩
    dsimp only at h1 q2 q3 ⊢
    simp [natV]
    have hll : (accL acc).length ≤ i:=by rw [q3,natsV_length]; exact fL_len i D
    refine BrB.of (fun hb=>?_) (fun hb=>?_)
    · have hi : i < n:=of_decide_eq_true hb
      have hw:=wrapN i (by omega)
      have hs:=fL_succ i D
      cases hD : D i with
      | false=>
        simp [hD] at hs
        skip
        simp [hi,boolsV_get,hD,hw]
        exact ⟨⟨i + 1,acc⟩,⟨hi,q2,by dsimp only; rw [hs]; exact q3⟩,by simp,by cases acc <;> simp [accH],by dsimp only; omega⟩
      | true=>
        simp [hD] at hs
        skip
        have hn2 : natsV (fL (i + 1) D) = natsV (fL i D) ++ [.int .i64 (i : Int)]:=by rw [hs]; simp [natsV,natV]
        cases acc with
        | none=>
          simp only [accL] at q3
          simp [accV,accH,hi,boolsV_get,hD,hw]
          refine fun gf5 gf6=>⟨⟨i + 1,some (gf6 18,[.int .i64 i])⟩,⟨hi,by simp [accL],by dsimp only; rw [hn2,← q3]; rfl⟩,by simp,by simp,by dsimp only; omega⟩
        | some gl=>
          obtain ⟨g,l⟩:=gl
          simp only [accL] at q3 hll
          have hle : l.length + 1 ≤ 274877906944:=by omega
          simp [accV,accH,hi,boolsV_get,hD,hw,hle]
          refine fun gf5 gf6=>⟨⟨i + 1,some (gf6 18,l ++ [.int .i64 i])⟩,⟨hi,by simp [accL],by dsimp only [accL]; rw [hn2,← q3]⟩,by simp,by simp,by dsimp only; omega⟩
    · have hi : i = n:=by have:=of_decide_eq_false hb; omega
      subst hi
      cases acc with
      | none=>
        simp only [accL] at q3
        rw [← q3]
        simp [accV,listV]
      | some gl=>
        obtain ⟨g,l⟩:=gl
        simp only [accL] at q3
        subst q3
        simp [accV,accH,map_frz_pure (natsV_pure _)]
        rw [List.take_of_length_le (by simp)]
        cases hf : fL i D with
        | nil=>rw [hf] at q2; simp [accL,natsV] at q2
        | cons x l=>rfl
  refine PureC.wide key (AllLe.refl _) ?_
  cases fL n D with
  | nil=>exact .nil'
  | cons x l=>exact .refl _
theorem seen_c (c : Ci) (hf : c.fit) (a : Nat) (hn : a < c.n.length) (nt : Option Nat) : PureC Tryd.prog gl0 32 [c.v,natV a,.int .i64 (ntI nt)] (.bool (bP (Sn c.g (Pp c) nt a))):=by
  obtain ⟨hv,ha⟩:=ck_val hf.wf hf.ck
  have hN:=hf.n
  have hr:=reach_c c hv ha (by omega) a hn nt
  have hp:=rpoints_c c hf.l hf.o
  obtain ⟨q,hq⟩ : ∃ q,bP (Sn c.g (Pp c) nt a) = q:=⟨_,rfl⟩
  have hq2 : q = bP (∃ i,i < c.n.length∧bP (Rn c.g nt a i) = true∧ptB c i = true):=by
    rw [← hq]
    refine bP_congr ⟨fun h=>?_,fun ⟨i,h1,h2,h3⟩=>sn_rn.2 ⟨i,h3,bP_iff.1 h2⟩⟩
    obtain ⟨p,h1,h2⟩:=sn_rn.1 h
    exact ⟨p,h2.lt (ci_dag hv ha) hn,bP_iff.2 h2,h1⟩
  rw [hq]
  clear hq
  obtain ⟨R,hR0⟩ : ∃ R : Nat→Bool,(fun j=>bP (Rn c.g nt a j)) = R:=⟨_,rfl⟩
  have hRi : ∀ i,bP (Rn c.g nt a i) = R i:=fun i=>congrFun hR0 i
  rw [hR0] at hr
  simp only [hRi] at hq2
  obtain ⟨N,hNn⟩ : ∃ N,c.n.length = N:=⟨_,rfl⟩
  obtain ⟨NT,hNT⟩ : ∃ x,ntI nt = x:=⟨_,rfl⟩
  simp only [hNn,hNT] at hr hp hq2 hN ⊢
  refine PureC.of_W 1 ok32 rfl ?_
  simp [i32,x32,natV]
  intro gf1
  refine CallO.pure hr (by simp [natV]) ?_
  simp
  refine CallO.pure hp (by simp) ?_
  simp
  refine LoopP.of (X:=Nat) (fun i=>[(9,natV i),(8,.sl (boolsV N (ptB c)) (some N)),(7,.sl (boolsV N R) (some N))]) (fun _=>[]) (fun i=>i ≤ N∧∀ j,j < i→¬ (R j = true∧ptB c j = true)) (fun i=>N - i) 0 ⟨by simp,by simp⟩ (by simp [natV]) (by simp) ?_
  rintro i ⟨h1,h2⟩
  simp [natV]
  refine BrB.of (fun hb=>?_) (fun hb=>?_)
  · have hi : i < N:=of_decide_eq_true hb
    have hw:=wrapN i (by omega)
    have hno : ¬ (R i = true∧ptB c i = true)→∀ j,j < i + 1→¬ (R j = true∧ptB c j = true):=fun h j hj=>by
      by_cases e : j = i
      · rw [e]; exact h
      · exact h2 j (by omega)
    simp [hi,boolsV_get]
    cases hR : R i with
    | false=>
      simp [hw]
      exact ⟨i + 1,⟨hi,fun j hj=>by simpa using hno (by simp [hR]) j hj⟩,by simp,by omega⟩
    | true=>
      simp [hi,boolsV_get]
      cases hP : ptB c i with
      | false=>
        simp [hw]
        exact ⟨i + 1,⟨hi,fun j hj=>by simpa using hno (by simp [hP]) j hj⟩,by simp,by omega⟩
      | true=>
        have : q = true:=by rw [hq2]; exact bP_iff.2 ⟨i,hi,hR,hP⟩
        simp [this]
  · have hi : i = N:=by have:=of_decide_eq_false hb; omega
    subst i
    have : q = false:=by
      rw [hq2]
      exact bP_not.2 fun ⟨i,q1,q2,q3⟩=>h2 i q1 ⟨q2,q3⟩
    simp [this]
noncomputable def dmB (c : Ci) (n i : Nat) : Bool:=bP (Dm c.g (Pp c) n i)
theorem rdom_c (c : Ci) (hf : c.fit) (n : Nat) (hn : n < c.n.length) : PureC Tryd.prog gl0 30 [c.v,natV n] (.sl (boolsV c.n.length (dmB c n)) (some c.n.length)):=by
  have hN:=hf.n
  have hs:=fun nt=>seen_c c hf n hn nt
  have hs0:=hs none
  have hs1:=fun i : Nat=>hs (some i)
  obtain ⟨q,hq⟩ : ∃ q,bP (Sn c.g (Pp c) none n) = q:=⟨_,rfl⟩
  obtain ⟨S,hS⟩ : ∃ S : Nat→Bool,(fun i=>bP (Sn c.g (Pp c) (some i) n)) = S:=⟨_,rfl⟩
  have hSi : ∀ i,bP (Sn c.g (Pp c) (some i) n) = S i:=fun i=>congrFun hS i
  simp only [hq] at hs0
  simp only [hSi,ntI,natV] at hs1 hs0
  have hdm : ∀ i,dmB c n i = (!decide (i = n) && q && !S i):=fun i=>by
    unfold dmB
    rw [Bool.eq_iff_iff,bP_iff,← hSi,← hq]
    simp only [Bool.and_eq_true,Bool.not_eq_true',decide_eq_false_iff_not,bP_iff,bP_not,Dm,and_assoc]
  obtain ⟨N,hNn⟩ : ∃ N,c.n.length = N:=⟨_,rfl⟩
  clear hs hS hSi
  simp only [hNn] at hn hN ⊢
  refine PureC.of_W 1 ok30 rfl ?_
  simp [i30,x30,natV,hNn,show N ≤ 549755813888 by omega,boolsV_rep]
  intro gf1 gf2
  generalize gf1 2 = g2
  generalize gf2 10 = g10
  refine LoopP.of (X:=Nat) (fun i=>[(6,natV i),(5,.ref 10 g10 0 N (some N)),(2,.ptr 2 g2 0 0),(1,natV n)]) (fun i=>[(10,.row g10 1 (boolsV N fun j=>decide (j < i) && dmB c n j)),(2,.row g2 4 [c.v])]) (fun i=>i ≤ N) (fun i=>N - i) 0 (by simp) (by simp [natV]) (by simp) ?_
  intro i h1
  simp [natV,hNn]
  refine BrB.of (fun hb=>?_) (fun hb=>?_)
  · have hi : i < N:=of_decide_eq_true hb
    have hw:=wrapN i (by omega)
    have hend : ∀ b,b = dmB c n i→∃ x',x' ≤ N∧(i : Int) + 1 = (x' : Int)∧boolsV N (upd1 (fun j=>decide (j < i) && dmB c n j) i b) = boolsV N (fun j=>decide (j < x') && dmB c n j)∧N - x' < N - i:=fun b hbe=>⟨i + 1,hi,by simp,boolsV_congr fun j hj=>by
      show (if j = i then b else _) = _
      by_cases e : j = i
      · subst e; simp [hbe]
      · have e2 : (j < i + 1)↔(j < i):=by omega
        simp [e,e2],by omega⟩
    have hdi:=hdm i
    simp [hi]
    refine BrB.of (fun hb2=>?_) (fun hb2=>?_)
    · have e : i = n:=of_decide_eq_true hb2
      simp [hb2,hi,boolsV_get,boolsV_set,hw]
      exact hend false (by rw [hdi]; simp [e])
    · have e : ¬ i = n:=of_decide_eq_false hb2
      simp [hb2]
      refine CallO.pure hs0 (by simp) ?_
      simp
      cases q with
      | false=>
        simp [hi,boolsV_get,boolsV_set,hw]
        exact hend false (by rw [hdi]; simp)
      | true=>
        simp
        refine CallO.pure (hs1 i) (by simp) ?_
        simp [hi,boolsV_get,boolsV_set,hw]
        exact hend _ (by rw [hdi]; simp [e])
  · have hi : i = N:=by have:=of_decide_eq_false hb; omega
    subst i
    simp [map_frz_pure (boolsV_pure _ _)]
    rw [List.take_of_length_le (by simp)]
    exact boolsV_congr fun j hj=>by simp [hj]
end Go.Proofs.YtcmapbecfpcnfaaDoor
namespace Go.Proofs.YtcmapbecfpcnfaaDoor
open Go
def allB : Nat→Bool:=fun _=>true
theorem all_count {l : List Nat} {N : Nat} (h : ∀ x ∈ l,x < N) : sumC allB (fun j=>l.count j) N = l.length:=by
  rw [sumC_count allB N l h]
  exact List.countP_eq_length.2 fun _ _=>rfl
def LastR (l : List Nat) (i : Nat) : Option Nat→Prop
  | none=>∀ j,j < i→l.count j = 0
  | some r=>r < i∧0 < l.count r
structure RsSt where
  i : Nat
  r : Option Nat
set_option maxHeartbeats 4000000 in
theorem rstem_c (c : Ci) (hf : c.fit) : ∀ (k n : Nat),c.n.length - lvOf c n < k→n < c.n.length→PureC Tryd.prog gl0 31 [c.v,natV n] (natV (stemOf c n)):=by
  obtain ⟨hv,ha⟩:=ck_val hf.wf hf.ck
  have hd:=ci_dag hv ha
  have hN:=hf.n
  have hp:=rpoints_c c hf.l hf.o
  intro k
  induction k with
  | zero=>intro n h; omega
  | succ k ih=>
    intro n hk hn
    have hrd:=fun i (hi : i < c.n.length)=>readsV_c c hv i n hi
    have hcnt : ∀ i,i < c.n.length→(c.g i).count n = (rdL c n).count i:=fun i hi=>(rdL_count hv n hi).symm
    obtain ⟨S,hS⟩ : ∃ S,stemOf c n = S:=⟨_,rfl⟩
    rw [hS]
    obtain ⟨l,hl⟩ : ∃ l,rdL c n = l:=⟨_,rfl⟩
    have hlN : ∀ x ∈ l,x < c.n.length:=fun x hx=>rdL_lt (w:=n) (by rw [hl]; exact hx)
    have hll : l.length < 1000000000:=by rw [← hl]; exact rdL_len hv (by omega) n
    have hself : Pp c n∨l.length ≠ 1→S = n:=fun h=>by rw [← hS]; exact stem_eq (.self (by rw [hl]; exact h))
    have hnext : ∀ x,l = [x]→¬ Pp c n→PureC Tryd.prog gl0 31 [c.v,natV x] (natV S):=fun x hx hp=>by
      have hxg : n ∈ c.g x:=(rdL_mem hv).1 (by rw [hl,hx]; simp)
      have h1:=hd.lt _ _ hxg
      have h2:=(hd.b _ _ hxg).2
      have h3:=ha.lv.lt hv.g x h2
      have h4:=st_ex hv ha x h2
      have h5 : stemOf c n = stemOf c x:=stem_eq (.next hp (by rw [hl,hx]) h4)
      rw [← hS,h5]
      exact ih x (by omega) h2
    rw [hl] at hcnt
    obtain ⟨N,hNn⟩ : ∃ N,c.n.length = N:=⟨_,rfl⟩
    simp only [hNn] at hn hN hrd hcnt hlN hp
    have hsum : ∀ i,i ≤ N→sumC allB (fun j=>l.count j) i ≤ 1000000000 * 20:=fun i hi=>Nat.le_trans (sumC_le allB _ 1000000000 i fun j _=>Nat.le_trans List.count_le_length (by omega)) (by omega)
    have hlast:=all_count hlN
    refine PureC.of_W 1 ok31 rfl ?_
    simp [i31,x31,natV]
    intro gf1
    generalize gf1 2 = g2
    refine LoopP.of (X:=RsSt) (fun z=>[(7,natV z.i),(6,.int .i64 (optI z.r)),(5,natV (sumC allB (fun j=>l.count j) z.i)),(2,.ptr 2 g2 0 0),(1,natV n)]) (fun _=>[(2,.row g2 4 [c.v])]) (fun z=>z.i ≤ N∧LastR l z.i z.r) (fun z=>N - z.i) ⟨0,none⟩ ⟨by simp,fun j (hj : j < 0)=>by omega⟩ (by simp [natV,sumC,optI]) (by simp) ?_
    rintro ⟨i,r⟩ ⟨h1,h2⟩
    dsimp only at h1 h2 ⊢
    simp [natV,hNn]
    refine BrB.of (fun hb=>?_) (fun hb=>?_)
    · have hi : i < N:=of_decide_eq_true hb
      have hw:=wrapN i (by omega)
      have hri:=hrd i hi
      rw [hcnt i hi] at hri
      simp only [natV] at hri
      have hsu : sumC allB (fun j=>l.count j) (i + 1) = sumC allB (fun j=>l.count j) i + l.count i:=by simp [sumC,allB]
      have hs1:=hsum (i + 1) hi
      obtain ⟨s0,hs0⟩ : ∃ s,sumC allB (fun j=>l.count j) i = s:=⟨_,rfl⟩
      obtain ⟨s1,hs1'⟩ : ∃ s,sumC allB (fun j=>l.count j) (i + 1) = s:=⟨_,rfl⟩
      obtain ⟨u,hu⟩ : ∃ u,l.count i = u:=⟨_,rfl⟩
      rw [hs1'] at hs1 hsu
      rw [hs0,hu] at hsu
      rw [hu] at hri
      have ha1 : IntKind.i64.wrap ((s0 : Int) + (u : Int)) = (s1 : Int):=addN hsu.symm (by omega)
      simp
      refine CallO.pure hri (by simp) ?_
      simp [hs0,ha1]
      refine BrB.of (fun hb2=>?_) (fun hb2=>?_)
      · have hu0 : 0 < u:=by have:=of_decide_eq_true hb2; omega
        simp [hw]
        exact ⟨⟨i + 1,some i⟩,⟨hi,by show i < i + 1∧_; rw [hu]; exact ⟨by omega,hu0⟩⟩,by simp [optI,hs1'],by dsimp only; omega⟩
      · have hu0 : u = 0:=by have:=of_decide_eq_false hb2; omega
        simp [hw]
        refine ⟨⟨i + 1,r⟩,⟨hi,?_⟩,by simp [hs1'],by dsimp only; omega⟩
        show LastR l (i + 1) r
        cases r with
        | none=>
          intro j hj
          by_cases e : j = i
          · rw [e,hu]; exact hu0
          · exact h2 j (by omega)
        | some r=>exact ⟨by have:=h2.1; omega,h2.2⟩
    · have hi : i = N:=by have:=of_decide_eq_false hb; omega
      subst i
      simp [hlast]
      refine BrB.of (fun hb2=>?_) (fun hb2=>?_)
      · have hl1 : l.length = 1:=of_decide_eq_true hb2
        simp [hb2]
        refine CallO.pure hp (by simp) ?_
        simp [hn,boolsV_get]
        refine BrB.of (fun hb3=>?_) (fun hb3=>?_)
        · simp [hself (.inl hb3)]
        · obtain ⟨x,hx⟩:=List.length_eq_one_iff.1 hl1
          have hc:=hnext x hx (fun q=>by rw [q] at hb3; cases hb3)
          have hr : r = some x:=by
            cases r with
            | none=>
              have hxN:=hlN x (by rw [hx]; simp)
              have:=h2 x hxN
              rw [hx] at this; simp at this
            | some r=>
              have:=List.count_pos_iff.1 h2.2
              rw [hx] at this
              rw [List.mem_singleton.1 this]
          simp only [natV] at hc
          simp [hr,optI]
          refine CallO.pure hc (by simp) ?_
          simp
      · have hl1 : l.length ≠ 1:=of_decide_eq_false hb2
        simp [hb2,hself (.inr hl1)]
theorem stemR_c (c : Ci) (hf : c.fit) (n : Nat) (hn : n < c.n.length) : PureC Tryd.prog gl0 31 [c.v,natV n] (natV (stemOf c n)):=rstem_c c hf _ n (Nat.lt_succ_self _) hn
set_option maxHeartbeats 4000000 in
theorem rmeets_c (c : Ci) (hf : c.fit) (n : Nat) (hn : n < c.n.length) : PureC Tryd.prog gl0 35 [c.v,natV n] (.sl (boolsV c.n.length (meetB c n)) (some c.n.length)):=by
  obtain ⟨hv,ha⟩:=ck_val hf.wf hf.ck
  have hN:=hf.n
  have hre:=reach_c c hv ha (by omega) n hn none
  have hon : (fun j=>bP (Rn c.g none n j)) = onB c n:=funext fun j=>bP_congr rn_rch
  rw [hon] at hre
  simp only [ntI,natV] at hre
  have hrd:=fun i k (hi : i < c.n.length)=>readsV_c c hv i k hi
  have hle : ∀ i k,k ≤ c.n.length→sumC (onB c n) (fun j=>(c.g i).count j) k ≤ 20 * 16:=fun i k hk=>Nat.le_trans (sumC_le _ _ 16 k fun j _=>Nat.le_trans List.count_le_length (g_len hv i)) (Nat.mul_le_mul_right _ (by omega))
  have hend : ∀ i,i < c.n.length→sumC (onB c n) (fun j=>(c.g i).count j) c.n.length = pinC c (onB c n) i:=fun i hi=>sumC_count _ _ _ fun x hx=>hv.g i hi x hx
  obtain ⟨N,hNn⟩ : ∃ N,c.n.length = N:=⟨_,rfl⟩
  simp only [hNn] at hn hN hre hrd hle hend ⊢
  refine PureC.of_W 1 ok35 rfl ?_
  simp [i35,x35,natV]
  intro gf1
  generalize gf1 2 = g2
  refine CallO.pure hre (by simp) ?_
  simp [hNn,show N ≤ 549755813888 by omega,boolsV_rep]
  intro gf2
  generalize gf2 16 = g16
  refine LoopP.of (X:=Nat) (fun i=>[(7,natV i),(6,.ref 16 g16 0 N (some N)),(5,.sl (boolsV N (onB c n)) (some N)),(2,.ptr 2 g2 0 0)]) (fun i=>[(16,.row g16 1 (boolsV N fun j=>decide (j < i) && meetB c n j)),(2,.row g2 4 [c.v])]) (fun i=>i ≤ N) (fun i=>N - i) 0 (by simp) (by simp [natV]) (by simp) ?_
  intro i h1
  simp [natV,hNn]
  refine BrB.of (fun hb=>?_) (fun hb=>?_)
  · have hi : i < N:=of_decide_eq_true hb
    have hw:=wrapN i (by omega)
    simp
    refine LoopP.of (X:=Nat) (fun k=>[(9,natV k),(8,natV (sumC (onB c n) (fun j=>(c.g i).count j) k)),(7,natV i),(6,.ref 16 g16 0 N (some N)),(5,.sl (boolsV N (onB c n)) (some N)),(2,.ptr 2 g2 0 0)]) (fun _=>[(16,.row g16 1 (boolsV N fun j=>decide (j < i) && meetB c n j)),(2,.row g2 4 [c.v])]) (fun k=>k ≤ N) (fun k=>N - k) 0 (by simp) (by simp [natV,sumC]) (by simp) ?_
    intro k h2
    simp [natV]
    refine BrB.of (fun hb2=>?_) (fun hb2=>?_)
    · have hk : k < N:=of_decide_eq_true hb2
      have hwk:=wrapN k (by omega)
      have hsu : sumC (onB c n) (fun j=>(c.g i).count j) (k + 1) = sumC (onB c n) (fun j=>(c.g i).count j) k + if onB c n k = true then (c.g i).count k else 0:=rfl
      have hs1:=hle i (k + 1) hk
      simp [hk,boolsV_get]
      cases hob : onB c n k with
      | false=>
        rw [hob] at hsu
        simp at hsu
        simp [hwk]
        exact ⟨k + 1,hk,by simp [hsu],by omega⟩
      | true=>
        rw [hob,if_pos rfl] at hsu
        have hri:=hrd i k hi
        obtain ⟨s0,hs0⟩ : ∃ s,sumC (onB c n) (fun j=>(c.g i).count j) k = s:=⟨_,rfl⟩
        obtain ⟨s1,hs1'⟩ : ∃ s,sumC (onB c n) (fun j=>(c.g i).count j) (k + 1) = s:=⟨_,rfl⟩
        obtain ⟨u,hu⟩ : ∃ u,(c.g i).count k = u:=⟨_,rfl⟩
        rw [hs1'] at hs1 hsu
        rw [hs0,hu] at hsu
        rw [hu] at hri
        simp only [natV] at hri
        have ha1 : IntKind.i64.wrap ((s0 : Int) + (u : Int)) = (s1 : Int):=addN hsu.symm (by omega)
        simp
        refine CallO.pure hri (by simp) ?_
        simp [hs0,ha1,hwk]
        exact ⟨k + 1,hk,by simp [hs1'],by omega⟩
    · have hk : k = N:=by have:=of_decide_eq_false hb2; omega
      subst k
      have he:=hend i hi
      rw [he]
      have hm : decide ((1 : Int) < (pinC c (onB c n) i : Int)) = meetB c n i:=by
        unfold meetB
        rw [Bool.eq_iff_iff,decide_eq_true_iff,decide_eq_true_iff]; omega
      simp [hi,boolsV_get,boolsV_set,hw]
      refine ⟨i + 1,hi,by simp,boolsV_congr fun j hj=>?_,by omega⟩
      show (if j = i then _ else _) = _
      by_cases e : j = i
      · subst e; simp [meetB]
      · have e2 : (j < i + 1)↔(j < i):=by omega
        simp [e,e2]
  · have hi : i = N:=by have:=of_decide_eq_false hb; omega
    subst i
    simp [map_frz_pure (boolsV_pure _ _)]
    rw [List.take_of_length_le (by simp)]
    exact boolsV_congr fun j hj=>by simp [hj]
end Go.Proofs.YtcmapbecfpcnfaaDoor
namespace Go.Proofs.YtcmapbecfpcnfaaDoor
open Go
theorem ci_lens (x : Cx) : x.ci.lens:=by
  have hv:=sh_val (ci_wf x) (shE_ok x)
  have hl:=(cxn_ok x).2
  have:=(ns0_ok x).2.2.2
  refine ⟨by omega,?_,?_,?_,fun y hy=>?_,fun m hm=>?_⟩
  · simp [Cx.ci]; omega
  · simp only [Cx.ci]; split <;> simp
  · simp [Cx.ci]; omega
  · obtain ⟨i,hi,rfl⟩:=List.getElem_of_mem hy
    have:=hv.l i hi
    rw [x.ci.nd_get hi] at this; omega
  · simp only [Cx.ci] at hm
    split at hm
    · rw [List.mem_singleton.1 hm]; simp
    · simp at hm
theorem flat_le {α : Type} (f : α→List Int) (B : Nat) : ∀ l : List α,(∀ x ∈ l,(f x).length ≤ B)→(l.flatMap f).length ≤ l.length * B
  | [],_=>by simp
  | a :: l,h=>by
    have h1:=flat_le f B l fun x hx=>h x (List.mem_cons_of_mem _ hx)
    have h2:=h a List.mem_cons_self
    simp only [List.flatMap_cons,List.length_append,List.length_cons,Nat.succ_mul]; omega
theorem ci_n (x : Cx) : 0 < x.ci.n.length∧x.ci.n.length ≤ 16:=by
  rw [(cxn_ok x).2]; exact ⟨(ns0_ok x).2.2.1,(ns0_ok x).2.2.2⟩
theorem ci_fit (x : Cx) : x.ci.fit:=by
  have hv:=sh_val (ci_wf x) (shE_ok x)
  have hn:=ci_n x
  refine ⟨ci_wf x,chk_ok x,by omega,ci_lens x,?_⟩
  have h1 : x.ci.o.length ≤ 1000:=by simp [Cx.ci]; omega
  have h2 : (x.ci.n.flatMap fun y=>if y.k = 14 then y.i else []).length ≤ x.ci.n.length * 16:=flat_le _ 16 _ fun y hy=>by
    obtain ⟨i,hi,rfl⟩:=List.getElem_of_mem hy
    have:=hv.l i hi
    rw [x.ci.nd_get hi] at this
    split <;> simp; exact this
  have h3 : (x.ci.m.flatMap fun m=>m.a ++ m.d ++ [m.w]).length ≤ 1000:=by
    simp only [Cx.ci]
    split <;> simp
  simp only [obsL,List.length_append]
  omega
@[simp] theorem cx_cells (x : Cx) : x.v.cells = [u8V x.n,u8V x.f,u8V x.d0,u8V x.d1,.bool x.bus,.bool x.mem,u8V x.p0,u8V x.p1,u8V x.p2,u8V x.p3,.sl (x.g.map Gx.v) none,.sl (x.o.map u8V) none]:=rfl
@[simp] theorem cx_cellsOk (x : Cx) : x.v.cellsOk = true:=rfl
theorem cx_agg (x : Cx) : V.agg [u8V x.n,u8V x.f,u8V x.d0,u8V x.d1,.bool x.bus,.bool x.mem,u8V x.p0,u8V x.p1,u8V x.p2,u8V x.p3,.sl (x.g.map Gx.v) none,.sl (x.o.map u8V) none] = x.v:=rfl
theorem cx_pureL (x : Cx) : V.pureL [x.v] = true:=by simp only [V.pureL,Bool.and_true]; exact cx_pure x
end Go.Proofs.YtcmapbecfpcnfaaDoor
