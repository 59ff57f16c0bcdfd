/- Cones: the law Sets. Conditions: none. -/
import Derived.Test.YtcmapbecfpcnfaaDoorK16
import Derived.Test.YtcmapbecfpcnfaaDoorXD
import Derived.Test.YtcmapbecfpcnfaaDoorXL5
set_option linter.unusedSimpArgs false
set_option linter.unusedVariables false
namespace Go.Proofs.YtcmapbecfpcnfaaDoor
open Go
theorem reachN_c (c : Ci) (hf : c.fit) (n : Nat) (hn : n < c.n.length) : PureC Tryd.prog gl0 29 [c.v,natV n,.int .i64 (-1)] (.sl (boolsV c.n.length (onB c n)) (some c.n.length)):=by
  obtain ⟨hv,ha⟩:=ck_val hf.wf hf.ck
  have h:=reach_c c hv ha (by have:=hf.n; omega) n hn none
  have e : (boolsV c.n.length fun j=>bP (Rn c.g none n j)) = boolsV c.n.length (onB c n):=boolsV_congr fun j _=>bP_congr rn_rch
  rw [e] at h
  exact h
theorem mem_finL {c : Ci} (hv : c.val) {l : List Nat} {j : Nat} (hl : ∀ x ∈ l,x < c.n.length) : j ∈ finL c l↔∃ x ∈ l,Rch c.g x j:=by
  unfold finL
  rw [fL_mem,bP_iff]
  exact ⟨fun h=>h.2,fun ⟨x,hx,h⟩=>⟨h.closed (S:=fun y=>y < c.n.length) (fun y hy z hz=>hv.g y hy z hz) (hl x hx),x,hx,h⟩⟩
theorem intsE_c (l : List Nat) (cb : Option Nat) (hl : l.length < 1000000000000) : PureC Tryd.prog gl0 25 [.sl (natsV l) (some l.length),.sl (natsV l) cb] (.int .i64 0):=by
  have:=ie_c (l.map fun x : Nat=>(x : Int)) cb (by simpa using hl)
  rw [← natsV_i,List.length_map] at this
  exact this
theorem boolsV_snoc (n : Nat) (D : Nat→Bool) : boolsV (n + 1) D = boolsV n D ++ [.bool (D n)]:=by simp [boolsV,tab,List.range_succ]
structure SeSt where
  i : Nat
  a : Option (Nat × List V)
set_option maxRecDepth 100000 in
set_option maxHeartbeats 8000000 in
theorem lawSets_c (x : Cx) (hx : x.ok) (p q : Nat) (hp : p < 256) (hq : q < 256) : PureC Tryd.prog gl0 5 [x.v,.agg [u8V p,u8V q]] (.bool true):=by
  have hof:=cof_c x hx
  have hpx:=cx_pure x
  have hf:=ci_fit x
  have hN:=ci_n x
  generalize x.ci = c at hof hf hN
  obtain ⟨hv,ha⟩:=ck_val hf.wf hf.ck
  obtain ⟨n,hn⟩ : ∃ n,p % c.n.length = n:=⟨_,rfl⟩
  obtain ⟨m,hm⟩ : ∃ n,q % c.n.length = n:=⟨_,rfl⟩
  have hnN : n < c.n.length:=by rw [← hn]; exact Nat.mod_lt _ (by omega)
  have hmN : m < c.n.length:=by rw [← hm]; exact Nat.mod_lt _ (by omega)
  have cr:=fun i (hi : i < c.n.length)=>reachN_c c hf i hi
  have cn:=cr n hnN
  have cm:=cr m hmN
  have f1:=fanoutC_c c hf.wf hf.ck [n] (some 1) (by simpa using hnN) (by simp)
  have f2:=fanoutC_c c hf.wf hf.ck [n,m,n] (some 3) (by simp [hnN,hmN]) (by simp)
  have f3:=faninC_c c hf.wf hf.ck [] (some 0) (by simp) (by simp)
  have f3' : PureC Tryd.prog gl0 19 [c.v,.nil] (okV (finL c [])):=f3.wide ⟨.refl _,.nil,trivial⟩ (.refl _)
  have f4:=fun i (hi : i < c.n.length)=>faninC_c c hf.wf hf.ck [i] (some 1) (by simpa using hi) (by simp)
  have f5:=faninC_c c hf.wf hf.ck [n,m] (some 2) (by simp [hnN,hmN]) (by simp)
  have e1 : foutL c [n] = fL c.n.length (onB c n):=fL_congr fun j _=>bP_congr (by simp)
  have e2 : foutL c [n,m,n] = fL c.n.length (fun j=>onB c n j || onB c m j):=fL_congr fun j _=>by
    unfold onB
    rw [Bool.eq_iff_iff,Bool.or_eq_true,bP_iff,bP_iff,bP_iff]
    simp only [List.mem_cons,List.not_mem_nil,or_false,exists_eq_or_imp,exists_eq_left]
    exact ⟨fun h=>h.elim .inl fun h=>h.elim .inr .inl,fun h=>h.elim .inl fun h=>.inr (.inl h)⟩
  have e3 : finL c [] = []:=by
    unfold finL fL
    refine List.filter_eq_nil_iff.2 fun x _=>?_
    rw [bP_iff]; simp
  have e5 : finL c [n,m] = fL c.n.length (fun j=>onB c j n || onB c j m):=fL_congr fun j _=>by
    unfold onB
    rw [Bool.eq_iff_iff,Bool.or_eq_true,bP_iff,bP_iff,bP_iff]; simp
  have e4 : ∀ i,i < c.n.length→decide (n ∈ finL c [i]) = onB c n i:=fun i hi=>by
    rw [Bool.eq_iff_iff,decide_eq_true_iff,mem_finL hv (by simpa using hi)]
    unfold onB
    rw [bP_iff]
    simp
  have hfl : ∀ i,(finL c [i]).length ≤ c.n.length:=fun i=>fL_len _ _
  rw [e1] at f1
  rw [e2] at f2
  rw [e3] at f3'
  rw [e5] at f5
  have s1:=lset_c c.n.length (by omega) (onB c n) (some c.n.length)
  have s2:=lset_c c.n.length (by omega) (fun j=>onB c n j || onB c m j) (some c.n.length)
  have s3:=lset_c c.n.length (by omega) (fun j=>onB c j n || onB c j m) none
  have i1:=intsE_c (fL c.n.length (onB c n)) none (by have:=fL_len c.n.length (onB c n); omega)
  have i2:=intsE_c (fL c.n.length (fun j=>onB c n j || onB c m j)) none (by have:=fL_len c.n.length (fun j=>onB c n j || onB c m j); omega)
  have i3:=intsE_c (fL c.n.length (fun j=>onB c j n || onB c j m)) none (by have:=fL_len c.n.length (fun j=>onB c j n || onB c j m); omega)
  obtain ⟨N,hNn⟩ : ∃ N,c.n.length = N:=⟨_,rfl⟩
  have hu:=u8i hp
  have hu2:=u8i hq
  simp only [hNn] at hN hn hm hnN hmN cr cn cm f1 f2 f3' f4 f5 e4 hfl s1 s2 s3 i1 i2 i3
  simp only [okV] at f1 f2 f3' f4 f5
  refine PureC.of_W 2 ok5 rfl ?_
  simp [i5,x5,cx_agg]
  intro gf1 gf2
  refine CallO.pure hof (cx_pureL x) ?_
  have hmod:=modN hn
  have hmod2:=modN hm
  simp [u8V,hu,hu2,hNn,hmod,hmod2,show ¬ N = 0 by omega]
  intro gf3
  generalize gf3 5 = g5
  refine CallO.pure cn (by simp) ?_
  simp
  refine CallO.pure cm (by simp) ?_
  simp
  intro gf4
  refine CallO.frzB 52 (by simp; exact ⟨rfl,rfl,rfl⟩) (by simp) ?_
  simp [fzV,V.mapR,V.mapRL,fzp,fzf,fzH,Blk.fz,mapR_pure _ (ci_pure c),mapRL_pure,boolsV_pure,natsV_pure]
  refine CallO.pure f1 (by simp) ?_
  simp
  intro gf5
  refine CallO.frzB 61 (by simp; exact ⟨rfl,rfl,rfl⟩) (by simp) ?_
  simp [fzV,V.mapR,V.mapRL,fzp,fzf,fzH,Blk.fz,mapR_pure _ (ci_pure c),mapRL_pure,boolsV_pure,natsV_pure]
  refine CallO.pure f2 (by simp) ?_
  simp
  refine CallO.pure f3' (by simp) ?_
  simp [show N ≤ 549755813888 by omega,boolsV_rep]
  intro gf6
  generalize gf6 72 = g72
  refine LoopP.of (X:=Nat) (fun i=>[(17,natV i),(16,.ref 72 g72 0 N (some N)),(10,.sl (natsV (fL N (onB c n))) (some (fL N (onB c n)).length)),(11,natV 0),(12,.sl (natsV (fL N fun j=>onB c n j || onB c m j)) (some (fL N fun j=>onB c n j || onB c m j).length)),(13,natV 0),(14,.sl [] (some 0)),(15,natV 0),(8,.sl (boolsV N (onB c n)) (some N)),(9,.sl (boolsV N (onB c m)) (some N)),(6,natV n),(7,natV m),(5,.ptr 5 g5 0 0)])
    (fun i=>[(72,.row g72 1 (boolsV N fun j=>decide (j < i) && (onB c n j || onB c m j))),(5,.row g5 4 [c.v])]) (fun i=>i ≤ N) (fun i=>N - i) 0 (by simp) (by simp [natV]; rfl) (by simp; rfl) ?_
  intro i h1
  simp [natV]
  refine BrB.of (fun hb=>?_) (fun hb=>?_)
  · have hi : i < N:=of_decide_eq_true hb
    have hw:=wrapN i (by omega)
    have hrow : ∀ b,b = (onB c n i || onB c m i)→boolsV N (upd1 (fun j=>decide (j < i) && (onB c n j || onB c m j)) i b) = boolsV N (fun j=>decide (j < i + 1) && (onB c n j || onB c m j)):=fun b hbe=>boolsV_congr fun j hj=>by
      show (if j = i then b else _) = _
      by_cases e : j = i
      · subst e; simp [hbe]
      · have e2 : (j < i + 1)↔(j < i):=by omega
        simp [e,e2]
    obtain ⟨U,hU⟩ : ∃ U,(onB c n i || onB c m i) = U:=⟨_,rfl⟩
    have hrow2:=hrow U hU.symm
    obtain ⟨R,hR⟩ : ∃ R : Nat→Bool,(fun j=>decide (j < i) && (onB c n j || onB c m j)) = R:=⟨_,rfl⟩
    obtain ⟨R2,hR2⟩ : ∃ R : Nat→Bool,(fun j=>decide (j < i + 1) && (onB c n j || onB c m j)) = R:=⟨_,rfl⟩
    rw [hR,hR2] at hrow2
    rw [hR]
    have f4i:=f4 i hi
    have e4i:=e4 i hi
    have hli:=hfl i
    obtain ⟨F,hF⟩ : ∃ F,finL c [i] = F:=⟨_,rfl⟩
    rw [hF] at f4i e4i hli
    cases hA : onB c n i
    all_goals
      simp only [hA,Bool.false_or,Bool.true_or] at hU e4i
      subst hU
      simp [hi,hA,boolsV_get,boolsV_set,hrow2]
      intro gf7
      refine CallO.frzB 95 (by simp; exact ⟨rfl,rfl,rfl⟩) (by simp) ?_
      simp [fzV,V.mapR,V.mapRL,fzp,fzf,fzH,Blk.fz,mapR_pure _ (ci_pure c),mapRL_pure,boolsV_pure,natsV_pure,map_fzV (boolsV_pure _ _)]
      refine CallO.pure f4i (by simp) ?_
      simp
      refine LoopP.of (X:=Nat) (fun k=>[(21,natV k),(20,.bool (decide (n ∈ F.take k))),(18,.sl (natsV F) (some F.length)),(19,natV 0),(17,natV i),(16,.ref 72 g72 0 N (some N)),(10,.sl (natsV (fL N (onB c n))) (some (fL N (onB c n)).length)),(11,natV 0),(12,.sl (natsV (fL N fun j=>onB c n j || onB c m j)) (some (fL N fun j=>onB c n j || onB c m j).length)),(13,natV 0),(14,.sl [] (some 0)),(15,natV 0),(8,.sl (boolsV N (onB c n)) (some N)),(9,.sl (boolsV N (onB c m)) (some N)),(6,natV n),(7,natV m),(5,.ptr 5 g5 0 0)])
        (fun _=>[(72,.row g72 1 (boolsV N R2)),(5,.row g5 4 [c.v])]) (fun k=>k ≤ F.length) (fun k=>F.length - k) 0 (by simp) (by simp [natV]) (by simp) ?_
      intro k h2
      simp [natV]
      refine BrB.of (fun hb2=>?_) (fun hb2=>?_)
      · have hk : k < F.length:=of_decide_eq_true hb2
        have hwk:=wrapN k (by omega)
        obtain ⟨y,hy⟩ : ∃ y,F[k] = y:=⟨_,rfl⟩
        have htk : F.take (k + 1) = F.take k ++ [y]:=by rw [List.take_succ_eq_append_getElem hk,hy]
        by_cases hT : n ∈ F.take k
        all_goals
          simp [hk,natsV_get,hy,natV,hwk,hT]
          refine ⟨k + 1,hk,⟨by simp,?_⟩,by omega⟩
          simp [htk,hT,eq_comm]
      · have hk : k = F.length:=by have:=of_decide_eq_false hb2; omega
        subst k
        rw [List.take_length,e4i]
        simp [hi,boolsV_get,hA,hw]
        exact ⟨i + 1,hi,by simp,by rw [hR2],by omega⟩
  · have hi : i = N:=by have:=of_decide_eq_false hb; omega
    subst i
    have hfin : (boolsV N fun j=>decide (j < N) && (onB c n j || onB c m j)) = boolsV N fun j=>onB c n j || onB c m j:=boolsV_congr fun j hj=>by simp [hj]
    rw [hfin]
    simp
    intro gf8
    refine CallO.frzB 128 (by simp; exact ⟨rfl,rfl,rfl⟩) (by simp) ?_
    simp [fzV,V.mapR,V.mapRL,fzp,fzf,fzH,Blk.fz,mapR_pure _ (ci_pure c),mapRL_pure,boolsV_pure,natsV_pure,map_fzV (boolsV_pure _ _)]
    refine CallO.pure f5 (by simp) ?_
    simp
    clear hfin hb
    refine LoopP.of (X:=SeSt) (fun z=>[(25,natV z.i),(24,accV 154 z.a),(22,.sl (natsV (fL N fun j=>onB c j n || onB c j m)) (some (fL N fun j=>onB c j n || onB c j m).length)),(23,natV 0),(16,.ref 72 g72 0 N (some N)),(10,.sl (natsV (fL N (onB c n))) (some (fL N (onB c n)).length)),(11,natV 0),(12,.sl (natsV (fL N fun j=>onB c n j || onB c m j)) (some (fL N fun j=>onB c n j || onB c m j).length)),(13,natV 0),(14,.sl [] (some 0)),(15,natV 0),(8,.sl (boolsV N (onB c n)) (some N)),(6,natV n),(7,natV m),(5,.ptr 5 g5 0 0)])
      (fun z=>[(72,.row g72 1 (boolsV N fun j=>onB c n j || onB c m j)),(5,.row g5 4 [c.v])] ++ accH 154 1 z.a) (fun z=>z.i ≤ N∧accL z.a = boolsV z.i fun j=>onB c j n || onB c j m) (fun z=>N - z.i) ⟨0,none⟩ ⟨by simp,by simp [accL,boolsV,tab]⟩ (by simp [natV,accV]) (by simp [accH]) ?_
    rintro ⟨i,acc⟩ ⟨q1,q2⟩
    dsimp only at q1 q2 ⊢
    have hll : (accL acc).length = i:=by rw [q2,boolsV_length]
    simp [natV,hNn]
    refine BrB.of (fun hb=>?_) (fun hb=>?_)
    · have hi : i < N:=of_decide_eq_true hb
      have hw:=wrapN i (by omega)
      have cri:=cr i hi
      have hsn : ∀ b,b = (onB c i n || onB c i m)→True:=fun _ _=>trivial
      simp
      refine CallO.pure cri (by simp) ?_
      simp [hnN,hmN,boolsV_get]
      have hsn:=boolsV_snoc i fun j=>onB c j n || onB c j m
      have hle : (accL acc).length + 1 ≤ 274877906944:=by omega
      cases hA : onB c i n
      all_goals
        simp only [hA,Bool.false_or,Bool.true_or] at hsn
        cases acc with
        | none=>
          simp only [accL] at q2
          simp [hnN,hmN,boolsV_get,accV,accH,hw]
          intro gf9 gf10
          exact ⟨⟨i + 1,some (gf10 154,[.bool _])⟩,⟨hi,by dsimp only [accL]; rw [hsn,← q2]; rfl⟩,⟨by simp,by simp [accV]⟩,by simp [accH],by dsimp only; omega⟩
        | some gl=>
          obtain ⟨g,l⟩:=gl
          simp only [accL] at q2 hle
          simp [hnN,hmN,boolsV_get,accV,accH,hw,hle]
          intro gf9 gf10
          exact ⟨⟨i + 1,some (gf10 154,l ++ [.bool _])⟩,⟨hi,by dsimp only [accL]; rw [hsn,← q2]⟩,⟨by simp,by simp [accV]⟩,by simp [accH],by dsimp only; omega⟩
    · have hi : i = N:=by have:=of_decide_eq_false hb; omega
      clear hll
      subst i
      have hll : (accL acc).length = N:=by rw [q2,boolsV_length]
      cases acc with
      | none=>simp only [accL,List.length_nil] at hll; omega
      | some gl=>
        obtain ⟨g,l⟩:=gl
        simp only [accL] at q2 hll
        subst q2
        simp [accV,accH]
        refine CallO.pure s1 (by simp [boolsV_pure]) ?_
        simp
        refine CallO.pure i1 (by simp [natsV_pure]) ?_
        simp
        refine CallO.frzB 72 (by simp; exact ⟨rfl,rfl,rfl⟩) (boolsV_pure _ _) ?_
        simp [fzV,V.mapR,V.mapRL,fzp,fzf,fzH,Blk.fz,mapR_pure _ (ci_pure c),mapRL_pure,boolsV_pure,natsV_pure,map_fzV (boolsV_pure _ _)]
        rw [List.take_of_length_le (by simp)]
        refine CallO.pure s2 (by simp [boolsV_pure]) ?_
        simp
        refine CallO.pure i2 (by simp [natsV_pure]) ?_
        simp
        refine CallO.frzB 154 (by simp; exact ⟨rfl,rfl,rfl⟩) (boolsV_pure _ _) ?_
        simp [fzV,V.mapR,V.mapRL,fzp,fzf,fzH,Blk.fz,mapR_pure _ (ci_pure c),mapRL_pure,boolsV_pure,natsV_pure,map_fzV (boolsV_pure _ _)]
        rw [List.take_of_length_le (by simp)]
        refine CallO.pure s3 (by simp [boolsV_pure]) ?_
        simp
        refine CallO.pure i3 (by simp [natsV_pure]) ?_
        simp
        refine CallO.pure lives_c (by simp) ?_
        simp
end Go.Proofs.YtcmapbecfpcnfaaDoor
