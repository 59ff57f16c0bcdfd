/- Cones: the contract of next. Conditions: none. -/
import Derived.Test.YtcmapbecfpcnfaaDoorK9
set_option linter.unusedSimpArgs false
set_option linter.unusedVariables false
namespace Go.Proofs.YtcmapbecfpcnfaaDoor
open Go
structure NxSt where
  i : Nat
  r : Option Nat
structure MgSt where
  a : Nat
  b : Nat
def NxDone (c : Ci) (k : Nat) : Prop:=∀ x,x < c.n.length→c.n.length ≤ plc c x + k→NxOk c.g (Pp c) c.n.length (nxOf c) x
theorem NxDone.step {c : Ci} (hv : c.val) (ha : acyc c) {k n : Nat} (h : NxDone c k) (hn : n < c.n.length) (hp : plc c n + k + 1 = c.n.length) (h1 : NxOk c.g (Pp c) c.n.length (nxOf c) n) : NxDone c (k + 1):=fun x hx hq=>by
  by_cases e : x = n
  · subst e; exact h1
  · have : plc c x ≠ plc c n:=fun q=>e ((plc_ok hv ha).inj x n hx hn q)
    exact h x hx (by omega)
theorem end_pl {c : Ci} (hv : c.val) (ha : acyc c) {a : Nat} (h : End c.g (Pp c) c.n.length a) : plc c a ≤ c.n.length∧a ≤ c.n.length:=by
  rcases h with rfl | ⟨h,-⟩
  · exact ⟨by rw [(plc_ok hv ha).e]; exact Nat.le_refl _,Nat.le_refl _⟩
  · have:=(plc_ok hv ha).lt a h; omega
theorem acc_pl {c : Ci} (hv : c.val) (ha : acyc c) {n b : Nat} {ks : List Nat} (hn : n < c.n.length) (hk : ∀ k ∈ ks,n ∈ c.g k) (h : AccOk c.g (Pp c) c.n.length ks (some b)) : End c.g (Pp c) c.n.length b∧plc c n < plc c b:=by
  have hpl:=plc_ok hv ha
  rcases h with ⟨h1,-⟩ | ⟨b0,h1,⟨k0,h2,h3⟩,h4,h5⟩
  · cases h1
  · cases h1
    refine ⟨h4,?_⟩
    rcases h4 with rfl | ⟨h4,-⟩
    · rw [hpl.e]; exact hpl.lt n hn
    · have h6:=((h5 b).1 ⟨h4,.inl rfl⟩ k0 h2 h3).pl hpl
      have h7:=hk k0 h2
      have h8:=hpl.lv n k0 hn (hpl.d.b _ _ h7).2 (hpl.d.lt _ _ h7)
      omega
set_option maxRecDepth 100000 in
set_option maxHeartbeats 8000000 in
theorem next_c (c : Ci) (hwf : c.wf) (h0 : chkE c = 0) (h20 : c.n.length ≤ 20) (hl : c.lens) : PureC Tryd.prog gl0 55 [c.v] (.sl (nxV c.n.length (nxOf c)) (some (c.n.length + 1))):=by
  obtain ⟨hv,ha⟩:=ck_val hwf h0
  have hd:=ci_dag hv ha
  have hpl:=plc_ok hv ha
  have hord:=orderP_c c hwf h0 h20
  have hLl:=ordL_len hv ha
  obtain ⟨N,hN⟩ : ∃ N,c.n.length = N:=⟨_,rfl⟩
  obtain ⟨L,hL⟩ : ∃ L,ordL c = L:=⟨_,rfl⟩
  have hplc:=fun i hi=>plc_of hv ha (i:=i) hi
  have hobs:=obs_c c hl
  have hrd:=readers_c c hv hl.n
  have hrep:=repeat_c (c.n.length + 1) (by omega) (by omega)
  simp only [okV,hL] at hord
  simp only [hL,hN] at hLl hplc hobs hrd hpl
  refine PureC.of_W 1 ok55 rfl ?_
  simp [i55,x55]
  intro gf1
  generalize gf1 1 = g1
  refine CallO.pure hord (by simp) ?_
  obtain ⟨M,hM⟩ : ∃ M,N + 1 = M:=⟨_,rfl⟩
  have hN1 : IntKind.i64.wrap ((N : Int) + 1) = (M : Int):=by rw [← hM]; exact wrapN N (by omega)
  have hz : List.replicate M (V.int .i64 0) = tab M fun x=>natV (if x ∈ L.take 0 then plc c x else 0):=by
    refine List.ext_getElem (by simp [tab]) fun i h1 h2=>?_
    rw [tab_get,List.getElem_replicate]; simp [natV]
  simp [hLl,hN1,hz,show M ≤ 549755813888 by omega]
  intro gf2
  generalize gf2 26 = g26
  refine LoopP.of (X:=Nat) (fun i=>[(29,natV i),(28,natV N),(27,.sl (natsV L) (some N)),(6,.ref 26 g26 0 M (some M)),(5,natV N),(3,.sl (natsV L) (some N)),(1,.ptr 1 g1 0 0)])
    (fun i=>[(26,.row g26 1 (tab M fun x=>natV (if x ∈ L.take i then plc c x else 0))),(1,.row g1 4 [c.v])]) (fun i=>i ≤ N) (fun i=>N - i) 0 (by simp) (by simp [natV]) (by simp) ?_
  intro i h1
  simp [natV]
  refine BrB.of (fun hb=>?_) (fun hb=>?_)
  · have hi : i < N:=of_decide_eq_true hb
    have hw:=wrapN i (by omega)
    obtain ⟨y,hy⟩ : ∃ y,L[i]'(by omega) = y:=⟨_,rfl⟩
    have htk : L.take (i + 1) = L.take i ++ [y]:=by rw [List.take_succ_eq_append_getElem (by omega),hy]
    have hyp:=hplc i (by omega)
    simp only [hy] at hyp
    simp [hLl,hi,natsV_get,hy,show y < M by omega,tab_set,tab_get,hw]
    refine ⟨i + 1,hi,by simp,⟨tab_congr fun j hj=>?_,by omega⟩⟩
    show (if j = y then _ else _) = _
    rw [htk]
    by_cases e : j = y
    · subst e; simp [hyp.1]
    · simp [e]
  · have hi : i = N:=by have:=of_decide_eq_false hb; omega
    subst i
    have hfin : (tab M fun x=>V.int IntKind.i64 ↑(if x ∈ L.take N then plc c x else 0)).set N (.int .i64 (N : Int)) = tab M fun x=>natV (plc c x):=by
      rw [tab_set]
      refine tab_congr fun j hj=>?_
      show (if j = N then _ else _) = _
      by_cases e : j = N
      · subst e; simp [hpl.e,natV]
      · have hm : j ∈ L.take N:=by rw [List.take_of_length_le (by omega),← hL]; exact (ordL_mem hv ha).2 (by omega)
        rw [if_neg e]; simp [hm,natV]
    simp [show N < M by omega,tab_get,hfin,hN1]
    intro gf3
    generalize gf3 43 = g43
    rw [hN,hM] at hrep
    refine CallO.ownBorrow 1 1000 hrep (by simp) (by simp) ?_
    rintro v h' ⟨g,rfl,rfl⟩
    have hng : V.noGL (List.replicate M (V.int .i64 (-1))) = true:=by
      rw [V.noGL_iff]
      intro v hv
      rw [List.eq_of_mem_replicate hv]; rfl
    refine ⟨by simp,by simp; exact hng,fun gf=>?_⟩
    have hT0 : List.replicate M (V.int .i64 (-1)) = nxV N (nxT c 0):=by
      refine List.ext_getElem (by simp [hM]) fun i h1 h2=>?_
      rw [nxV_get,List.getElem_replicate,nxT_0 hv ha]; rfl
    simp [upS,upH]
    rw [hT0]
    generalize gf 1000 + g = gO
    clear hrep hng hT0 hfin hz
    intro gm
    first | refine ⟨_,_,_,.pure hobs (by simp),?_⟩ | refine ⟨_,⟨_,_,.pure hobs (by simp)⟩,?_⟩ | refine ⟨_,_,⟨_,.pure hobs (by simp)⟩,?_⟩
    simp
    first | refine ⟨_,_,_,.pure hrd (by simp),?_⟩ | refine ⟨_,⟨_,_,.pure hrd (by simp)⟩,?_⟩ | refine ⟨_,_,⟨_,.pure hrd (by simp)⟩,?_⟩
    simp
    refine ⟨rfl,?_⟩
    refine LoopP.of (X:=Nat) (fun k=>[(52,natV k),(51,natV N),(3,.sl (natsV L) (some N)),(5,natV N),(6,.ref 26 g26 0 M (some M)),(9,.ref 1000 gO 0 M (some M)),(10,.sl (boolsV N (ptB c)) (some N)),(11,.sl (tab N (edV (rdL c))) (some N))])
      (fun k=>[(1000,.row gO 1 (nxV N (nxT c k))),(26,.row g26 1 (tab M fun x=>natV (plc c x)))]) (fun k=>k ≤ N∧NxDone c k) (fun k=>N - k) 0 ⟨by simp,fun x hx hq=>?_⟩ (by simp [natV]) (by simp) ?_
    · have:=(plc_ok hv ha).lt x hx; omega
    rintro k ⟨h1,hdn⟩
    simp [natV]
    refine BrB.of (fun hb=>?_) (fun hb=>?_)
    · have hk : k < N:=of_decide_eq_true hb
      have hw:=wrapN k (by omega)
      obtain ⟨N1,hN11⟩ : ∃ N1,N = 1 + N1:=⟨N - 1,by omega⟩
      obtain ⟨e,he⟩ : ∃ e,N1 = k + e:=⟨N1 - k,by omega⟩
      have hs1 : IntKind.i64.wrap ((N : Int) - 1) = (N1 : Int):=subN (b:=1) hN11 (by omega)
      have hs2 : IntKind.i64.wrap ((N1 : Int) - (k : Int)) = (e : Int):=subN he (by omega)
      have heN : e < N:=by omega
      obtain ⟨n,hn⟩ : ∃ n,L[e]'(by omega) = n:=⟨_,rfl⟩
      obtain ⟨hpn,hnN⟩:=hplc e (by omega)
      simp only [hn] at hpn hnN
      have hnN' : n < c.n.length:=by omega
      have hpk : plc c n + k + 1 = c.n.length:=by omega
      have hTn : nxT c k n = none:=if_neg fun q=>by have:=(bP_iff.1 q).2; omega
      have hT0 : upd1 (nxT c k) n none = nxT c k:=by
        funext j
        show (if j = n then none else _) = _
        split
        · rename_i e1; rw [e1,hTn]
        · rfl
      simp [hs1,hs2,hLl,heN,natsV_get,hn,hnN,boolsV_get]
      refine BrB.of (fun hob=>?_) (fun hob=>?_)
      · have hok : NxOk c.g (Pp c) c.n.length (upd1 (nxT c k) n (some N)) n:=nx_obs hob (by rw [upd1_at,hN])
        have hnx:=nxOf_eq hd hnN' hok
        rw [upd1_at] at hnx
        have hT1:=nxT_succ hv ha hnN' hpk
        rw [← hnx] at hT1
        simp [show n < N + 1 by omega,show n < M by omega,nxV_get,nxV_set,hw,hTn,optV,natV]
        exact ⟨k + 1,⟨hk,hdn.step hv ha hnN' hpk (hok.congr (by rw [upd1_at,hnx]))⟩,by simp,by rw [hT1],by omega⟩
      · have hob' : ¬ Pp c n:=fun q=>by rw [q] at hob; cases hob
        obtain ⟨ks,hks⟩ : ∃ ks,rdL c n = ks:=⟨_,rfl⟩
        have hksl : ks.length < 1000000000:=by rw [← hks]; exact rdL_len hv hl.n n
        have hkm : ∀ x ∈ ks,n ∈ c.g x:=fun x hx=>by rw [← hks] at hx; exact (rdL_mem hv).1 hx
        simp [hnN,tab_get,edV,hks]
        refine LoopP.of (X:=NxSt) (fun z=>[(75,natV z.i),(74,natV ks.length),(73,.sl (natsV ks) none),(13,natV n),(52,natV k),(51,natV N),(3,.sl (natsV L) (some N)),(5,natV N),(6,.ref 26 g26 0 M (some M)),(9,.ref 1000 gO 0 M (some M)),(10,.sl (boolsV N (ptB c)) (some N)),(11,.sl (tab N (edV (rdL c))) (some N))])
          (fun z=>[(1000,.row gO 1 (nxV N (upd1 (nxT c k) n z.r))),(26,.row g26 1 (tab M fun x=>natV (plc c x)))]) (fun z=>z.i ≤ ks.length∧AccOk c.g (Pp c) c.n.length (ks.take z.i) z.r) (fun z=>ks.length - z.i) ⟨0,none⟩ ⟨by simp,by simpa using AccOk.ini⟩ (by simp [natV]) (by simp [hT0,natV]) ?_
        rintro ⟨i,r⟩ ⟨q1,q2⟩
        dsimp only at q1 q2 ⊢
        simp [natV]
        refine BrB.of (fun hb2=>?_) (fun hb2=>?_)
        · have hi : i < ks.length:=of_decide_eq_true hb2
          have hwi:=wrapN i (by omega)
          obtain ⟨x,hx⟩ : ∃ x,ks[i] = x:=⟨_,rfl⟩
          have htk : ks.take (i + 1) = ks.take i ++ [x]:=by rw [List.take_succ_eq_append_getElem hi,hx]
          have hxg:=hkm x (by rw [← hx]; exact List.getElem_mem hi)
          have hxN:=(hd.b _ _ hxg).2
          have hxp:=hpl.lv n x hnN (by omega) (hd.lt _ _ hxg)
          have hxn : x ≠ n:=fun e1=>by rw [e1] at hxp; omega
          have hxT : upd1 (nxT c k) n r x = nxOf c x:=by rw [upd1_off _ _ hxn,nxT_in hxN (by omega)]
          have hxok:=hdn x hxN (by omega)
          cases hxv : nxOf c x with
          | none=>
            have hns : ¬ Sn c.g (Pp c) none x:=by
              rcases hxok with ⟨-,h⟩ | ⟨b,h,-⟩
              · exact h
              · rw [hxv] at h; cases h
            simp [hi,natsV_get,hx,show x < M by omega,show x < N + 1 by omega,nxV_get,hxT,hxv,optV,hwi]
            exact ⟨⟨i + 1,r⟩,⟨hi,by dsimp only; rw [htk]; exact q2.skip hns⟩,by simp,by simp,by dsimp only; omega⟩
          | some xb=>
            have hsx : Sn c.g (Pp c) none x:=by
              rcases hxok with ⟨h,-⟩ | ⟨b,-,h,-⟩
              · rw [hxv] at h; cases h
              · exact h
            simp [hi,natsV_get,hx,show x < M by omega,show x < N + 1 by omega,nxV_get,hxT,hxv,optV,natV]
            cases r with
            | none=>
              simp [show n < M by omega,show n < N + 1 by omega,nxV_get,upd1_at,optV]
              exact ⟨⟨i + 1,some x⟩,⟨hi,by dsimp only; rw [htk]; exact q2.first hsx hxN⟩,hwi,by rw [nxV_set,upd1_twice],by dsimp only; omega⟩
            | some b=>
              obtain ⟨hbe,hbp⟩:=acc_pl hv ha hnN' (fun y hy=>hkm y (List.mem_of_mem_take hy)) q2
              simp [show n < M by omega,show n < N + 1 by omega,nxV_get,upd1_at,optV,natV]
              refine LoopP.of (X:=MgSt) (fun z=>[(16,natV z.a),(75,natV i),(74,natV ks.length),(73,.sl (natsV ks) none),(13,natV n),(52,natV k),(51,natV N),(3,.sl (natsV L) (some N)),(5,natV N),(6,.ref 26 g26 0 M (some M)),(9,.ref 1000 gO 0 M (some M)),(10,.sl (boolsV N (ptB c)) (some N)),(11,.sl (tab N (edV (rdL c))) (some N))])
                (fun z=>[(1000,.row gO 1 (nxV N (upd1 (nxT c k) n (some z.b)))),(26,.row g26 1 (tab M fun x=>natV (plc c x)))])
                (fun z=>End c.g (Pp c) c.n.length z.a∧End c.g (Pp c) c.n.length z.b∧plc c n < plc c z.a∧plc c n < plc c z.b∧∀ j,(Cm c.g (Pp c) c.n.length x j∧Cm c.g (Pp c) c.n.length b j)↔(Cm c.g (Pp c) c.n.length z.a j∧Cm c.g (Pp c) c.n.length z.b j))
                (fun z=>(c.n.length - plc c z.a) + (c.n.length - plc c z.b)) ⟨x,b⟩ ⟨.inr ⟨hxN,hsx⟩,hbe,hxp,hbp,fun j=>Iff.rfl⟩ (by simp [natV]) (by simp [natV]) ?_
              rintro ⟨a,b2⟩ ⟨r1,r2,r3,r4,r5⟩
              dsimp only at r1 r2 r3 r4 r5 ⊢
              have ra:=end_pl hv ha r1
              have rb:=end_pl hv ha r2
              simp [natV,show n < M by omega,show n < N + 1 by omega,nxV_get,upd1_at,optV]
              refine BrB.of (fun hb3=>?_) (fun hb3=>?_)
              · have hab : a = b2:=of_decide_eq_true hb3
                subst hab
                simp [hwi]
                exact ⟨⟨i + 1,some a⟩,⟨hi,by dsimp only; rw [htk]; exact q2.merge hsx r2 fun j=>(r5 j).trans and_self_iff⟩,by simp,by simp,by dsimp only; omega⟩
              · have hab : ¬ a = b2:=of_decide_eq_false hb3
                have haM : a < M:=by omega
                have hbM : b2 < M:=by omega
                simp [show n < M by omega,show n < N + 1 by omega,nxV_get,upd1_at,optV,tab_get,haM,hbM,natV]
                refine BrB.of (fun hb4=>?_) (fun hb4=>?_)
                · have hlt : plc c a < plc c b2:=of_decide_eq_true hb4
                  obtain ⟨haN,a',e1,e2,e3,e4⟩:=merge_step (plc_ok hv ha) r1 r2 hlt fun y hy hq=>hdn y hy (by omega)
                  have han : a ≠ n:=fun q=>by rw [q] at r3; omega
                  have haT : upd1 (nxT c k) n (some b2) a = some a':=by rw [upd1_off _ _ han,nxT_in haN (by omega),e1]
                  have ra':=end_pl hv ha e2
                  simp [haM,show a < N + 1 by omega,nxV_get,haT,optV,natV]
                  exact ⟨⟨a',b2⟩,⟨e2,r2,by dsimp only; omega,r4,fun j=>(r5 j).trans (e4 j)⟩,by simp,by simp,by dsimp only; omega⟩
                · have hlt0 : ¬ plc c a < plc c b2:=of_decide_eq_false hb4
                  have hlt:=(plc_ok hv ha).ne r1 r2 hab hlt0
                  obtain ⟨hbN,b',e1,e2,e3,e4⟩:=merge_step (plc_ok hv ha) r2 r1 hlt fun y hy hq=>hdn y hy (by omega)
                  have hbn : b2 ≠ n:=fun q=>by rw [q] at r4; omega
                  have hbT : upd1 (nxT c k) n (some b2) b2 = some b':=by rw [upd1_off _ _ hbn,nxT_in hbN (by omega),e1]
                  have rb':=end_pl hv ha e2
                  simp [show n < M by omega,show n < N + 1 by omega,hbM,show b2 < N + 1 by omega,nxV_get,upd1_at,hbT,optV,natV,nxV_set,upd1_twice]
                  exact ⟨⟨a,b'⟩,⟨r1,e2,r3,by dsimp only; omega,fun j=>(r5 j).trans (and_comm.trans ((e4 j).trans and_comm))⟩,by simp,by simp,by dsimp only; omega⟩
        · have hi : i = ks.length:=by have:=of_decide_eq_false hb2; omega
          subst hi
          rw [List.take_length] at q2
          have hok:=AccOk.done (n:=n) (nx:=upd1 (nxT c k) n r) hd hob' (ks:=ks) (fun x=>by rw [← hks]; exact rdL_mem hv) (by rw [upd1_at]; exact q2)
          have hnx:=nxOf_eq hd hnN' hok
          rw [upd1_at] at hnx
          have hT1:=nxT_succ hv ha hnN' hpk
          rw [← hnx] at hT1
          simp [hw]
          exact ⟨k + 1,⟨hk,hdn.step hv ha hnN' hpk (hok.congr (by rw [upd1_at,hnx]))⟩,by simp,by rw [hT1],by omega⟩
    · have hk : k = N:=by have:=of_decide_eq_false hb; omega
      subst k
      have hTN : nxT c N = nxOf c:=by
        funext x
        by_cases hx : x < c.n.length
        · exact nxT_in hx (by omega)
        · rw [nxT_out hx]
          exact (if_neg fun q=>hx (bP_iff.1 q).1).symm
      rw [hTN]
      simp [map_frz_pure (nxV_pure _ _),show M ≤ N + 1 by omega]
      rw [List.take_of_length_le (by simp; omega),← hM,hN]
      exact ⟨rfl,rfl⟩
end Go.Proofs.YtcmapbecfpcnfaaDoor
