/- Cones: the law Dominators. Conditions: none. -/
import Derived.Test.YtcmapbecfpcnfaaDoorK16
import Derived.Test.YtcmapbecfpcnfaaDoorXD
import Derived.Test.YtcmapbecfpcnfaaDoorXL6
set_option linter.unusedSimpArgs false
set_option linter.unusedVariables false
namespace Go.Proofs.YtcmapbecfpcnfaaDoor
open Go
theorem dom_ex {c : Ci} (hv : c.val) (ha : acyc c) {n : Nat} : ∀ (k b : Nat) (L : List Nat),c.n.length + 1 - plc c b ≤ k→DomI c.g (Pp c) c.n.length (lvOf c) n L b→∃ M,DomL c.g (Pp c) (lvOf c) n M:=by
  have hpl:=plc_ok hv ha
  intro k
  induction k with
  | zero=>
    intro b L hk h
    have:=(end_pl hv ha h.e).1
    omega
  | succ k ih=>
    intro b L hk h
    by_cases hb : b < c.n.length
    · obtain ⟨b',e1,e2,e3⟩:=h.step hpl hb (nx_all hv ha b hb)
      exact ih b' _ (by omega) e3
    · exact ⟨L,h.done hb⟩
theorem domL_ok {c : Ci} (hv : c.val) (ha : acyc c) {n : Nat} (hn : n < c.n.length) : DomL c.g (Pp c) (lvOf c) n (domL c n):=by
  have hd:=ci_dag hv ha
  have : ∃ M,DomL c.g (Pp c) (lvOf c) n M:=by
    rcases nx_all hv ha n hn with ⟨-,h⟩ | ⟨b,-,-,h3,h4⟩
    · exact ⟨[],domL_none h⟩
    · exact dom_ex hv ha _ b [] (Nat.le_refl _) (.ini hd h3 h4)
  exact Classical.epsilon_spec (p:=fun L=>DomL c.g (Pp c) (lvOf c) n L) this
theorem fL_nodup (n : Nat) (D : Nat→Bool) : (fL n D).Nodup:=List.nodup_range.filter _
theorem domL_len {c : Ci} (hv : c.val) (ha : acyc c) {n : Nat} (hn : n < c.n.length) : (domL c n).length = (fL c.n.length (dmB c n)).length:=by
  have h:=domL_ok hv ha hn
  refine ((List.perm_ext_iff_of_nodup h.nodup (fL_nodup _ _)).2 fun j=>?_).length_eq
  rw [h.m,fL_mem]
  unfold dmB
  rw [bP_iff]
  exact ⟨fun q=>⟨q.lt (ci_dag hv ha),q⟩,fun q=>q.2⟩
theorem levelsC_c (c : Ci) (hf : c.fit) : PureC Tryd.prog gl0 13 [c.v] (.tup [.sl (tab c.n.length fun i=>natV (lvOf c i)) (some c.n.length),.int .i64 0]):=by
  have h:=levelsW_c c hf.wf
  rw [lvRes_eq,hf.ck,if_pos rfl] at h
  exact h
set_option maxRecDepth 100000 in
set_option maxHeartbeats 4000000 in
theorem lawDom_c (x : Cx) (hx : x.ok) (z : Nat) (hz : z < 256) : PureC Tryd.prog gl0 6 [x.v,u8V z] (.bool true):=by
  have hof:=cof_c x hx
  have hpx:=cx_pure x
  have hf:=ci_fit x
  have hN:=ci_n x
  generalize x.ci = c at hof hf hN
  obtain ⟨hv,ha⟩:=ck_val hf.wf hf.ck
  obtain ⟨n,hn⟩ : ∃ n,z % c.n.length = n:=⟨_,rfl⟩
  have hnN : n < c.n.length:=by rw [← hn]; exact Nat.mod_lt _ (by omega)
  have c1:=rdom_c c hf n hnN
  have c2:=dom_c c hf.wf hf.ck hf.n hf.l n hnN
  have c3:=levelsC_c c hf
  have c4:=lset_c c.n.length (by omega) (dmB c n) (some c.n.length)
  have hlen:=domL_len hv ha hnN
  have hdl:=domL_ok hv ha hnN
  have hdm : ∀ j ∈ domL c n,j < c.n.length∧dmB c n j = true:=fun j hj=>by
    have:=(hdl.m j).1 hj
    exact ⟨this.lt (ci_dag hv ha),bP_iff.2 this⟩
  have hpw:=hdl.p
  obtain ⟨L,hL⟩ : ∃ L,domL c n = L:=⟨_,rfl⟩
  obtain ⟨N,hNn⟩ : ∃ N,c.n.length = N:=⟨_,rfl⟩
  have hLl : L.length ≤ N:=by
    have:=fL_len c.n.length (dmB c n)
    rw [← hL,hlen]; omega
  simp only [okV] at c2
  have hu:=u8i hz
  simp only [hL,hNn,natV] at c1 c2 c3 c4 hlen hdm hpw hn hnN hN
  refine PureC.of_W 2 ok6 rfl ?_
  simp [i6,x6,cx_agg]
  intro gf1
  refine CallO.pure hof (cx_pureL x) ?_
  have hmod:=modN hn
  simp [u8V,hu,hNn,hmod,show ¬ N = 0 by omega]
  intro gf2
  generalize gf2 5 = g5
  refine CallO.pure c1 (by simp) ?_
  simp
  refine CallO.pure c2 (by simp) ?_
  simp
  refine CallO.pure c3 (by simp) ?_
  simp
  refine CallO.pure c4 (by simp [boolsV_pure]) ?_
  have htl : (tab N fun i=>V.int .i64 (lvOf c i : Int)).length = N:=by simp [tab]
  simp [hlen,hNn,htl,hnN,tab_get]
  refine LoopP.of (X:=Nat) (fun i=>[(13,natV i),(12,natV (lvOf c ((n :: L).getD i 0))),(10,.sl (tab N fun i=>natV (lvOf c i)) (some N)),(8,.sl (natsV L) (some L.length)),(7,.sl (boolsV N (dmB c n)) (some N))]) (fun _=>[]) (fun i=>i ≤ L.length) (fun i=>L.length - i) 0 (by simp) (by simp [natV,hlen]) (by simp) ?_
  intro i h1
  simp [natV]
  refine BrB.of (fun hb=>?_) (fun hb=>?_)
  · have hi : i < L.length:=of_decide_eq_true hb
    have hw:=wrapN i (by omega)
    obtain ⟨y,hy⟩ : ∃ y,L[i] = y:=⟨_,rfl⟩
    have hym:=hdm y (by rw [← hy]; exact List.getElem_mem hi)
    have hyN : y < N:=hym.1
    have hg1 : (n :: L)[i + 1]?.getD 0 = y:=by simp [hi,hy]
    obtain ⟨p,hp⟩ : ∃ p,(n :: L)[i]?.getD 0 = p:=⟨_,rfl⟩
    have hlt : lvOf c p < lvOf c y:=by
      have hi1 : i < (n :: L).length:=by simp; omega
      have h2:=List.pairwise_iff_getElem.1 hpw i (i + 1) hi1 (by simp; omega) (by omega)
      have e1 : (n :: L)[i] = p:=by rw [← hp,List.getElem?_eq_getElem hi1]; rfl
      rw [e1] at h2
      simpa [hy] using h2
    have hnle : ¬ lvOf c y ≤ lvOf c p:=by omega
    simp [hi,natsV_get,hy,hyN,hym.2,boolsV_get,htl,tab_get,natV,hp,hnle,hw,show ¬ N ≤ y by omega]
    refine ⟨i + 1,hi,⟨by simp,?_⟩,by omega⟩
    simp [hy,hi]
  · have hi : i = L.length:=by have:=of_decide_eq_false hb; omega
    subst hi
    simp
    refine CallO.pure lives_c (by simp) ?_
    simp
end Go.Proofs.YtcmapbecfpcnfaaDoor
