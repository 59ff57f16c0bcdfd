/- Cones: the contracts of Dominators, Regions, Stems. Conditions: none. -/
import Derived.Test.YtcmapbecfpcnfaaDoorK10
set_option linter.unusedSimpArgs false
set_option linter.unusedVariables false
namespace Go.Proofs.YtcmapbecfpcnfaaDoor
open Go
theorem merge_ex {g : Nat→List Nat} {N : Nat} {lv pl : Nat→Nat} (h : PlOk g N lv pl) {P : Nat→Prop} {nx : Nat→Option Nat} {m : Nat} (hn : ∀ x,x < N→m < pl x→NxOk g P N nx x) : ∀ (k a b : Nat),(N - pl a) + (N - pl b) ≤ k→pl a ≤ N→pl b ≤ N→m < pl a→m < pl b→End g P N a→End g P N b→∃ b',End g P N b'∧∀ j,(Cm g P N a j∧Cm g P N b j)↔Cm g P N b' j:=by
  have hle : ∀ {x},End g P N x→pl x ≤ N:=fun {x} hx=>by
    rcases hx with rfl | ⟨hx,-⟩
    · rw [h.e]; exact Nat.le_refl _
    · exact Nat.le_of_lt (h.lt x hx)
  intro k
  induction k with
  | zero=>
    intro a b hk h1 h2 h3 h4 ha hb
    have ea : a = b:=by
      refine Classical.byContradiction fun e=>?_
      by_cases hl : pl a < pl b
      · omega
      · have:=h.ne ha hb e hl; omega
    subst ea
    exact ⟨a,ha,fun j=>and_self_iff⟩
  | succ k ih=>
    intro a b hk h1 h2 h3 h4 ha hb
    by_cases e : a = b
    · subst e; exact ⟨a,ha,fun j=>and_self_iff⟩
    by_cases hl : pl a < pl b
    · obtain ⟨q1,a',q2,q3,q4,q5⟩:=merge_step h ha hb hl fun x hx hq=>hn x hx (by omega)
      obtain ⟨b',p1,p2⟩:=ih a' b (by have:=hle q3; omega) (hle q3) h2 (by omega) h4 q3 hb
      exact ⟨b',p1,fun j=>(q5 j).trans (p2 j)⟩
    · have hl2:=h.ne ha hb e hl
      obtain ⟨q1,b0,q2,q3,q4,q5⟩:=merge_step h hb ha hl2 fun x hx hq=>hn x hx (by omega)
      obtain ⟨b',p1,p2⟩:=ih a b0 (by have:=hle q3; omega) h1 (hle q3) h3 (by omega) ha q3
      exact ⟨b',p1,fun j=>(and_comm.trans ((q5 j).trans and_comm)).trans (p2 j)⟩
theorem acc_ex {c : Ci} (hv : c.val) (ha : acyc c) {n : Nat} (hn : n < c.n.length) (hd : ∀ x,x < c.n.length→plc c n < plc c x→NxOk c.g (Pp c) c.n.length (nxOf c) x) : ∀ (ks : List Nat),(∀ k ∈ ks,n ∈ c.g k)→∀ ks0 r,(∀ k ∈ ks0,n ∈ c.g k)→AccOk c.g (Pp c) c.n.length ks0 r→∃ r',AccOk c.g (Pp c) c.n.length (ks0 ++ ks) r'
  | [],_,ks0,r,_,h=>⟨r,by rw [List.append_nil]; exact h⟩
  | x :: ks,hk,ks0,r,hk0,h=>by
    have hpl:=plc_ok hv ha
    have hxg:=hk x List.mem_cons_self
    have hxN:=(hpl.d.b _ _ hxg).2
    have hxp:=hpl.lv n x hn hxN (hpl.d.lt _ _ hxg)
    have hstep : ∃ r',AccOk c.g (Pp c) c.n.length (ks0 ++ [x]) r':=by
      by_cases hs : Sn c.g (Pp c) none x
      · cases r with
        | none=>exact ⟨_,h.first hs hxN⟩
        | some b=>
          obtain ⟨hbe,hbp⟩:=acc_pl hv ha hn hk0 h
          obtain ⟨b',h1,h2⟩:=merge_ex hpl hd _ x b (Nat.le_refl _) (Nat.le_of_lt (hpl.lt x hxN)) (end_pl hv ha hbe).1 hxp hbp (.inr ⟨hxN,hs⟩) hbe
          exact ⟨_,h.merge hs h1 h2⟩
      · exact ⟨_,h.skip hs⟩
    obtain ⟨r',h'⟩:=hstep
    obtain ⟨r2,h2⟩:=acc_ex hv ha hn hd ks (fun k hq=>hk k (List.mem_cons_of_mem _ hq)) (ks0 ++ [x]) r' (fun k hq=>by
      rcases List.mem_append.1 hq with hq | hq
      · exact hk0 k hq
      · rw [List.mem_singleton.1 hq]; exact hxg) h'
    exact ⟨r2,by rw [List.append_assoc] at h2; exact h2⟩
theorem nx_all {c : Ci} (hv : c.val) (ha : acyc c) : ∀ x,x < c.n.length→NxOk c.g (Pp c) c.n.length (nxOf c) x:=by
  have hpl:=plc_ok hv ha
  have main : ∀ k x,x < c.n.length→c.n.length ≤ plc c x + k→NxOk c.g (Pp c) c.n.length (nxOf c) x:=by
    intro k
    induction k with
    | zero=>intro x hx h; have:=hpl.lt x hx; omega
    | succ k ih=>
      intro x hx h
      have hd : ∀ y,y < c.n.length→plc c x < plc c y→NxOk c.g (Pp c) c.n.length (nxOf c) y:=fun y hy hq=>ih y hy (by omega)
      by_cases hp : Pp c x
      · have hok : NxOk c.g (Pp c) c.n.length (fun _=>some c.n.length) x:=nx_obs hp rfl
        exact hok.congr (nxOf_eq hpl.d hx hok)
      · obtain ⟨r,hr⟩:=acc_ex hv ha hx hd (rdL c x) (fun k hk=>(rdL_mem hv).1 hk) [] none (by simp) AccOk.ini
        have hok : NxOk c.g (Pp c) c.n.length (fun _=>r) x:=AccOk.done (ks:=rdL c x) hpl.d hp (fun k=>rdL_mem hv) hr
        exact hok.congr (nxOf_eq hpl.d hx hok)
  exact fun x hx=>main _ x hx (Nat.le_add_left _ _)
noncomputable def domL (c : Ci) (n : Nat) : List Nat:=Classical.epsilon fun L=>DomL c.g (Pp c) (lvOf c) n L
theorem domL_uni {c : Ci} {n : Nat} {L M : List Nat} (h : DomL c.g (Pp c) (lvOf c) n L) (h' : DomL c.g (Pp c) (lvOf c) n M) : L = M:=by
  have hl:=(List.pairwise_cons.1 h.p).2
  have hm:=(List.pairwise_cons.1 h'.p).2
  exact lex_unique (lv:=lvOf c) (hl.imp fun q=>.inl q) (hm.imp fun q=>.inl q) fun x=>(h.m x).trans (h'.m x).symm
theorem domL_eq {c : Ci} {n : Nat} {L : List Nat} (h : DomL c.g (Pp c) (lvOf c) n L) : domL c n = L:=domL_uni (Classical.epsilon_spec (p:=fun L=>DomL c.g (Pp c) (lvOf c) n L) ⟨L,h⟩) h
def optI : Option Nat→Int
  | none=>-1
  | some b=>(b : Int)
theorem optV_eq (o : Option Nat) : optV o = .int .i64 (optI o):=by cases o <;> rfl
structure DmSt where
  b : Option Nat
  L : List Nat
  a : Option (Nat × List V)
def DmI (c : Ci) (n : Nat) (L : List Nat) : Option Nat→Prop
  | none=>L = []∧¬ Sn c.g (Pp c) none n
  | some b=>DomI c.g (Pp c) c.n.length (lvOf c) n L b
theorem DmI.len {c : Ci} (hd : Dag c.g c.n.length (lvOf c)) {n : Nat} {L : List Nat} {b : Option Nat} (h : DmI c n L b) : L.length ≤ c.n.length:=by
  cases b with
  | none=>rw [h.1]; simp
  | some b=>
    have hm : ∀ j ∈ L,j < c.n.length:=fun j hj=>(((h.m j).2 (.inl hj)).lt hd)
    have hp:=(List.pairwise_cons.1 h.p).2
    exact nodup_len (hp.imp fun q e=>by rw [e] at q; omega) hm
theorem domErr_c (c : Ci) (hwf : c.wf) (i : Int) {e : Int} (he : argE c [i] = e) (h0 : e ≠ 0) : PureC Tryd.prog gl0 21 [c.v,.int .i64 i] (.tup [.nil,.int .i64 e]):=by
  have hck:=checkC_c c hwf [i] (some 1) (by simp)
  rw [he] at hck
  simp only [ints,List.map_cons,List.map_nil] at hck
  refine PureC.of_W 1 ok21 rfl ?_
  simp [i21,x21]
  intro gf1 gf2
  refine CallO.borrow 1 hck (by simp) rfl ?_
  simp [h0]
theorem meetErr_c (c : Ci) (hwf : c.wf) (i : Int) {e : Int} (he : argE c [i] = e) (h0 : e ≠ 0) : PureC Tryd.prog gl0 22 [c.v,.int .i64 i] (.tup [.nil,.int .i64 e]):=by
  have hck:=checkC_c c hwf [i] (some 1) (by simp)
  rw [he] at hck
  simp only [ints,List.map_cons,List.map_nil] at hck
  refine PureC.of_W 1 ok22 rfl ?_
  simp [i22,x22]
  intro gf1 gf2
  refine CallO.borrow 1 hck (by simp) rfl ?_
  simp [h0]
set_option maxHeartbeats 4000000 in
theorem dom_c (c : Ci) (hwf : c.wf) (h0 : chkE c = 0) (h20 : c.n.length ≤ 20) (hl : c.lens) (n : Nat) (hn : n < c.n.length) : PureC Tryd.prog gl0 21 [c.v,natV n] (okV (domL c n)):=by
  obtain ⟨hv,ha⟩:=ck_val hwf h0
  have hd:=ci_dag hv ha
  have hpl:=plc_ok hv ha
  have hck:=checkC_c c hwf [(n : Int)] (some 1) (by simp)
  have hz:=argE_ok h0 (l:=[n]) (by simpa using hn)
  simp only [List.map_cons,List.map_nil] at hz
  rw [hz] at hck
  simp only [ints,List.map_cons,List.map_nil] at hck
  have hnx:=next_c c hwf h0 h20 hl
  have hall:=nx_all hv ha
  obtain ⟨R,hR⟩ : ∃ R,domL c n = R:=⟨_,rfl⟩
  rw [hR]
  refine PureC.of_W 2 ok21 rfl ?_
  simp [i21,x21,natV]
  intro gf1 gf2
  generalize gf1 2 = g2
  refine CallO.borrow 1 hck (by simp) rfl ?_
  simp
  refine CallO.pure hnx (by simp) ?_
  have hlt : (n : Int) < (c.n.length : Int) + 1:=by omega
  simp [show n < c.n.length + 1 by omega,nxV_get,optV_eq,hlt]
  refine LoopP.of (X:=DmSt) (fun z=>[(9,.int .i64 (optI z.b)),(8,accV 39 z.a),(7,.sl (nxV c.n.length (nxOf c)) (some (c.n.length + 1))),(2,.ptr 2 g2 0 0)]) (fun z=>(2,.row g2 4 [c.v]) :: accH 39 1 z.a)
    (fun z=>DmI c n z.L z.b∧(z.a = none∨accL z.a ≠ [])∧accL z.a = natsV z.L) (fun z=>match z.b with | none=>0 | some b=>c.n.length + 1 - plc c b) ⟨nxOf c n,[],none⟩ ⟨?_,by simp,by simp [accL,natsV]⟩ (by simp [accV]) (by simp [accH]) ?_
  · dsimp only
    rcases hall n hn with ⟨h1,h2⟩ | ⟨b,h1,h2,h3,h4⟩
    · rw [h1]; exact ⟨rfl,h2⟩
    · rw [h1]; exact .ini hd h3 h4
  rintro ⟨b,L,acc⟩ ⟨q1,q2,q3⟩
  dsimp only at q1 q2 q3 ⊢
  have hLl:=q1.len hd
  cases b with
  | none=>
    have hRL : R = L:=by rw [← hR,q1.1]; exact domL_eq (domL_none q1.2)
    simp [optI]
    cases acc with
    | none=>
      simp only [accL] at q3
      have hL0 : L = []:=by
        cases hh : L with
        | nil=>rfl
        | cons x l=>rw [hh] at q3; cases q3
      simp [accV]
      refine CallO.pure clip0_c (by simp) ?_
      simp [okV,hRL,hL0,natsV]
    | some gl=>
      obtain ⟨g,l⟩:=gl
      simp only [accL] at q3
      subst q3
      simp [accV,accH]
      refine clip_c L 39 g _ (by simp) _ ⟨[(39,.row g 1 (natsV L))],by simp,?_⟩
      simp [map_frz_pure (natsV_pure _),okV,hRL]
      exact List.take_of_length_le (by simp)
  | some b=>
    have hbN1 : b ≤ c.n.length:=(end_pl hv ha q1.e).2
    simp [optI,show ¬ ((b : Int) = -1) by omega]
    refine BrB.of (fun hb=>?_) (fun hb=>?_)
    · have hbN : b < c.n.length:=of_decide_eq_true hb
      obtain ⟨b',e1,e2,e3⟩:=q1.step hpl hbN (hall b hbN)
      have hb':=(end_pl hv ha e3.e).1
      have hlt2 : (b : Int) < (c.n.length : Int) + 1:=by omega
      have hn2 : natsV (L ++ [b]) = natsV L ++ [.int .i64 (b : Int)]:=by simp [natsV,natV]
      cases acc with
      | none=>
        simp only [accL] at q3
        simp [accV,accH,hlt2,show b < c.n.length + 1 by omega,nxV_get,optV_eq,e1,optI]
        intro gf3 gf4
        exact ⟨⟨some b',L ++ [b],some (gf4 39,[.int .i64 (b : Int)])⟩,⟨e3,by simp [accL],by dsimp only [accL]; rw [hn2,← q3]; rfl⟩,by simp [optI],by simp,by dsimp only; omega⟩
      | some gl=>
        obtain ⟨g,l⟩:=gl
        simp only [accL] at q3
        have hll : l.length = L.length:=by rw [q3,natsV_length]
        have hle : l.length + 1 ≤ 274877906944:=by omega
        simp [accV,accH,hle,hlt2,show b < c.n.length + 1 by omega,nxV_get,optV_eq,e1,optI]
        intro gf3 gf4
        exact ⟨⟨some b',L ++ [b],some (gf4 39,l ++ [.int .i64 (b : Int)])⟩,⟨e3,by simp [accL],by dsimp only [accL]; rw [hn2,← q3]⟩,by simp [optI],by simp,by dsimp only; omega⟩
    · have hbN : ¬ b < c.n.length:=of_decide_eq_false hb
      have hRL : R = L:=by rw [← hR]; exact domL_eq (q1.done hbN)
      simp [hb]
      cases acc with
      | none=>
        simp only [accL] at q3
        have hL0 : L = []:=by
          cases hh : L with
          | nil=>rfl
          | cons x l=>rw [hh] at q3; cases q3
        simp [accV]
        refine CallO.pure clip0_c (by simp) ?_
        simp [okV,hRL,hL0,natsV]
      | some gl=>
        obtain ⟨g,l⟩:=gl
        simp only [accL] at q3
        subst q3
        simp [accV,accH]
        refine clip_c L 39 g _ (by simp) _ ⟨[(39,.row g 1 (natsV L))],by simp,?_⟩
        simp [map_frz_pure (natsV_pure _),okV,hRL]
        exact List.take_of_length_le (by simp)
noncomputable def stemOf (c : Ci) (n : Nat) : Nat:=Classical.epsilon fun s=>St c n s
theorem stem_eq {c : Ci} {n s : Nat} (h : St c n s) : stemOf c n = s:=(Classical.epsilon_spec (p:=fun s=>St c n s) ⟨s,h⟩).det h
theorem st_ex {c : Ci} (hv : c.val) (ha : acyc c) : ∀ n,n < c.n.length→St c n (stemOf c n):=by
  have hd:=ci_dag hv ha
  have main : ∀ k n,c.n.length - lvOf c n < k→n < c.n.length→∃ s,St c n s:=by
    intro k
    induction k with
    | zero=>intro n h; omega
    | succ k ih=>
      intro n hk hn
      by_cases hp : Pp c n
      · exact ⟨n,.self (.inl hp)⟩
      by_cases hl : (rdL c n).length = 1
      · obtain ⟨x,hx⟩:=List.length_eq_one_iff.1 hl
        have hxg : n ∈ c.g x:=(rdL_mem hv).1 (by rw [hx]; simp)
        have h1:=hd.lt _ _ hxg
        have h2:=(hd.b _ _ hxg).2
        have h3:=ha.lv.lt hv.g x h2
        obtain ⟨s,hs⟩:=ih x (by omega) h2
        exact ⟨s,.next hp hx hs⟩
      · exact ⟨n,.self (.inr hl)⟩
  exact fun n hn=>Classical.epsilon_spec (main _ n (Nat.lt_succ_self _) hn)
noncomputable def stL (c : Ci) : List Nat:=tab c.n.length (stemOf c)
noncomputable def rgT (c : Ci) (k x : Nat) : Nat:=if bP (x < c.n.length∧c.n.length ≤ plc c x + k) = true then stemOf c x else 0
theorem rgT_0 {c : Ci} (hv : c.val) (ha : acyc c) (x : Nat) : rgT c 0 x = 0:=if_neg fun q=>by
  obtain ⟨h1,h2⟩:=bP_iff.1 q
  have:=(plc_ok hv ha).lt x h1; omega
theorem rgT_in {c : Ci} {k x : Nat} (hx : x < c.n.length) (h : c.n.length ≤ plc c x + k) : rgT c k x = stemOf c x:=if_pos (bP_iff.2 ⟨hx,h⟩)
theorem rgT_succ {c : Ci} (hv : c.val) (ha : acyc c) {k n : Nat} (hn : n < c.n.length) (hp : plc c n + k + 1 = c.n.length) : rgT c (k + 1) = upd1 (rgT c k) n (stemOf c n):=by
  funext x
  show _ = if x = n then stemOf c n else rgT c k x
  by_cases e : x = n
  · subst e; rw [if_pos rfl,rgT_in hn (by omega)]
  · rw [if_neg e]
    unfold rgT
    congr 1
    refine propext ?_
    rw [bP_iff,bP_iff]
    refine and_congr_right fun hx=>⟨fun h=>?_,fun h=>by omega⟩
    have : plc c x ≠ plc c n:=fun q=>e ((plc_ok hv ha).inj x n hx hn q)
    omega
theorem natsV_set0 (n : Nat) (f : Nat→Nat) (i b : Nat) : (natsV (tab n f)).set i (.int .i64 (b : Int)) = natsV (tab n (upd1 f i b)):=by
  have : (V.int .i64 (b : Int)) = natV b:=rfl
  rw [this,natsV,← List.map_set,tab_set]; rfl
theorem regErr_c (c : Ci) (hwf : c.wf) {e : Int} (he : chkE c = e) (h0 : e ≠ 0) : PureC Tryd.prog gl0 23 [c.v] (.tup [.nil,.int .i64 e]):=by
  have ho:=order_err c hwf he h0
  refine PureC.of_W 1 ok23 rfl ?_
  simp [i23,x23]
  intro gf1
  refine CallO.pure ho (by simp) ?_
  simp [h0]
theorem stemErr_c (c : Ci) (hwf : c.wf) {e : Int} (he : chkE c = e) (h0 : e ≠ 0) : PureC Tryd.prog gl0 24 [c.v] (.tup [.sl [] (some 0),.int .i64 e]):=by
  have ho:=regErr_c c hwf he h0
  refine PureC.of_W 1 ok24 rfl ?_
  simp [i24,x24]
  intro gf1
  refine CallO.pure ho (by simp) ?_
  simp
  refine LoopP.of (X:=Unit) (fun _=>[(16,.int .i64 0),(15,.int .i64 0),(6,.nil),(5,.int .i64 e)]) (fun _=>[]) (fun _=>True) (fun _=>0) () trivial (by simp) (by simp) ?_
  rintro ⟨⟩ -
  simp
  refine CallO.pure clip0_c (by simp) ?_
  simp
set_option maxHeartbeats 4000000 in
theorem reg_c (c : Ci) (hwf : c.wf) (h0 : chkE c = 0) (h20 : c.n.length ≤ 20) (hl : c.lens) : PureC Tryd.prog gl0 23 [c.v] (okV (stL c)):=by
  obtain ⟨hv,ha⟩:=ck_val hwf h0
  have hd:=ci_dag hv ha
  have hord:=orderP_c c hwf h0 h20
  have hLl:=ordL_len hv ha
  obtain ⟨N,hN⟩ : ∃ N,c.n.length = N:=⟨_,rfl⟩
  obtain ⟨L,hL⟩ : ∃ L,ordL c = L:=⟨_,rfl⟩
  have hplc:=fun i hi=>plc_of hv ha (i:=i) hi
  have hobs:=obs_c c hl
  have hrd:=readers_c c hv hl.n
  simp only [okV,hL] at hord
  simp only [hL,hN] at hLl hplc hobs hrd
  refine PureC.of_W 2 ok23 rfl ?_
  simp [i23,x23]
  intro gf1
  generalize gf1 1 = g1
  refine CallO.pure hord (by simp) ?_
  simp
  intro gm
  first | refine ⟨_,_,_,.pure hobs (by simp),?_⟩ | refine ⟨_,⟨_,_,.pure hobs (by simp)⟩,?_⟩ | refine ⟨_,_,⟨_,.pure hobs (by simp)⟩,?_⟩
  simp
  first | refine ⟨_,_,_,.pure hrd (by simp),?_⟩ | refine ⟨_,⟨_,_,.pure hrd (by simp)⟩,?_⟩ | refine ⟨_,_,⟨_,.pure hrd (by simp)⟩,?_⟩
  simp
  refine ⟨rfl,?_⟩
  have hz : List.replicate N (V.int .i64 0) = natsV (tab N (rgT c 0)):=by
    refine List.ext_getElem (by simp [tab]) fun i h1 h2=>?_
    rw [natsV_get,tab_get,List.getElem_replicate,rgT_0 hv ha]; rfl
  simp [hLl,hz,show N ≤ 549755813888 by omega]
  intro gf2
  generalize gf2 25 = g25
  refine LoopP.of (X:=Nat) (fun k=>[(28,natV k),(27,natV N),(4,.sl (natsV L) (some N)),(6,.sl (boolsV N (ptB c)) (some N)),(7,.sl (tab N (edV (rdL c))) (some N)),(8,.ref 25 g25 0 N (some N))])
    (fun k=>[(25,.row g25 1 (natsV (tab N (rgT c k))))]) (fun k=>k ≤ N) (fun k=>N - k) 0 (by simp) (by simp [natV]) (by simp) ?_
  intro k h1
  have htl : ∀ f : Nat→Nat,(tab N f).length = N:=fun f=>by simp [tab]
  simp [natV]
  refine BrB.of (fun hb=>?_) (fun hb=>?_)
  · have hk : k < N:=of_decide_eq_true hb
    have hw:=wrapN k (by omega)
    obtain ⟨N1,hN11⟩ : ∃ N1,N = 1 + N1:=⟨N - 1,by omega⟩
    obtain ⟨e,he⟩ : ∃ e,N1 = k + e:=⟨N1 - k,by omega⟩
    have hs1 : IntKind.i64.wrap ((N : Int) - 1) = (N1 : Int):=subN (b:=1) hN11 (by omega)
    have hs2 : IntKind.i64.wrap ((N1 : Int) - (k : Int)) = (e : Int):=subN he (by omega)
    have heN : e < N:=by omega
    obtain ⟨n,hn⟩ : ∃ n,L[e]'(by omega) = n:=⟨_,rfl⟩
    obtain ⟨hpn,hnN⟩:=hplc e (by omega)
    simp only [hn] at hpn hnN
    have hnN' : n < c.n.length:=by omega
    have hpk : plc c n + k + 1 = c.n.length:=by omega
    have hst:=st_ex hv ha n hnN'
    have hT1:=rgT_succ hv ha hnN' hpk
    have hfin : ∀ U : Nat→Nat,U = rgT c (k + 1)→∃ x',x' ≤ N∧(k : Int) + 1 = (x' : Int)∧natsV (tab N U) = natsV (tab N (rgT c x'))∧N - x' < N - k:=fun U hU=>⟨k + 1,hk,by simp,by rw [hU],by omega⟩
    simp [hs1,hs2,hLl,heN,natsV_get,hn,hnN,boolsV_get,htl,natsV_set0,tab_get,edV]
    cases hob : ptB c n with
    | true=>
      have e1 : stemOf c n = n:=stem_eq (.self (.inl hob))
      rw [e1] at hT1
      simp [hw]
      exact hfin _ hT1.symm
    | false=>
      have hob' : ¬ Pp c n:=fun q=>by rw [q] at hob; cases hob
      by_cases hlen : (rdL c n).length = 1
      · obtain ⟨x,hx⟩:=List.length_eq_one_iff.1 hlen
        have hxg : n ∈ c.g x:=(rdL_mem hv).1 (by rw [hx]; simp)
        have hxN:=(hd.b _ _ hxg).2
        have hxp:=(plc_ok hv ha).lv n x hnN' hxN (hd.lt _ _ hxg)
        have hxn : x ≠ n:=fun q=>by rw [q] at hxp; omega
        have hxs:=st_ex hv ha x hxN
        have e1 : stemOf c n = stemOf c x:=stem_eq (.next hob' hx hxs)
        have e2 : upd1 (rgT c k) n n x = stemOf c n:=by rw [upd1_off _ _ hxn,rgT_in hxN (by omega),e1]
        simp [hnN,tab_get,edV,hx,natsV_get,natV,hw,show x < N by omega,htl,e2]
        rw [natsV_set0,upd1_twice]
        exact hfin _ hT1.symm
      · have e1 : stemOf c n = n:=stem_eq (.self (.inr hlen))
        rw [e1] at hT1
        simp [hnN,tab_get,edV,hlen,hw]
        exact hfin _ hT1.symm
  · have hk : k = N:=by have:=of_decide_eq_false hb; omega
    subst k
    have hTN : tab N (rgT c N) = stL c:=by
      unfold stL
      rw [hN]
      exact tab_congr fun x hx=>rgT_in (by omega) (by omega)
    have hsl : (stL c).length = N:=by rw [← hTN,htl]
    rw [hTN]
    simp [map_frz_pure (natsV_pure _),okV,hsl]
    exact List.take_of_length_le (by simp [hsl])
end Go.Proofs.YtcmapbecfpcnfaaDoor
