/- Cones: the contract of reached, and of its walk. Conditions: none. -/
import Derived.Test.YtcmapbecfpcnfaaDoorK5
set_option linter.unusedSimpArgs false
set_option linter.unusedVariables false
namespace Go.Proofs.YtcmapbecfpcnfaaDoor
open Go
theorem call_to {P : Program} {gl : Fr} {f : FuncId} {args : List V} {h : Hp} {K K' : V→Hp→Prop} (hc : ICallO P gl f args h K) (hk : ∀ v h',K v h'→K' v h') : ICallO P gl f args h K':=
  ⟨hc.1,fun G M w r h1 h2 h3 h4=>Calls.mono (hc.2 G M w r h1 h2 h3 h4) fun _ _ ⟨rv,v,h',G',M',q1,q2,q3,q4,q5⟩=>⟨rv,v,h',G',M',q1,hk v h' q2,q3,q4,q5⟩⟩
structure Dn (e : Nat→List Nat) (n : Nat) (m : Nat→Nat) : Prop where
  d : ∀ x y,y ∈ e x→m y < m x∧y < n
  l : ∀ x,(e x).length < 1000000000
theorem Dn.le {e : Nat→List Nat} {n : Nat} {m : Nat→Nat} (h : Dn e n m) {x y : Nat} (hr : Rch e x y) : m y ≤ m x:=by
  induction hr with
  | rfl _=>exact Nat.le_refl _
  | head hx _ ih=>have:=(h.d _ _ hx).1; omega
noncomputable def exR (e : Nat→List Nat) (D : Nat→Bool) (x : Nat) : Nat→Bool:=fun j=>D j || bP (Rch e x j)
noncomputable def exL (e : Nat→List Nat) (D : Nat→Bool) (l : List Nat) : Nat→Bool:=fun j=>D j || bP (∃ y ∈ l,Rch e y j)
theorem exL_nil (e : Nat→List Nat) (D : Nat→Bool) : exL e D [] = D:=by
  funext j
  have : bP (∃ y ∈ ([] : List Nat),Rch e y j) = false:=bP_not.2 (by simp)
  simp only [exL,this,Bool.or_false]
theorem exL_snoc (e : Nat→List Nat) (D : Nat→Bool) (l : List Nat) (y : Nat) : exR e (exL e D l) y = exL e D (l ++ [y]):=by
  funext j
  rw [Bool.eq_iff_iff]
  simp only [exR,exL,Bool.or_eq_true,bP_iff,List.mem_append,List.mem_singleton]
  constructor
  · rintro ((h | ⟨z,h1,h2⟩) | h)
    · exact .inl h
    · exact .inr ⟨z,.inl h1,h2⟩
    · exact .inr ⟨y,.inr rfl,h⟩
  · rintro (h | ⟨z,h1 | rfl,h2⟩)
    · exact .inl (.inl h)
    · exact .inl (.inr ⟨z,h1,h2⟩)
    · exact .inr h2
def OkD (e : Nat→List Nat) (D : Nat→Bool) (x : Nat) : Prop:=∀ y,Rch e x y→D y = true→∀ z ∈ e y,D z = true
theorem exR_old {e : Nat→List Nat} {D : Nat→Bool} {x : Nat} (h : OkD e D x) (hx : D x = true) : exR e D x = D:=by
  funext j
  rw [Bool.eq_iff_iff]
  simp only [exR,Bool.or_eq_true,bP_iff]
  refine ⟨fun q=>q.elim id fun q=>?_,.inl⟩
  exact (q.closed (S:=fun y=>Rch e x y∧D y = true) (fun y hy z hz=>⟨hy.1.tail hz,h y hy.1 hy.2 z hz⟩) ⟨.rfl _,hx⟩).2
theorem exR_new {e : Nat→List Nat} {D : Nat→Bool} {x : Nat} : exL e (upd1 D x true) (e x) = exR e D x:=by
  funext j
  rw [Bool.eq_iff_iff]
  simp only [exR,exL,Bool.or_eq_true,bP_iff]
  have hu : upd1 D x true j = true↔D j = true∨j = x:=by
    show (if j = x then true else D j) = true↔_
    by_cases h : j = x <;> simp [h]
  rw [hu]
  constructor
  · rintro ((h | rfl) | ⟨y,h1,h2⟩)
    · exact .inl h
    · exact .inr (.rfl _)
    · exact .inr (.head h1 h2)
  · rintro (h | h)
    · exact .inl (.inl h)
    · cases h with
      | rfl=>exact .inl (.inr rfl)
      | head hx h=>exact .inr ⟨_,hx,h⟩
theorem OkD.next {e : Nat→List Nat} {n : Nat} {m : Nat→Nat} (hd : Dn e n m) {D : Nat→Bool} {x : Nat} (h : OkD e D x) {l : List Nat} {y : Nat} (hy : y ∈ e x) : OkD e (exL e (upd1 D x true) l) y:=by
  intro z hz hDz w hw
  simp only [exL,Bool.or_eq_true,bP_iff] at hDz ⊢
  rcases hDz with h1 | ⟨u,h1,h2⟩
  · have hzx : z ≠ x:=fun e1=>by
      have:=hd.le hz; have:=(hd.d _ _ hy).1
      rw [e1] at *; omega
    have h1' : D z = true:=by
      have : upd1 D x true z = D z:=by show (if z = x then _ else _) = _; rw [if_neg hzx]
      rw [← this]; exact h1
    have:=h z (.head hy hz) h1' w hw
    refine .inl ?_
    show (if w = x then true else D w) = true
    split
    · rfl
    · exact this
  · exact .inr ⟨u,h1,h2.tail hw⟩
def wkH (n : Nat) (e : Nat→List Nat) (gB g5 g2 g6 : Nat) (D : Nat→Bool) : Hp:=
  [(11,.row gB 1 (boolsV n D)),(5,.row g5 1 [.ref 11 gB 0 n (some n)]),(2,.row g2 1 [.sl (tab n (edV e)) (some n)]),(6,.row g6 1 [.fn 79 [] [.ptr 5 g5 0 0,.ptr 2 g2 0 0,.ptr 6 g6 0 0]])]
set_option maxHeartbeats 2000000 in
theorem walk_c (n : Nat) (hn : n < 1000000) (e : Nat→List Nat) (m : Nat→Nat) (hd : Dn e n m) (gB g5 g2 g6 : Nat) : ∀ (k x : Nat) (D : Nat→Bool),m x < k→x < n→OkD e D x→
    ICallO Tryd.prog gl0 79 [natV x,.ptr 5 g5 0 0,.ptr 2 g2 0 0,.ptr 6 g6 0 0] (wkH n e gB g5 g2 g6 D) (fun v h=>v = .tup []∧h = wkH n e gB g5 g2 g6 (exR e D x)):=by
  intro k
  induction k with
  | zero=>intro x D h; omega
  | succ k ih=>
    intro x D hm hx hD
    refine CallO.of_W ok79 rfl ?_
    simp [i79,x79,wkH,natV,hx,boolsV_get]
    refine BrB.of (fun hb=>?_) (fun hb=>?_)
    · rw [exR_old hD hb]
      simp
      exact .done (by simp)
    · simp [hx,boolsV_set,boolsV_get,tab_get,edV]
      have hL:=hd.l x
      refine LoopP.of (X:=Nat) (fun i=>[(19,natV i),(18,natV (e x).length),(17,.sl (natsV (e x)) none),(1,.ptr 5 g5 0 0),(2,.ptr 2 g2 0 0),(3,.ptr 6 g6 0 0)])
        (fun i=>wkH n e gB g5 g2 g6 (exL e (upd1 D x true) ((e x).take i))) (fun i=>i ≤ (e x).length) (fun i=>(e x).length - i) 0 (by simp) (by simp [natV]) (by simp [wkH,exL_nil]) ?_
      intro i h1
      simp [natV,wkH]
      refine BrB.of (fun hb2=>?_) (fun hb2=>?_)
      · have hi : i < (e x).length:=of_decide_eq_true hb2
        have hw:=wrapN i (by omega)
        obtain ⟨y,hy⟩ : ∃ y,(e x)[i] = y:=⟨_,rfl⟩
        have hym : y ∈ e x:=by rw [← hy]; exact List.getElem_mem hi
        have htk : (e x).take (i + 1) = (e x).take i ++ [y]:=by rw [List.take_succ_eq_append_getElem hi,hy]
        simp [hi,natsV_get,hy]
        have hc:=ih y (exL e (upd1 D x true) ((e x).take i)) (by have:=(hd.d _ _ hym).1; omega) (hd.d _ _ hym).2 (hD.next hd hym)
        rw [exL_snoc,← htk] at hc
        simp only [wkH,natV] at hc
        refine call_to hc ?_
        rintro v h ⟨rfl,rfl⟩
        simp [hw]
        exact ⟨i + 1,hi,rfl,rfl,by omega⟩
      · have hi : i = (e x).length:=by have:=of_decide_eq_false hb2; omega
        subst hi
        simp [exR_new]
        exact .done (by simp)
theorem edV_pure (n : Nat) (e : Nat→List Nat) : V.pureL (tab n (edV e)) = true:=by
  rw [V.pureL_iff]
  intro v hv
  unfold tab at hv
  obtain ⟨j,-,rfl⟩:=List.mem_map.1 hv
  exact natsV_pure _
theorem exL_ok {e : Nat→List Nat} {l : List Nat} {x : Nat} : OkD e (exL e (fun _=>false) l) x:=by
  intro y _ hD z hz
  simp only [exL,Bool.or_eq_true,bP_iff,Bool.false_eq_true,false_or] at hD ⊢
  obtain ⟨u,h1,h2⟩:=hD
  exact ⟨u,h1,h2.tail hz⟩
set_option maxHeartbeats 2000000 in
theorem reached_c (n : Nat) (hn : n < 1000000) (e : Nat→List Nat) (m : Nat→Nat) (hd : Dn e n m) (l : List Nat) (hl : ∀ x ∈ l,x < n) (hll : l.length < 1000000000) (c2 : Option Nat) :
    PureC Tryd.prog gl0 52 [.sl (tab n (edV e)) (some n),.sl (natsV l) c2] (.sl (boolsV n fun j=>bP (∃ x ∈ l,Rch e x j)) (some n)):=by
  refine PureC.of_W 1 ok52 rfl ?_
  have htl : (tab n (edV e)).length = n:=by simp [tab]
  simp [i52,x52,boolsV_rep,htl]
  intro gf1 gf2
  refine ⟨by omega,fun gf3 gf4=>?_⟩
  generalize gf1 2 = g2
  generalize gf2 11 = gB
  generalize gf3 5 = g5
  generalize gf4 6 = g6
  refine LoopP.of (X:=Nat) (fun i=>[(15,natV i),(14,natV l.length),(13,.sl (natsV l) c2),(5,.ptr 5 g5 0 0),(6,.ptr 6 g6 0 0)])
    (fun i=>wkH n e gB g5 g2 g6 (exL e (fun _=>false) (l.take i))) (fun i=>i ≤ l.length) (fun i=>l.length - i) 0 (by simp) (by simp [natV]) (by simp [wkH,exL_nil]) ?_
  intro i h1
  simp [natV,wkH]
  refine BrB.of (fun hb=>?_) (fun hb=>?_)
  · have hi : i < l.length:=of_decide_eq_true hb
    have hw:=wrapN i (by omega)
    obtain ⟨y,hy⟩ : ∃ y,l[i] = y:=⟨_,rfl⟩
    have htk : l.take (i + 1) = l.take i ++ [y]:=by rw [List.take_succ_eq_append_getElem hi,hy]
    simp [hi,natsV_get,hy]
    have hc:=walk_c n hn e m hd gB g5 g2 g6 (m y + 1) y (exL e (fun _=>false) (l.take i)) (by omega) (hl y (by rw [← hy]; exact List.getElem_mem hi)) exL_ok
    rw [exL_snoc,← htk] at hc
    simp only [wkH,natV] at hc
    refine call_to hc ?_
    rintro v h ⟨rfl,rfl⟩
    simp [hw]
    exact ⟨i + 1,hi,rfl,rfl,by omega⟩
  · have hi : i = l.length:=by have:=of_decide_eq_false hb; omega
    subst hi
    simp [map_frz_pure (boolsV_pure _ _)]
    rw [List.take_of_length_le (by simp)]
    exact boolsV_congr fun j _=>by simp [exL]
end Go.Proofs.YtcmapbecfpcnfaaDoor
namespace Go.Proofs.YtcmapbecfpcnfaaDoor
open Go
theorem ck_val {c : Ci} (hwf : c.wf) (h : chkE c = 0) : c.val∧acyc c:=by
  unfold chkE at h
  split at h
  · rename_i h1; exact absurd h h1
  · rename_i h1
    split at h
    · rename_i h2; exact ⟨sh_val hwf (Classical.not_not.1 h1),h2⟩
    · exact absurd h (by decide)
theorem g_len {c : Ci} (hv : c.val) (x : Nat) : (c.g x).length ≤ 16:=by
  by_cases hx : x < c.n.length
  · have:=hv.l x hx
    unfold Ci.g
    split <;> simp; exact this
  · have : c.nd x = default:=by unfold Ci.nd; rw [List.getD_eq_getElem?_getD,List.getElem?_eq_none (by omega)]; rfl
    unfold Ci.g
    rw [this,if_neg (by simp [combB,show (default : Nd).k = 0 from rfl])]
    simp
theorem g_dn {c : Ci} (hv : c.val) (ha : acyc c) : Dn c.g c.n.length (lvOf c):=by
  have hd:=ci_dag hv ha
  exact ⟨fun x y hy=>⟨hd.lt _ _ hy,(hd.b _ _ hy).1⟩,fun x=>by have:=g_len hv x; omega⟩
theorem rdL_len {c : Ci} (hv : c.val) (hn : c.n.length < 1000000) (x : Nat) : (rdL c x).length < 1000000000:=by
  have hin : ∀ n ∈ c.n,n.i.length < 17:=fun y hy=>by
    obtain ⟨i,hi,rfl⟩:=List.getElem_of_mem hy
    have:=hv.l i hi
    rw [c.nd_get hi] at this; omega
  have h1:=rfanL_le (x : Int) 17 c.n 0 hin
  rw [rfanL_P,List.length_map] at h1
  unfold rdL
  rw [List.length_map]
  have:=List.length_filter_le (fun p : Nat × Nat=>combB (c.nd p.1).k) (fanP (x : Int) c.n 0)
  omega
theorem r_dn {c : Ci} (hv : c.val) (ha : acyc c) (hn : c.n.length < 1000000) : Dn (rdL c) c.n.length (fun x=>c.n.length - lvOf c x):=by
  have hd:=ci_dag hv ha
  refine ⟨fun x y hy=>?_,rdL_len hv hn⟩
  have h1:=(rdL_mem hv).1 hy
  have h2:=hd.lt _ _ h1
  have h3:=hd.b _ _ h1
  have h4:=ha.lv.lt hv.g y h3.2
  exact ⟨by show c.n.length - lvOf c y < c.n.length - lvOf c x; omega,h3.2⟩
theorem rch_rd {c : Ci} (hv : c.val) {a b : Nat} : Rch (rdL c) a b↔Rch c.g b a:=by
  constructor
  · intro h
    induction h with
    | rfl _=>exact .rfl _
    | head hx _ ih=>exact ih.tail ((rdL_mem hv).1 hx)
  · intro h
    induction h with
    | rfl _=>exact .rfl _
    | head hx _ ih=>exact ih.tail ((rdL_mem hv).2 hx)
noncomputable def argE (c : Ci) (l : List Int) : Int:=if chkE c ≠ 0 then chkE c else if l.any (outB c.n.length) = true then 1 else 0
theorem checkC_c (c : Ci) (hwf : c.wf) (l : List Int) (cap : Option Nat) (hl : l.length < 1000000000000) : PureC Tryd.prog gl0 50 [c.v,.sl (ints l) cap] (.int .i64 (argE c l)):=by
  obtain ⟨q,hq⟩ : ∃ r,argE c l = r:=⟨_,rfl⟩
  rw [hq]
  unfold argE at hq
  have hck:=check_c c hwf
  generalize chkE c = E at hck hq
  refine PureC.of_W 1 ok50 rfl ?_
  simp [i50,x50]
  intro gf
  refine CallO.pure hck (by simp) ?_
  simp
  refine BrB.of (fun hb=>?_) (fun hb=>?_)
  · rw [if_neg (by simpa using hb)] at hq
    simp
    refine CallO.pure (valid_c c l cap hl) (by simp [ints_pure]) ?_
    simp
    refine BrB.of (fun h2=>?_) (fun h2=>?_)
    · rw [if_pos h2] at hq
      simp [← hq]
    · rw [if_neg (by simp [h2])] at hq
      simp [← hq]
  · rw [if_pos (by simpa using hb)] at hq
    simp [hq]
theorem fanin_err (c : Ci) (hwf : c.wf) (l : List Int) (cap : Option Nat) (hl : l.length < 1000000000000) {e : Int} (he : argE c l = e) (h0 : e ≠ 0) : PureC Tryd.prog gl0 19 [c.v,.sl (ints l) cap] (.tup [.nil,.int .i64 e]):=by
  have hck:=checkC_c c hwf l cap hl
  rw [he] at hck
  refine PureC.of_W 1 ok19 rfl ?_
  simp [i19,x19]
  intro gf
  refine CallO.pure hck (by simp [ints_pure]) ?_
  simp [h0]
theorem fanout_err (c : Ci) (hwf : c.wf) (l : List Int) (cap : Option Nat) (hl : l.length < 1000000000000) {e : Int} (he : argE c l = e) (h0 : e ≠ 0) : PureC Tryd.prog gl0 20 [c.v,.sl (ints l) cap] (.tup [.nil,.int .i64 e]):=by
  have hck:=checkC_c c hwf l cap hl
  rw [he] at hck
  refine PureC.of_W 1 ok20 rfl ?_
  simp [i20,x20]
  intro gf
  refine CallO.pure hck (by simp [ints_pure]) ?_
  simp [h0]
noncomputable def finL (c : Ci) (l : List Nat) : List Nat:=fL c.n.length fun j=>bP (∃ x ∈ l,Rch c.g x j)
noncomputable def foutL (c : Ci) (l : List Nat) : List Nat:=fL c.n.length fun j=>bP (∃ x ∈ l,Rch c.g j x)
def okV (l : List Nat) : V:=.tup [.sl (natsV l) (some l.length),.int .i64 0]
theorem nats_ok {n : Nat} {l : List Nat} (h : ∀ x ∈ l,x < n) : (l.map fun x : Nat=>(x : Int)).any (outB n) = false:=by
  rw [List.any_eq_false]
  intro x hx
  obtain ⟨y,hy,rfl⟩:=List.mem_map.1 hx
  simp [outB]
  exact h y hy
theorem natsV_i (l : List Nat) : natsV l = ints (l.map fun x : Nat=>(x : Int)):=by simp [natsV,natV,ints,Function.comp_def]
theorem argE_ok {c : Ci} (h : chkE c = 0) {l : List Nat} (hl : ∀ x ∈ l,x < c.n.length) : argE c (l.map fun x : Nat=>(x : Int)) = 0:=by
  unfold argE
  rw [if_neg (by simpa using h),nats_ok hl]
  simp
theorem faninC_c (c : Ci) (hwf : c.wf) (h0 : chkE c = 0) (l : List Nat) (cap : Option Nat) (hl : ∀ x ∈ l,x < c.n.length) (hll : l.length < 1000000000) : PureC Tryd.prog gl0 19 [c.v,.sl (natsV l) cap] (okV (finL c l)):=by
  obtain ⟨hv,ha⟩:=ck_val hwf h0
  have hn : c.n.length < 1000000:=by have:=chk_len h0; omega
  have hck:=checkC_c c hwf (l.map fun x : Nat=>(x : Int)) cap (by simp; omega)
  rw [argE_ok h0 hl,← natsV_i] at hck
  refine PureC.of_W 2 ok19 rfl ?_
  simp [i19,x19]
  intro gf
  refine CallO.pure hck (by simp [natsV_pure]) ?_
  simp
  refine CallO.pure (sources_c c hv hn) (by simp) ?_
  simp
  refine CallO.pure (reached_c c.n.length hn c.g (lvOf c) (g_dn hv ha) l hl hll cap) (by simp [edV_pure,natsV_pure]) ?_
  simp
  refine CallO.pure (set_c _ hn _ _) (by simp [boolsV_pure]) ?_
  simp [natsV_pure,mapRL_pure,okV,finL]
theorem fanoutC_c (c : Ci) (hwf : c.wf) (h0 : chkE c = 0) (l : List Nat) (cap : Option Nat) (hl : ∀ x ∈ l,x < c.n.length) (hll : l.length < 1000000000) : PureC Tryd.prog gl0 20 [c.v,.sl (natsV l) cap] (okV (foutL c l)):=by
  obtain ⟨hv,ha⟩:=ck_val hwf h0
  have hn : c.n.length < 1000000:=by have:=chk_len h0; omega
  have hck:=checkC_c c hwf (l.map fun x : Nat=>(x : Int)) cap (by simp; omega)
  rw [argE_ok h0 hl,← natsV_i] at hck
  have he : foutL c l = fL c.n.length fun j=>bP (∃ x ∈ l,Rch (rdL c) x j):=fL_congr fun i _=>bP_congr (by simp only [rch_rd hv])
  rw [he]
  refine PureC.of_W 2 ok20 rfl ?_
  simp [i20,x20]
  intro gf
  refine CallO.pure hck (by simp [natsV_pure]) ?_
  simp
  refine CallO.pure (readers_c c hv hn) (by simp) ?_
  simp
  refine CallO.pure (reached_c c.n.length hn (rdL c) _ (r_dn hv ha hn) l hl hll cap) (by simp [edV_pure,natsV_pure]) ?_
  simp
  refine CallO.pure (set_c _ hn _ _) (by simp [boolsV_pure]) ?_
  simp [natsV_pure,mapRL_pure,okV]
end Go.Proofs.YtcmapbecfpcnfaaDoor
