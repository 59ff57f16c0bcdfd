/- Cones: the law Errors. Conditions: none. -/
import Derived.Test.YtcmapbecfpcnfaaDoorK17
import Derived.Test.YtcmapbecfpcnfaaDoorK18
import Derived.Test.YtcmapbecfpcnfaaDoorNT2
import Derived.Test.YtcmapbecfpcnfaaDoorXL4
set_option linter.unusedSimpArgs false
set_option linter.unusedVariables false
namespace Go.Proofs.YtcmapbecfpcnfaaDoor
open Go
def fewN (l : List Nd) : Nat:=(l.map fun x=>min x.i.length 100).sum
def fewB (c : Ci) : Bool:=decide (c.n.length ≤ 20) && decide (c.s.length + c.o.length + 4 * c.m.length + fewN (c.n.take 30) ≤ 250)
theorem fewN_le (l : List Nd) : fewN l ≤ l.length * 100:=by
  induction l with
  | nil=>simp [fewN]
  | cons x l ih=>simp only [fewN,List.map_cons,List.sum_cons,List.length_cons] at ih ⊢; omega
theorem few_c (c : Ci) (hs : c.small) : PureC Tryd.prog gl0 15 [c.v] (.bool (fewB c)):=by
  have h1:=hs.n
  have h2:=hs.s
  have h3:=hs.m
  have h4:=hs.o
  obtain ⟨q,hq⟩ : ∃ q,fewB c = q:=⟨_,rfl⟩
  rw [hq]
  obtain ⟨S0,hS0⟩ : ∃ S0,c.s.length + c.o.length = S0:=⟨_,rfl⟩
  obtain ⟨M4,hM4⟩ : ∃ M4,4 * c.m.length = M4:=⟨_,rfl⟩
  obtain ⟨S1,hS1⟩ : ∃ S1,S0 + M4 = S1:=⟨_,rfl⟩
  have w1 : IntKind.i64.wrap ((c.s.length : Int) + (c.o.length : Int)) = (S0 : Int):=addN hS0 (by omega)
  have w2 : IntKind.i64.wrap (4 * (c.m.length : Int)) = (M4 : Int):=by rw [← hM4,wrap_i64] <;> omega
  have w3 : IntKind.i64.wrap ((S0 : Int) + (M4 : Int)) = (S1 : Int):=addN hS1 (by omega)
  have hS1' : c.s.length + c.o.length + 4 * c.m.length = S1:=by omega
  refine PureC.of_W 1 ok15 rfl ?_
  simp [i15,x15,w1,w2,w3]
  intro gf1
  generalize gf1 1 = g1
  refine LoopP.of (X:=Nat) (fun i=>[(4,natV i),(3,natV (S1 + fewN (c.n.take i))),(1,.ptr 1 g1 0 0)]) (fun _=>[(1,.row g1 4 [c.v])]) (fun i=>i ≤ c.n.length∧i ≤ 30) (fun i=>c.n.length - i) 0 (by simp) (by simp [natV,fewN]) (by simp; try rfl) ?_
  rintro i ⟨i1,i2⟩
  simp [natV]
  have hend : (i = c.n.length∨i = 30)→c.n.take i = c.n.take 30:=fun h=>by
    rcases h with h | h
    · subst h
      rw [List.take_length,List.take_of_length_le i2]
    · rw [h]
  have hsum:=fewN_le (c.n.take i)
  have htl : (c.n.take i).length ≤ i:=by simp; omega
  obtain ⟨T,hT⟩ : ∃ T,fewN (c.n.take i) = T:=⟨_,rfl⟩
  obtain ⟨U,hU⟩ : ∃ U,S1 + T = U:=⟨_,rfl⟩
  have hq2 : (i = c.n.length∨i = 30)→(decide (c.n.length ≤ 20) && decide (U ≤ 250)) = q:=fun h=>by
    rw [← hq]; unfold fewB; rw [← hend h,hT,hS1',hU]
  rw [hT] at hsum
  have hUc : ((S1 : Int) + (T : Int)) = (U : Int):=by omega
  simp only [hT,hUc]
  refine BrB.of (fun hb=>?c1) (fun hb=>?c2)
  case' c1=>
    have hi : i < c.n.length:=of_decide_eq_true hb
    have hw:=wrapN i (by omega)
    simp [hb]
    refine BrB.of (fun hb2=>?c3) (fun hb2=>?c4)
  case' c3=>
    have hi30 : i < 30:=by have:=of_decide_eq_true hb2; omega
    obtain ⟨y,hy⟩ : ∃ y,c.n[i] = y:=⟨_,rfl⟩
    have htk : fewN (c.n.take (i + 1)) = T + min y.i.length 100:=by
      rw [List.take_succ_eq_append_getElem hi,hy,← hT]; simp [fewN]
    obtain ⟨U2,hU2⟩ : ∃ U2,U + min y.i.length 100 = U2:=⟨_,rfl⟩
    have hw2 : IntKind.i64.wrap ((U : Int) + min (y.i.length : Int) 100) = (U2 : Int):=by rw [wrap_i64] <;> omega
    simp [hi,hy,Nd.v,hw,hw2]
    refine ⟨i + 1,⟨hi,by omega⟩,⟨by simp,?_⟩,by omega⟩
    rw [htk]; omega
  case' c4=>
    have hie : i = c.n.length∨i = 30:=.inr (by have:=of_decide_eq_false hb2; omega)
    simp [hb2]
  case' c2=>
    have hie : i = c.n.length∨i = 30:=.inl (by have:=of_decide_eq_false hb; omega)
    simp [hb]
  all_goals
    have hq3:=hq2 hie
    refine BrB.of (fun h5=>?_) (fun h5=>?_)
    · rw [← hq3]; simp [h5]
    · rw [← hq3]; simp [h5]
theorem few_facts {c : Ci} (hok : c.ok) (hs : c.small) (hf : fewB c = true) : c.wf∧c.lens∧c.n.length ≤ 20∧(obsL c).length ≤ 1000000000:=by
  unfold fewB at hf
  simp only [Bool.and_eq_true,decide_eq_true_eq] at hf
  obtain ⟨h1,h2⟩:=hf
  refine ⟨⟨fun x hx=>?_,fun x hx=>?_⟩,⟨by omega,?_,by omega,?_,fun x hx=>?_,fun x hx=>⟨?_,?_⟩⟩,h1,?_⟩
  · have:=(hok.n x hx).k
    simp [Lit.wf,IntKind.min,IntKind.max,IntKind.bits,IntKind.signed] at this
    omega
  · have:=hs.t x hx; omega
  · have:=hs.s; omega
  · have:=hs.o; omega
  · have:=hs.i x hx; omega
  · have:=hs.a x hx; omega
  · have:=hs.d x hx; omega
  · have a1:=hs.o
    have a2 : (c.n.flatMap fun x=>if x.k = 14 then x.i else []).length ≤ c.n.length * 1048576:=by
      have : ∀ l : List Nd,(∀ x ∈ l,x.i.length ≤ 1048576)→(l.flatMap fun x=>if x.k = 14 then x.i else []).length ≤ l.length * 1048576:=fun l=>by
        induction l with
        | nil=>simp
        | cons x l ih=>
          intro h
          have h3:=ih fun y hy=>h y (List.mem_cons_of_mem _ hy)
          have h4:=h x List.mem_cons_self
          simp only [List.flatMap_cons,List.length_append,List.length_cons,Nat.succ_mul]
          have : (if x.k = 14 then x.i else []).length ≤ 1048576:=by
            split
            · exact h4
            · simp
          omega
      exact this _ hs.i
    have a3 : (c.m.flatMap fun m=>m.a ++ m.d ++ [m.w]).length ≤ c.m.length * 2097153:=by
      have : ∀ l : List Md,(∀ x ∈ l,x.a.length ≤ 1048576∧x.d.length ≤ 1048576)→(l.flatMap fun m=>m.a ++ m.d ++ [m.w]).length ≤ l.length * 2097153:=fun l=>by
        induction l with
        | nil=>simp
        | cons x l ih=>
          intro h
          have h3:=ih fun y hy=>h y (List.mem_cons_of_mem _ hy)
          have h4:=h x List.mem_cons_self
          simp only [List.flatMap_cons,List.length_append,List.length_cons,List.length_nil,Nat.succ_mul] at h3 ⊢
          omega
      exact this _ fun x hx=>⟨hs.a x hx,hs.d x hx⟩
    simp only [obsL,List.length_append] at a3 ⊢
    omega
def AnsC (f : FuncId) (args : List V) (e : Int) (L : List Nat) : Prop:=PureC Tryd.prog gl0 f args (.tup [.sl (natsV L) (some L.length),.int .i64 e])∧(e ≠ 0→L = [])
theorem ans_err {f : FuncId} {args : List V} {e : Int} (h0 : e ≠ 0) (h : PureC Tryd.prog gl0 f args (.tup [.nil,.int .i64 e])) : ∃ L,AnsC f args e L∧L.length ≤ 20:=
  ⟨[],⟨h.wide (AllLe.refl _) (.tup ⟨.nil,.refl _,trivial⟩),fun _=>rfl⟩,by simp⟩
theorem ans_ok {f : FuncId} {args : List V} {L : List Nat} (h : PureC Tryd.prog gl0 f args (okV L)) (hl : L.length ≤ 20) : ∃ L,AnsC f args 0 L∧L.length ≤ 20:=
  ⟨L,⟨h,fun q=>absurd rfl q⟩,hl⟩
theorem to_nat {n : Nat} {p : Int} (h : outB n p = false) : ∃ k : Nat,p = (k : Int)∧k < n:=by
  simp [outB] at h
  exact ⟨p.toNat,by omega,by omega⟩
theorem sub_err {c : Ci} {l : List Int} {e : Int} (h0 : chkE c = e) (he : e ≠ 0) : argE c l = e:=by
  unfold argE; rw [if_pos (by rw [h0]; exact he),h0]
theorem six {c : Ci} (hwf : c.wf) (hl : c.lens) (h20 : c.n.length ≤ 20) (p q : Int) :
    (∃ L,AnsC 19 [c.v,.sl [.int .i64 p,.int .i64 q] (some 2)] (argE c [p,q]) L∧L.length ≤ 20)∧(∃ L,AnsC 20 [c.v,.sl [.int .i64 p,.int .i64 q] (some 2)] (argE c [p,q]) L∧L.length ≤ 20)∧
    (∃ L,AnsC 21 [c.v,.int .i64 p] (argE c [p]) L∧L.length ≤ 20)∧(∃ L,AnsC 22 [c.v,.int .i64 p] (argE c [p]) L∧L.length ≤ 20)∧
    (∃ L,AnsC 23 [c.v] (chkE c) L∧L.length ≤ 20)∧∃ L,AnsC 24 [c.v] (chkE c) L∧L.length ≤ 20:=by
  have hln : ∀ D,(fL c.n.length D).length ≤ 20:=fun D=>Nat.le_trans (fL_len _ _) h20
  refine ⟨?_,?_,?_,?_,?_,?_⟩
  · by_cases h : argE c [p,q] = 0
    · rw [h]
      have hc : chkE c = 0:=Classical.byContradiction fun q=>by rw [sub_err rfl q] at h; exact q h
      have ha : ([p,q].any (outB c.n.length)) = false:=by
        unfold argE at h
        rw [if_neg (by simpa using hc)] at h
        split at h
        · cases h
        · rename_i h2; simpa using h2
      simp only [List.any_cons,List.any_nil,Bool.or_false,Bool.or_eq_false_iff] at ha
      obtain ⟨a,rfl,h1⟩:=to_nat ha.1
      obtain ⟨b,rfl,h2⟩:=to_nat ha.2
      exact ans_ok (faninC_c c hwf hc [a,b] (some 2) (by simp [h1,h2]) (by simp)) (hln _)
    · exact ans_err h (fanin_err c hwf [p,q] (some 2) (by simp) rfl h)
  · by_cases h : argE c [p,q] = 0
    · rw [h]
      have hc : chkE c = 0:=Classical.byContradiction fun q=>by rw [sub_err rfl q] at h; exact q h
      have ha : ([p,q].any (outB c.n.length)) = false:=by
        unfold argE at h
        rw [if_neg (by simpa using hc)] at h
        split at h
        · cases h
        · rename_i h2; simpa using h2
      simp only [List.any_cons,List.any_nil,Bool.or_false,Bool.or_eq_false_iff] at ha
      obtain ⟨a,rfl,h1⟩:=to_nat ha.1
      obtain ⟨b,rfl,h2⟩:=to_nat ha.2
      exact ans_ok (fanoutC_c c hwf hc [a,b] (some 2) (by simp [h1,h2]) (by simp)) (hln _)
    · exact ans_err h (fanout_err c hwf [p,q] (some 2) (by simp) rfl h)
  · by_cases h : argE c [p] = 0
    · rw [h]
      have hc : chkE c = 0:=Classical.byContradiction fun q=>by rw [sub_err rfl q] at h; exact q h
      have ha : ([p].any (outB c.n.length)) = false:=by
        unfold argE at h
        rw [if_neg (by simpa using hc)] at h
        split at h
        · cases h
        · rename_i h2; simpa using h2
      simp only [List.any_cons,List.any_nil,Bool.or_false] at ha
      obtain ⟨a,rfl,h1⟩:=to_nat ha
      obtain ⟨hv,hac⟩:=ck_val hwf hc
      exact ans_ok (dom_c c hwf hc h20 hl a h1) (by rw [domL_len hv hac h1]; exact hln _)
    · exact ans_err h (domErr_c c hwf p rfl h)
  · by_cases h : argE c [p] = 0
    · rw [h]
      have hc : chkE c = 0:=Classical.byContradiction fun q=>by rw [sub_err rfl q] at h; exact q h
      have ha : ([p].any (outB c.n.length)) = false:=by
        unfold argE at h
        rw [if_neg (by simpa using hc)] at h
        split at h
        · cases h
        · rename_i h2; simpa using h2
      simp only [List.any_cons,List.any_nil,Bool.or_false] at ha
      obtain ⟨a,rfl,h1⟩:=to_nat ha
      exact ans_ok (meets_c c hwf hc a h1) (hln _)
    · exact ans_err h (meetErr_c c hwf p rfl h)
  · by_cases h : chkE c = 0
    · have h2:=reg_c c hwf h h20 hl
      rw [h]
      exact ans_ok h2 (by simp [stL,tab]; exact h20)
    · exact ans_err h (regErr_c c hwf rfl h)
  · by_cases h : chkE c = 0
    · have h2:=stems_c c hwf h h20 hl
      rw [h]
      exact ans_ok h2 (hln _)
    · exact ⟨[],⟨stemErr_c c hwf rfl h,fun _=>rfl⟩,by simp⟩
end Go.Proofs.YtcmapbecfpcnfaaDoor
namespace Go.Proofs.YtcmapbecfpcnfaaDoor
open Go
set_option maxRecDepth 100000 in
set_option maxHeartbeats 16000000 in
theorem lawErr_c (c : Ci) (hok : c.ok) (hs : c.small) (p q : Int) : PureC Tryd.prog gl0 4 [c.v,.agg [.int .i64 p,.int .i64 q]] (.bool true):=by
  have hfw:=few_c c hs
  cases hfe : fewB c with
  | false=>
    rw [hfe] at hfw
    refine PureC.of_W 2 ok4 rfl ?_
    simp [i4,x4]
    intro gf1 gf2
    refine CallO.pure hfw (by simp) ?_
    simp
    refine CallO.pure lives_c (by simp) ?_
    simp
  | true=>
    rw [hfe] at hfw
    obtain ⟨hwf,hl,h20,hob⟩:=few_facts hok hs hfe
    obtain ⟨⟨LA,⟨a1,a2⟩,a3⟩,⟨LB,⟨b1,b2⟩,b3⟩,⟨LD,⟨d1,d2⟩,d3⟩,⟨LM,⟨m1,m2⟩,m3⟩,⟨LR,⟨r1,r2⟩,r3⟩,⟨LS,⟨s1,s2⟩,s3⟩⟩:=six hwf hl h20 p q
    have ck:=rcheck_c c hwf
    have k1:=ris2_c c p
    have k2:=ris2_c c q
    have p1:=points_c c hl
    have p2:=rpoints_c c hl hob
    have p3:=lset_c c.n.length (by omega) (ptB c) (some c.n.length)
    have p4:=intsE_c (fL c.n.length (ptB c)) none (by have:=fL_len c.n.length (ptB c); omega)
    obtain ⟨own,hown⟩ : ∃ own,chkE c = own:=⟨_,rfl⟩
    obtain ⟨one,hone⟩ : ∃ one,argE c [p] = one:=⟨_,rfl⟩
    obtain ⟨two,htwo⟩ : ∃ two,argE c [p,q] = two:=⟨_,rfl⟩
    obtain ⟨op,hop⟩ : ∃ b,outB c.n.length p = b:=⟨_,rfl⟩
    obtain ⟨oq,hoq⟩ : ∃ b,outB c.n.length q = b:=⟨_,rfl⟩
    have hone2 : one = if own ≠ 0 then own else if op = true then 1 else 0:=by
      rw [← hone,← hown,← hop]; unfold argE; simp
    have htwo2 : two = if own ≠ 0 then own else if (op || oq) = true then 1 else 0:=by
      rw [← htwo,← hown,← hop,← hoq]; unfold argE; simp
    rw [hown] at ck r1 r2 s1 s2
    rw [hone] at d1 d2 m1 m2
    rw [htwo] at a1 a2 b1 b2
    rw [hop] at k1
    rw [hoq] at k2
    clear hown hone htwo hop hoq
    have w1 : ∀ {a b : List Nat},a.length ≤ 20→b.length ≤ 20→IntKind.i64.wrap ((a.length : Int) + (b.length : Int)) = (a.length : Int) + (b.length : Int):=fun h1 h2=>by rw [wrap_i64] <;> omega
    have w2:=w1 a3 b3
    have w3:=w1 d3 m3
    have w4:=w1 r3 s3
    refine PureC.of_W 2 ok4 rfl ?_
    simp [i4,x4]
    intro gf1 gf2
    generalize gf1 2 = g2
    generalize gf2 3 = g3
    refine CallO.pure hfw (by simp) ?_
    simp
    refine CallO.pure ck (by simp) ?_
    simp
    by_cases h0 : own = 0
    case' pos=>
      subst h0
      simp
      refine CallO.pure k1 (by simp) ?_
      simp
      cases op
    case' pos.false=>
      simp
      refine CallO.pure k2 (by simp) ?_
      simp
      cases oq
    case' neg=>
      rw [if_pos h0] at hone2 htwo2
      subst hone2 htwo2
      obtain rfl:=a2 h0
      obtain rfl:=b2 h0
      obtain rfl:=d2 h0
      obtain rfl:=m2 h0
      obtain rfl:=r2 h0
      obtain rfl:=s2 h0
      simp [h0]
    case' pos.true=>
      simp at hone2 htwo2
      subst hone2 htwo2
      obtain rfl:=a2 (by simp)
      obtain rfl:=b2 (by simp)
      obtain rfl:=d2 (by simp)
      obtain rfl:=m2 (by simp)
      simp
    case' pos.false.true=>
      simp at hone2 htwo2
      subst hone2 htwo2
      obtain rfl:=a2 (by simp)
      obtain rfl:=b2 (by simp)
      simp
    case' pos.false.false=>
      simp at hone2 htwo2
      subst hone2 htwo2
      simp
    all_goals
      intro gf3
      refine CallO.frzB 59 (by simp; exact ⟨rfl,rfl,rfl⟩) (by simp) ?_
      simp [fzV,V.mapR,V.mapRL,fzp,fzf,fzH,Blk.fz,mapR_pure _ (ci_pure c),mapRL_pure,natsV_pure]
      refine CallO.pure a1 (by simp) ?_
      simp
      intro gf4
      refine CallO.frzB 69 (by simp; exact ⟨rfl,rfl,rfl⟩) (by simp) ?_
      simp [fzV,V.mapR,V.mapRL,fzp,fzf,fzH,Blk.fz,mapR_pure _ (ci_pure c),mapRL_pure,natsV_pure]
      refine CallO.pure b1 (by simp) ?_
      simp
      refine CallO.pure d1 (by simp) ?_
      simp
      refine CallO.pure m1 (by simp) ?_
      simp
      refine CallO.pure r1 (by simp) ?_
      simp
      refine CallO.pure s1 (by simp) ?_
      simp
      intro gm
      first | refine ⟨_,_,_,.pure p1 (by simp [natsV_pure,boolsV_pure]),?_⟩ | refine ⟨_,⟨_,_,.pure p1 (by simp [natsV_pure,boolsV_pure])⟩,?_⟩ | refine ⟨_,_,⟨_,.pure p1 (by simp [natsV_pure,boolsV_pure])⟩,?_⟩
      simp
      first | refine ⟨_,_,_,.pure p2 (by simp [natsV_pure,boolsV_pure]),?_⟩ | refine ⟨_,⟨_,_,.pure p2 (by simp [natsV_pure,boolsV_pure])⟩,?_⟩ | refine ⟨_,_,⟨_,.pure p2 (by simp [natsV_pure,boolsV_pure])⟩,?_⟩
      simp
      first | refine ⟨_,_,_,.pure p3 (by simp [natsV_pure,boolsV_pure]),?_⟩ | refine ⟨_,⟨_,_,.pure p3 (by simp [natsV_pure,boolsV_pure])⟩,?_⟩ | refine ⟨_,_,⟨_,.pure p3 (by simp [natsV_pure,boolsV_pure])⟩,?_⟩
      simp
      first | refine ⟨_,_,_,.pure p4 (by simp [natsV_pure,boolsV_pure]),?_⟩ | refine ⟨_,⟨_,_,.pure p4 (by simp [natsV_pure,boolsV_pure])⟩,?_⟩ | refine ⟨_,_,⟨_,.pure p4 (by simp [natsV_pure,boolsV_pure])⟩,?_⟩
      simp
      refine ⟨rfl,?_⟩
      try simp [h0]
      refine CallO.pure lives_c (by simp) ?_
      simp
end Go.Proofs.YtcmapbecfpcnfaaDoor
