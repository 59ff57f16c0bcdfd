/- Bridges: the laws Stuck and Quiescent of layer 19. Conditions: none. -/
import Derived.Test.YtlmniacemoohpaaGreatDoorB2
import Derived.Test.YtlmniacemoohpaaGreatDoorXL4
import Derived.Test.YtlmniacemoohpaaGreatDoorXL5
set_option linter.unusedSimpArgs false
set_option linter.unusedVariables false
namespace Go.Proofs.YtlmniacemoohpaaGreatDoor
open Go
theorem same_c (l : List Nat) (ca cb : Option Nat) (hl : l.length < 1000000000000) : PureC Tryz.prog gl0 22 [.sl (l.map u8V) ca,.sl (l.map u8V) cb] (.bool true):=by
  refine PureC.of_W 2 ok22 rfl ?_
  simp [i22,x22]
  refine LoopP.of (X:=Nat) (fun i=>[(5,natV i),(0,.sl (l.map u8V) ca),(1,.sl (l.map u8V) cb)]) (fun _=>[])
    (fun i=>i ≤ l.length) (fun i=>l.length - i) 0 (by simp) (by simp [natV]) (by simp) ?_
  rintro i h2
  simp [natV]
  refine BrB.of (fun h1=>?_) (fun h1=>?_)
  · have h1' : i < l.length:=of_decide_eq_true h1
    have hw:=wrapN i (by omega)
    obtain ⟨v,hv⟩ : ∃ v,l[i] = v:=⟨_,rfl⟩
    simp [h1',hv,u8V,hw]
    exact ⟨i + 1,h1',rfl,by omega⟩
  · simp
set_option maxRecDepth 100000 in
set_option maxHeartbeats 8000000 in
theorem law4_c (x : Cx) (hx : x.ok) (z : Fx) (hz : z.ok) (p : Pt) : PureC Tryz.prog gl0 4 [caseJ x z p] (.bool true):=by
  have hg:=nm_good x
  obtain ⟨f,hfo,hfk⟩:=case_any x.nm.ci hg z hz
  have hcs:=caseJ_c x hx z _ hfo p
  have hcp:=caseJ_pure x z p
  generalize x.nm.ci = c at hcs hg hfk
  have hn0:=hg.n0
  have hn1:=hg.n1
  have ha:=pof_fit c p
  generalize pof c p = p1 at hcs ha
  have hne : c.n ≠ []:=by intro e; rw [e] at hn0; simp at hn0
  have hW0 : (⟨0,0,1,0,0⟩ : Ft).w = .agg [.int .u8 0,.int .i64 0,.int .i64 0,.int .u8 0,.int .i64 0]:=rfl
  simp only [caseJ,Pt.v] at hcs hcp
  by_cases hm0 : f.m = 0
  · have hd:=stuck0_c c hg f hfk hm0 p1
    simp only [Pt.v] at hd
    refine PureC.of_W 2 ok4 rfl ?_
    simp [i4,x4,caseJ,u8V]
    intro gf1
    refine CallO.pure hcs (by simpa [u8V] using hcp) ?_
    simp
    intro gf3 gf4 gf5
    refine CallO.pure hd (by simp [natV,u8V]) ?_
    simp [hm0,u8V,hW0]
    intro gf6
    refine CallO.pure livesB_c rfl ?_
    simp
  · have hb : f.okB c:=hfk.elim (fun h=>absurd h.2 hm0) id
    have hs:=stuckF_c c hg f hb p1 ha
    have hr:=run_c c hg p1 ha
    have hra:=runA_c c hg f hfk p1 ha
    have hw:=fun h1 h2=>runA_c c hg (wantF f (netN c p1)) (want_any hb h1 h2) p1 ha
    have hO:=brO (p:=p1) hg hb
    have hS:=brS (p:=p1) hg hb
    have hmO : (f.O c p1).length < 1000000000000:=by
      have hno : c.o.length ≤ 16384:=(sh_len hg.sh).2.2.2
      simp [Ft.O,obsMO]; omega
    have hmS : (f.S c p1).length < 1000000000000:=by
      have l1:=cnt_le 14 c.n
      simp [Ft.S,obsMS]; unfold cnt at l1; omega
    have hn:=hb.n
    have ho:=hb.o
    have hwd : wantF f (netN c p1) = if f.m = 2∧f.v = netN c p1 f.n then ⟨0,f.o,0,netN c p1 f.n,0⟩ else ⟨0,f.n,0,netN c p1 f.o,0⟩:=rfl
    generalize f.O c p1 = O at hra hO hmO
    generalize f.S c p1 = S at hra hS hmS
    generalize f.M c p1 = M at hra
    generalize obsO c (netN c p1) = O1 at hr
    generalize obsS c (netN c p1) = S1 at hr
    generalize wantF f (netN c p1) = W at hs hO hS hw hwd
    generalize W.O c p1 = O2 at hO hw
    generalize W.S c p1 = S2 at hS hw
    generalize W.M c p1 = M2 at hw
    generalize netN c p1 = A at hr hs hO hS hw hwd
    obtain ⟨xa,hxa⟩ : ∃ xa,A f.n = xa:=⟨_,rfl⟩
    obtain ⟨xb,hxb⟩ : ∃ xb,A f.o = xb:=⟨_,rfl⟩
    rw [hxa,hxb] at hs hO hS hw hwd
    obtain ⟨B,hB⟩ : ∃ B,difB xa xb = B:=⟨_,rfl⟩
    rw [hB] at hs
    simp only [rspV,Pt.v,u8V] at hra hs hr hw
    refine PureC.of_W 2 ok4 rfl ?_
    simp [i4,x4,caseJ,u8V]
    intro gf1
    refine CallO.pure hcs (by simpa [u8V] using hcp) ?_
    simp
    intro gf3 gf4 gf5
    refine CallO.pure hs (by simp [natV,u8V]) ?_
    cases B
    case' false=>
      simp [hW0,hm0,u8V]
      intro gf6
      refine CallO.pure hr (by simp) ?_
      simp
      intro gf7
      by_cases h1 : 1 < xa
      · simp [hne,hn,ho,tab_get,hxa,hxb,natV,h1]
        refine CallO.pure livesB_c rfl ?_
        simp
      · by_cases h2 : 1 < xb
        · simp [hne,hn,ho,tab_get,hxa,hxb,natV,h1,h2]
          refine CallO.pure livesB_c rfl ?_
          simp
        · have h3 : xa = xb:=Decidable.byContradiction fun h=>by
            have:=difB_iff.2 ⟨Nat.not_lt.1 h1,Nat.not_lt.1 h2,h⟩
            rw [hB] at this; exact Bool.noConfusion this
          simp [hne,hn,ho,tab_get,hxa,hxb,natV,h1,h2,h3]
          refine CallO.pure livesB_c rfl ?_
          simp
    case' true=>
      obtain ⟨h1,h2,h3⟩:=difB_iff.1 hB
      have hw2:=hw h1 h2
      rw [hO h1 h2 h3,hS h1 h2 h3] at hw2
      simp [natV,u8V,hm0]
      intro gf6
      refine CallO.pure hr (by simp) ?_
      simp
      intro gf7
      simp [hne,hn,ho,tab_get,hxa,hxb,natV,Nat.not_lt.2 h1,Nat.not_lt.2 h2,h3]
      intro gm
      have hq:=hb.q
      have hpin : f.pin = -1:=by unfold Ft.pin; omega
      have hpin0 : ∀ a b d e : Nat,(⟨a,b,0,d,e⟩ : Ft).pin = -1:=fun _ _ _ _=>rfl
      by_cases hm2 : f.m = 2
      · by_cases hv : f.v = xa
        · rw [if_pos ⟨hm2,hv⟩] at hwd
          subst hwd
          simp only [Ft.w,u8V,natV,hpin,hpin0,hm2,hv] at hw2 hra
          simp [hpin,hpin0,hm2,hv]
          refine CallO.pure hra (by simp) ?_
          simp
          intro gf8
          refine CallO.pure hw2 (by simp) ?_
          simp
          intro gf9
          refine CallO.pure (same_c O _ _ hmO) (by simp) ?_
          simp
          refine CallO.pure (same_c S _ _ hmS) (by simp) ?_
          simp
          refine CallO.pure livesB_c rfl ?_
          simp
        · rw [if_neg fun h=>hv h.2] at hwd
          subst hwd
          simp only [Ft.w,u8V,natV,hpin,hpin0,hm2] at hw2 hra
          simp [hpin,hpin0,hm2,hv]
          refine CallO.pure hra (by simp) ?_
          simp
          intro gf8
          refine CallO.pure hw2 (by simp) ?_
          simp
          intro gf9
          refine CallO.pure (same_c O _ _ hmO) (by simp) ?_
          simp
          refine CallO.pure (same_c S _ _ hmS) (by simp) ?_
          simp
          refine CallO.pure livesB_c rfl ?_
          simp
      · rw [if_neg fun h=>hm2 h.1] at hwd
        subst hwd
        simp only [Ft.w,u8V,natV,hpin,hpin0] at hw2 hra
        simp [hpin,hpin0,hm2]
        refine CallO.pure hra (by simp) ?_
        simp
        intro gf8
        refine CallO.pure hw2 (by simp) ?_
        simp
        intro gf9
        refine CallO.pure (same_c O _ _ hmO) (by simp) ?_
        simp
        refine CallO.pure (same_c S _ _ hmS) (by simp) ?_
        simp
        refine CallO.pure livesB_c rfl ?_
        simp
set_option maxRecDepth 100000 in
set_option maxHeartbeats 8000000 in
theorem law5_c (x : Cx) (hx : x.ok) (z : Fx) (hz : z.ok) (p : Pt) : PureC Tryz.prog gl0 5 [caseJ x z p] (.bool true):=by
  have hg:=nm_good x
  obtain ⟨f,hfo,hfk⟩:=case_any x.nm.ci hg z hz
  have hcs:=caseJ_c x hx z _ hfo p
  have hcp:=caseJ_pure x z p
  generalize x.nm.ci = c at hcs hg hfk
  have hn0:=hg.n0
  have hn1:=hg.n1
  have ha:=pof_fit c p
  generalize pof c p = p1 at hcs ha
  have hne : c.n ≠ []:=by intro e; rw [e] at hn0; simp at hn0
  simp only [caseJ,Pt.v] at hcs hcp
  by_cases hm0 : f.m = 0
  · have hd:=quie0_c c hg f hfk hm0 p1
    simp only [Pt.v] at hd
    refine PureC.of_W 2 ok5 rfl ?_
    simp [i5,x5,caseJ,u8V]
    intro gf1
    refine CallO.pure hcs (by simpa [u8V] using hcp) ?_
    simp
    intro gf3 gf4 gf5
    refine CallO.pure hd (by simp [natV,u8V]) ?_
    simp [hm0,u8V]
    refine CallO.pure livesB_c rfl ?_
    simp
  · have hb : f.okB c:=hfk.elim (fun h=>absurd h.2 hm0) id
    obtain ⟨f2,hf2⟩ : ∃ f2 : Ft,f2 = { f with v:=1 - f.v }:=⟨_,rfl⟩
    have hq:=hb.q
    have hv:=hb.v
    have hb2 : f.m = 2→f2.okB c:=fun hm=>by subst hf2; exact { hb with v:=by show 1 - f.v ≤ 1; omega,v3:=fun h=>by have : f.m = 3:=h; omega }
    have hqu:=quie_c c hg f hb p1 ha
    have hs:=stuckF_c c hg f hb p1 ha
    have hs2:=fun hm=>stuckF_c c hg f2 (hb2 hm) p1 ha
    have hd:=detB_c c hg f hb p1 ha
    have hr:=run_c c hg p1 ha
    have hN:=fun h1 h2=>brN hg ha hb h1 h2
    have hn:=hb.n
    have ho:=hb.o
    generalize f.det c p1 = D at hd hN
    generalize obsO c (netN c p1) = O1 at hr
    generalize obsS c (netN c p1) = S1 at hr
    generalize netN c p1 = A at hr hs hqu hs2 hN
    obtain ⟨xa,hxa⟩ : ∃ xa,A f.n = xa:=⟨_,rfl⟩
    obtain ⟨xb,hxb⟩ : ∃ xb,A f.o = xb:=⟨_,rfl⟩
    obtain ⟨B,hB⟩ : ∃ B,difB xa xb = B:=⟨_,rfl⟩
    rw [hxa,hxb,hB] at hs hqu
    rw [hxa,hxb] at hN
    have hl:=lnot_c xa
    simp only [rspV,Pt.v,u8V] at hqu hd hs hr hs2 hl
    refine PureC.of_W 2 ok5 rfl ?_
    simp [i5,x5,caseJ,u8V]
    intro gf1
    refine CallO.pure hcs (by simpa [u8V] using hcp) ?_
    simp
    intro gf3 gf4 gf5
    refine CallO.pure hqu (by simp [natV,u8V]) ?_
    simp [hm0,u8V]
    refine CallO.pure hr (by simp) ?_
    simp
    intro gf7
    refine CallO.pure hd (by simp [natV]) ?_
    have hB2 : ∀ hm : f.m = 2,difB (A f2.n) (A f2.o) = B:=fun _=>by rw [hf2]; show difB (A f.n) (A f.o) = B; rw [hxa,hxb,hB]
    have hwv : IntKind.u8.wrap (1 - (f.v : Int)) = ((1 - f.v : Nat) : Int):=by
      have : f.v = 0∨f.v = 1:=by omega
      rcases this with h | h <;> rw [h] <;> rfl
    have hW0 : (⟨0,0,1,0,0⟩ : Ft).w = .agg [.int .u8 0,.int .i64 0,.int .i64 0,.int .u8 0,.int .i64 0]:=rfl
    generalize wantF f A = W at hs
    generalize wantF f2 A = W2 at hs2
    have hpin : f.pin = -1:=by unfold Ft.pin; omega
    have hpin0 : ∀ a b d e : Nat,(⟨a,b,0,d,e⟩ : Ft).pin = -1:=fun _ _ _ _=>rfl
    simp [hne,hn,ho,tab_get,hxa,hxb,natV]
    cases B
    case' true=>
      obtain ⟨h1,h2,h3⟩:=difB_iff.1 hB
      have hnt : notN xa = xb:=by unfold notN; rw [if_pos h1]; omega
      rw [hnt] at hl
      simp [h1,h2,natV]
      refine CallO.pure hl (by simp) ?_
      simp [h1,h2,natV]
      rcases Bool.eq_false_or_eq_true D with hDD | hDD
      all_goals simp [hDD]
    case' false=>
      rcases Nat.lt_or_ge 1 xa with h1 | h1
      case' inl=>simp [Nat.not_le.2 h1,natV]
      case' inr=>
        have hnt : ¬ xb = notN xa:=fun h=>by
          unfold notN at h; rw [if_pos h1] at h
          have:=(difB_iff (a:=xa) (b:=xb)).2 ⟨h1,by omega,by omega⟩
          rw [hB] at this; exact Bool.noConfusion this
        have hD0 : xb ≤ 1→D = false:=fun h2=>hN h1 (Decidable.byContradiction fun h=>by
          have:=difB_iff.2 ⟨h1,h2,h⟩
          rw [hB] at this; exact Bool.noConfusion this)
        simp [h1,natV]
        refine CallO.pure hl (by simp) ?_
        simp [hnt,h1,natV]
        rcases Nat.lt_or_ge 1 xb with h2 | h2
        case' inl=>simp [h1,Nat.not_le.2 h2,natV]
        case' inr=>simp [h1,h2,hD0 h2,natV]
    all_goals
      rcases Decidable.em (f.m = 2) with hm | hm
      rotate_left
      · simp [hm]
        refine CallO.pure livesB_c rfl ?_
        simp
      have h22:=hs2 hm
      rw [hB2 hm] at h22
      have hp2 : f2.pin = -1:=by rw [hf2]; exact hpin
      have hm2 : f2.m = 2:=by rw [hf2]; exact hm
      have hn2 : f2.n = f.n:=by rw [hf2]
      have ho2 : f2.o = f.o:=by rw [hf2]
      have hv2 : f2.v = 1 - f.v:=by rw [hf2]
      simp only [Ft.w,u8V,natV,hm,hpin,hp2,hm2,hn2,ho2,hv2,cond_true,cond_false] at h22 hs
      simp [hm,hwv,hpin]
      intro gf8
      refine CallO.pure hs (by simp) ?_
      simp
      intro gf9
      refine CallO.pure h22 (by simp) ?_
      simp
      intro gf10
      refine CallO.pure livesB_c rfl ?_
      simp
end Go.Proofs.YtlmniacemoohpaaGreatDoor
