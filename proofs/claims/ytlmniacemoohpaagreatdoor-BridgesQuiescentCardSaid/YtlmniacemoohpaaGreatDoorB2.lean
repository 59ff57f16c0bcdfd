/- Bridges: the law Detects of layer 19. Conditions: none. -/
import Derived.Test.YtlmniacemoohpaaGreatDoorB1
import Derived.Test.YtlmniacemoohpaaGreatDoorXC2
import Derived.Test.YtlmniacemoohpaaGreatDoorXL3
set_option linter.unusedSimpArgs false
set_option linter.unusedVariables false
namespace Go.Proofs.YtlmniacemoohpaaGreatDoor
open Go
theorem case_any (c : Ci) (hg : c.good) (z : Fx) (hz : z.ok) : ∃ f : Ft,PureC Tryz.prog gl0 42 [Fx.v { z with m:=2 + z.m % 2 },c.v] f.w∧f.any c:=by
  have hz' : Fx.ok { z with m:=2 + z.m % 2 }:=⟨by show 2 + z.m % 2 < 256; omega,hz.n,hz.p,hz.o⟩
  obtain ⟨f,h1,h2⟩:=fofA_c c hg _ hz'
  refine ⟨f,h1,h2.elim (fun h=>?_) fun h=>h.2⟩
  have:=h.1
  simp only at this
  omega
set_option maxRecDepth 100000 in
set_option maxHeartbeats 8000000 in
theorem law3_c (x : Cx) (hx : x.ok) (z : Fx) (hz : z.ok) (p : Pt) : PureC Tryz.prog gl0 3 [caseJ x z p] (.bool true):=by
  have hg:=nm_good x
  obtain ⟨f,hfo,hfk⟩:=case_any x.nm.ci hg z hz
  have hcs:=caseJ_c x hx z _ hfo p
  have hcp:=caseJ_pure x z p
  generalize x.nm.ci = c at hcs hg hfk
  have hn0:=hg.n0
  have hn1:=hg.n1
  have ha:=pof_fit c p
  generalize pof c p = p1 at hcs ha
  have hne : c.n ≠ []:=by intro e; rw [e] at hn0; simp at hn0
  simp only [caseJ,Pt.v] at hcs hcp
  by_cases hm0 : f.m = 0
  · have hd:=det0_c c hg f hfk hm0 p1
    simp only [Pt.v] at hd
    refine PureC.of_W 2 ok3 rfl ?_
    simp [i3,x3,caseJ,u8V]
    intro gf1
    refine CallO.pure hcs (by simpa [u8V] using hcp) ?_
    simp
    intro gf3 gf4 gf5
    refine CallO.pure hd (by simp [natV,u8V]) ?_
    simp [hm0,u8V]
    refine CallO.pure livesB_c rfl ?_
    simp
  · have hb : f.okB c:=hfk.elim (fun h=>absurd h.2 hm0) id
    have hd:=detB_c c hg f hb p1 ha
    have hi:=detA_c c hg f hfk p1 ha
    have hs:=stuckF_c c hg f hb p1 ha
    have hr:=run_c c hg p1 ha
    have hD:=brD (p:=p1) hg hb
    have hN:=fun h1 h2=>brN hg ha hb h1 h2
    have hw:=fun h1 h2=>detA_c c hg (wantF f (netN c p1)) (want_any hb h1 h2) p1 ha
    have hn:=hb.n
    have ho:=hb.o
    generalize f.det c p1 = D at hd hi hD hN
    generalize obsO c (netN c p1) = O1 at hr
    generalize obsS c (netN c p1) = S1 at hr
    generalize wantF f (netN c p1) = W at hs hD hw
    generalize W.det c p1 = D2 at hD hw
    generalize netN c p1 = A at hr hs hD hN hw
    obtain ⟨xa,hxa⟩ : ∃ xa,A f.n = xa:=⟨_,rfl⟩
    obtain ⟨xb,hxb⟩ : ∃ xb,A f.o = xb:=⟨_,rfl⟩
    rw [hxa,hxb] at hs hD hN hw
    obtain ⟨B,hB⟩ : ∃ B,difB xa xb = B:=⟨_,rfl⟩
    rw [hB] at hs
    simp only [rspV,Pt.v,u8V] at hd hi hs hr hw
    refine PureC.of_W 2 ok3 rfl ?_
    simp [i3,x3,caseJ,u8V]
    intro gf1
    refine CallO.pure hcs (by simpa [u8V] using hcp) ?_
    simp
    intro gf3 gf4 gf5
    refine CallO.pure hd (by simp [natV,u8V]) ?_
    simp [hm0,u8V]
    refine CallO.pure hi (by simp [natV,u8V]) ?_
    simp
    refine CallO.pure hs (by simp [natV,u8V]) ?_
    cases B
    case' false=>
      have hW : (⟨0,0,1,0,0⟩ : Ft).w = .agg [.int .u8 0,.int .i64 0,.int .i64 0,.int .u8 0,.int .i64 0]:=rfl
      simp [hW]
      intro gf6
      refine CallO.pure hr (by simp) ?_
      simp
      intro gf7
      by_cases h1 : 1 < xa
      · simp [hne,hn,ho,tab_get,hxa,hxb,natV,h1]
        refine CallO.pure livesB_c rfl ?_
        simp
      · by_cases h2 : 1 < xb
        · simp [hne,hn,ho,tab_get,hxa,hxb,natV,h1,h2]
          refine CallO.pure livesB_c rfl ?_
          simp
        · have h3 : xa = xb:=Decidable.byContradiction fun h=>by
            have:=difB_iff.2 ⟨Nat.not_lt.1 h1,Nat.not_lt.1 h2,h⟩
            rw [hB] at this; exact Bool.noConfusion this
          have hD0:=hN (Nat.not_lt.1 h1) h3
          simp [hne,hn,ho,tab_get,hxa,hxb,natV,h1,h2,hD0]
          refine CallO.pure livesB_c rfl ?_
          simp
    case' true=>
      obtain ⟨h1,h2,h3⟩:=difB_iff.1 hB
      have hw2:=hw h1 h2
      rw [hD h1 h2 h3] at hw2
      simp [natV,u8V]
      intro gf6
      refine CallO.pure hr (by simp) ?_
      simp
      intro gf7
      simp [hne,hn,ho,tab_get,hxa,hxb,natV,Nat.not_lt.2 h1,Nat.not_lt.2 h2,h3]
      refine CallO.pure hw2 (by simp) ?_
      simp
      refine CallO.pure livesB_c rfl ?_
      simp
end Go.Proofs.YtlmniacemoohpaaGreatDoor
