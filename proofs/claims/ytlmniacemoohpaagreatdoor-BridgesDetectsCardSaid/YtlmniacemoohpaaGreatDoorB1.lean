/- Bridges: the values of bridged nets, the stuck fault, the checks of the package. Conditions: none. -/
import Derived.Test.YtlmniacemoohpaaGreatDoorB0
import Derived.Test.YtlmniacemoohpaaGreatDoorU5
set_option linter.unusedSimpArgs false
set_option linter.unusedVariables false
namespace Go.Proofs.YtlmniacemoohpaaGreatDoor
open Go
theorem ends_c (c : Ci) (hg : c.good) (f : Ft) (hf : f.okB c) (p : Pt) (hp : p.fit c) : PureC Tryz.prog gl0 44 [c.v,f.w,p.v] (.tup [.agg [u8V (netN c p f.n),u8V (netN c p f.o)],.int .i64 0]):=by
  have hfc:=fcheckB_c c hg f hf
  have r1:=run_c c hg p hp
  have hm:=hf.m
  have hn:=hf.n
  have ho:=hf.o
  generalize obsO c (netN c p) = O1 at r1
  generalize obsS c (netN c p) = S1 at r1
  generalize netN c p = A at r1 ⊢
  obtain ⟨xa,hxa⟩ : ∃ xa,A f.n = xa:=⟨_,rfl⟩
  obtain ⟨xb,hxb⟩ : ∃ xb,A f.o = xb:=⟨_,rfl⟩
  have hm2 : ¬ f.m < 2:=by omega
  simp only [rspV,Pt.v,Ft.w,u8V,natV] at hfc r1 ⊢
  refine PureC.of_W 2 ok44 rfl ?_
  simp [i44,x44]
  intro gf1 gf2 gf3 gf4
  refine CallO.pure hfc (by simp) ?_
  simp [hm2]
  refine CallO.pure r1 (by simp) ?_
  simp
  intro gf5 gm
  simp [hn,ho,tab_get,hxa,hxb]
theorem ends0_c (c : Ci) (hg : c.good) (f : Ft) (hf : f.any c) (hm : f.m = 0) (p : Pt) : PureC Tryz.prog gl0 44 [c.v,f.w,p.v] (.tup [.agg [u8V 0,u8V 0],.int .i64 7]):=by
  have hfc:=fcheckA_c c hg f hf
  simp only [Pt.v,Ft.w,u8V,natV] at hfc ⊢
  refine PureC.of_W 2 ok44 rfl ?_
  simp [i44,x44]
  intro gf1 gf2 gf3 gf4
  refine CallO.pure hfc (by simp) ?_
  simp [hm]
def difB (a b : Nat) : Bool:=decide (a ≤ 1) && decide (b ≤ 1) && !decide (a = b)
theorem difB_iff {a b : Nat} : difB a b = true↔a ≤ 1∧b ≤ 1∧a ≠ b:=by simp [difB,and_assoc]
theorem dif_c (a b : Nat) : PureC Tryz.prog gl0 49 [.agg [u8V a,u8V b]] (.bool (difB a b)):=by
  refine PureC.of_W 2 ok49 rfl ?_
  simp only [u8V]
  simp [i49,x49]
  intro gf1
  by_cases h1 : a = 0∧b = 1
  · simp [h1,difB]
  · by_cases h2 : a = 1∧b = 0
    · simp [h2,difB]
    · have hd : difB a b = false:=by
        rw [Bool.eq_false_iff]; intro h; have:=difB_iff.1 h; omega
      have e1 : (decide (a = 0) && decide (b = 1)) = false:=by simpa using h1
      have e2 : (decide (a = 1) && decide (b = 0)) = false:=by simpa using h2
      rw [hd]
      simp [e1,e2]
theorem stuckF_c (c : Ci) (hg : c.good) (f : Ft) (hf : f.okB c) (p : Pt) (hp : p.fit c) : PureC Tryz.prog gl0 19 [c.v,f.w,p.v]
    (.tup [bif difB (netN c p f.n) (netN c p f.o) then (wantF f (netN c p)).w else (⟨0,0,1,0,0⟩ : Ft).w,.bool (difB (netN c p f.n) (netN c p f.o)),.int .i64 0]):=by
  have he:=ends_c c hg f hf p hp
  have hd:=dif_c (netN c p f.n) (netN c p f.o)
  have hl:=lnot_c (netN c p f.n)
  have hq:=hf.q
  have hpin : f.pin = -1:=by unfold Ft.pin; omega
  have hpin0 : ∀ a b d e : Nat,(⟨a,b,0,d,e⟩ : Ft).pin = -1:=fun _ _ _ _=>rfl
  unfold wantF
  generalize netN c p = A at he hd hl ⊢
  obtain ⟨xa,hxa⟩ : ∃ xa,A f.n = xa:=⟨_,rfl⟩
  obtain ⟨xb,hxb⟩ : ∃ xb,A f.o = xb:=⟨_,rfl⟩
  rw [hxa,hxb] at he hd ⊢
  rw [hxa] at hl
  have hnot : difB xa xb = true→notN xa = xb:=fun h=>by
    obtain ⟨h1,h2,h3⟩:=difB_iff.1 h
    unfold notN; rw [if_pos h1]; omega
  by_cases hc : f.m = 2∧f.v = xa
  case' pos=>
    rw [if_pos hc]
    have hc1:=hc.1
    have hc2:=hc.2.symm
  case' neg=>
    rw [if_neg hc]
  all_goals
    simp only [Pt.v,Ft.w,u8V,natV,hpin,hpin0] at he hd hl ⊢
    refine PureC.of_W 2 ok19 rfl ?_
    simp [i19,x19]
    intro gf1 gf2 gf3 gf4
    refine CallO.pure he (by simp) ?_
    simp
    intro gf5
    refine CallO.pure hd (by simp) ?_
    simp
    refine BrB.of (fun hdd=>?_) (fun hdd=>?_)
  case' neg.refine_2=>simp [hdd]; rfl
  case' pos.refine_2=>simp [hdd]; rfl
  all_goals
    have hn:=hnot hdd
    rw [hn] at hl
    simp [hdd]
    intro gm
    first | refine ⟨_,_,_,.pure hl (by simp),?_⟩ | refine ⟨_,⟨_,_,.pure hl (by simp)⟩,?_⟩ | refine ⟨_,_,⟨_,.pure hl (by simp)⟩,?_⟩
    simp
    refine ⟨rfl,?_⟩
  case' pos.refine_1=>simp [hc1,hc2]
  case' neg.refine_1=>
    by_cases hm : f.m = 2
    case' pos=>
      have hv : ¬ xa = f.v:=fun h=>hc ⟨hm,h.symm⟩
      simp [hm,hv]
    case' neg=>simp [hm]
theorem detB_c (c : Ci) (hg : c.good) (f : Ft) (hf : f.okB c) (p : Pt) (hp : p.fit c) : PureC Tryz.prog gl0 16 [c.v,f.w,p.v] (.tup [.bool (f.det c p),.int .i64 0]):=by
  have he:=ends_c c hg f hf p hp
  have hk:=known_c (netN c p f.n)
  have hd:=detA_c c hg f (.inr hf) p hp
  have hN:=fun h1 h2=>brN hg hp hf h1 h2
  generalize f.det c p = D at hd hN ⊢
  generalize netN c p = A at he hk hN
  obtain ⟨xa,hxa⟩ : ∃ xa,A f.n = xa:=⟨_,rfl⟩
  obtain ⟨xb,hxb⟩ : ∃ xb,A f.o = xb:=⟨_,rfl⟩
  rw [hxa,hxb] at he hN
  rw [hxa] at hk
  simp only [Pt.v,Ft.w,u8V,natV] at he hk hd ⊢
  refine PureC.of_W 2 ok16 rfl ?_
  simp [i16,x16]
  intro gf1 gf2 gf3
  refine CallO.pure he (by simp) ?_
  simp
  intro gf4
  refine CallO.pure hk (by simp) ?_
  by_cases h1 : xa ≤ 1
  · by_cases h2 : xa = xb
    · have hD:=hN h1 h2
      subst h2
      simp [h1,hD]
    · simp [h1,h2]
      refine CallO.pure hd (by simp) ?_
      simp
  · simp [h1]
    refine CallO.pure hd (by simp) ?_
    simp
theorem quie_c (c : Ci) (hg : c.good) (f : Ft) (hf : f.okB c) (p : Pt) (hp : p.fit c) : PureC Tryz.prog gl0 23 [c.v,f.w,p.v] (.tup [.bool (difB (netN c p f.n) (netN c p f.o)),.int .i64 0]):=by
  have he:=ends_c c hg f hf p hp
  have hd:=dif_c (netN c p f.n) (netN c p f.o)
  generalize netN c p f.n = xa at he hd ⊢
  generalize netN c p f.o = xb at he hd ⊢
  simp only [Pt.v,Ft.w,u8V,natV] at he hd ⊢
  refine PureC.of_W 2 ok23 rfl ?_
  simp [i23,x23]
  intro gf1 gf2 gf3
  refine CallO.pure he (by simp) ?_
  simp
  intro gf4
  refine CallO.pure hd (by simp) ?_
  simp
theorem stuck0_c (c : Ci) (hg : c.good) (f : Ft) (hf : f.any c) (hm : f.m = 0) (p : Pt) : PureC Tryz.prog gl0 19 [c.v,f.w,p.v] (.tup [(⟨0,0,1,0,0⟩ : Ft).w,.bool false,.int .i64 7]):=by
  have he:=ends0_c c hg f hf hm p
  simp only [Pt.v,Ft.w,u8V,natV] at he ⊢
  refine PureC.of_W 2 ok19 rfl ?_
  simp [i19,x19]
  intro gf1 gf2 gf3 gf4
  refine CallO.pure he (by simp) ?_
  simp
  rfl
theorem det0_c (c : Ci) (hg : c.good) (f : Ft) (hf : f.any c) (hm : f.m = 0) (p : Pt) : PureC Tryz.prog gl0 16 [c.v,f.w,p.v] (.tup [.bool false,.int .i64 7]):=by
  have he:=ends0_c c hg f hf hm p
  simp only [Pt.v,Ft.w,u8V,natV] at he ⊢
  refine PureC.of_W 2 ok16 rfl ?_
  simp [i16,x16]
  intro gf1 gf2 gf3
  refine CallO.pure he (by simp) ?_
  simp
theorem quie0_c (c : Ci) (hg : c.good) (f : Ft) (hf : f.any c) (hm : f.m = 0) (p : Pt) : PureC Tryz.prog gl0 23 [c.v,f.w,p.v] (.tup [.bool false,.int .i64 7]):=by
  have he:=ends0_c c hg f hf hm p
  simp only [Pt.v,Ft.w,u8V,natV] at he ⊢
  refine PureC.of_W 2 ok23 rfl ?_
  simp [i23,x23]
  intro gf1 gf2 gf3
  refine CallO.pure he (by simp) ?_
  simp
end Go.Proofs.YtlmniacemoohpaaGreatDoor
