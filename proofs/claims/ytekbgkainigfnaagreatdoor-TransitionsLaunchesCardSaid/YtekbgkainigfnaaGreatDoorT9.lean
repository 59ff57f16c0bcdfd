/- Transitions: the law Launches. Conditions: none. -/
import Derived.Test.YtekbgkainigfnaaGreatDoorT8
import Derived.Test.YtekbgkainigfnaaGreatDoorX3
import Derived.Test.YtekbgkainigfnaaGreatDoorXL5
namespace Go.Proofs.YtekbgkainigfnaaGreatDoor
open Go
theorem sub1_notN {v : Nat} (h : v ≤ 1) : IntKind.u8.wrap (1 - (v : Int)) = (notN v : Int) := by
  have hv : v = 0 ∨ v = 1 := by omega
  rcases hv with rfl | rfl <;> rfl
set_option maxRecDepth 100000 in
set_option maxHeartbeats 4000000 in
theorem law5_c (x : Cx) (hx : x.ok) (p q : Pt) (z : Fx) (hz : z.ok) : PureC Tryz.prog gl0 5 [caseV x p q, z.v] (.bool true) := by
  have hcs := case_c x hx p q
  have hcp := case_pure x p q
  have hg := nm_good x
  generalize x.nm.ci = c at hcs hg
  have hn0 := hg.n0
  have hn1 := hg.n1
  have ha := pof_fit c p
  have hb := pof_fit c q
  generalize pof c p = a at hcs ha
  generalize pof c q = b at hcs hb
  have hzo : ({ z with m := 0 } : Fx).ok := ⟨by simp, hz.n, hz.p, hz.o⟩
  have hfo := fof_c c hg { z with m := 0 } hzo 0 rfl (by omega)
  have hfk := of_ok c hg { z with m := 0 } 0 (by omega)
  generalize Fx.of c { z with m := 0 } 0 = f at hfo hfk
  have hla := lau_c c hg f hfk a b ha hb
  have hnl := net_lt hg hfk.n hfk.q
  have r1 := run_c c hg a ha
  have r2 := run_c c hg b hb
  have hs1 := sub1_notN hfk.v
  have hpp := prV_pure a b
  have hq := hfk.q
  have hfn := hfk.n
  have hval := hg.val.i f.n hfn
  obtain ⟨y, hy⟩ : ∃ y, c.n[f.n] = y := ⟨_, rfl⟩
  have hnet : f.net c = if f.q = 0 then f.n else ((y.i.getD (f.q - 1) 0).toNat) := by unfold Ft.net; rw [c.nd_get hfn, hy]
  rw [c.nd_get hfn, hy] at hq hval
  generalize f.net c = n at hla hnl hnet
  generalize netN c a = A at r1 hla
  generalize netN c b = B at r2 hla
  generalize obsO c A = O1 at r1
  generalize obsS c A = S1 at r1
  generalize obsO c B = O2 at r2
  generalize obsS c B = S2 at r2
  obtain ⟨xa, hxa⟩ : ∃ xa, A n = xa := ⟨_, rfl⟩
  obtain ⟨xb, hxb⟩ : ∃ xb, B n = xb := ⟨_, rfl⟩
  rw [hxa, hxb] at hla
  simp only [rspV, Pt.v] at r1 r2
  simp only [caseV] at hcs hcp
  simp only [Fx.v, u8V] at hfo
  simp only [u8V] at hla
  have hne : c.n ≠ [] := by intro e; rw [e] at hn0; simp at hn0
  refine PureC.of_W 2 ok5 rfl ?_
  simp [i5, x5, caseV, Fx.v]
  intro gf1 gf2
  refine CallO.pure hcs hcp ?_
  simp
  intro gf3 gf4
  refine CallO.pure hfo (by simp [u8V]) ?_
  simp
  intro gf5
  refine CallO.pure r1 (by simp) ?_
  simp
  intro gf6
  refine CallO.pure r2 (by simp) ?_
  simp
  intro gf7
  simp [hne]
  by_cases h0 : f.q = 0
  case' pos =>
    have h1 : ¬ (0 : Int) ≤ f.pin := by unfold Ft.pin; omega
    rw [if_pos h0] at hnet
    subst hnet
    simp only [Ft.ln, natV] at hla
    simp [h1, natV, u8V]
  case' neg =>
    obtain ⟨k, hk⟩ : ∃ k, f.q = k + 1 := ⟨f.q - 1, by omega⟩
    have hkl : k < y.i.length := by omega
    have h1 : f.pin = (k : Int) := by unfold Ft.pin; omega
    rw [if_neg h0, hk, Nat.add_sub_cancel, List.getD_eq_getElem?_getD, List.getElem?_eq_getElem hkl] at hnet
    simp only [Option.getD_some] at hnet
    have h2 := hval _ (List.getElem_mem hkl)
    obtain ⟨m, hm⟩ : ∃ m : Nat, y.i[k] = (m : Int) := ⟨(y.i[k]).toNat, by omega⟩
    rw [hm, Int.toNat_natCast] at hnet
    subst hnet
    simp only [Ft.ln, natV, h1] at hla
    simp [show (0 : Int) ≤ f.pin by omega]
    intro gm
    simp [hfn, hy, hkl, ints_getE, hm, h1, natV, u8V]
  all_goals
    refine CallO.pure hla (by simp) ?_
    simp
    intro gm2
    simp [hnl, tab_get, hxa, hs1]
    by_cases e1 : xa = notN f.v
    · simp [e1, hnl, tab_get, hxb]
      first | refine ⟨_, _, _, .pure lives_c rfl, ?_⟩ | refine ⟨_, ⟨_, _, .pure lives_c rfl⟩, ?_⟩ | refine ⟨_, _, ⟨_, .pure lives_c rfl⟩, ?_⟩
      simp
      try rfl
    · simp [e1]
      first | refine ⟨_, _, _, .pure lives_c rfl, ?_⟩ | refine ⟨_, ⟨_, _, .pure lives_c rfl⟩, ?_⟩ | refine ⟨_, _, ⟨_, .pure lives_c rfl⟩, ?_⟩
      simp
      try rfl
end Go.Proofs.YtekbgkainigfnaaGreatDoor
