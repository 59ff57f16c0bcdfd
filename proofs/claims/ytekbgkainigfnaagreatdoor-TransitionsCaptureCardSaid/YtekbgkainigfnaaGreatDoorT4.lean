/- Transitions: the law Capture. Conditions: none. -/
import Derived.Test.YtekbgkainigfnaaGreatDoorT5
import Derived.Test.YtekbgkainigfnaaGreatDoorX3
import Derived.Test.YtekbgkainigfnaaGreatDoorXL3
namespace Go.Proofs.YtekbgkainigfnaaGreatDoor
open Go
set_option maxRecDepth 100000 in
set_option maxHeartbeats 4000000 in
theorem law3_c (x : Cx) (hx : x.ok) (p q : Pt) : PureC Tryz.prog gl0 3 [x.v, p.v, q.v] (.bool true) := by
  have hof := circU_c x hx
  have hpu := cxU_pure x
  have hg := nm_good x
  generalize x.nm.ci = c at hof hg
  have hn1 := hg.n1
  have l0 := cnt_le 0 c.n
  have l1 := cnt_le 14 c.n
  have h14 := of14_c c p q (by omega)
  have ha := pof_fit c p
  have hb := pof_fit c q
  generalize pof c p = a at h14 ha
  generalize pof c q = b at h14 hb
  have hr := run_c c hg a ha
  have hcap := cap_c c hg a ha b.i ⟨hb.i, ha.s, hb.iv, ha.sv⟩
  have e1 := ha.i
  have e2 := ha.s
  have e3 := hb.i
  have e4 : (obsS c (netN c a)).length = cnt 14 c.n := by simp [obsS, cnt]
  generalize obsO c (netN c a) = O at hr
  generalize obsS c (netN c a) = S at hr hcap e4
  have s1 := same17_c a.i a.i none (by omega)
  have s2 := same17_c a.s a.s none (by omega)
  have s3 := same17_c b.i b.i none (by omega)
  have s4 := same17_c S S (some S.length) (by omega)
  simp only [rspV, decide_true] at hr s1 s2 s3 s4
  refine PureC.of_W 2 ok3 rfl ?_
  simp [i3, x3, Cx.v]
  intro gf1 gf2 gf3
  refine CallO.pure hof hpu ?_
  simp
  intro gf4
  refine CallO.pure h14 (by simp) ?_
  simp
  intro gf5
  refine CallO.pure hr (by simp) ?_
  simp
  intro gf6
  refine CallO.pure hcap (by simp) ?_
  simp
  intro gf7
  refine CallO.pure s1 (by simp) ?_
  simp
  refine CallO.pure s2 (by simp) ?_
  simp
  refine CallO.pure s3 (by simp) ?_
  simp
  refine CallO.pure s4 (by simp) ?_
  simp
  refine CallO.pure lives_c (by simp) ?_
  simp
end Go.Proofs.YtekbgkainigfnaaGreatDoor
