/- Transitions: the contract of Launches. Conditions: none. -/
import Derived.Test.YtekbgkainigfnaaGreatDoorT7
namespace Go.Proofs.YtekbgkainigfnaaGreatDoor
open Go
theorem pat1_c (c : Ci) (hg : c.good) (a b : Pt) (ha : a.fit c) : PureC Tryz.prog gl0 103 [.iptr c.v 0, .iptr (prV a b) 0] (.int .i64 0) := by
  have hs := scheck_c c hg a ha
  simp only [Pt.v] at hs
  refine PureC.of_W 2 ok103 rfl ?_
  simp [i103, x103]
  refine CallO.pure hs (by simp) ?_
  simp
theorem pat2_c (c : Ci) (hg : c.good) (a b : Pt) (hb : b.fit c) : PureC Tryz.prog gl0 104 [.iptr c.v 0, .iptr (prV a b) 0] (.int .i64 0) := by
  have hs := scheck_c c hg b hb
  simp only [Pt.v] at hs
  refine PureC.of_W 2 ok104 rfl ?_
  simp [i104, x104]
  refine CallO.pure hs (by simp) ?_
  simp
theorem pat_c (c : Ci) (hg : c.good) (a b : Pt) (ha : a.fit c) (hb : b.fit c) : PureC Tryz.prog gl0 102 [.iptr c.v 0, .iptr (prV a b) 0] (.int .i64 0) := by
  have m1 := pat1_c c hg a b ha
  have m2 := pat2_c c hg a b hb
  have hpp := prV_pure a b
  have hfs := first_c [(103, [.iptr c.v 0, .iptr (prV a b) 0]), (104, [.iptr c.v 0, .iptr (prV a b) 0])] (some 2) (fun x hx => by
    simp only [List.mem_cons, List.not_mem_nil, or_false] at hx
    rcases hx with rfl | rfl
    · exact ⟨m1, by simp [V.pureL, V.pure, hpp]⟩
    · exact ⟨m2, by simp [V.pureL, V.pure, hpp]⟩) (by simp)
  simp only [fnV, List.map_cons, List.map_nil] at hfs
  refine PureC.of_W 2 ok102 rfl ?_
  simp [i102, x102]
  intro gf
  refine CallO.borrow 4 hfs ?_ rfl ?_
  · simp [frz, V.mapR, V.mapRL, lk, mapR_pure _ (ci_pure2 c), mapR_pure _ hpp]
  simp
theorem patterns_c (c : Ci) (a b : Pt) : PureC Tryz.prog gl0 56 [c.v, prV a b] (.fn 102 [] [.iptr c.v 0, .iptr (prV a b) 0]) := by
  have hpp := prV_pure a b
  refine PureC.of_W 3 ok56 rfl ?_
  simp [i56, x56]
  intro gf1 gf2
  simp [mapR_pure _ hpp]
end Go.Proofs.YtekbgkainigfnaaGreatDoor
