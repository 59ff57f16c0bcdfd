/- Transitions: the contract of Launches. Conditions: none. -/
import Derived.Test.YtekbgkainigfnaaGreatDoorT7
namespace Go.Proofs.YtekbgkainigfnaaGreatDoor
open Go
theorem pat1_c (c : Ci) (hg : c.good) (a b : Pt) (ha : a.fit c) : PureC Tryz.prog gl0 103 [.iptr c.v 0, .iptr (prV a b) 0] (.int .i64 0) := by
  have hs := scheck_c c hg a ha
  simp only [Pt.v] at hs
  refine PureC.of_W 2 ok103 rfl ?_
  simp [i103, x103]
  refine CallO.pure hs (by simp) ?_
  simp
theorem pat2_c (c : Ci) (hg : c.good) (a b : Pt) (hb : b.fit c) : PureC Tryz.prog gl0 104 [.iptr c.v 0, .iptr (prV a b) 0] (.int .i64 0) := by
  have hs := scheck_c c hg b hb
  simp only [Pt.v] at hs
  refine PureC.of_W 2 ok104 rfl ?_
  simp [i104, x104]
  refine CallO.pure hs (by simp) ?_
  simp
theorem pat_c (c : Ci) (hg : c.good) (a b : Pt) (ha : a.fit c) (hb : b.fit c) : PureC Tryz.prog gl0 102 [.iptr c.v 0, .iptr (prV a b) 0] (.int .i64 0) := by
  have m1 := pat1_c c hg a b ha
  have m2 := pat2_c c hg a b hb
  have hpp := prV_pure a b
  have hfs := first_c [(103, [.iptr c.v 0, .iptr (prV a b) 0]), (104, [.iptr c.v 0, .iptr (prV a b) 0])] (some 2) (fun x hx => by
    simp only [List.mem_cons, List.not_mem_nil, or_false] at hx
    rcases hx with rfl | rfl
    · exact ⟨m1, by simp [V.pureL, V.pure, hpp]⟩
    · exact ⟨m2, by simp [V.pureL, V.pure, hpp]⟩) (by simp)
  simp only [fnV, List.map_cons, List.map_nil] at hfs
  refine PureC.of_W 2 ok102 rfl ?_
  simp [i102, x102]
  intro gf
  refine CallO.borrow 4 hfs ?_ rfl ?_
  · simp [frz, V.mapR, V.mapRL, lk, mapR_pure _ (ci_pure2 c), mapR_pure _ hpp]
  simp
theorem patterns_c (c : Ci) (a b : Pt) : PureC Tryz.prog gl0 56 [c.v, prV a b] (.fn 102 [] [.iptr c.v 0, .iptr (prV a b) 0]) := by
  have hpp := prV_pure a b
  refine PureC.of_W 3 ok56 rfl ?_
  simp [i56, x56]
  intro gf1 gf2
  simp [mapR_pure _ hpp]
theorem lau1_c (c : Ci) (hg : c.good) (f : Ft) (hf : f.ok c) : PureC Tryz.prog gl0 54 [.iptr c.v 0, .iptr f.ln 0, .iptr (u8V f.v) 0] (.int .i64 0) := by
  have hc := fcheck_c c hg ⟨0, f.n, f.q, f.v, 0⟩ ⟨by simp, hf.n, hf.q, hf.v, rfl⟩
  simp only [Ft.w, Ft.pin, u8V, natV] at hc
  refine PureC.of_W 2 ok54 rfl ?_
  simp [i54, x54, u8V, natV, Ft.pin]
  refine CallO.pure hc (by simp) ?_
  simp
theorem lau_c (c : Ci) (hg : c.good) (f : Ft) (hf : f.ok c) (a b : Pt) (ha : a.fit c) (hb : b.fit c) :
    PureC Tryz.prog gl0 22 [c.v, f.ln, u8V f.v, prV a b] (.tup [.bool (decide (netN c a (f.net c) = notN f.v) && decide (netN c b (f.net c) = f.v)), .int .i64 0]) := by
  have h1 := lau1_c c hg f hf
  have h2 := pat_c c hg a b ha hb
  have hpp := prV_pure a b
  have h3 := patterns_c c a b
  have hrd := read_c c hg f hf.n hf.q
  have hnl := net_lt hg hf.n hf.q
  have r1 := run_c c hg a ha
  have r2 := run_c c hg b hb
  have hno := lnot_c f.v
  generalize notN f.v = nv at hno ⊢
  generalize netN c a = A at r1 ⊢
  generalize netN c b = B at r2 ⊢
  generalize f.net c = n at hrd hnl ⊢
  generalize obsO c A = O1 at r1
  generalize obsS c A = S1 at r1
  generalize obsO c B = O2 at r2
  generalize obsS c B = S2 at r2
  simp only [rspV, Pt.v] at r1 r2
  simp only [u8V, natV] at h1 hrd hno
  have hfs := first_c [(54, [.iptr c.v 0, .iptr f.ln 0, .iptr (.int .u8 (f.v : Int)) 0]), (102, [.iptr c.v 0, .iptr (prV a b) 0])] (some 2) (fun x hx => by
    simp only [List.mem_cons, List.not_mem_nil, or_false] at hx
    rcases hx with rfl | rfl
    · exact ⟨h1, by simp [V.pureL, V.pure]⟩
    · exact ⟨h2, by simp [V.pureL, V.pure, hpp]⟩) (by simp)
  simp only [fnV, List.map_cons, List.map_nil] at hfs
  refine PureC.of_W 2 ok22 rfl ?_
  simp [i22, x22, u8V]
  intro gf1 gf2 gf3 gf4
  refine CallO.pure h3 (by simp) ?_
  simp
  intro gf5
  refine CallO.borrow 4 hfs ?_ rfl ?_
  · simp [frz, V.mapR, V.mapRL, lk, mapR_pure _ (ci_pure2 c), mapR_pure _ (ln_pure f), mapR_pure _ hpp]
  simp
  refine CallO.pure r1 (by simp) ?_
  simp
  intro gf6
  refine CallO.pure r2 (by simp) ?_
  simp
  intro gf7
  refine CallO.pure hrd (by simp [natV]) ?_
  simp
  intro gm
  obtain ⟨x, hx⟩ : ∃ x, A n = x := ⟨_, rfl⟩
  obtain ⟨y, hy⟩ : ∃ y, B n = y := ⟨_, rfl⟩
  rw [hx, hy]
  simp [hnl, tab_get, hx, u8V]
  first | refine ⟨_, _, _, .pure hno (by simp), ?_⟩ | refine ⟨_, ⟨_, _, .pure hno (by simp)⟩, ?_⟩ | refine ⟨_, _, ⟨_, .pure hno (by simp)⟩, ?_⟩
  by_cases hxv : x = nv
  · simp [hxv, hnl, tab_get, hy]
    try rfl
  · simp [hxv]
    try rfl
end Go.Proofs.YtekbgkainigfnaaGreatDoor
