/- Words: the law Run. Conditions: none. -/
import Derived.Test.YtmbgmfenlededaaGreatDoorS8
import Derived.Test.YtmbgmfenlededaaGreatDoorNet14
import Derived.Test.YtmbgmfenlededaaGreatDoorXR
import Derived.Test.YtmbgmfenlededaaGreatDoorW9
namespace Go.Proofs.YtmbgmfenlededaaGreatDoor
open Go
/-- The pattern that a law reads off plain data. -/
def pof (c : Ci) (p : Pt) : Pt := ⟨tkN p.i (cnt 0 c.n) 4, tkN p.s (cnt 14 c.n) 3⟩
theorem pof_fit (c : Ci) (p : Pt) : (pof c p).fit c := ⟨by simp [pof], by simp [pof], tkN_le _ _ 4 (by omega) (by omega), tkN_le _ _ 3 (by omega) (by omega)⟩
def ptsV (c : Ci) (q : List Pt) (j : Nat) : List V := ((q.take j).map (pof c)).map Pt.v
theorem ptsV_zero (c : Ci) (q : List Pt) : ptsV c q 0 = [] := by simp [ptsV]
theorem ptsV_len {c : Ci} {q : List Pt} {j : Nat} (h : j ≤ q.length) : (ptsV c q j).length = j := by simp [ptsV]; omega
theorem ptsV_all (c : Ci) (q : List Pt) : ptsV c q q.length = (q.map (pof c)).map Pt.v := by rw [ptsV, List.take_length]
theorem ptsV_succ {c : Ci} {q : List Pt} {j : Nat} {p : Pt} (h : j < q.length) (hp : q[j] = p) : ptsV c q (j + 1) = ptsV c q j ++ [(pof c p).v] := by
  unfold ptsV
  rw [List.take_succ_eq_append_getElem h, hp]
  simp
theorem pofV_c (p : Pt) (c : Ci) (hl : c.n.length < 1000000) : PureC Tryz.prog gl0 14 [p.v, c.v] (pof c p).v := pof_c p c hl
theorem wrunE_c (c : Ci) (hg : c.good) (l : List Pt) (cap : Option Nat) (hl : 64 < l.length) (hl2 : l.length < 1000) (hf : ∀ p ∈ l, p.fit c) : PureC Tryz.prog gl0 15 [c.v, .sl (l.map Pt.v) cap] (.tup [.nil, .nil, .int .i64 3]) := by
  have hck := wcheck_c c hg l cap (by omega) hf
  rw [if_pos (by omega)] at hck
  have hlp := pts_pure l
  refine PureC.of_W 2 ok15 rfl ?_
  simp [i15, x15]
  intro gf1
  refine CallO.pure hck (by simp [hlp]) ?_
  simp
set_option maxRecDepth 100000 in
set_option maxHeartbeats 8000000 in
theorem law5_c (x : Cx) (hx : x.ok) (q : List Pt) : PureC Tryz.prog gl0 5 [x.v, .sl (q.map Pt.v) none] (.bool true) := by
  have hyok : ({ x with mem := false } : Cx).ok := ⟨hx.n, hx.f, hx.d0, hx.d1, hx.p0, hx.p1, hx.p2, hx.p3, hx.g, hx.o⟩
  obtain ⟨c, hc⟩ : ∃ c, ({ x with mem := false } : Cx).ci = c := ⟨_, rfl⟩
  have hof : PureC Tryz.prog gl0 13 [.agg [u8V x.n, u8V x.f, u8V x.d0, u8V x.d1, .bool x.bus, .bool false, u8V x.p0, u8V x.p1, u8V x.p2, u8V x.p3, .sl (x.g.map Gx.v) none, .sl (x.o.map u8V) none]] c.v := hc ▸ cof_c _ hyok
  have hpu : V.pureL [.agg [u8V x.n, u8V x.f, u8V x.d0, u8V x.d1, .bool x.bus, .bool false, u8V x.p0, u8V x.p1, u8V x.p2, u8V x.p3, .sl (x.g.map Gx.v) none, .sl (x.o.map u8V) none]] = true := by
    have := cx_pure { x with mem := false }
    simp only [V.pureL, Bool.and_true]; exact this
  have hg : c.good := hc ▸ good_of _ rfl
  have hls : c.lens := hc ▸ ci_lens _
  have hsame := Same_c c c hls
  rw [show sameB c c = true by simp [sameB]] at hsame
  clear hc
  have hn1 := hg.n1
  have hqp := pts_pure q
  refine PureC.of_W 2 ok5 rfl ?_
  simp [i5, x5, Cx.v]
  intro gf2
  generalize gf2 2 = g2
  refine BrB.of (fun h1 => ?_) (fun h1 => ?_)
  · simp
    refine CallO.pure lives_c (by simp) ?_
    simp
  have hq70 : q.length ≤ 70 := by have := of_decide_eq_false h1; omega
  simp
  refine CallO.pure hof hpu ?_
  simp
  intro gf3
  generalize gf3 5 = g5
  obtain ⟨X, hX⟩ : ∃ X : V, V.agg [u8V x.n, u8V x.f, u8V x.d0, u8V x.d1, .bool x.bus, .bool false, u8V x.p0, u8V x.p1, u8V x.p2, u8V x.p3, .sl (x.g.map Gx.v) none, .sl (x.o.map u8V) none] = X := ⟨_, rfl⟩
  have hXc : X.cells = [u8V x.n, u8V x.f, u8V x.d0, u8V x.d1, .bool x.bus, .bool false, u8V x.p0, u8V x.p1, u8V x.p2, u8V x.p3, .sl (x.g.map Gx.v) none, .sl (x.o.map u8V) none] := by rw [← hX]; rfl
  try rw [hX]
  refine LoopP.ofF (X := Nat × Option (Nat × List V)) (fun z => [(7, natV z.1), (6, accV 38 z.2), (5, .ptr 5 g5 0 0), (2, .ptr 2 g2 0 0), (1, .sl (q.map Pt.v) none)])
    (fun z => (5, .row g5 4 [c.v]) :: (2, .row g2 12 [X]) :: accH 38 2 z.2)
    (fun z => z.1 ≤ q.length ∧ (z.2 = none ↔ z.1 = 0) ∧ accL z.2 = ptsV c q z.1) (fun z => q.length - z.1) (.done ⟨(0, none), ⟨by simp, by simp, by simp [accL, ptsV_zero]⟩, by simp [natV, accV], by simp [accH]; rfl⟩) ?_
  rintro ⟨j, acc⟩ ⟨q1, q2, q3⟩
  dsimp only at q1 q2 q3 ⊢
  simp [natV]
  refine BrB.of (fun hb => ?_) (fun hb => ?_)
  · have hj : j < q.length := of_decide_eq_true hb
    have hw := wrapN j (by omega)
    obtain ⟨p, hp⟩ : ∃ p, q[j] = p := ⟨_, rfl⟩
    have hnx := ptsV_succ (c := c) hj hp
    rw [← q3] at hnx
    have hpo := pofV_c p c (by omega)
    have hpv : (pof c p).v = .agg [.sl ((pof c p).i.map u8V) none, .sl ((pof c p).s.map u8V) none] := rfl
    rcases acc with _ | ⟨ga, r⟩
    · simp [accV, accH, hj, hp]
      intro gm
      first | refine ⟨_, _, _, .pure hpo (by simp), ?_⟩ | refine ⟨_, ⟨_, _, .pure hpo (by simp)⟩, ?_⟩ | refine ⟨_, _, ⟨_, .pure hpo (by simp)⟩, ?_⟩
      simp [hw]
      exact .done ⟨j + 1, some (gm 38, [(pof c p).v]), ⟨hj, by simp, by rw [hnx]; rfl⟩, by simp, by simp; rfl, by omega⟩
    · simp [accV, accH, hj, hp]
      intro gm
      first | refine ⟨_, _, _, .pure hpo (by simp), ?_⟩ | refine ⟨_, ⟨_, _, .pure hpo (by simp)⟩, ?_⟩ | refine ⟨_, _, ⟨_, .pure hpo (by simp)⟩, ?_⟩
      simp [hw]
      exact ⟨by have := congrArg List.length q3; rw [ptsV_len q1] at this; simp [accL] at this; omega, .done ⟨j + 1, some (ga + 1, r ++ [(pof c p).v]), ⟨hj, by simp, by rw [hnx]; rfl⟩, by simp, by simp; rfl, by omega⟩⟩
  have hj : j = q.length := by have := of_decide_eq_false hb; omega
  subst hj
  rw [ptsV_all] at q3
  obtain ⟨l, hl⟩ : ∃ l, q.map (pof c) = l := ⟨_, rfl⟩
  rw [hl] at q3
  have hll : l.length = q.length := by rw [← hl]; simp
  have hf : ∀ p ∈ l, p.fit c := fun p hp => by rw [← hl] at hp; obtain ⟨p0, -, rfl⟩ := List.mem_map.1 hp; exact pof_fit c p0
  have hlp := pts_pure l
  have hltk : List.take l.length (l.map Pt.v) = l.map Pt.v := List.take_of_length_le (by simp)
  have hXp : X.pure = true := by rw [← hX]; simpa only [V.pureL, Bool.and_true] using hpu
  obtain ⟨F, hF⟩ : ∃ F, netW c l = F := ⟨_, rfl⟩
  obtain ⟨R, hR⟩ : ∃ R : Nat → V, (fun i => rspV (obsO c fun n => (F n).lane i) (obsS c fun n => (F n).lane i)) = R := ⟨_, rfl⟩
  have hrun := fun h : l.length ≤ 64 => wrun_c c hg l none h hf
  rw [hF, hR] at hrun
  have ho := hg.ord
  have hFl : l.length ≤ 64 → ∀ i, i < 64 → ∀ n, n < c.n.length → (F n).lane i = netN c (ptL c l i) n := fun h i hi n hn => by rw [← hF]; exact net_lane hg h hf ho i hi n hn
  have hno : c.o.length ≤ 16384 := (sh_len hg.sh).2.2.2
  have l1 := cnt_le 14 c.n
  have hbl := blank_c c hg
  have hbv : (blkP c).v = .agg [.sl ((blkP c).i.map u8V) none, .sl ((blkP c).s.map u8V) none] := rfl
  have hRi : l.length ≤ 64 → ∀ i, i < 64 → R i = .agg [.sl ((obsO c (netN c (ptL c l i))).map u8V) (some (obsO c (netN c (ptL c l i))).length), .sl ((obsS c (netN c (ptL c l i))).map u8V) (some (obsS c (netN c (ptL c l i))).length)] := fun h i hi => by
    obtain ⟨e1, e2⟩ := obs_congr hg (f := fun n => (F n).lane i) (f' := netN c (ptL c l i)) fun n hn => hFl h i hi n hn
    rw [← hR]
    simp only [rspV, e1, e2]
  clear hR hF
  have hofX : PureC Tryz.prog gl0 13 [X] c.v := hX ▸ hof
  rcases acc with _ | ⟨ga, r⟩
  case' none =>
    have hl0 : l = [] := by simpa [accL] using q3.symm
    have hm64 : l.length ≤ 64 := by rw [hl0]; simp
    have hrun := hrun hm64
    have hrun2 := PureC.wide hrun (args := [c.v, .nil]) ⟨.refl _, by rw [hl0]; exact VLe.nil', trivial⟩ (.refl _)
    simp [accV, accH]
    refine .mk [(6, .nil), (5, .ptr 5 g5 0 0), (2, .ptr 2 g2 0 0)] [(5, .row g5 4 [c.v]), (2, .row g2 12 [X])] (by simp) (by simp) (.done ?_)
    simp
    refine CallO.pure hrun2 (by simp) ?_
    have hlz : l.length = 0 := by rw [hl0]; rfl
    have hm70 : l.length = 0 := hlz
    rw [hlz]
    obtain ⟨T, hT⟩ : ∃ T : V, V.nil = T := ⟨_, rfl⟩
    simp
  case' some =>
    simp only [accL] at q3
    subst q3
    simp [accV, accH]
    refine .mk [(6, .ref 38 ga 0 l.length none), (5, .ptr 5 g5 0 0), (2, .ptr 2 g2 0 0)] [(5, .row g5 4 [c.v]), (2, .row g2 12 [X]), (38, .row ga 2 (l.map Pt.v))] (by simp) (by simp) (.frz (g := ga) (sz := 2) (es := l.map Pt.v) 38 (by simp) hlp (.done ?_))
    simp [fzF, fzH, fzV, fzf, fzp, Blk.fz, hltk, mapR_pure X hXp]
    by_cases h64 : 64 < l.length
    case' pos =>
      refine CallO.pure (wrunE_c c hg l none h64 (by omega) hf) (by simp [hlp]) ?_
      simp [h64]
      refine CallO.pure lives_c (by simp) ?_
      simp
    have hm64 : l.length ≤ 64 := by omega
    have hrun := hrun hm64
    refine CallO.pure hrun (by simp [hlp]) ?_
    simp [h64]
  case' none =>
    refine LoopP.of (X := Nat) (fun i => [(11, natV i), (9, .sl (tab c.n.length fun n => (F n).v) (some c.n.length)), (8, .sl (tab 0 R) (some 0)), (6, .nil), (5, .ptr 5 g5 0 0), (2, .ptr 2 g2 0 0)])
      (fun _ => [(5, .row g5 4 [c.v]), (2, .row g2 12 [X])]) (fun i => i ≤ 64) (fun i => 64 - i) 0 (Nat.zero_le _) (by simp [natV]) (by simp) ?_
    intro i hi64
    simp [natV]
    refine BrB.of (fun hb => ?_) (fun hb => ?_)
    rotate_left
    · simp
      intro gm
      simp [hXc]
      first | refine ⟨_, _, _, .pure hof hpu, ?_⟩ | refine ⟨_, ⟨_, _, .pure hof hpu⟩, ?_⟩ | refine ⟨_, _, ⟨_, .pure hof hpu⟩, ?_⟩
      simp
      first | refine ⟨_, _, _, .pure hsame (by simp), ?_⟩ | refine ⟨_, ⟨_, _, .pure hsame (by simp)⟩, ?_⟩ | refine ⟨_, _, ⟨_, .pure hsame (by simp)⟩, ?_⟩
      simp
      first | refine ⟨_, _, _, .pure lives_c (by simp), ?_⟩ | refine ⟨_, ⟨_, _, .pure lives_c (by simp)⟩, ?_⟩ | refine ⟨_, _, ⟨_, .pure lives_c (by simp)⟩, ?_⟩
      simp
      try rfl
    have hi : i < 64 := of_decide_eq_true hb
    have hw := wrapN i (by omega)
    have hPf := ptL_fit (c := c) hf i
    have hPt : ptL c l i = l.getD i (blkP c) := rfl
    have hFi := hFl hm64 i hi
    have hRi := hRi hm64 i hi
    generalize ptL c l i = P at hPf hFi hRi hPt
    have hrn := run_c c hg P hPf
    obtain ⟨G, hG⟩ : ∃ G, netN c P = G := ⟨_, rfl⟩
    rw [hG] at hrn hFi hRi
    have hOl : (obsO c G).length = c.o.length := by simp [obsO]
    have hSl0 : (obsS c G).length = cnt 14 c.n := by simp [obsS, cnt]
    have hSl : (obsS c G).length ≤ 1000 := by omega
    clear hSl0
    generalize obsO c G = O at hrn hRi hOl
    generalize obsS c G = S at hrn hRi hSl
    have hsO := same6_c O O (some O.length) (some O.length) (by omega)
    have hsS := same6_c S S (some S.length) (some S.length) (by omega)
    rw [if_pos rfl] at hsO hsS
    have hPv : P.v = .agg [.sl (P.i.map u8V) none, .sl (P.s.map u8V) none] := rfl
    simp only [rspV] at hrn
    simp
    refine CallO.pure hbl (by simp) ?_
    simp
    intro gf12
    generalize gf12 12 = g12
    have hPb : P = blkP c := by rw [hPt, hl0]; rfl
    rw [hPb] at hrn
    · refine CallO.pure hrn (by simp) ?_
      simp
      intro gf13
      generalize gf13 13 = g13
      refine ⟨rfl, ?_⟩
      refine LoopP.of (X := Nat) (fun k => [(16, natV k), (15, .int .i64 0), (14, .sl (tab c.n.length fun n => u8V (G n)) (some c.n.length)), (11, natV i), (9, .sl (tab c.n.length fun n => (F n).v) (some c.n.length)), (8, .sl (tab 0 R) (some 0)), (6, .nil), (5, .ptr 5 g5 0 0), (2, .ptr 2 g2 0 0)])
        (fun _ => [(5, .row g5 4 [c.v]), (2, .row g2 12 [X])]) (fun k => k ≤ c.n.length) (fun k => c.n.length - k) 0 (Nat.zero_le _) (by simp [natV]) (by simp) ?_
      intro k hk
      simp [natV]
      refine BrB.of (fun hb2 => ?_) (fun hb2 => ?_)
      · have hk' : k < c.n.length := of_decide_eq_true hb2
        have hw2 := wrapN k (by omega)
        have hFk := hFi k hk'
        obtain ⟨w, hwk⟩ : ∃ w, F k = w := ⟨_, rfl⟩
        rw [hwk] at hFk
        have hat := at8_c w i hi
        rw [hFk] at hat
        simp only [u8V, natV] at hat
        simp [hk', tab_get, hwk, u8V]
        intro gm
        first | refine ⟨_, _, _, .pure hat (by simp), ?_⟩ | refine ⟨_, ⟨_, _, .pure hat (by simp)⟩, ?_⟩ | refine ⟨_, _, ⟨_, .pure hat (by simp)⟩, ?_⟩
        simp [hw2]
        first | exact ⟨rfl, k + 1, hk', rfl, by omega⟩ | exact ⟨k + 1, hk', rfl, by omega⟩
      · simp [hw]
        exact ⟨i + 1, hi, rfl, by omega⟩
  case' some =>
    refine LoopP.of (X := Nat) (fun i => [(11, natV i), (9, .sl (tab c.n.length fun n => (F n).v) (some c.n.length)), (8, .sl (tab l.length R) (some l.length)), (6, .sl (l.map Pt.v) none), (5, .ptr 5 g5 0 0), (2, .ptr 2 g2 0 0)])
      (fun _ => [(5, .row g5 4 [c.v]), (2, .row g2 12 [X])]) (fun i => i ≤ 64) (fun i => 64 - i) 0 (Nat.zero_le _) (by simp [natV]) (by simp) ?_
    intro i hi64
    simp [natV]
    refine BrB.of (fun hb => ?_) (fun hb => ?_)
    rotate_left
    · simp
      intro gm
      simp [hXc]
      first | refine ⟨_, _, _, .pure hof hpu, ?_⟩ | refine ⟨_, ⟨_, _, .pure hof hpu⟩, ?_⟩ | refine ⟨_, _, ⟨_, .pure hof hpu⟩, ?_⟩
      simp
      first | refine ⟨_, _, _, .pure hsame (by simp), ?_⟩ | refine ⟨_, ⟨_, _, .pure hsame (by simp)⟩, ?_⟩ | refine ⟨_, _, ⟨_, .pure hsame (by simp)⟩, ?_⟩
      simp
      first | refine ⟨_, _, _, .pure lives_c (by simp), ?_⟩ | refine ⟨_, ⟨_, _, .pure lives_c (by simp)⟩, ?_⟩ | refine ⟨_, _, ⟨_, .pure lives_c (by simp)⟩, ?_⟩
      simp
      try rfl
    have hi : i < 64 := of_decide_eq_true hb
    have hw := wrapN i (by omega)
    have hPf := ptL_fit (c := c) hf i
    have hPt : ptL c l i = l.getD i (blkP c) := rfl
    have hFi := hFl hm64 i hi
    have hRi := hRi hm64 i hi
    generalize ptL c l i = P at hPf hFi hRi hPt
    have hrn := run_c c hg P hPf
    obtain ⟨G, hG⟩ : ∃ G, netN c P = G := ⟨_, rfl⟩
    rw [hG] at hrn hFi hRi
    have hOl : (obsO c G).length = c.o.length := by simp [obsO]
    have hSl0 : (obsS c G).length = cnt 14 c.n := by simp [obsS, cnt]
    have hSl : (obsS c G).length ≤ 1000 := by omega
    clear hSl0
    generalize obsO c G = O at hrn hRi hOl
    generalize obsS c G = S at hrn hRi hSl
    have hsO := same6_c O O (some O.length) (some O.length) (by omega)
    have hsS := same6_c S S (some S.length) (some S.length) (by omega)
    rw [if_pos rfl] at hsO hsS
    have hPv : P.v = .agg [.sl (P.i.map u8V) none, .sl (P.s.map u8V) none] := rfl
    simp only [rspV] at hrn
    simp
    refine CallO.pure hbl (by simp) ?_
    simp
    intro gf12
    generalize gf12 12 = g12
    refine BrB.of (fun him => ?_) (fun him => ?_)
    · have hil : i < l.length := of_decide_eq_true him
      have hPb : l[i] = P := by rw [hPt, List.getD_eq_getElem?_getD, List.getElem?_eq_getElem hil]; rfl
      simp [hil, hPb]
      try rw [← hPv]
      refine CallO.pure hrn (by simp) ?_
      simp
      intro gf13
      generalize gf13 13 = g13
      intro gm0
      simp [hil, tab_get, hRi]
      first | refine ⟨_, _, _, .pure hsO (by simp), ?_⟩ | refine ⟨_, ⟨_, _, .pure hsO (by simp)⟩, ?_⟩ | refine ⟨_, _, ⟨_, .pure hsO (by simp)⟩, ?_⟩
      simp
      first | refine ⟨_, _, _, .pure hsS (by simp), ?_⟩ | refine ⟨_, ⟨_, _, .pure hsS (by simp)⟩, ?_⟩ | refine ⟨_, _, ⟨_, .pure hsS (by simp)⟩, ?_⟩
      simp
      refine ⟨rfl, ?_⟩
      refine LoopP.of (X := Nat) (fun k => [(16, natV k), (15, .int .i64 0), (14, .sl (tab c.n.length fun n => u8V (G n)) (some c.n.length)), (11, natV i), (9, .sl (tab c.n.length fun n => (F n).v) (some c.n.length)), (8, .sl (tab l.length R) (some l.length)), (6, .sl (l.map Pt.v) none), (5, .ptr 5 g5 0 0), (2, .ptr 2 g2 0 0)])
        (fun _ => [(5, .row g5 4 [c.v]), (2, .row g2 12 [X])]) (fun k => k ≤ c.n.length) (fun k => c.n.length - k) 0 (Nat.zero_le _) (by simp [natV]) (by simp) ?_
      intro k hk
      simp [natV]
      refine BrB.of (fun hb2 => ?_) (fun hb2 => ?_)
      · have hk' : k < c.n.length := of_decide_eq_true hb2
        have hw2 := wrapN k (by omega)
        have hFk := hFi k hk'
        obtain ⟨w, hwk⟩ : ∃ w, F k = w := ⟨_, rfl⟩
        rw [hwk] at hFk
        have hat := at8_c w i hi
        rw [hFk] at hat
        simp only [u8V, natV] at hat
        simp [hk', tab_get, hwk, u8V]
        intro gm
        first | refine ⟨_, _, _, .pure hat (by simp), ?_⟩ | refine ⟨_, ⟨_, _, .pure hat (by simp)⟩, ?_⟩ | refine ⟨_, _, ⟨_, .pure hat (by simp)⟩, ?_⟩
        simp [hw2]
        first | exact ⟨rfl, k + 1, hk', rfl, by omega⟩ | exact ⟨k + 1, hk', rfl, by omega⟩
      · simp [hw]
        exact ⟨i + 1, hi, rfl, by omega⟩
    · have hil : ¬ i < l.length := of_decide_eq_false him
      have hPb : P = blkP c := by rw [hPt, List.getD_eq_getElem?_getD, List.getElem?_eq_none (by omega)]; rfl
      rw [hPb] at hrn
      simp [hil]
      refine CallO.pure hrn (by simp) ?_
      simp
      intro gf13
      generalize gf13 13 = g13
      intro gm0
      simp [hil]
      refine ⟨rfl, ?_⟩
      refine LoopP.of (X := Nat) (fun k => [(16, natV k), (15, .int .i64 0), (14, .sl (tab c.n.length fun n => u8V (G n)) (some c.n.length)), (11, natV i), (9, .sl (tab c.n.length fun n => (F n).v) (some c.n.length)), (8, .sl (tab l.length R) (some l.length)), (6, .sl (l.map Pt.v) none), (5, .ptr 5 g5 0 0), (2, .ptr 2 g2 0 0)])
        (fun _ => [(5, .row g5 4 [c.v]), (2, .row g2 12 [X])]) (fun k => k ≤ c.n.length) (fun k => c.n.length - k) 0 (Nat.zero_le _) (by simp [natV]) (by simp) ?_
      intro k hk
      simp [natV]
      refine BrB.of (fun hb2 => ?_) (fun hb2 => ?_)
      · have hk' : k < c.n.length := of_decide_eq_true hb2
        have hw2 := wrapN k (by omega)
        have hFk := hFi k hk'
        obtain ⟨w, hwk⟩ : ∃ w, F k = w := ⟨_, rfl⟩
        rw [hwk] at hFk
        have hat := at8_c w i hi
        rw [hFk] at hat
        simp only [u8V, natV] at hat
        simp [hk', tab_get, hwk, u8V]
        intro gm
        first | refine ⟨_, _, _, .pure hat (by simp), ?_⟩ | refine ⟨_, ⟨_, _, .pure hat (by simp)⟩, ?_⟩ | refine ⟨_, _, ⟨_, .pure hat (by simp)⟩, ?_⟩
        simp [hw2]
        first | exact ⟨rfl, k + 1, hk', rfl, by omega⟩ | exact ⟨k + 1, hk', rfl, by omega⟩
      · simp [hw]
        exact ⟨i + 1, hi, rfl, by omega⟩
end Go.Proofs.YtmbgmfenlededaaGreatDoor
