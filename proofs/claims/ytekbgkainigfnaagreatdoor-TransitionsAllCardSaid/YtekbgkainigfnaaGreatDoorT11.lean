/- Transitions: the contract of All; the law All. Conditions: none. -/
import Derived.Test.YtekbgkainigfnaaGreatDoorT10
import Derived.Test.YtekbgkainigfnaaGreatDoorX3
import Derived.Test.YtekbgkainigfnaaGreatDoorXL7
namespace Go.Proofs.YtekbgkainigfnaaGreatDoor
open Go
instance : Inhabited Ft := ⟨⟨0, 0, 0, 0, 0⟩⟩
instance : Inhabited Fx := ⟨⟨0, 0, 0, 0, false⟩⟩
theorem fts_pure (l : List Ft) : V.pureL (l.map Ft.w) = true := V.pureL_map _ l fun f => ft_pure f
@[simp] theorem fx_cells (f : Fx) : f.v.cells = [u8V f.m, u8V f.n, u8V f.p, u8V f.o, .bool f.one] := rfl
@[simp] theorem fx_cok (f : Fx) : f.v.cellsOk = true := rfl
theorem fx_pure (f : Fx) : f.v.pure = true := rfl
theorem fxs_pure (l : List Fx) : V.pureL (l.map Fx.v) = true := V.pureL_map _ l fun f => fx_pure f
/-- Slow lines of a circuit. -/
def SlowL (c : Ci) (l : List Ft) : Prop := ∀ f ∈ l, f.ok c ∧ f.m = 1
theorem slow_c (c : Ci) (hg : c.good) (l : List Ft) (cap : Option Nat) (hl : l.length < 1000000) (hs : SlowL c l) : PureC Tryz.prog gl0 64 [c.v, .sl (l.map Ft.w) cap] (.int .i64 0) := by
  refine PureC.of_W 2 ok64 rfl ?_
  simp [i64, x64]
  intro gf1
  generalize gf1 2 = g2
  refine LoopP.of (X := Nat) (fun i => [(10, natV i), (9, natV l.length), (8, .sl (l.map Ft.w) cap), (2, .ptr 2 g2 0 0)]) (fun _ => [(2, .row g2 4 [c.v])])
    (fun i => i ≤ l.length) (fun i => l.length - i) 0 (Nat.zero_le _) (by simp [natV]) (by simp) ?_
  intro i hi
  simp [natV]
  refine BrB.of (fun hb => ?_) (fun hb => ?_)
  · have hi' : i < l.length := of_decide_eq_true hb
    have hw := wrapN i (by omega)
    obtain ⟨f, hf⟩ : ∃ f, l[i] = f := ⟨_, rfl⟩
    obtain ⟨h1, h2⟩ := hs f (by rw [← hf]; exact List.getElem_mem hi')
    have hc := fcheck_c c hg f h1
    simp only [Ft.w] at hc
    simp [hi', hf]
    intro gf2
    refine CallO.pure hc (by simp [u8V, natV]) ?_
    simp [h2, u8V, hw]
    exact ⟨i + 1, hi', rfl, by omega⟩
  · simp
theorem all1_c (c : Ci) (hg : c.good) : PureC Tryz.prog gl0 61 [.iptr c.v 0] (.int .i64 0) := by
  have h := lines_c c hg
  have hp := lnsN_pure c c.n.length
  generalize lnsN c c.n.length = C at h hp
  refine PureC.of_W 2 ok61 rfl ?_
  simp [i61, x61]
  refine CallO.pure h (by simp) ?_
  simp
theorem all2_c (c : Ci) (hg : c.good) (l : List Ft) (hl : l.length < 1000000) (hs : SlowL c l) : PureC Tryz.prog gl0 63 [.iptr c.v 0, .iptr (.sl (l.map Ft.w) none) 0] (.int .i64 0) := by
  have h := slow_c c hg l none hl hs
  refine PureC.of_W 2 ok63 rfl ?_
  simp [i63, x63]
  refine CallO.pure h (by simp [fts_pure]) ?_
  simp
/-- Which slow lines the pair shows. -/
noncomputable def allB (c : Ci) (l : List Ft) (a b : Pt) : List V := l.map fun f => .bool (pairB c f a b)
theorem allB_pure (c : Ci) (l : List Ft) (a b : Pt) : V.pureL (allB c l a b) = true := V.pureL_map _ l fun _ => rfl
noncomputable def allR (c : Ci) (l : List Ft) (a b : Pt) (i : Nat) : List V := tab l.length fun j => if j < i then .bool (pairB c (l.getD j default) a b) else .bool false
theorem allR_set {c : Ci} {l : List Ft} {a b : Pt} {i : Nat} {f : Ft} (h : i < l.length) (hf : l[i] = f) : (allR c l a b i).set i (.bool (pairB c f a b)) = allR c l a b (i + 1) := by
  have e : l[i]?.getD default = f := by simp [h, hf]
  rw [allR, tab_set]
  refine tab_congr fun j _ => ?_
  by_cases hj : j = i
  · subst hj; simp [e]
  · rw [upd1_ne _ _ hj]; simp only [show (j < i + 1) ↔ (j < i) by omega]
theorem allR_all (c : Ci) (l : List Ft) (a b : Pt) : allR c l a b l.length = allB c l a b := by
  refine List.ext_getElem (by simp [allR, allB]) fun j h1 h2 => ?_
  have hj : j < l.length := by simpa [allB] using h2
  simp only [allR, allB, List.getElem_map]
  rw [tab_get, if_pos hj]
  have e : l.getD j default = l[j] := by simp [List.getD_eq_getElem?_getD, hj]
  rw [e]
set_option maxRecDepth 100000 in
theorem all_c (c : Ci) (hg : c.good) (l : List Ft) (hl : l.length ≤ 60) (hs : SlowL c l) (a b : Pt) (ha : a.fit c) (hb : b.fit c) :
    PureC Tryz.prog gl0 28 [c.v, .sl (l.map Ft.w) none, prV a b] (.tup [.sl (allB c l a b) (some l.length), .int .i64 0]) := by
  have m1 := all1_c c hg
  have m2 := all2_c c hg l (by omega) hs
  have m3 := pat_c c hg a b ha hb
  have hpp := prV_pure a b
  have h3 := patterns_c c a b
  have hlp := fts_pure l
  have hfs := first_c [(61, [.iptr c.v 0]), (63, [.iptr c.v 0, .iptr (.sl (l.map Ft.w) none) 0]), (102, [.iptr c.v 0, .iptr (prV a b) 0])] (some 3) (fun x hx => by
    simp only [List.mem_cons, List.not_mem_nil, or_false] at hx
    rcases hx with rfl | rfl | rfl
    · exact ⟨m1, by simp [V.pureL, V.pure]⟩
    · exact ⟨m2, by simp [V.pureL, V.pure, hlp]⟩
    · exact ⟨m3, by simp [V.pureL, V.pure, hpp]⟩) (by simp)
  simp only [fnV, List.map_cons, List.map_nil] at hfs
  refine PureC.of_W 2 ok28 rfl ?_
  simp [i28, x28, show ¬ 65536 < l.length by omega]
  intro gf1 gf2 gf3
  generalize gf1 3 = g3
  generalize gf2 4 = g4
  generalize gf3 5 = g5
  refine CallO.pure h3 (by simp) ?_
  simp
  intro gf5
  refine CallO.borrow 4 hfs ?_ rfl ?_
  · simp [frz, V.mapR, V.mapRL, lk, mapR_pure _ (ci_pure2 c), mapR_pure _ hpp, mapRL_pure, hlp]
  simp
  intro gf6
  refine ⟨by omega, ?_⟩
  generalize gf6 27 = g27
  refine LoopP.of (X := Nat) (fun i => [(30, natV i), (29, natV l.length), (28, .sl (l.map Ft.w) none), (9, .ref 27 g27 0 l.length (some l.length)), (3, .ptr 3 g3 0 0), (5, .ptr 5 g5 0 0)])
    (fun i => [(27, .row g27 1 (allR c l a b i)), (3, .row g3 4 [c.v]), (5, .row g5 4 [prV a b])])
    (fun i => i ≤ l.length) (fun i => l.length - i) 0 (Nat.zero_le _) (by simp [natV]) (by simp [allR, tab_const]) ?_
  intro i hi
  simp [natV]
  refine BrB.of (fun hb2 => ?_) (fun hb2 => ?_)
  · have hi' : i < l.length := of_decide_eq_true hb2
    have hw := wrapN i (by omega)
    obtain ⟨f, hf⟩ : ∃ f, l[i] = f := ⟨_, rfl⟩
    obtain ⟨h1, h2⟩ := hs f (by rw [← hf]; exact List.getElem_mem hi')
    have hd := det25_c c hg f h1 h2 a b ha hb
    have hset := allR_set (c := c) (a := a) (b := b) hi' hf
    generalize pairB c f a b = B at hd hset
    simp only [Ft.w, prV] at hd
    have hAl : (allR c l a b i).length = l.length := by simp [allR]
    have hAx : ∃ x, (allR c l a b i)[i]'(by rw [hAl]; exact hi') = .bool x := by
      simp only [allR]; rw [tab_get]; rw [if_neg (by omega)]; exact ⟨_, rfl⟩
    obtain ⟨x, hAx⟩ := hAx
    simp [hi', hf]
    intro gf7
    refine CallO.pure hd (by simp [natV, u8V]) ?_
    simp [hi', hAl, hAx, hset, hw]
    exact ⟨i + 1, hi', by simp, rfl, by omega⟩
  · have hi' : i = l.length := by have := of_decide_eq_false hb2; omega
    subst hi'
    rw [allR_all]
    have hXp := allB_pure c l a b
    have hXl : (allB c l a b).length = l.length := by simp [allB]
    generalize allB c l a b = X at hXp hXl ⊢
    simp [map_frz_pure hXp, hXl]
    try exact List.take_of_length_le (by omega)
def ftsV (c : Ci) (l : List Fx) (j : Nat) : List V := ((l.take j).map fun z => (z.of c 1).w)
theorem ftsV_succ {c : Ci} {l : List Fx} {j : Nat} {z : Fx} (h : j < l.length) (hz : l[j] = z) : ftsV c l (j + 1) = ftsV c l j ++ [(z.of c 1).w] := by
  unfold ftsV
  rw [List.take_succ_eq_append_getElem h, hz]
  simp
theorem ftsV_len {c : Ci} {l : List Fx} {j : Nat} (h : j ≤ l.length) : (ftsV c l j).length = j := by simp [ftsV]; omega
set_option maxRecDepth 100000 in
set_option maxHeartbeats 8000000 in
theorem law7_c (x : Cx) (hx : x.ok) (p q : Pt) (l : List Fx) (hl : ∀ z ∈ l, z.ok) : PureC Tryz.prog gl0 7 [caseV x p q, .sl (l.map Fx.v) none] (.bool true) := by
  have hcs := case_c x hx p q
  have hcp := case_pure x p q
  have hg := nm_good x
  generalize x.nm.ci = c at hcs hg
  have hn0 := hg.n0
  have hn1 := hg.n1
  have ha := pof_fit c p
  have hb := pof_fit c q
  generalize pof c p = a at hcs ha
  generalize pof c q = b at hcs hb
  have hpp := prV_pure a b
  have hlp := fxs_pure l
  simp only [caseV] at hcs hcp
  obtain ⟨M, hM⟩ : ∃ M, min l.length 60 = M := ⟨_, rfl⟩
  obtain ⟨L, hL⟩ : ∃ L, (l.take M).map (fun z => z.of c 1) = L := ⟨_, rfl⟩
  have hLl : L.length = M := by rw [← hL]; simp; omega
  have hsl : SlowL c L := fun f hf => by
    rw [← hL] at hf
    obtain ⟨z, -, rfl⟩ := List.mem_map.1 hf
    exact ⟨of_ok c hg z 1 (by omega), rfl⟩
  have hLM : ftsV c l M = L.map Ft.w := by rw [← hL, ftsV, List.map_map]; rfl
  have hall := all_c c hg L (by omega) hsl a b ha hb
  have hBp := allB_pure c L a b
  have hBl : (allB c L a b).length = L.length := by simp [allB]
  have hLp := fts_pure L
  have hLt : List.take L.length (L.map Ft.w) = L.map Ft.w := List.take_of_length_le (by simp)
  refine PureC.of_W 2 ok7 rfl ?_
  simp [i7, x7, caseV]
  intro gf1
  generalize gf1 2 = g2
  refine CallO.pure hcs hcp ?_
  simp
  intro gf2 gf3
  generalize gf2 5 = g5
  generalize gf3 6 = g6
  refine LoopP.ofF (X := Nat × Option (Nat × List V)) (fun z => [(8, natV z.1), (7, accV 42 z.2), (6, .ptr 6 g6 0 0), (5, .ptr 5 g5 0 0), (1, .sl (l.map Fx.v) none)])
    (fun z => [(6, .row g6 4 [prV a b]), (5, .row g5 4 [c.v])] ++ accH 42 5 z.2)
    (fun z => z.1 ≤ M ∧ accL z.2 = ftsV c l z.1 ∧ (z.2 = none ↔ z.1 = 0)) (fun z => M - z.1) (.done ⟨(0, none), ⟨by simp, by simp [accL, ftsV], by simp⟩, by simp [natV, accV], by simp [accH, prV]; try rfl⟩) ?_
  rintro ⟨j, acc⟩ ⟨q1, q2, q3⟩
  dsimp only at q1 q2 q3 ⊢
  by_cases hj : j < M
  · have hjl : j < l.length := by omega
    have hj60 : j < 60 := by omega
    have hw := wrapN j (by omega)
    obtain ⟨z, hz⟩ : ∃ z, l[j] = z := ⟨_, rfl⟩
    have hzo := hl z (by rw [← hz]; exact List.getElem_mem hjl)
    have hfo := fof_c c hg { z with m := 1 } ⟨by simp, hzo.n, hzo.p, hzo.o⟩ 1 rfl (by omega)
    have hof : Fx.of c { z with m := 1 } 1 = z.of c 1 := rfl
    rw [hof] at hfo
    have hnx := ftsV_succ (c := c) hjl hz
    rw [← q2] at hnx
    have hlen := congrArg List.length q2
    rw [ftsV_len (by omega)] at hlen
    generalize z.of c 1 = f at hfo hnx
    simp only [Fx.v, u8V] at hfo
    simp [natV, hjl, hj60, hz]
    rcases acc with _ | ⟨ga, r⟩
    · simp [accV, accH]
      intro gf4
      refine CallO.pure hfo (by simp [u8V]) ?_
      simp
      intro gf5 gf6
      refine .done ⟨j + 1, some (gf6 42, [f.w]), ⟨hj, by simpa [accL] using hnx.symm, by simp⟩, by simp [hw], by simp; try rfl, by omega⟩
    · simp [accV, accH]
      intro gf4
      refine CallO.pure hfo (by simp [u8V]) ?_
      simp
      intro gf5 gf6
      refine ⟨by simp only [accL] at hlen; omega, .done ⟨j + 1, some (gf6 42, r ++ [f.w]), ⟨hj, by simpa [accL] using hnx.symm, by simp⟩, by simp [hw], by simp; try rfl, by omega⟩⟩
  have hj : M = j := by omega
  subst hj
  rw [hLM] at q2
  have hlen := congrArg List.length q2
  simp only [List.length_map] at hlen
  rw [hLl] at hlen
  have hstep : ∀ (K : Prop), (¬ M < l.length → K) → (M < l.length → ¬ M < 60 → K) → K := fun K h1 h2 => by
    by_cases h : M < l.length
    · exact h2 h (by omega)
    · exact h1 h
  rcases acc with _ | ⟨ga, r⟩
  case' none =>
    have hM0 : M = 0 := q3.1 rfl
    have hL0 : L = [] := List.length_eq_zero_iff.1 (by omega)
    have hall2 := PureC.wide hall (args := [c.v, .nil, prV a b]) ⟨.refl _, by rw [hL0]; exact VLe.nil', .refl _, trivial⟩ (.refl _)
    have hB0 : allB c L a b = [] := by rw [hL0]; rfl
    rw [hB0, hLl, hM0] at hall2
    have hl1 : l = [] := List.length_eq_zero_iff.1 (by omega)
    subst hM0
    simp [natV, hl1, accV, accH]
    refine .mk [(7, .nil), (6, .ptr 6 g6 0 0), (5, .ptr 5 g5 0 0)] [(6, .row g6 4 [prV a b]), (5, .row g5 4 [c.v])] (by simp) (by simp; try rfl) (.done ?_)
    simp
    refine CallO.pure hall2 (by simp) ?_
    simp
    refine LoopP.of (X := Nat) (fun i => [(12, natV i), (7, .nil)]) (fun _ => []) (fun i => i = 0) (fun _ => 0) 0 rfl (by simp [natV]) (by simp) ?_
    rintro i rfl
    simp [natV]
    refine CallO.pure lives_c rfl ?_
    simp
  case' some =>
    simp only [accL] at q2
    subst q2
    have hM0 : M ≠ 0 := fun e => by have := q3.2 e; cases this
    refine hstep _ (fun h => ?_) (fun h h2 => ?_)
    case' refine_1 => simp [natV, h, accV, accH]
    case' refine_2 => simp [natV, h, h2, accV, accH]
    all_goals
      refine .mk [(7, .ref 42 ga 0 L.length none), (6, .ptr 6 g6 0 0), (5, .ptr 5 g5 0 0)] [(6, .row g6 4 [prV a b]), (5, .row g5 4 [c.v]), (42, .row ga 5 (L.map Ft.w))] (by simp) (by simp; try rfl) (.frz (g := ga) (sz := 5) (es := L.map Ft.w) 42 (by simp) hLp (.done ?_))
      simp [fzF, fzH, fzV, fzf, fzp, Blk.fz, hLt, mapR_pure _ hpp, mapR_pure _ (ci_pure2 c)]
      refine CallO.pure hall (by simp [hLp]) ?_
      simp [hBl]
  all_goals
    have hXL : ∃ X, allB c L a b = X := ⟨_, rfl⟩
    obtain ⟨X, hX⟩ := hXL
    rw [hX] at hBl hBp ⊢
    refine LoopP.of (X := Nat) (fun i => [(12, natV i), (10, .sl X (some L.length)), (7, .sl (L.map Ft.w) none), (6, .ptr 6 g6 0 0), (5, .ptr 5 g5 0 0)])
      (fun _ => [(6, .row g6 4 [prV a b]), (5, .row g5 4 [c.v])]) (fun i => i ≤ L.length) (fun i => L.length - i) 0 (Nat.zero_le _) (by simp [natV]) (by simp) ?_
    intro i hi
    simp [natV]
    refine BrB.of (fun hb2 => ?_) (fun hb2 => ?_)
    · have hi' : i < L.length := of_decide_eq_true hb2
      have hw := wrapN i (by omega)
      obtain ⟨f, hf⟩ : ∃ f, L[i] = f := ⟨_, rfl⟩
      obtain ⟨h1, h2⟩ := hsl f (by rw [← hf]; exact List.getElem_mem hi')
      have hd := det25_c c hg f h1 h2 a b ha hb
      have hp := pairD_c c hg f h1 h2 a b ha hb
      have hXi : X[i]'(by omega) = .bool (pairB c f a b) := by subst hX; simp [allB, hf]
      generalize pairB c f a b = B at hd hp hXi
      simp only [Ft.w, prV] at hd hp
      simp [hi', hf]
      intro gm1
      first | refine ⟨_, _, _, .pure hd (by simp [V.pureL, V.pure, u8V, natV]), ?_⟩ | refine ⟨_, ⟨_, _, .pure hd (by simp [V.pureL, V.pure, u8V, natV])⟩, ?_⟩ | refine ⟨_, _, ⟨_, .pure hd (by simp [V.pureL, V.pure, u8V, natV])⟩, ?_⟩
      simp
      simp [hi', hf]
      intro gm2
      first | refine ⟨_, _, _, .pure hp (by simp [V.pureL, V.pure, u8V, natV]), ?_⟩ | refine ⟨_, ⟨_, _, .pure hp (by simp [V.pureL, V.pure, u8V, natV])⟩, ?_⟩ | refine ⟨_, _, ⟨_, .pure hp (by simp [V.pureL, V.pure, u8V, natV])⟩, ?_⟩
      simp
      simp [hXi, hBl, hi', hw]
      exact ⟨i + 1, hi', rfl, by omega⟩
    · simp
      refine CallO.pure lives_c rfl ?_
      simp
end Go.Proofs.YtekbgkainigfnaaGreatDoor
