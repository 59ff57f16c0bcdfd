/- Words: pairs.Eval; the law Pairs. Conditions: none. -/
import Derived.Test.YtmbgmfenlededaaGreatDoorW10
import Derived.Test.YtmbgmfenlededaaGreatDoorWT
namespace Go.Proofs.YtmbgmfenlededaaGreatDoor
open Go
instance : Inhabited Pr := ⟨⟨0, 0⟩⟩
@[simp] theorem pr_cells (p : Pr) : p.v.cells = [u8V p.g, u8V p.b] := rfl
@[simp] theorem pr_cellsOk (p : Pr) : p.v.cellsOk = true := rfl
@[simp] theorem pr_pure (p : Pr) : p.v.pure = true := rfl
theorem prs_pure (l : List Pr) : V.pureL (l.map Pr.v) = true := V.pureL_map _ l fun _ => rfl
theorem good_c (p : Pr) : PureC Tryz.prog gl0 43 [p.v] (u8V p.g) := by
  refine PureC.of_W 2 ok43 rfl ?_
  simp [i43, x43, Pr.v, u8V]
theorem bad_c (p : Pr) : PureC Tryz.prog gl0 44 [p.v] (u8V p.b) := by
  refine PureC.of_W 2 ok44 rfl ?_
  simp [i44, x44, Pr.v, u8V]
def rowP (l : List Pr) (sel : Pr → Nat) (i : Nat) : List V := tab l.length fun j => if j < i then u8V (sel (l.getD j default)) else u8V 0
theorem rowP_all (l : List Pr) (sel : Pr → Nat) : rowP l sel l.length = (l.map sel).map u8V := by
  refine List.ext_getElem? fun j => ?_
  by_cases h : j < l.length
  · rw [rowP, tab_get? _ h, if_pos h]
    simp [h]
  · rw [List.getElem?_eq_none (by simp [rowP]; omega), List.getElem?_eq_none (by simp; omega)]
theorem rowP_set {l : List Pr} {i : Nat} {p : Pr} (sel : Pr → Nat) (h : i < l.length) (hp : l[i] = p) : (rowP l sel i).set i (.int .u8 (sel p : Int)) = rowP l sel (i + 1) := by
  have e : (.int .u8 (sel p : Int) : V) = u8V (sel (l.getD i default)) := by simp [u8V, h, hp]
  rw [e, rowP, tab_set]
  refine tab_congr fun j hj => ?_
  unfold upd1
  by_cases hji : j = i
  · subst hji; simp
  · have : (j < i + 1) ↔ j < i := by omega
    simp [hji, this]
theorem side_c (f : FuncId) (sel : Pr → Nat) (hf : ∀ p, PureC Tryz.prog gl0 f [p.v] (u8V (sel p))) (l : List Pr) (cap : Option Nat) (hl : l.length < 1000000000) : PureC Tryz.prog gl0 42 [.sl (l.map Pr.v) cap, .fn f [] []] (.sl ((l.map sel).map u8V) (some l.length)) := by
  refine PureC.of_W 2 ok42 rfl ?_
  simp [i42, x42, show l.length ≤ 549755813888 by omega]
  intro gf10
  generalize gf10 10 = g10
  refine LoopP.of (X := Nat) (fun i => [(13, natV i), (12, natV l.length), (11, .sl (l.map Pr.v) cap), (5, .ref 10 g10 0 l.length (some l.length)), (1, .fn f [] [])]) (fun i => [(10, .row g10 1 (rowP l sel i))])
    (fun i => i ≤ l.length) (fun i => l.length - i) 0 (Nat.zero_le _) (by simp [natV]) (by simp [tab_const, u8V, rowP]) ?_
  intro i hi
  simp [natV]
  refine BrB.of (fun hb => ?_) (fun hb => ?_)
  · have hi' : i < l.length := of_decide_eq_true hb
    have hw := wrapN i (by omega)
    obtain ⟨p, hp⟩ : ∃ p, l[i] = p := ⟨_, rfl⟩
    have hfp := hf p
    have hset := rowP_set sel hi' hp
    have hrl : (rowP l sel i).length = l.length := by simp [rowP]
    have hri : ∃ x, (rowP l sel i)[i]'(by rw [hrl]; exact hi') = .int .u8 x := ⟨0, by simp only [rowP]; rw [tab_get]; rw [if_neg (by omega)]; rfl⟩
    obtain ⟨x, hri⟩ := hri
    simp only [Pr.v, u8V] at hfp
    simp [hi', hp, Pr.v, u8V]
    intro gf7
    refine CallO.pure hfp rfl ?_
    simp [hi', hrl, hri, hset, hw]
    exact ⟨i + 1, hi', by simp, rfl, by omega⟩
  · have hi' : i = l.length := by have := of_decide_eq_false hb; omega
    subst hi'
    rw [rowP_all]
    have hl2 : ((l.map sel).map u8V).length = l.length := by simp
    have hpX := u8s_pure (l.map sel)
    obtain ⟨X, hX⟩ : ∃ X, (l.map sel).map u8V = X := ⟨_, rfl⟩
    rw [hX] at hl2 hpX ⊢
    simp [map_frz_pure hpX, hl2]
    rw [← List.map_map, hX]
    exact List.take_of_length_le (by omega)
theorem evalP_c (k : Nat) (hk : k < 256) (l : List Pr) (cap : Option Nat) (hl : l.length < 1000000000) : PureC Tryz.prog gl0 11 [u8V k, .sl (l.map Pr.v) cap] (.agg [u8V (logE k (l.map Pr.g)), u8V (logE k (l.map Pr.b))]) := by
  have h1 := side_c 43 Pr.g good_c l cap hl
  have h2 := side_c 44 Pr.b bad_c l cap hl
  have e1 := logE_c k hk (l.map Pr.g) (some l.length) (by simpa using hl)
  have e2 := logE_c k hk (l.map Pr.b) (some l.length) (by simpa using hl)
  generalize logE k (l.map Pr.g) = A at e1 ⊢
  generalize logE k (l.map Pr.b) = B at e2 ⊢
  obtain ⟨X, hX⟩ : ∃ X, l.map Pr.g = X := ⟨_, rfl⟩
  obtain ⟨Y, hY⟩ : ∃ Y, l.map Pr.b = Y := ⟨_, rfl⟩
  rw [hX] at h1 e1
  rw [hY] at h2 e2
  simp only [u8V] at e1 e2 ⊢
  refine PureC.of_W 2 ok11 rfl ?_
  simp [i11, x11]
  intro gf4
  refine CallO.pure h1 (by simp only [V.pureL, V.pure, prs_pure, Bool.and_self]) ?_
  simp
  refine CallO.pure h2 (by simp only [V.pureL, V.pure, prs_pure, Bool.and_self]) ?_
  simp
  refine CallO.pure e1 (by simp only [V.pureL, V.pure, u8s_pure, Bool.and_self]) ?_
  simp
  refine CallO.pure e2 (by simp only [V.pureL, V.pure, u8s_pure, Bool.and_self]) ?_
  simp
def pkP (p : Pr) : Wd := packW [p.g, p.b]
theorem lv_mo {c : Nat} (h : c ≤ 3) : lv (decide (mo c = 1#64)) (decide (mz c = 1#64)) = c := by
  have hc : c = 0 ∨ c = 1 ∨ c = 2 ∨ c = 3 := by omega
  rcases hc with rfl | rfl | rfl | rfl <;> rfl
theorem pkP_0 (p : Pr) : (pkP p).lane 0 = clean p.g := by
  have h := lv_mo (clean_le p.g)
  unfold pkP packW Wd.lane
  simp only []
  rw [pk_get _ (fun i => mo_01 _) _ 0 (by simp), pk_get _ (fun i => mz_01 _) _ 0 (by simp)]
  simpa using h
theorem pkP_1 (p : Pr) : (pkP p).lane 1 = clean p.b := by
  have h := lv_mo (clean_le p.b)
  unfold pkP packW Wd.lane
  simp only []
  rw [pk_get _ (fun i => mo_01 _) _ 1 (by simp), pk_get _ (fun i => mz_01 _) _ 1 (by simp)]
  simpa using h
theorem pair_0 (k : Nat) (l : List Pr) : (evalW k (l.map pkP)).lane 0 = logE k (l.map Pr.g) := by
  rw [eval_lane _ _ _ (by omega), ← logE_clean k (l.map Pr.g), List.map_map, List.map_map]
  congr 2
  funext p
  exact pkP_0 p
theorem pair_1 (k : Nat) (l : List Pr) : (evalW k (l.map pkP)).lane 1 = logE k (l.map Pr.b) := by
  rw [eval_lane _ _ _ (by omega), ← logE_clean k (l.map Pr.b), List.map_map, List.map_map]
  congr 2
  funext p
  exact pkP_1 p
/-- The words of the first pairs. -/
def pksV (l : List Pr) (j : Nat) : List V := ((l.take j).map pkP).map Wd.v
theorem pksV_zero (l : List Pr) : pksV l 0 = [] := by simp [pksV]
theorem pksV_succ {l : List Pr} {j : Nat} {p : Pr} (h : j < l.length) (hp : l[j] = p) : pksV l (j + 1) = pksV l j ++ [.agg [.int .u64 (bvI (pkP p).o), .int .u64 (bvI (pkP p).z)]] := by
  rw [pksV, pksV, List.take_succ_eq_append_getElem h, hp]
  simp [wd_v]
theorem pksV_length {l : List Pr} {j : Nat} (h : j ≤ l.length) : (pksV l j).length = j := by simp [pksV]; omega
theorem pksV_all (l : List Pr) : pksV l l.length = (l.map pkP).map Wd.v := by rw [pksV, List.take_length]
theorem pkP_c (p : Pr) (cap : Option Nat) : PureC Tryz.prog gl0 10 [.sl [.int .u8 (p.g : Int), .int .u8 (p.b : Int)] cap] (.agg [.int .u64 (bvI (pkP p).o), .int .u64 (bvI (pkP p).z)]) := pack_c [p.g, p.b] cap (by simp)
set_option maxRecDepth 100000 in
theorem law4_c (k : Nat) (hk : k < 256) (l : List Pr) : PureC Tryz.prog gl0 4 [u8V k, .sl (l.map Pr.v) none] (.bool true) := by
  refine PureC.of_W 2 ok4 rfl ?_
  simp [i4, x4, u8V]
  refine BrB.of (fun h1 => ?_) (fun h1 => ?_)
  · simp
    refine CallO.pure lives_c (by simp) ?_
    simp
  have hl20 : l.length ≤ 20 := by have := of_decide_eq_false h1; omega
  have hpe := evalP_c k hk l none (by omega)
  simp
  refine LoopP.of (X := Nat × Option (Nat × List V)) (fun z => [(6, natV z.1), (5, accV 33 z.2), (1, .sl (l.map Pr.v) none), (0, u8V k)]) (fun z => accH 33 2 z.2)
    (fun z => z.1 ≤ l.length ∧ (z.2 = none ↔ z.1 = 0) ∧ accL z.2 = pksV l z.1) (fun z => l.length - z.1) (0, none) ⟨by simp, by simp, by simp [accL, pksV_zero]⟩ (by simp [natV, accV, u8V]) (by simp [accH]) ?_
  rintro ⟨j, acc⟩ ⟨q1, q2, q3⟩
  dsimp only at q1 q2 q3 ⊢
  simp [natV, u8V]
  refine BrB.of (fun hb2 => ?_) (fun hb2 => ?_)
  · have hj : j < l.length := of_decide_eq_true hb2
    have hw := wrapN j (by omega)
    obtain ⟨p, hp⟩ : ∃ p, l[j] = p := ⟨_, rfl⟩
    have hnx := pksV_succ hj hp
    have hpk := pkP_c p (some 2)
    cases acc with
    | none =>
      have hj0 : j = 0 := q2.1 rfl
      simp only [accL] at q3
      rw [← q3] at hnx
      simp [accV, accH, hj, hp, Pr.v, u8V]
      intro gm
      first | refine ⟨_, _, _, .borrow 1 hpk (by simp) rfl, ?_⟩ | refine ⟨_, ⟨_, _, .borrow 1 hpk (by simp) rfl⟩, ?_⟩ | refine ⟨_, _, ⟨_, .borrow 1 hpk (by simp) rfl⟩, ?_⟩
      simp [hw]
      refine ⟨j + 1, some (gm 33, [.agg [.int .u64 (bvI (pkP p).o), .int .u64 (bvI (pkP p).z)]]), ⟨hj, by simp, by rw [hnx]; rfl⟩, by simp, by simp, by omega⟩
    | some gl =>
      obtain ⟨g, r⟩ := gl
      simp only [accL] at q3
      have hrl : r.length = j := by rw [q3, pksV_length q1]
      rw [← q3] at hnx
      simp [accV, accH, hj, hp, Pr.v, u8V]
      intro gm
      first | refine ⟨_, _, _, .borrow 1 hpk (by simp) rfl, ?_⟩ | refine ⟨_, ⟨_, _, .borrow 1 hpk (by simp) rfl⟩, ?_⟩ | refine ⟨_, _, ⟨_, .borrow 1 hpk (by simp) rfl⟩, ?_⟩
      simp [hw]
      refine ⟨by omega, j + 1, some (g + 1, r ++ [.agg [.int .u64 (bvI (pkP p).o), .int .u64 (bvI (pkP p).z)]]), ⟨hj, by simp, by rw [hnx]; rfl⟩, by simp, by simp, by omega⟩
  · have hj : j = l.length := by have := of_decide_eq_false hb2; omega
    rw [hj, pksV_all] at q3
    have hev := eval_c k hk (l.map pkP) none (by simp; omega)
    rw [← pair_0, ← pair_1] at hpe
    generalize evalW k (l.map pkP) = E at hev hpe
    have h0 := at_c E 0 (by omega)
    have h1 := at_c E 1 (by omega)
    generalize E.lane 0 = L0 at h0 hpe
    generalize E.lane 1 = L1 at h1 hpe
    rw [← q3] at hev
    simp only [u8V, natV, wd_v] at hpe h0 h1 hev
    cases acc with
    | none =>
      simp only [accL] at hev
      have hev3 : PureC Tryz.prog gl0 7 [.int .u8 (k : Int), .nil] (.agg [.int .u64 (bvI E.o), .int .u64 (bvI E.z)]) := PureC.wide hev ⟨.refl _, VLe.nil', trivial⟩ (.refl _)
      simp [accV, accH]
      refine CallO.pure hpe (by simp only [V.pureL, V.pure, prs_pure, Bool.and_self]) ?_
      simp
      intro gf7
      refine CallO.pure hev3 rfl ?_
      simp
      intro gf8 gm
      first | refine ⟨_, _, _, .pure h0 rfl, ?_⟩ | refine ⟨_, ⟨_, _, .pure h0 rfl⟩, ?_⟩ | refine ⟨_, _, ⟨_, .pure h0 rfl⟩, ?_⟩
      simp
      first | refine ⟨_, _, _, .pure h1 rfl, ?_⟩ | refine ⟨_, ⟨_, _, .pure h1 rfl⟩, ?_⟩ | refine ⟨_, _, ⟨_, .pure h1 rfl⟩, ?_⟩
      simp
      first | refine ⟨_, _, _, .pure lives_c rfl, ?_⟩ | refine ⟨_, ⟨_, _, .pure lives_c rfl⟩, ?_⟩ | refine ⟨_, _, ⟨_, .pure lives_c rfl⟩, ?_⟩
      simp
      try rfl
    | some gl =>
      obtain ⟨g, r⟩ := gl
      simp only [accL] at hev q3
      have hrp : V.pureL r = true := by rw [q3]; exact wds_pure _
      simp [accV, accH]
      refine CallO.pure hpe (by simp only [V.pureL, V.pure, prs_pure, Bool.and_self]) ?_
      simp
      intro gf7
      refine CallO.borrow 2 hev ?_ rfl ?_
      · simp only [List.map_cons, List.map_nil]
        rw [frz_ref (es := r) (sz := 2) (by simp) (by simp), List.drop_zero, List.take_of_length_le (by simp), frz_all _ _ hrp, frz_pure _ _ rfl]
      simp
      intro gf8 gm
      first | refine ⟨_, _, _, .pure h0 rfl, ?_⟩ | refine ⟨_, ⟨_, _, .pure h0 rfl⟩, ?_⟩ | refine ⟨_, _, ⟨_, .pure h0 rfl⟩, ?_⟩
      simp
      first | refine ⟨_, _, _, .pure h1 rfl, ?_⟩ | refine ⟨_, ⟨_, _, .pure h1 rfl⟩, ?_⟩ | refine ⟨_, _, ⟨_, .pure h1 rfl⟩, ?_⟩
      simp
      first | refine ⟨_, _, _, .pure lives_c rfl, ?_⟩ | refine ⟨_, ⟨_, _, .pure lives_c rfl⟩, ?_⟩ | refine ⟨_, _, ⟨_, .pure lives_c rfl⟩, ?_⟩
      simp
      try rfl
end Go.Proofs.YtmbgmfenlededaaGreatDoor
