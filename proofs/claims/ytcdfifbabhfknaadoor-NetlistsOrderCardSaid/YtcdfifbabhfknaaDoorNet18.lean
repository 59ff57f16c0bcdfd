/- Netlists: the law Order. Conditions: none. -/
import Derived.Test.YtcdfifbabhfknaaDoorNet17
namespace Go.Proofs.YtcdfifbabhfknaaDoor
open Go
@[simp] theorem cx_cells (x : Cx) : x.v.cells = [u8V x.n, u8V x.f, u8V x.d0, u8V x.d1, .bool x.bus, .bool x.mem, u8V x.p0, u8V x.p1, u8V x.p2, u8V x.p3, .sl (x.g.map Gx.v) none, .sl (x.o.map u8V) none] := rfl
@[simp] theorem cx_cellsOk (x : Cx) : x.v.cellsOk = true := rfl
set_option maxRecDepth 100000 in
set_option maxHeartbeats 4000000 in
theorem law5_c (x : Cx) (hx : x.ok) : PureC Tryd.prog gl0 5 [x.v] (.bool true) := by
  obtain ⟨c, hc⟩ : ∃ c, x.ci = c := ⟨_, rfl⟩
  have hof := cof_c x hx
  have hwf := ci_wf x
  have hE := chk_ok x
  have hsh := shE_ok x
  have hac : acyc x.ci := acyc_below (ci_below x)
  have hnn : 0 < x.ci.n.length ∧ x.ci.n.length ≤ 16 := by
    rw [(cxn_ok x).2]; exact ⟨(ns0_ok x).2.2.1, (ns0_ok x).2.2.2⟩
  rw [hc] at hof hwf hE hsh hac hnn
  have hval := sh_val hwf hsh
  have hlv := levelsW_c c hwf
  rw [lvRes_eq, if_pos hE, hE] at hlv
  have hlt : ∀ x, x < c.n.length → lvOf c x < c.n.length := IsLv.lt hval.g hac.lv
  refine PureC.of_W 2 ok5 rfl ?_
  simp [i5, x5]
  intro gf
  generalize gf 1 = g1
  refine CallO.pure hof (show V.pureL [x.v] = true by simp only [V.pureL, cx_pure x, Bool.and_self]) ?_
  simp
  intro gf3
  generalize gf3 3 = g3
  refine CallO.pure hlv (by simp) ?_
  simp
  refine CallO.own 1000 (order_c c hwf) (by simp) (by simp) ?_
  rintro v h (⟨h1, -⟩ | ⟨-, g, L, rfl, rfl, hR, hp⟩) gf4
  · exact absurd hE h1
  have hp := hp (by omega)
  have hLl : L.length = c.n.length := hR.len
  have hnod := lex_nodup hp
  simp [upH, upS, Blk.rn, map_rn_pure (natsV_pure L)]
  generalize gf4 1000 + g = g9
  refine CallO.pure (rorder_c c hval hac (by omega) hnn.1 L hR hp) (by simp) ?_
  simp
  have hints : PureC Tryd.prog gl0 20 [.sl (natsV L) (some c.n.length), .sl (natsV L) none] (.int .i64 0) := by
    have := intsL_c (L.map fun (x : Nat) => (x : Int)) (L.map fun (x : Nat) => (x : Int)) none (by simp; omega)
    rw [if_pos rfl, ← natsV_ints] at this
    simpa [hLl] using this
  refine CallO.borrow 2 hints ?_ rfl ?_
  · simp only [List.map_cons, List.map_nil]
    rw [frz_ref (es := natsV L) (sz := 1) (by simp) (by simp [hLl]), List.drop_zero, List.take_of_length_le (by simp [hLl]), frz_all _ _ (natsV_pure L), frz_pure _ _ (by simp only [V.pure]; exact natsV_pure L)]
  have hle : c.n.length ≤ 549755813888 := by omega
  simp [hle]
  intro gf5
  generalize gf5 58 = g58
  obtain ⟨N, hN⟩ : ∃ N, c.n.length = N := ⟨_, rfl⟩
  rw [hN] at hlt hLl hle hnn ⊢
  refine LoopP.of (X := Nat) (fun i => [(9, natV i), (8, .ref 58 g58 0 N (some N)), (6, .ref 1000 g9 0 N (some N)), (4, .sl (tab N fun i => natV (lvOf c i)) (some N)), (3, .ptr 3 g3 0 0)])
    (fun i => [(58, .row g58 1 (tab N fun j => .bool (decide (j ∈ L.take i)))), (1000, .row g9 1 (natsV L)), (3, .row g3 4 [c.v])])
    (fun i => i ≤ N) (fun i => N - i) 0 (Nat.zero_le _) (by simp [natV]) (by simp [tab_const]; rfl) ?_
  intro i hi
  simp [natV]
  refine BrB.of (fun hb => ?_) (fun hb => ?_)
  · have hi' : i < N := of_decide_eq_true hb
    have hw := wrapN i (by omega)
    have hiL : i < L.length := by omega
    obtain ⟨m, hm⟩ : ∃ m, L[i] = m := ⟨_, rfl⟩
    have hmN : m < N := by have := hR.lt _ (List.getElem_mem hiL); omega
    have hlx : ∀ j (hj : j < i), lexlt (lvOf c) (L[j]'(by omega)) m := fun j hj => by rw [← hm]; exact List.pairwise_iff_getElem.1 hp j i (by omega) hiL hj
    have hnew : m ∉ L.take i := fun h => by
      obtain ⟨j, hj, he⟩ := List.getElem_of_mem h
      simp at hj
      rw [List.getElem_take] at he
      have := hlx j (by omega)
      rw [he] at this
      exact lex_irr _ this
    have hmx : ∀ j, j ∈ L.take (i + 1) ↔ j ∈ L.take i ∨ j = m := fun j => by rw [List.take_succ_eq_append_getElem hiL, hm]; simp
    have hseen : (tab N fun j => V.bool (decide (j ∈ List.take i L))).set m (.bool true) = tab N fun j => V.bool (decide (j ∈ List.take (i + 1) L)) := by
      rw [tab_set]
      refine tab_congr fun j hj => ?_
      unfold upd1
      by_cases hjm : j = m
      · rw [if_pos hjm]; simp [hmx, hjm]
      · rw [if_neg hjm]; simp [hmx, hjm]
    have hmc : m < c.n.length := by omega
    obtain ⟨y, hy⟩ : ∃ y, c.n[m] = y := ⟨_, rfl⟩
    obtain ⟨G, hG⟩ : ∃ G, c.g m = G := ⟨_, rfl⟩
    have hGc : ∀ b, combB y.k = b → G = if b = true then y.i.map Int.toNat else [] := fun b hb => by rw [← hG]; unfold Ci.g; rw [c.nd_get hmc, hy, hb]
    have hyi := hval.i m hmc
    have hyl := hval.l m hmc
    rw [c.nd_get hmc, hy] at hyi hyl
    have hlm : lvOf c m = mx (lvOf c) G := by rw [← hG]; exact hac.lv m hmc
    have hin : ∀ w ∈ G, w < N → w ∈ L.take (i + 1) := fun w hw hwN => by
      have hlw : lvOf c w < lvOf c m := by rw [hlm]; exact le_mx hw
      have hwL := nodup_full hnod hR.lt (by omega) w (by omega)
      obtain ⟨j, hj, rfl⟩ := List.getElem_of_mem hwL
      have : j < i + 1 := by
        by_cases hc : j < i + 1
        · exact hc
        · have := List.pairwise_iff_getElem.1 hp i j hiL hj (by omega)
          rw [hm] at this
          exact absurd (.inl hlw) (lex_asym this)
      rw [List.mem_take_iff_getElem]
      exact ⟨j, by omega, rfl⟩
    rcases Nat.eq_zero_or_pos i with h0 | h0
    case' inl => simp [hi', hLl, natsV_get, hm, tab_get, hmN, hnew, show ¬ N ≤ m by omega, show ¬ 0 < i by omega, hmc, hy, hseen]
    case' inr =>
      obtain ⟨p, hp1⟩ : ∃ p, i = 1 + p := ⟨i - 1, by omega⟩
      have hsub : IntKind.i64.wrap ((i : Int) - 1) = (p : Int) := subN (b := 1) hp1 (by omega)
      have hpL : p < L.length := by omega
      obtain ⟨q, hq⟩ : ∃ q, L[p] = q := ⟨_, rfl⟩
      have hqN : q < N := by have := hR.lt _ (List.getElem_mem hpL); omega
      have hqm := hlx p (by omega)
      rw [hq] at hqm
      rcases hqm with hqm | ⟨hqm, hqm2⟩
      case' inl => simp [hi', hLl, natsV_get, hm, tab_get, hmN, hnew, show ¬ N ≤ m by omega, h0, hsub, show p < N by omega, hq, hqN, show ¬ lvOf c m < lvOf c q by omega, show ¬ lvOf c m = lvOf c q by omega, hmc, hy, hseen]
      case' inr => simp [hi', hLl, natsV_get, hm, tab_get, hmN, hnew, show ¬ N ≤ m by omega, h0, hsub, show p < N by omega, hq, hqN, hqm, show ¬ m < q by omega, hmc, hy, hseen]
    all_goals
      intro gf11
      generalize gf11 11 = g11
      refine LoopP.of (X := Nat) (fun k => [(13, natV k), (12, natV (mx (lvOf c) (G.take k))), (11, .ptr 11 g11 0 0), (10, natV m), (9, natV i), (8, .ref 58 g58 0 N (some N)), (6, .ref 1000 g9 0 N (some N)), (4, .sl (tab N fun i => natV (lvOf c i)) (some N)), (3, .ptr 3 g3 0 0)])
        (fun _ => [(11, .row g11 4 [y.v]), (58, .row g58 1 (tab N fun j => .bool (decide (j ∈ L.take (i + 1))))), (1000, .row g9 1 (natsV L)), (3, .row g3 4 [c.v])])
        (fun k => k ≤ y.i.length ∧ (k = 0 ∨ combB y.k = true)) (fun k => y.i.length - k) 0 ⟨by simp, .inl rfl⟩ (by simp [natV]) (by simp) ?_
      rintro k ⟨hk1, hk2⟩
      simp [natV]
      refine BrB.of (fun hb2 => ?_) (fun hb2 => ?_)
      · have hk : k < y.i.length := of_decide_eq_true hb2
        have hwk := wrapN k (by omega)
        simp [hk]
        refine CallO.pure (rcomb2_c y.k) (by simp) ?_
        cases hcb : combB y.k with
        | true =>
          have hGy := hGc true hcb
          rw [if_pos rfl] at hGy
          have hkG : k < G.length := by rw [hGy]; simpa using hk
          have hyk := hyi _ (List.getElem_mem hk)
          obtain ⟨w, hw2⟩ : ∃ w : Nat, y.i[k] = (w : Int) := ⟨(y.i[k]).toNat, by omega⟩
          have hGk : G[k] = w := by
            have : G[k] = (y.i[k]).toNat := by simp [hGy]
            rw [this, hw2]; simp
          rw [hw2] at hyk
          have hwN : w < N := by omega
          have hwin := hin w (by rw [← hGk]; exact List.getElem_mem hkG) hwN
          have hwl := hlt w hwN
          have hww := wrapN (lvOf c w) (by omega)
          have hmxs : mx (lvOf c) (G.take (k + 1)) = max (mx (lvOf c) (G.take k)) (lvOf c w + 1) := by rw [List.take_succ_eq_append_getElem hkG, mx_snoc, hGk]
          simp [hk, hw2, hwN, tab_get, hwin, hww, hwk, ints_getE]
          exact ⟨k + 1, by omega, ⟨by simp, by rw [hmxs]; omega⟩, by omega⟩
        | false =>
          have hGy := hGc false hcb
          simp at hGy
          have hlm0 : lvOf c m = 0 := by rw [hlm, hGy]; rfl
          have hfin : mx (lvOf c) (G.take k) = 0 := by rw [hGy]; simp
          simp [tab_get, hmN, hlm0, hfin, hw]
          exact ⟨i + 1, hi', by simp, rfl, by omega⟩
      · have hk : k = y.i.length := by have := of_decide_eq_false hb2; omega
        have hGk : G.length ≤ k := by
          cases hcb : combB y.k with
          | true => rw [hGc true hcb, if_pos rfl]; simp [hk]
          | false => rw [hGc false hcb]; simp
        have hfin : mx (lvOf c) (G.take k) = lvOf c m := by rw [hlm, List.take_of_length_le hGk]
        simp [hb2, tab_get, hmN, hfin, hw]
        exact ⟨i + 1, hi', by simp, rfl, by omega⟩
  · simp
    refine CallO.pure lives_c (by simp) ?_
    simp
end Go.Proofs.YtcdfifbabhfknaaDoor
