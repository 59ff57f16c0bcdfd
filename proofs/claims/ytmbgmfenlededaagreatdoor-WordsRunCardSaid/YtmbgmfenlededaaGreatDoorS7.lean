/- Words: one cycle for many patterns. Conditions: none. -/
import Derived.Test.YtmbgmfenlededaaGreatDoorS6
namespace Go.Proofs.YtmbgmfenlededaaGreatDoor
open Go
theorem cloneU_d (xs : List V) (cap : Option Nat) (hp : V.pureL xs = true) (hn : V.noGL xs = true) (hx : (xs.all fun x => decide (x.cells.length = 1)) = true) (hl : xs.length < 1000000000) : OwnC Tryz.prog gl0 55 [.sl xs cap] (DatK 1 (.sl xs none)) := by
  have h0 : OwnC Tryz.prog gl0 55 [.sl xs none] (Fresh0 1 xs) := by
    refine OwnC.of_W ok55 rfl ?_
    cases xs with
    | nil =>
      simp [i55, x55, Fresh0]
      exact ⟨fun gf gf1 => .move 5 0 _ (by simp) (by simp; rfl) fun g => .done (by simp), .done (by simp)⟩
    | cons x xs =>
      simp only [List.all_cons, Bool.and_eq_true, decide_eq_true_eq] at hx
      simp only [V.pureL, Bool.and_eq_true] at hp
      have hle : xs.length + 1 ≤ 274877906944 := by simp at hl; omega
      simp [i55, x55, nop, hx.1, hx.2, hle, Fresh0]
      refine fun gf gf1 => MvP.move 5 0 _ (by simp) (by simp; rfl) fun g => .done ?_
      simp [map_rn_pure hp.2, rn_pure _ hp.1]
  refine OwnC.wide (h0.mono fun v h' hk => ?_) ⟨VLe.cap _ _, trivial⟩
  rcases hk with ⟨rfl, rfl, rfl⟩ | ⟨g, cap, rfl, rfl⟩
  · exact ⟨rfl, fun b k hb => by simp [lk] at hb, VLe.nil'⟩
  · refine ⟨rfl, fun b k hb => ?_, ?_⟩
    · simp only [lk] at hb
      split at hb
      · cases hb; exact hn
      · cases hb
    · rw [frz_ref (es := xs) (sz := 1) (by simp) (by simp), List.drop_zero, List.take_of_length_le (by simp), frz_all _ _ hp]
      exact VLe.cap _ _
/-- The word of a place's values in all patterns. -/
def inW (l : List Pt) (sel : Pt → List Nat) (i : Nat) : Wd := packW (l.map fun p => (sel p).getD i 0)
theorem u8s_noG : ∀ l : List Nat, V.noGL (l.map u8V) = true
  | [] => rfl
  | a :: r => by
    rw [List.map_cons]
    show (V.noG (u8V a) && V.noGL (r.map u8V)) = true
    rw [u8s_noG r]; rfl
def wd0 : Wd := ⟨0, 0⟩
theorem putW (a b : Wd) : V.putV 0 2 a.v b.v = a.v := by simp [Wd.v, V.putV]
theorem wd_agg (a : Wd) : (match a.v with | .agg cs => decide (2 ≤ cs.length) | _ => false) = true := rfl
def iniW (c : Ci) (l : List Pt) : Nat → Wd := put (ids 14 c.n 0) (tab (cnt 14 c.n) (inW l Pt.s)) (put (ids 0 c.n 0) (tab (cnt 0 c.n) (inW l Pt.i)) fun _ => wd0)
def wevN (c : Ci) (n : Nat) (f : Nat → Wd) : Wd := evalW (c.nd n).k.toNat ((c.g n).map f)
noncomputable def netW (c : Ci) (l : List Pt) : Nat → Wd := evl (wevN c) (combC c) (ordL c) (iniW c l)
theorem tabW_set (N : Nat) (F : Nat → Wd) (n : Nat) (x : Wd) : (tab N fun j => (F j).v).set n x.v = tab N fun j => (upd1 F n x j).v := by
  rw [tab_set]
  refine tab_congr fun j _ => ?_
  by_cases h : j = n
  · subst h; simp
  · rw [upd1_ne _ _ h, upd1_ne _ _ h]
theorem tabW_pure (N : Nat) (F : Nat → Wd) : V.pureL (tab N fun j => (F j).v) = true := tab_pure fun _ => rfl
/-- The values of a place in the first patterns. -/
def valsL (l : List Pt) (sel : Pt → List Nat) (i j : Nat) : List V := ((l.take j).map fun p => (sel p).getD i 0).map u8V
theorem valsL_zero (l : List Pt) (sel : Pt → List Nat) (i : Nat) : valsL l sel i 0 = [] := by simp [valsL]
theorem valsL_len {l : List Pt} {sel : Pt → List Nat} {i j : Nat} (h : j ≤ l.length) : (valsL l sel i j).length = j := by simp [valsL]; omega
theorem valsL_pure (l : List Pt) (sel : Pt → List Nat) (i j : Nat) : V.pureL (valsL l sel i j) = true := u8s_pure _
theorem valsL_all (l : List Pt) (sel : Pt → List Nat) (i : Nat) : valsL l sel i l.length = (l.map fun p => (sel p).getD i 0).map u8V := by rw [valsL, List.take_length]
theorem valsL_succ {l : List Pt} {j : Nat} {p : Pt} (sel : Pt → List Nat) (i : Nat) (h : j < l.length) (hp : l[j] = p) {x : Nat} (hx : (sel p).getD i 0 = x) : valsL l sel i (j + 1) = valsL l sel i j ++ [.int .u8 (x : Int)] := by
  unfold valsL
  rw [map_take_succ (fun p => (sel p).getD i 0) h hp, List.map_append, List.map_cons, List.map_nil]
  rw [hx]; rfl
set_option maxRecDepth 100000 in
set_option maxHeartbeats 8000000 in
theorem wrun_c (c : Ci) (hg : c.good) (l : List Pt) (cap : Option Nat) (hl : l.length ≤ 64) (hf : ∀ p ∈ l, p.fit c) : PureC Tryz.prog gl0 15 [c.v, .sl (l.map Pt.v) cap]
    (.tup [.sl (tab l.length fun i => rspV (obsO c fun n => (netW c l n).lane i) (obsS c fun n => (netW c l n).lane i)) (some l.length), .sl (tab c.n.length fun n => (netW c l n).v) (some c.n.length), .int .i64 0]) := by
  have hn1 := hg.n1
  have l0 := cnt_le 0 c.n
  have l1 := cnt_le 14 c.n
  have hck := wcheck_c c hg l cap (by omega) hf
  rw [if_neg (by omega)] at hck
  have ci := inputsN_c c (by omega)
  have cs := statesN_c c (by omega)
  have hI0 : ∀ x ∈ ids 0 c.n 0, x < c.n.length := fun x hx => (ids_lt hx).1
  have hS0 : ∀ x ∈ ids 14 c.n 0, x < c.n.length := fun x hx => (ids_lt hx).1
  have hIl : (ids 0 c.n 0).length = cnt 0 c.n := rfl
  have hSl : (ids 14 c.n 0).length = cnt 14 c.n := rfl
  have hfi := fun p (hp : p ∈ l) => (hf p hp).i
  have hfs := fun p (hp : p ∈ l) => (hf p hp).s
  obtain ⟨W0, hW0⟩ : ∃ W0, iniW c l = W0 := ⟨_, rfl⟩
  have hW0' := hW0
  unfold iniW at hW0'
  generalize ids 0 c.n 0 = I at ci hIl hI0 hW0'
  generalize ids 14 c.n 0 = S at cs hSl hS0 hW0'
  rw [← hIl] at ci l0 hfi
  rw [← hSl] at cs l1 hfs
  rw [← hIl, ← hSl] at hW0'
  have hlp := pts_pure l
  have hval := hg.val
  have hob := fun i : Nat => ObserveT_c c hg (fun n => (netW c l n).lane i) none
  have hnd := hg.wf.k
  refine PureC.of_W 2 ok15 rfl ?_
  simp [i15, x15]
  intro gf1
  generalize gf1 2 = g2
  refine CallO.pure hck (by simp [hlp]) ?_
  simp
  refine CallO.own 1000 (order_c c hg.wf) (by simp) (by simp) ?_
  rintro v h (⟨h1, -⟩ | ⟨-, g, L, rfl, rfl, hR, hpw⟩) gf4
  · exact absurd hg.chk h1
  have hord : Ord c L := ⟨hR, hpw (by omega)⟩
  have hLl : L.length = c.n.length := hR.len
  simp [upH, upS, Blk.rn, map_rn_pure (natsV_pure L)]
  generalize gf4 1000 + g = g9
  obtain ⟨N, hN⟩ : ∃ N, c.n.length = N := ⟨_, rfl⟩
  have hLN : ∀ x ∈ L, x < N := fun x hx => by rw [← hN]; exact hR.lt x hx
  rw [hN] at hLl hn1 hI0 hS0 l0 l1 hob ⊢
  intro gf5
  refine ⟨by omega, ?_⟩
  generalize gf5 46 = g46
  refine CallO.pure ci (by simp) ?_
  simp
  refine LoopP.of (X := Nat) (fun i => [(50, natV i), (49, natV I.length), (48, .sl (natsV I) (some I.length)), (10, .ref 46 g46 0 N (some N)), (8, .ref 1000 g9 0 N (some N)), (2, .ptr 2 g2 0 0), (1, .sl (l.map Pt.v) cap)])
    (fun i => [(46, .row g46 2 (tab N fun j => (put (I.take i) ((tab I.length (inW l Pt.i)).take i) (fun _ => wd0) j).v)), (1000, .row g9 1 (natsV L)), (2, .row g2 4 [c.v])])
    (fun i => i ≤ I.length) (fun i => I.length - i) 0 (Nat.zero_le _) (by simp [natV]) (by simp [put, tab_const, Wd.v, bvV, wd0]) ?_
  intro i hi
  obtain ⟨F, hF⟩ : ∃ F, put (I.take i) ((tab I.length (inW l Pt.i)).take i) (fun _ => wd0) = F := ⟨_, rfl⟩
  rw [hF]
  simp [natV]
  refine BrB.of (fun hb => ?_) (fun hb => ?_)
  · have hi' : i < I.length := of_decide_eq_true hb
    have hw := wrapN i (by omega)
    obtain ⟨n, hn⟩ : ∃ n, I[i] = n := ⟨_, rfl⟩
    have hnN : n < N := hI0 n (by rw [← hn]; exact List.getElem_mem hi')
    have hpt := put_take (ns := I) (vs := (tab I.length (inW l Pt.i))) (f := (fun _ => wd0)) i (by simp) hi'
    rw [hn, hF, tab_get] at hpt
    simp [hi', natsV_get, hn]
    refine LoopP.of (X := Nat × Option (Nat × List V)) (fun z => [(57, natV z.1), (56, natV l.length), (55, .sl (l.map Pt.v) cap), (13, accV 68 z.2), (12, natV n), (11, natV i), (50, natV i), (49, natV I.length), (48, .sl (natsV I) (some I.length)), (10, .ref 46 g46 0 N (some N)), (8, .ref 1000 g9 0 N (some N)), (2, .ptr 2 g2 0 0), (1, .sl (l.map Pt.v) cap)])
      (fun z => (46, .row g46 2 (tab N fun j => (F j).v)) :: (1000, .row g9 1 (natsV L)) :: (2, .row g2 4 [c.v]) :: accH 68 1 z.2)
      (fun z => z.1 ≤ l.length ∧ (z.2 = none ↔ z.1 = 0) ∧ accL z.2 = valsL l Pt.i i z.1) (fun z => l.length - z.1) (0, none) ⟨by simp, by simp, by simp [accL, valsL_zero]⟩ (by simp [natV, accV]) (by simp [accH]) ?_
    rintro ⟨j, acc⟩ ⟨q1, q2, q3⟩
    dsimp only at q1 q2 q3 ⊢
    simp [natV]
    refine BrB.of (fun hb2 => ?_) (fun hb2 => ?_)
    · have hj : j < l.length := of_decide_eq_true hb2
      have hw2 := wrapN j (by omega)
      obtain ⟨p, hp⟩ : ∃ p, l[j] = p := ⟨_, rfl⟩
      have hpl := hfi p (by rw [← hp]; exact List.getElem_mem hj)
      have hip : i < p.i.length := by omega
      obtain ⟨x, hx⟩ : ∃ x, p.i[i] = x := ⟨_, rfl⟩
      have hnx := valsL_succ Pt.i i hj hp (x := x) (by rw [List.getD_eq_getElem?_getD, List.getElem?_eq_getElem hip, hx]; rfl)
      rw [← q3] at hnx
      rcases acc with _ | ⟨ga, r⟩
      · simp [accV, accH, hj, hp, hip, hx, u8V, hw2]
        intro ga gb gc
        refine ⟨j + 1, some (gc 68, [.int .u8 (x : Int)]), ⟨hj, by simp, by rw [hnx]; rfl⟩, by simp, by simp, by omega⟩
      · simp [accV, accH, hj, hp, hip, hx, u8V, hw2]
        intro gb gc gd
        refine ⟨by have := congrArg List.length q3; rw [valsL_len q1] at this; simp [accL] at this; omega, j + 1, some (gd 68, r ++ [.int .u8 (x : Int)]), ⟨hj, by simp, by rw [hnx]; rfl⟩, by simp, by simp, by omega⟩
    · have hj : j = l.length := by have := of_decide_eq_false hb2; omega
      subst hj
      rw [valsL_all] at q3
      have hpk := pack_c (l.map fun p => p.i.getD i 0) none (by simp; omega)
      have hpe : packW (l.map fun p => p.i.getD i 0) = inW l Pt.i i := rfl
      rw [hpe] at hpk
      have hset := tabW_set N F n (inW l Pt.i i)
      rw [← hpt] at hset
      generalize inW l Pt.i i = w at hpk hset
      rcases acc with _ | ⟨ga, r⟩
      · simp only [accL] at q3
        have hpk2 : PureC Tryz.prog gl0 10 [.nil] w.v := PureC.wide hpk ⟨by rw [← q3]; exact VLe.nil', trivial⟩ (.refl _)
        simp [accV, accH]
        refine CallO.pure hpk2 rfl ?_
        simp [hnN, tab_get, putW, hset, hw]
        exact ⟨rfl, i + 1, hi', by simp, rfl, by omega⟩
      · simp only [accL] at q3
        rw [← q3] at hpk
        have hrp : V.pureL r = true := by rw [q3]; exact u8s_pure _
        simp [accV, accH]
        refine CallO.borrow 2 hpk ?_ rfl ?_
        · simp only [List.map_cons, List.map_nil]
          rw [frz_ref (es := r) (sz := 1) (by simp) (by simp), List.drop_zero, List.take_of_length_le (by simp), frz_all _ _ hrp]
        simp [hnN, tab_get, putW, hset, hw]
        exact ⟨rfl, i + 1, hi', by simp, rfl, by omega⟩
  have hi' : i = I.length := by have := of_decide_eq_false hb; omega
  subst hi'
  rw [List.take_length, List.take_of_length_le (l := (tab I.length (inW l Pt.i))) (by simp)] at hF
  rw [hF] at hW0'
  simp
  refine CallO.pure cs (by simp) ?_
  simp
  refine LoopP.of (X := Nat) (fun i => [(79, natV i), (78, natV S.length), (77, .sl (natsV S) (some S.length)), (10, .ref 46 g46 0 N (some N)), (8, .ref 1000 g9 0 N (some N)), (2, .ptr 2 g2 0 0), (1, .sl (l.map Pt.v) cap)])
    (fun i => [(46, .row g46 2 (tab N fun j => (put (S.take i) ((tab S.length (inW l Pt.s)).take i) F j).v)), (1000, .row g9 1 (natsV L)), (2, .row g2 4 [c.v])])
    (fun i => i ≤ S.length) (fun i => S.length - i) 0 (Nat.zero_le _) (by simp [natV]) (by simp [put, Wd.v, bvV]) ?_
  intro i hi
  obtain ⟨F', hF'⟩ : ∃ F2, put (S.take i) ((tab S.length (inW l Pt.s)).take i) F = F2 := ⟨_, rfl⟩
  rw [hF']
  simp [natV]
  refine BrB.of (fun hb => ?_) (fun hb => ?_)
  · have hi' : i < S.length := of_decide_eq_true hb
    have hw := wrapN i (by omega)
    obtain ⟨n, hn⟩ : ∃ n, S[i] = n := ⟨_, rfl⟩
    have hnN : n < N := hS0 n (by rw [← hn]; exact List.getElem_mem hi')
    have hpt := put_take (ns := S) (vs := (tab S.length (inW l Pt.s))) (f := F) i (by simp) hi'
    rw [hn, hF', tab_get] at hpt
    simp [hi', natsV_get, hn]
    refine LoopP.of (X := Nat × Option (Nat × List V)) (fun z => [(86, natV z.1), (85, natV l.length), (84, .sl (l.map Pt.v) cap), (18, accV 97 z.2), (17, natV n), (16, natV i), (79, natV i), (78, natV S.length), (77, .sl (natsV S) (some S.length)), (10, .ref 46 g46 0 N (some N)), (8, .ref 1000 g9 0 N (some N)), (2, .ptr 2 g2 0 0), (1, .sl (l.map Pt.v) cap)])
      (fun z => (46, .row g46 2 (tab N fun j => (F' j).v)) :: (1000, .row g9 1 (natsV L)) :: (2, .row g2 4 [c.v]) :: accH 97 1 z.2)
      (fun z => z.1 ≤ l.length ∧ (z.2 = none ↔ z.1 = 0) ∧ accL z.2 = valsL l Pt.s i z.1) (fun z => l.length - z.1) (0, none) ⟨by simp, by simp, by simp [accL, valsL_zero]⟩ (by simp [natV, accV]) (by simp [accH]) ?_
    rintro ⟨j, acc⟩ ⟨q1, q2, q3⟩
    dsimp only at q1 q2 q3 ⊢
    simp [natV]
    refine BrB.of (fun hb2 => ?_) (fun hb2 => ?_)
    · have hj : j < l.length := of_decide_eq_true hb2
      have hw2 := wrapN j (by omega)
      obtain ⟨p, hp⟩ : ∃ p, l[j] = p := ⟨_, rfl⟩
      have hpl := hfs p (by rw [← hp]; exact List.getElem_mem hj)
      have hip : i < p.s.length := by omega
      obtain ⟨x, hx⟩ : ∃ x, p.s[i] = x := ⟨_, rfl⟩
      have hnx := valsL_succ Pt.s i hj hp (x := x) (by rw [List.getD_eq_getElem?_getD, List.getElem?_eq_getElem hip, hx]; rfl)
      rw [← q3] at hnx
      rcases acc with _ | ⟨ga, r⟩
      · simp [accV, accH, hj, hp, hip, hx, u8V, hw2]
        intro ga gb gc
        refine ⟨j + 1, some (gc 97, [.int .u8 (x : Int)]), ⟨hj, by simp, by rw [hnx]; rfl⟩, by simp, by simp, by omega⟩
      · simp [accV, accH, hj, hp, hip, hx, u8V, hw2]
        intro gb gc gd
        refine ⟨by have := congrArg List.length q3; rw [valsL_len q1] at this; simp [accL] at this; omega, j + 1, some (gd 97, r ++ [.int .u8 (x : Int)]), ⟨hj, by simp, by rw [hnx]; rfl⟩, by simp, by simp, by omega⟩
    · have hj : j = l.length := by have := of_decide_eq_false hb2; omega
      subst hj
      rw [valsL_all] at q3
      have hpk := pack_c (l.map fun p => p.s.getD i 0) none (by simp; omega)
      have hpe : packW (l.map fun p => p.s.getD i 0) = inW l Pt.s i := rfl
      rw [hpe] at hpk
      have hset := tabW_set N F' n (inW l Pt.s i)
      rw [← hpt] at hset
      generalize inW l Pt.s i = w at hpk hset
      rcases acc with _ | ⟨ga, r⟩
      · simp only [accL] at q3
        have hpk2 : PureC Tryz.prog gl0 10 [.nil] w.v := PureC.wide hpk ⟨by rw [← q3]; exact VLe.nil', trivial⟩ (.refl _)
        simp [accV, accH]
        refine CallO.pure hpk2 rfl ?_
        simp [hnN, tab_get, putW, hset, hw]
        exact ⟨rfl, i + 1, hi', by simp, rfl, by omega⟩
      · simp only [accL] at q3
        rw [← q3] at hpk
        have hrp : V.pureL r = true := by rw [q3]; exact u8s_pure _
        simp [accV, accH]
        refine CallO.borrow 2 hpk ?_ rfl ?_
        · simp only [List.map_cons, List.map_nil]
          rw [frz_ref (es := r) (sz := 1) (by simp) (by simp), List.drop_zero, List.take_of_length_le (by simp), frz_all _ _ hrp]
        simp [hnN, tab_get, putW, hset, hw]
        exact ⟨rfl, i + 1, hi', by simp, rfl, by omega⟩
  have hi' : i = S.length := by have := of_decide_eq_false hb; omega
  subst hi'
  rw [List.take_length, List.take_of_length_le (l := (tab S.length (inW l Pt.s))) (by simp)] at hF'
  rw [hF'] at hW0'
  subst hW0'
  have hLW : netW c l = evl (wevN c) (combC c) L F' := by unfold netW; rw [hord.eq, hW0]
  simp
  intro gf7
  generalize gf7 105 = g105
  refine LoopP.ofM (X := Nat × Nat × Nat × List V × Option Nat) (fun z => [(108, natV z.1), (107, natV N), (106, .ref 1000 g9 0 N (some N)), (21, .ref 2000 z.2.1 0 z.2.2.1 z.2.2.2.2), (10, .ref 46 g46 0 N (some N)), (2, .ptr 2 g2 0 0), (1, .sl (l.map Pt.v) cap)])
    (fun z => [(46, .row g46 2 (tab N fun j => (evl (wevN c) (combC c) (L.take z.1) F' j).v)), (1000, .row g9 1 (natsV L)), (2, .row g2 4 [c.v]), (2000, .row z.2.1 2 z.2.2.2.1)])
    (fun z => z.1 ≤ N ∧ z.2.2.1 ≤ z.2.2.2.1.length) (fun z => N - z.1) ?_ ?_
  · refine .move 105 2000 _ (by simp) (by simp; rfl) fun g' => .done ⟨(0, g', 0, [], some 16), ⟨by simp, by simp⟩, by simp [natV, rnL_pure _ hlp], ?_⟩
    simp [evl, map_rn_pure (natsV_pure L), map_rn_pure (tabW_pure N F')]
    try exact rn_pure _ (ci_pure2 c)
  rintro ⟨i, gt, k, es, cap2⟩ ⟨q1, q2⟩
  dsimp only at q1 q2 ⊢
  obtain ⟨F, hF⟩ : ∃ F, evl (wevN c) (combC c) (L.take i) F' = F := ⟨_, rfl⟩
  rw [hF]
  simp [natV]
  refine BrB.of (fun hb => ?_) (fun hb => ?_)
  · have hi : i < N := of_decide_eq_true hb
    have hw := wrapN i (by omega)
    have hiL : i < L.length := by omega
    obtain ⟨n, hn⟩ : ∃ n, L[i] = n := ⟨_, rfl⟩
    have hnN : n < N := hLN n (by rw [← hn]; exact List.getElem_mem hiL)
    have hnc : n < c.n.length := by omega
    obtain ⟨y, hy⟩ : ∃ y, c.n[n] = y := ⟨_, rfl⟩
    have hst : evl (wevN c) (combC c) (L.take (i + 1)) F' = if combC c n = true then upd1 F n (wevN c n F) else F := by
      rw [List.take_succ_eq_append_getElem hiL, hn, evl_snoc, hF]
    have hcb : combC c n = decide (1 ≤ y.k ∧ y.k ≤ 13) := by unfold combC combB; rw [c.nd_get hnc, hy]
    have hyi := hval.i n hnc
    have hyl := hval.l n hnc
    rw [c.nd_get hnc, hy] at hyi hyl
    have hcc := comb_c y.k
    rw [← hcb] at hcc
    have hyk := hg.wf.k y (by rw [← hy]; exact List.getElem_mem hnc)
    simp [hi, hLl, natsV_get, hn, hnc, hy]
    intro gf8
    generalize gf8 24 = g24
    refine CallO.pure hcc (by simp) ?_
    cases hq : combC c n with
    | false =>
      rw [hq, if_neg (by simp)] at hst
      simp [hw]
      refine .done ⟨i + 1, gt, k, es, ⟨hi, q2⟩, by simp, ?_, by omega⟩
      simp [hst]
    | true =>
      rw [hq, if_pos rfl] at hst
      obtain ⟨r, hr⟩ : ∃ r, c.g n = r := ⟨_, rfl⟩
      have hyl2 : y.i = r.map fun (x : Nat) => (x : Int) := by
        rw [← hr]
        unfold Ci.g
        have hq2 : combB (c.nd n).k = true := hq
        rw [if_pos hq2, c.nd_get hnc, hy, List.map_map]
        have hid : ∀ x ∈ y.i, ((fun (x : Nat) => (x : Int)) ∘ Int.toNat) x = id x := fun x hx => Int.toNat_of_nonneg (hyi x hx).1
        rw [List.map_congr_left hid, List.map_id]
      have hlN : ∀ x ∈ r, x < N := fun x hx => by
        have := (hyi (x : Int) (by rw [hyl2]; exact List.mem_map_of_mem hx)).2
        omega
      have hll : r.length ≤ 16 := by rw [hyl2] at hyl; simpa using hyl
      have hev : wevN c n F = evalW y.k.toNat (r.map F) := by unfold wevN; rw [c.nd_get hnc, hy, hr]
      have hin : ints y.i = natsV r := by rw [hyl2, ← natsV_ints]
      have hyv : y.v = .agg [.int .u8 y.k, .sl (natsV r) none, .int .i64 y.a, .int .i64 y.b] := by unfold Nd.v; rw [hin]
      simp [hin]
      have hll2 : y.i.length = r.length := by rw [hyl2]; simp
      try rw [hll2]
      refine LoopP.ofM (X := Nat × Nat × List V × Option Nat) (fun z => [(125, natV z.1), (124, natV r.length), (123, .sl (natsV r) none), (21, .ref 2000 z.2.1 0 z.1 z.2.2.2), (24, .ptr 24 g24 0 0), (23, natV n), (108, natV i), (107, natV N), (106, .ref 1000 g9 0 N (some N)), (10, .ref 46 g46 0 N (some N)), (2, .ptr 2 g2 0 0), (1, .sl (l.map Pt.v) cap)])
        (fun z => [(24, .row g24 4 [y.v]), (1000, .row g9 1 (natsV L)), (46, .row g46 2 (tab N fun j => (F j).v)), (2, .row g2 4 [c.v]), (2000, .row z.2.1 2 z.2.2.1)])
        (fun z => z.1 ≤ r.length ∧ z.1 ≤ z.2.2.1.length ∧ z.2.2.1.take z.1 = ((r.take z.1).map F).map Wd.v) (fun z => r.length - z.1) (.done ⟨(0, gt, es, cap2), ⟨by simp, by simp, by simp⟩, by simp [natV], by simp⟩) ?_
      rintro ⟨j, gt2, es2, cap3⟩ ⟨p1, p2, p3⟩
      dsimp only at p1 p2 p3 ⊢
      simp [natV]
      refine BrB.of (fun hb2 => ?_) (fun hb2 => ?_)
      · have hj : j < r.length := of_decide_eq_true hb2
        have hw2 := wrapN j (by omega)
        obtain ⟨x, hx⟩ : ∃ x, r[j] = x := ⟨_, rfl⟩
        have hxN := hlN x (by rw [← hx]; exact List.getElem_mem hj)
        have hnx := congrArg (List.map Wd.v) (map_take_succ F hj hx)
        rw [List.map_append, ← p3] at hnx
        simp only [List.map_cons, List.map_nil] at hnx
        obtain ⟨w, hwx⟩ : ∃ w, F x = w := ⟨_, rfl⟩
        rw [hwx] at hnx
        simp [hj, natsV_get, hx, hxN, tab_get, hwx, hw2]
        intro ga gb
        refine ⟨⟨p2, by omega⟩, .done ⟨j + 1, gb 2000, List.take j es2 ++ [w.v], ⟨hj, by simp; omega, ?_⟩, by simp, by simp; rfl, by omega⟩⟩
        rw [List.take_of_length_le (by simp; omega)]
        simpa using hnx.symm
      · have hj : j = r.length := by have := of_decide_eq_false hb2; omega
        subst hj
        rw [List.take_length] at p3
        have hku : u8V y.k.toNat = .int .u8 y.k := by simp [u8V, Int.toNat_of_nonneg hyk.1]
        have hlog := eval_c y.k.toNat (by omega) (r.map F) cap3 (by simp; omega)
        rw [← hev, hku] at hlog
        obtain ⟨E, hE⟩ : ∃ E, wevN c n F = E := ⟨_, rfl⟩
        rw [hE] at hlog hst
        have hset := tabW_set N F n E
        rw [← hst] at hset
        simp
        refine CallO.borrow 2 hlog ?_ rfl ?_
        · simp only [List.map_cons, List.map_nil]
          rw [frz_ref (es := es2) (sz := 2) (by simp) (by omega), List.drop_zero, p3, frz_all _ _ (wds_pure _), frz_pure _ _ rfl]
        simp [hnN, tab_get, putW, hw, hset]
        exact ⟨rfl, .done ⟨i + 1, gt2, r.length, es2, ⟨hi, p2⟩, by simp, by simp, by omega⟩⟩
  have hi : N = i := by have := of_decide_eq_false hb; omega
  subst hi
  rw [List.take_of_length_le (by omega), ← hLW] at hF
  rw [hF] at hob ⊢
  obtain ⟨R, hR2⟩ : ∃ R : Nat → V, R = fun i => rspV (obsO c fun n => (F n).lane i) (obsS c fun n => (F n).lane i) := ⟨_, rfl⟩
  have hRa : ∀ i, ∃ a b, R i = .agg [.sl a (some a.length), .sl b (some b.length)] ∧ V.pureL a = true ∧ V.pureL b = true := fun i => by rw [hR2]; exact ⟨(obsO c fun n => (F n).lane i).map u8V, (obsS c fun n => (F n).lane i).map u8V, by simp only [rspV, List.length_map], u8s_pure _, u8s_pure _⟩
  have hRp : ∀ i, (R i).pure = true := fun i => by obtain ⟨a, b, h, ha, hb⟩ := hRa i; rw [h]; simp [ha, hb]
  have hob : ∀ i : Nat, PureC Tryz.prog gl0 54 [c.v, .sl (tab N fun n => u8V ((F n).lane i)) none] (R i) := fun i => by rw [hR2]; exact hob i
  have hres : (fun i => rspV (obsO c fun n => (F n).lane i) (obsS c fun n => (F n).lane i)) = R := hR2.symm
  rw [hres]
  simp
  intro gf9
  refine ⟨by omega, ?_⟩
  intro gf10
  refine ⟨by omega, ?_⟩
  generalize gf9 147 = g147
  generalize gf10 150 = g150
  refine LoopP.of (X := Nat × (Nat → Nat)) (fun z => [(153, natV z.1), (152, natV l.length), (151, .ref 147 g147 0 l.length (some l.length)), (27, .ref 147 g147 0 l.length (some l.length)), (28, .ref 150 g150 0 N (some N)), (10, .ref 46 g46 0 N (some N)), (2, .ptr 2 g2 0 0)])
    (fun z => [(147, .row g147 2 (tab l.length fun j => if j < z.1 then R j else .agg [.nil, .nil])), (150, .row g150 1 (tab N fun j => u8V (z.2 j))), (46, .row g46 2 (tab N fun j => (F j).v)), (2, .row g2 4 [c.v])])
    (fun z => z.1 ≤ l.length) (fun z => l.length - z.1) (0, fun _ => 0) (Nat.zero_le _) (by simp [natV]) (by simp [tab_const, u8V]) ?_
  rintro ⟨i, G⟩ hi
  dsimp only at hi ⊢
  simp [natV]
  refine BrB.of (fun hb => ?_) (fun hb => ?_)
  · have hi' : i < l.length := of_decide_eq_true hb
    have hw := wrapN i (by omega)
    simp
    refine LoopP.of (X := Nat) (fun k => [(158, natV k), (157, natV N), (156, .ref 46 g46 0 N (some N)), (29, natV i), (153, natV i), (152, natV l.length), (151, .ref 147 g147 0 l.length (some l.length)), (27, .ref 147 g147 0 l.length (some l.length)), (28, .ref 150 g150 0 N (some N)), (10, .ref 46 g46 0 N (some N)), (2, .ptr 2 g2 0 0)])
      (fun k => [(147, .row g147 2 (tab l.length fun j => if j < i then R j else .agg [.nil, .nil])), (150, .row g150 1 (tab N fun j => u8V (if j < k then (F j).lane i else G j))), (46, .row g46 2 (tab N fun j => (F j).v)), (2, .row g2 4 [c.v])])
      (fun k => k ≤ N) (fun k => N - k) 0 (Nat.zero_le _) (by simp [natV]) (by simp) ?_
    intro k hk
    simp [natV]
    refine BrB.of (fun hb2 => ?_) (fun hb2 => ?_)
    · have hk' : k < N := of_decide_eq_true hb2
      have hw2 := wrapN k (by omega)
      obtain ⟨w, hwk⟩ : ∃ w, F k = w := ⟨_, rfl⟩
      have hat := at_c w i (by omega)
      have hset : (tab N fun j => u8V (if j < k then (F j).lane i else G j)).set k (u8V (w.lane i)) = tab N fun j => u8V (if j < k + 1 then (F j).lane i else G j) := by
        rw [tab_set]
        refine tab_congr fun j _ => ?_
        by_cases hjk : j = k
        · subst hjk; simp [hwk]
        · rw [upd1_ne _ _ hjk]; simp only [show (j < k + 1) ↔ (j < k) by omega]
      simp only [u8V, natV] at hat hset
      simp [hk', tab_get, hwk]
      intro gf11
      generalize gf11 31 = g31
      have hwe : V.agg [bvV w.o, bvV w.z] = w.v := rfl
      try rw [hwe]
      refine CallO.pure hat (by simp) ?_
      simp [hk', tab_get, u8V, hset, hw2]
      exact ⟨k + 1, hk', by simp, rfl, by omega⟩
    · have hk' : N = k := by have := of_decide_eq_false hb2; omega
      subst hk'
      have hT : (tab N fun j => u8V (if j < N then (F j).lane i else G j)) = tab N fun j => u8V ((F j).lane i) := tab_congr fun j hj => by rw [if_pos hj]
      rw [hT]
      have hTp : V.pureL (tab N fun j => u8V ((F j).lane i)) = true := tabU_pure N fun j => (F j).lane i
      have hTn : V.noGL (tab N fun j => u8V ((F j).lane i)) = true := by
        rw [← tab_map]; exact (u8s_noG _)
      have hTx : ((tab N fun j => u8V ((F j).lane i)).all fun x => decide (x.cells.length = 1)) = true := by simp [tab, u8V]
      have hcl := cloneU_d (tab N fun j => u8V ((F j).lane i)) (some N) hTp hTn hTx (by simp; omega)
      have hobi := hob i
      have hset : (tab l.length fun j => if j < i then R j else .agg [.nil, .nil]).set i (R i) = tab l.length fun j => if j < i + 1 then R j else .agg [.nil, .nil] := by
        rw [tab_set]
        refine tab_congr fun j _ => ?_
        by_cases hjk : j = i
        · subst hjk; simp
        · rw [upd1_ne _ _ hjk]; simp only [show (j < i + 1) ↔ (j < i) by omega]
      obtain ⟨a, b, hRi, ha, hb3⟩ := hRa i
      rw [hRi] at hobi hset
      simp
      intro gm
      first | refine ⟨_, _, _, .dat 2 hcl ?_, ?_⟩ | refine ⟨_, ⟨_, _, .dat 2 hcl ?_⟩, ?_⟩ | refine ⟨_, _, ⟨_, .dat 2 hcl ?_⟩, ?_⟩
      · simp only [List.map_cons, List.map_nil]
        rw [frz_ref (es := tab N fun j => u8V ((F j).lane i)) (sz := 1) (by simp) (by simp), List.drop_zero, List.take_of_length_le (by simp), frz_all _ _ hTp]
      simp
      first | refine ⟨_, _, _, .pure hobi (by simp [hTp]), ?_⟩ | refine ⟨_, ⟨_, _, .pure hobi (by simp [hTp])⟩, ?_⟩ | refine ⟨_, _, ⟨_, .pure hobi (by simp [hTp])⟩, ?_⟩
      simp [hi', tab_get, hset, hw]
      exact ⟨rfl, i + 1, hi', by simp, ⟨_, rfl, rfl⟩, by omega⟩
  · have hi' : l.length = i := by have := of_decide_eq_false hb; omega
    subst hi'
    have hT : (tab l.length fun j => if j < l.length then R j else .agg [.nil, .nil]) = tab l.length R := tab_congr fun j hj => by rw [if_pos hj]
    rw [hT]
    have hXp : V.pureL (tab l.length R) = true := tab_pure hRp
    have hYp : V.pureL (tab N fun j => (F j).v) = true := tabW_pure N F
    have hXl : (tab l.length R).length = l.length := by simp
    have hYl : (tab N fun j => (F j).v).length = N := by simp
    generalize tab l.length R = X at hXp hXl ⊢
    generalize (tab N fun j => (F j).v) = Y at hYp hYl ⊢
    simp [map_frz_pure hXp, map_frz_pure hYp, hXl, hYl]
    try exact ⟨List.take_of_length_le (by omega), List.take_of_length_le (by omega)⟩
end Go.Proofs.YtmbgmfenlededaaGreatDoor
