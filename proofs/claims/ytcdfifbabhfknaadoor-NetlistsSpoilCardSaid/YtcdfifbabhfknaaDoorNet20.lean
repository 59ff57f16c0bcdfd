/- Netlists: the law Loops. Conditions: none. -/
import Derived.Test.YtcdfifbabhfknaaDoorNet15
import Derived.Test.YtcdfifbabhfknaaDoorNet19
namespace Go.Proofs.YtcdfifbabhfknaaDoor
open Go
theorem ci_lens (x : Cx) : x.ci.lens := by
  have hv := sh_val (ci_wf x) (shE_ok x)
  have hl := (cxn_ok x).2
  have := (ns0_ok x).2.2.2
  refine ⟨by omega, ?_, ?_, ?_, fun y hy => ?_, fun m hm => ?_⟩
  · simp [Cx.ci]; omega
  · simp only [Cx.ci]; split <;> simp
  · simp [Cx.ci]; omega
  · obtain ⟨i, hi, rfl⟩ := List.getElem_of_mem hy
    have := hv.l i hi
    rw [x.ci.nd_get hi] at this; omega
  · simp only [Cx.ci] at hm
    split at hm
    · rw [List.mem_singleton.1 hm]; simp
    · simp at hm
theorem repin_wf {c : Ci} {n p to : Nat} (h : n < c.n.length) (hw : c.wf) : (repin c n p to).wf := ⟨fun y hy => by
  rcases List.mem_or_eq_of_mem_set hy with q | rfl
  · exact hw.k y q
  · have := hw.k _ (List.getElem_mem h)
    rw [← c.nd_get h] at this
    exact this, hw.s⟩
theorem updB (o : Nat → Bool) (i : Nat) (b : Bool) : upd1 (fun j => V.bool (o j)) i (.bool b) = fun j => V.bool (upd1 o i b j) := by
  funext j
  unfold upd1
  split <;> rfl
set_option maxRecDepth 100000 in
set_option maxHeartbeats 4000000 in
theorem law6_c (x : Cx) (hx : x.ok) (a b d : Nat) (ha : a < 256) (hb : b < 256) (hd : d < 256) : PureC Tryd.prog gl0 6 [x.v, .agg [u8V a, u8V b, u8V d]] (.bool true) := by
  have hyok : ({ x with bus := false } : Cx).ok := ⟨hx.n, hx.f, hx.d0, hx.d1, hx.p0, hx.p1, hx.p2, hx.p3, hx.g, hx.o⟩
  obtain ⟨c, hc⟩ : ∃ c, ({ x with bus := false } : Cx).ci = c := ⟨_, rfl⟩
  have hof : PureC Tryd.prog gl0 27 [.agg [u8V x.n, u8V x.f, u8V x.d0, u8V x.d1, .bool false, .bool x.mem, u8V x.p0, u8V x.p1, u8V x.p2, u8V x.p3, .sl (x.g.map Gx.v) none, .sl (x.o.map u8V) none]] c.v := hc ▸ cof_c _ hyok
  have hpu : V.pureL [.agg [u8V x.n, u8V x.f, u8V x.d0, u8V x.d1, .bool false, .bool x.mem, u8V x.p0, u8V x.p1, u8V x.p2, u8V x.p3, .sl (x.g.map Gx.v) none, .sl (x.o.map u8V) none]] = true := by
    have := cx_pure { x with bus := false }
    simp only [V.pureL, Bool.and_true]; exact this
  have hwf : c.wf := hc ▸ ci_wf _
  have hE : chkE c = 0 := hc ▸ chk_ok _
  have hsh : shE c = 0 := hc ▸ shE_ok _
  have hls : c.lens := hc ▸ ci_lens _
  have hnb : NoBus c.n := hc ▸ ci_nobus _ rfl
  have hbel : ∀ i, i < c.n.length → ∀ y ∈ c.g i, y < i := hc ▸ ci_below _
  have hnn : 0 < c.n.length ∧ c.n.length ≤ 16 := by
    rw [← hc, (cxn_ok _).2]; exact ⟨(ns0_ok _).2.2.1, (ns0_ok _).2.2.2⟩
  clear hc
  have hval := sh_val hwf hsh
  obtain ⟨N, hN⟩ : ∃ N, c.n.length = N := ⟨_, rfl⟩
  obtain ⟨n, hn⟩ : ∃ n, a % N = n := ⟨_, rfl⟩
  obtain ⟨to, hto⟩ : ∃ n, b % N = n := ⟨_, rfl⟩
  have hnN : n < N := by rw [← hn]; exact Nat.mod_lt _ (by omega)
  have htN : to < N := by rw [← hto]; exact Nat.mod_lt _ (by omega)
  have hN0 : N ≠ 0 := by omega
  refine PureC.of_W 2 ok6 rfl ?_
  simp [i6, x6, Cx.v]
  intro gf2 gf3
  generalize gf2 2 = g2
  generalize gf3 3 = g3
  refine CallO.pure hof hpu ?_
  simp
  refine copy_own c hls (by simp) fun g hf h2 ho hlow => ?_
  generalize hHe : h2 ++ _ = H at ho ⊢
  have hH3 : lk H 3 = some (Blk.row g3 3 [V.agg [u8V a, u8V b, u8V d]]) := by rw [← hHe, lk_appendO, hlow _ (by omega)]; rfl
  clear hHe hlow
  have hcn : (cpV g c).cells.length = 4 := rfl
  have hll : (ndsW 2000 g.gs c.n).length = c.n.length := ndsW_length _ _ _
  have hnn' : n < c.n.length := by omega
  obtain ⟨y, hy⟩ : ∃ y, c.n[n] = y := ⟨_, rfl⟩
  have hgetA : ∀ i (h : i < c.n.length), (ndsW 2000 g.gs c.n)[i]'(by rw [hll]; exact h) = (c.n[i]).w (2000 + i) (g.gs.getD i 0) := fun i h => by
    have h1 := ndsW_getA 2000 g.gs c.n i h hf.n
    rw [List.getElem?_eq_getElem (by rw [hll]; exact h)] at h1
    exact Option.some.inj h1
  have hget := hgetA n hnn'
  rw [hy] at hget
  have hnd : c.nd n = y := by rw [c.nd_get hnn', hy]
  have hyl : y.i.length ≤ 16 := by have := hval.l n hnn'; rw [hnd] at this; exact this
  simp [hN, hN0]
  intro gf5
  generalize gf5 5 = g5
  simp [hH3, u8V, u8i ha, u8i hb, modN hn, modN hto, hN, hN0, ho.n, hll, hnN, hget, Nd.w]
  have hcv : ∀ r1 : Blk, Own g c ((5, r1) :: (5, Blk.row g5 4 [V.agg [V.nil, V.nil, V.nil, V.nil]]) :: H) := fun r1 => ho.mono fun t ht => by simp [show ¬ t = 5 by omega]
  have hckc : PureC Tryd.prog gl0 14 [c.c] (.int .i64 0) := by
    have := PureC.wide (args := [c.c]) (check_c c hwf) ⟨cic_le c, trivial⟩ (.refl _)
    rwa [hE] at this
  have hfrz : ∀ (h' : Hp), Own g c h' → [V.agg [.ref 1010 g.a 0 N (some N), .ref 1013 g.b 0 c.s.length (some c.s.length), .ref 1016 g.c 0 c.m.length (some c.m.length), .ref 1019 g.d 0 c.o.length (some c.o.length)]].map (frz h' 2) = [c.c] := fun h' ho => by
    rw [← hN]
    show [frz h' 2 (cpV g c)] = _
    rw [ho.frz hf]
  refine CallO.pure (rcomb2_c y.k) (by simp) ?_
  simp
  refine BrB.of (fun hcb => ?_) (fun hcb => ?_)
  case refine_2 =>
    simp [hcb]
    refine CallO.borrow 2 hckc (hfrz _ (hcv _)) rfl ?_
    simp
    refine CallO.pure lives_c (by simp) ?_
    simp
  simp [hcb, ho.n, hll, hN, hnN, hget, Nd.w]
  by_cases hy0' : y.i = []
  · simp [hy0']
    refine CallO.borrow 2 hckc (hfrz _ (hcv _)) rfl ?_
    simp
    refine CallO.pure lives_c (by simp) ?_
    simp
  have hy0 : ¬ y.i.length = 0 := fun e => hy0' (List.length_eq_zero_iff.1 e)
  obtain ⟨p, hp⟩ : ∃ p, d % y.i.length = p := ⟨_, rfl⟩
  have hpl : p < y.i.length := by rw [← hp]; exact Nat.mod_lt _ (by omega)
  have hle : N ≤ 549755813888 := by omega
  simp [hy0', hle, hnN]
  intro gf8
  generalize gf8 62 = g8
  have hgl : ∀ i, i < N → (c.nd i).i.length ≤ 16 := fun i hi => hval.l i (by omega)
  have hoc := own_cpH hf
  obtain ⟨Hc, hHc⟩ : ∃ Hc, cpH g c = Hc := ⟨_, rfl⟩
  have hsub : ∀ h', Own g c h' → Sub Hc h' := fun h' q => by rw [← hHc]; exact q.sub
  rw [hHc] at hoc
  clear hHc
  have hmo : ∀ k1 k2 k3 : Blk, Own g c ((62, k1) :: (5, k2) :: (3, k3) :: Hc) := fun k1 k2 k3 => hoc.mono fun t ht => by simp [show ¬ t = 5 by omega, show ¬ t = 62 by omega, show ¬ t = 3 by omega]
  refine LoopP.of (X := Nat × (Nat → Bool)) (fun z => [(9, natV z.1), (8, .ref 62 g8 0 N (some N)), (7, natV to), (6, natV n), (5, .ptr 5 g5 0 0), (3, .ptr 3 g3 0 0)])
    (fun z => (62, .row g8 1 (tab N fun j => .bool (z.2 j))) :: (5, .row g5 4 [cpV g c]) :: (3, .row g3 3 [.agg [u8V a, u8V b, u8V d]]) :: Hc)
    (fun z => z.1 ≤ N ∧ OnInv c n p to z.2 ∧ (0 < z.1 → Clo c z.2 N)) (fun z => N - z.1) (0, fun j => decide (j = n)) ⟨by simp, OnInv.start hnn', by simp⟩ (by simp [natV]) ?_ ?_
  · simp [cpV, hN, u8V, hH3]
    refine ⟨?_, ?_⟩
    · rw [tab_const, tab_set]
      refine tab_congr fun j _ => ?_
      unfold upd1
      by_cases hj : j = n <;> simp [hj]
    · exact hsub _ (ho.mono fun t ht => by simp [show ¬ t = 5 by omega, show ¬ t = 62 by omega])
  rintro ⟨r, o⟩ ⟨q1, q2, q3⟩
  dsimp only at q1 q2 q3 ⊢
  simp [natV, hN]
  refine BrB.of (fun hb1 => ?_) (fun hb1 => ?_)
  · have hr : r < N := of_decide_eq_true hb1
    have hwr := wrapN r (by omega)
    simp
    refine LoopP.of (X := Nat × (Nat → Bool)) (fun z => [(10, natV z.1), (9, natV r), (8, .ref 62 g8 0 N (some N)), (7, natV to), (6, natV n), (5, .ptr 5 g5 0 0), (3, .ptr 3 g3 0 0)])
      (fun z => (62, .row g8 1 (tab N fun j => .bool (z.2 j))) :: (5, .row g5 4 [cpV g c]) :: (3, .row g3 3 [.agg [u8V a, u8V b, u8V d]]) :: Hc)
      (fun z => z.1 ≤ N ∧ OnInv c n p to z.2 ∧ Clo c z.2 z.1) (fun z => N - z.1) (0, o) ⟨by simp, q2, fun j hj => by omega⟩ (by simp [natV]) (by simp; exact hsub _ (hmo _ _ _)) ?_
    clear q2 q3
    clear o
    rintro ⟨i, o⟩ ⟨q2, q3, q4⟩
    dsimp only at q2 q3 q4 ⊢
    simp [natV, hN]
    refine BrB.of (fun hb2 => ?_) (fun hb2 => ?_)
    · have hi : i < N := of_decide_eq_true hb2
      have hwi := wrapN i (by omega)
      have hiN : i < c.n.length := by omega
      obtain ⟨x, hx⟩ : ∃ x, c.n[i] = x := ⟨_, rfl⟩
      have hgx := hgetA i hiN
      rw [hx] at hgx
      have hndi : c.nd i = x := by rw [c.nd_get hiN, hx]
      have hxi := hval.i i hiN
      have hxl := hgl i hi
      rw [hndi] at hxi hxl
      have hGc : ∀ b, combB x.k = b → c.g i = if b = true then x.i.map Int.toNat else [] := fun b hb => by unfold Ci.g; rw [hndi, hb]
      have hki : lk Hc (2000 + i) = some (.row (g.gs.getD i 0) 1 (ints x.i)) := by
        rw [Nat.add_comm]; exact hoc.i i _ (by rw [ndI_get hiN hf.n, hx])
      simp
      refine LoopP.of (X := Nat × (Nat → Bool)) (fun z => [(11, natV z.1), (10, natV i), (9, natV r), (8, .ref 62 g8 0 N (some N)), (7, natV to), (6, natV n), (5, .ptr 5 g5 0 0), (3, .ptr 3 g3 0 0)])
        (fun z => (62, .row g8 1 (tab N fun j => .bool (z.2 j))) :: (5, .row g5 4 [cpV g c]) :: (3, .row g3 3 [.agg [u8V a, u8V b, u8V d]]) :: Hc)
        (fun z => z.1 ≤ x.i.length ∧ OnInv c n p to z.2 ∧ Clo c z.2 i ∧ (∀ w ∈ (c.g i).take z.1, z.2 w = true → z.2 i = true)) (fun z => x.i.length - z.1) (0, o) ⟨by simp, q3, q4, by simp⟩ (by simp [natV]) (by simp; exact hsub _ (hmo _ _ _)) ?_
      clear q3 q4
      clear o
      rintro ⟨k, o⟩ ⟨q3, q4, q5, q6⟩
      dsimp only at q3 q4 q5 q6 ⊢
      simp [natV, hN, hoc.n, hll, hi, hgx, Nd.w]
      have hend : (c.g i).length ≤ k → ∀ j, j < i + 1 → ∀ w ∈ c.g j, o w = true → o j = true := fun hle j hj w hw ho => by
        by_cases hji : j = i
        · subst hji; exact q6 w (by rwa [List.take_of_length_le hle]) ho
        · exact q5 j (by omega) w hw ho
      refine BrB.of (fun hb3 => ?_) (fun hb3 => ?_)
      · have hk : k < x.i.length := of_decide_eq_true hb3
        have hwk := wrapN k (by omega)
        simp [hk, hoc.n, hll, hi, hN, hgx, Nd.w]
        refine CallO.pure (rcomb2_c x.k) (by simp) ?_
        cases hcx : combB x.k with
        | true =>
          have hG := hGc true hcx
          rw [if_pos rfl] at hG
          have hkG : k < (c.g i).length := by rw [hG]; simpa using hk
          have hxk := hxi _ (List.getElem_mem hk)
          obtain ⟨w, hw2⟩ : ∃ w : Nat, x.i[k] = (w : Int) := ⟨(x.i[k]).toNat, by omega⟩
          have hGk : (c.g i)[k] = w := by
            have : (c.g i)[k] = (x.i[k]).toNat := by simp [hG]
            rw [this, hw2]; simp
          rw [hw2] at hxk
          have hwN : w < N := by omega
          have hwG : w ∈ c.g i := by rw [← hGk]; exact List.getElem_mem hkG
          have hst := q4.step hiN (by omega) hwG
          have hcl := clo_step (b := o i || o w) hbel hiN q5
          have hwi2 := hbel i hiN w hwG
          have hin : ∀ v ∈ (c.g i).take (k + 1), upd1 o i (o i || o w) v = true → upd1 o i (o i || o w) i = true := fun v hv hvo => by
            have hvi : v < i := hbel i hiN v (List.mem_of_mem_take hv)
            rw [upd1_ne _ _ (by omega)] at hvo
            simp
            rw [List.take_succ_eq_append_getElem hkG, hGk] at hv
            rcases List.mem_append.1 hv with r | r
            · exact .inl (q6 v r hvo)
            · rw [List.mem_singleton.1 r] at hvo; exact .inr hvo
          simp [hi, tab_get]
          refine BrB.of (fun hoi => ?_) (fun hoi => ?_)
          · simp [hoi, hi, tab_get, tab_set, hwk, updB]
            refine ⟨k + 1, upd1 o i (o i || o w), ⟨hk, hst, hcl, hin⟩, by simp, ⟨by rw [hoi]; simp, hsub _ (hoc.mono fun t ht => by simp [show ¬ t = 5 by omega, show ¬ t = 62 by omega, show ¬ t = 3 by omega])⟩, by omega⟩
          · simp [hoi, hi, tab_get, tab_set, hwk, updB, hoc.n, hll, hN, hgx, Nd.w, hki, hk, ints_getE, hw2, hwN, show ¬ 2000 + i = 5 by omega, show ¬ 2000 + i = 62 by omega, show ¬ 2000 + i = 3 by omega]
            refine ⟨k + 1, upd1 o i (o i || o w), ⟨hk, hst, hcl, hin⟩, by simp, ⟨by rw [hoi]; simp, hsub _ (hoc.mono fun t ht => by simp [show ¬ t = 5 by omega, show ¬ t = 62 by omega, show ¬ t = 3 by omega])⟩, by omega⟩
        | false =>
          have hG := hGc false hcx
          simp at hG
          simp [hwi]
          refine ⟨i + 1, o, ⟨by omega, q4, hend (by rw [hG]; simp)⟩, by simp, ⟨by simp, hsub _ (hmo _ _ _)⟩, by omega⟩
      · have hk : k = x.i.length := by have := of_decide_eq_false hb3; omega
        have hGl : (c.g i).length ≤ k := by
          cases hcx : combB x.k with
          | true => rw [hGc true hcx, if_pos rfl]; simp [hk]
          | false => rw [hGc false hcx]; simp
        simp [hb3, hwi]
        refine ⟨i + 1, o, ⟨by omega, q4, hend hGl⟩, by simp, ⟨by simp, hsub _ (hmo _ _ _)⟩, by omega⟩
    · have hi : i = N := by have := of_decide_eq_false hb2; omega
      subst hi
      simp [hwr]
      refine ⟨r + 1, o, ⟨by omega, q3, fun _ => q4⟩, by simp, ⟨by simp, hsub _ (hmo _ _ _)⟩, by omega⟩
  · have hr : r = N := by have := of_decide_eq_false hb1; omega
    have hclo := q3 (by omega)
    have hkn : lk Hc (2000 + n) = some (.row (g.gs.getD n 0) 1 (ints y.i)) := by
      rw [Nat.add_comm]; exact hoc.i n _ (by rw [ndI_get hnn' hf.n, hy])
    have hset : (ints y.i).set p (.int .i64 (to : Int)) = ints (y.i.set p (to : Int)) := ints_setI _ _ _
    simp [hoc.n, hll, hN, hnN, hget, Nd.w, hkn, u8V, u8i hd, modN hp, hpl, hy0, ints_getE, hset, tab_get, htN, show ¬ 2000 + n = 5 by omega, show ¬ 2000 + n = 62 by omega, show ¬ 2000 + n = 3 by omega, show ¬ 62 = 2000 + n by omega]
    have hpg : p < (c.g n).length := by
      have : c.g n = y.i.map Int.toNat := by unfold Ci.g; rw [hnd, if_pos hcb]
      rw [this]; simpa using hpl
    have hcbn : combB (c.nd n).k = true := by rw [hnd]; exact hcb
    have hsr : shE (repin c n p to) = 0 := repin_shE hnn' (by omega) hsh hnb
    have hfr : g.fits (repin c n p to) := fits_setn hf
    have hup : Own g (repin c n p to) ((2000 + n, Blk.row (g.gs.getD n 0) 1 (ints (y.i.set p (to : Int)))) :: (62, Blk.row g8 1 (tab N fun j => V.bool (o j))) :: (5, Blk.row g5 4 [cpV g c]) :: (3, Blk.row g3 3 [V.agg [V.int .u8 (a : Int), V.int .u8 (b : Int), V.int .u8 (d : Int)]]) :: Hc) := by
      have := hoc.upd_i (h' := (2000 + n, Blk.row (g.gs.getD n 0) 1 (ints (y.i.set p (to : Int)))) :: (62, Blk.row g8 1 (tab N fun j => V.bool (o j))) :: (5, Blk.row g5 4 [cpV g c]) :: (3, Blk.row g3 3 [V.agg [V.int .u8 (a : Int), V.int .u8 (b : Int), V.int .u8 (d : Int)]]) :: Hc) hf hnn' (x := ⟨(c.nd n).k, (c.nd n).i.set p (to : Int), (c.nd n).a, (c.nd n).b⟩) (by simp [hnd, hy]) (by simp [hnd, hy]) (by simp [hnd, hy]) (by simp [hnd, hy]) (by simp [hnd]) (fun t h1 h2 => by simp [show ¬ t = 5 by omega, show ¬ t = 62 by omega, show ¬ t = 3 by omega, h2])
      exact this
    simp only [List.getD_eq_getElem?_getD] at hup
    have hckr : PureC Tryd.prog gl0 14 [(repin c n p to).c] (.int .i64 (chkE (repin c n p to))) := PureC.wide (args := [(repin c n p to).c]) (check_c _ (repin_wf hnn' hwf)) ⟨cic_le _, trivial⟩ (.refl _)
    have hargs : ∀ h', Own g (repin c n p to) h' → [V.agg [.ref 1010 g.a 0 N (some N), .ref 1013 g.b 0 c.s.length (some c.s.length), .ref 1016 g.c 0 c.m.length (some c.m.length), .ref 1019 g.d 0 c.o.length (some c.o.length)]].map (frz h' 2) = [(repin c n p to).c] := fun h' ho => by
      have e : cpV g (repin c n p to) = V.agg [.ref 1010 g.a 0 N (some N), .ref 1013 g.b 0 c.s.length (some c.s.length), .ref 1016 g.c 0 c.m.length (some c.m.length), .ref 1019 g.d 0 c.o.length (some c.o.length)] := by
        rw [← hN]; simp [cpV, repin]
      rw [← e]
      simp only [List.map_cons, List.map_nil]
      rw [ho.frz hfr]
    refine BrB.of (fun hot => ?_) (fun hot => ?_)
    · have hE6 : chkE (repin c n p to) = 6 := by
        unfold chkE
        rw [if_neg (by simp [hsr]), if_neg (on_loop hnn' hcbn hpg q2 (by omega) hot)]
      rw [hE6] at hckr
      simp [show ¬ 5 = 2000 + n by omega, hN]
      refine CallO.borrow 2 hckr (hargs _ hup) rfl ?_
      simp
      refine CallO.pure lives_c (by simp) ?_
      simp
    · have hE0 : chkE (repin c n p to) = 0 := by
        unfold chkE
        rw [if_neg (by simp [hsr]), if_pos (on_free hnn' hcbn q2 hbel (by rw [hN]; exact hclo) (by omega) hot)]
      rw [hE0] at hckr
      simp [show ¬ 5 = 2000 + n by omega, hN]
      refine CallO.borrow 2 hckr (hargs _ hup) rfl ?_
      simp
      refine CallO.pure lives_c (by simp) ?_
      simp
end Go.Proofs.YtcdfifbabhfknaaDoor
