/- Netlists: the law Spoil. Conditions: none. -/
import Derived.Test.YtcdfifbabhfknaaDoorNet20
import Derived.Test.YtcdfifbabhfknaaDoorNet21
namespace Go.Proofs.YtcdfifbabhfknaaDoor
open Go
@[simp] theorem cx_cells2 (x : Cx) : x.v.cells = [u8V x.n, u8V x.f, u8V x.d0, u8V x.d1, .bool x.bus, .bool x.mem, u8V x.p0, u8V x.p1, u8V x.p2, u8V x.p3, .sl (x.g.map Gx.v) none, .sl (x.o.map u8V) none] := rfl
@[simp] theorem cx_cellsOk2 (x : Cx) : x.v.cellsOk = true := rfl
theorem u8m {x p m : Nat} (h : x % m = p) : ((x : Int)).tmod (m : Int) = (p : Int) := by
  rw [← h]; rfl
theorem setn_wf {c : Ci} {n : Nat} {x : Nd} (hw : c.wf) (h0 : 0 ≤ x.k) (h1 : x.k < 256) : ({ c with n := c.n.set n x } : Ci).wf := ⟨fun y hy => by
  rcases List.mem_or_eq_of_mem_set hy with q | rfl
  · exact hw.k y q
  · exact ⟨h0, h1⟩, hw.s⟩
theorem ck_own {c : Ci} {e : Int} (hw : c.wf) (he : chkE c = e) : PureC Tryd.prog gl0 14 [c.c] (.int .i64 e) := by
  have := PureC.wide (args := [c.c]) (check_c c hw) ⟨cic_le c, trivial⟩ (.refl _)
  rwa [he] at this
/-! What a circuit's parts hold, read. -/
theorem pN {g : CG} {c : Ci} {h : Hp} {N : Nat} (hN : c.n.length = N) (hf : g.fits c) (h1 : lk h 1010 = some (.row g.a 4 (ndsW 2000 g.gs c.n))) (h2 : ∀ (i : Nat) x, (ndI g.gs c.n)[i]? = some x → lk h (i + 2000) = some (.row x.1 1 (ints x.2))) : VLe (frz h 2 (.ref 1010 g.a 0 N (some N))) (.sl (c.n.map Nd.v) none) := by
  subst hN
  rw [frz_ref h1 (by rw [ndsW_length]; omega), List.drop_zero, List.take_of_length_le (by rw [ndsW_length]; exact Nat.le_refl _), ndsW_frz (n := 0) 2000 g.gs c.n hf.n fun i y hy => by rw [Nat.add_comm]; exact h2 i y hy]
  exact .trans (.map ndc_le _) (.cap _ _)
theorem pS {g : CG} {c : Ci} {h : Hp} {N : Nat} (hN : c.s.length = N) (h1 : lk h 1013 = some (.row g.b 1 (c.s.map .str))) : VLe (frz h 2 (.ref 1013 g.b 0 N (some N))) (.sl (c.s.map .str) none) := by
  subst hN
  rw [frz_ref h1 (by simp), List.drop_zero, List.take_of_length_le (by simp), frz_all _ _ (strs_pure _)]
  exact .cap _ _
theorem pM {g : CG} {c : Ci} {h : Hp} (hf : g.fits c) (h1 : lk h 1016 = some (.row g.c 3 (mdsW 10001000 20001000 g.ms c.m))) (h2 : ∀ (i : Nat) x, (mdA g.ms c.m)[i]? = some x → lk h (i + 10001000) = some (.row x.1 1 (ints x.2))) (h3 : ∀ (i : Nat) x, (mdD g.ms c.m)[i]? = some x → lk h (i + 20001000) = some (.row x.1 1 (ints x.2))) : VLe (frz h 2 (.ref 1016 g.c 0 c.m.length (some c.m.length))) (.sl (c.m.map Md.v) none) := by
  rw [frz_ref h1 (by rw [mdsW_length]; omega), List.drop_zero, List.take_of_length_le (by rw [mdsW_length]; exact Nat.le_refl _), mdsW_frz (n := 0) 10001000 20001000 g.ms c.m hf.m (fun i y hy => by rw [Nat.add_comm]; exact h2 i y hy) fun i y hy => by rw [Nat.add_comm]; exact h3 i y hy]
  exact .trans (.map mdc_le _) (.cap _ _)
theorem pO {g : CG} {c : Ci} {h : Hp} (h1 : lk h 1019 = some (.row g.d 1 (ints c.o))) : VLe (frz h 2 (.ref 1019 g.d 0 c.o.length (some c.o.length))) (.sl (ints c.o) none) := by
  rw [frz_ref h1 (by simp), List.drop_zero, List.take_of_length_le (by simp), frz_all _ _ (ints_pure _)]
  exact .cap _ _
theorem slc_snoc {l : List Md} {X : V} {m : Md} (h : CellsLe X m.v) : VLe (.sl (l.map Md.c ++ [X]) none) (.sl ((l ++ [m]).map Md.v) none) := VLe.slc (by simp) fun i => by
  simp only [List.getD_eq_getElem?_getD, List.map_append, List.map_cons, List.map_nil]
  by_cases hi : i < l.length
  · rw [List.getElem?_append_left (by simpa using hi), List.getElem?_append_left (by simpa using hi)]
    simp only [List.getElem?_map, List.getElem?_eq_getElem hi, Option.map_some, Option.getD_some]
    exact mdc_le _
  · by_cases he : i = l.length
    · subst he
      simpa using h
    · rw [List.getElem?_eq_none (by simp; omega), List.getElem?_eq_none (by simp; omega)]
      exact AllLe.refl _
theorem rd_agg {h : Hp} {d : Ci} {e : Int} {v1 v2 v3 v4 : V} (hw : d.wf) (he : chkE d = e) (h1 : VLe (frz h 2 v1) (.sl (d.n.map Nd.v) none)) (h2 : VLe (frz h 2 v2) (.sl (d.s.map .str) none)) (h3 : VLe (frz h 2 v3) (.sl (d.m.map Md.v) none)) (h4 : VLe (frz h 2 v4) (.sl (ints d.o) none)) : PureC Tryd.prog gl0 14 ([.agg [v1, v2, v3, v4]].map (frz h 2)) (.int .i64 e) := by
  simp only [List.map_cons, List.map_nil, frz_agg]
  have := check_c d hw
  rw [he] at this
  exact PureC.wide this ⟨VLe.agg ⟨h1, h2, h3, h4, trivial⟩, trivial⟩ (.refl _)
set_option maxRecDepth 100000 in
set_option maxHeartbeats 4000000 in
theorem law8_c (x : Cx) (hx : x.ok) (w a : Nat) (hw : w < 256) (ha : a < 256) : PureC Tryd.prog gl0 8 [x.v, u8V w, u8V a] (.bool true) := by
  obtain ⟨c, hc⟩ : ∃ c, x.ci = c := ⟨_, rfl⟩
  have hof := cof_c x hx
  have hml : c.m.length ≤ 1 ∧ (c.m.length = 0 → ∀ y ∈ c.n, y.k ≠ 15) ∧ (∀ y ∈ c.n, y.k ≠ 15 → y.a = 0 ∧ y.b = 0) := by
    rw [← hc]
    refine ⟨by simp only [Cx.ci]; split <;> simp, fun h y hy => ?_, fun y hy hk => ?_⟩
    · obtain ⟨i, hi, rfl⟩ := List.getElem_of_mem hy
      rcases (cxn_ok x).1 i hi with ⟨q, -⟩ | ⟨q, -⟩ | ⟨q0, -⟩ | ⟨q, q2, -⟩
      · omega
      · omega
      · simp [Cx.ci, q0] at h
      · omega
    · obtain ⟨i, hi, rfl⟩ := List.getElem_of_mem hy
      rcases (cxn_ok x).1 i hi with ⟨-, -, q⟩ | ⟨-, -, q⟩ | ⟨-, q, -⟩ | ⟨-, -, -, -, -, q⟩
      · exact q
      · exact q
      · exact absurd q hk
      · exact q
  have hwf : c.wf := hc ▸ ci_wf _
  have hE : chkE c = 0 := hc ▸ chk_ok _
  have hsh : shE c = 0 := hc ▸ shE_ok _
  have hls : c.lens := hc ▸ ci_lens _
  have hnn : 0 < c.n.length ∧ c.n.length ≤ 16 := by
    rw [← hc, (cxn_ok _).2]; exact ⟨(ns0_ok _).2.2.1, (ns0_ok _).2.2.2⟩
  have hol : c.o.length ≤ 4 := by rw [← hc]; simp [Cx.ci]; omega
  rw [hc] at hof
  clear hc
  have hval := sh_val hwf hsh
  have hsl := (sh_len hsh).2.1
  obtain ⟨N, hN⟩ : ∃ N, c.n.length = N := ⟨_, rfl⟩
  obtain ⟨n, hn⟩ : ∃ n, a % N = n := ⟨_, rfl⟩
  obtain ⟨q, hq⟩ : ∃ q, w % 12 = q := ⟨_, rfl⟩
  have hnN : n < N := by rw [← hn]; exact Nat.mod_lt _ (by omega)
  have hN0 : N ≠ 0 := by omega
  refine PureC.of_W 2 ok8 rfl ?_
  simp [i8, x8]
  intro gf3
  generalize gf3 3 = g3
  refine CallO.pure hof (show V.pureL [x.v] = true by simp only [V.pureL, cx_pure x, Bool.and_self]) ?_
  simp
  refine copy_own c hls (by simp) fun g hf h2 ho hlow => ?_
  generalize hHe : h2 ++ _ = H at ho ⊢
  have hlo : ∀ t, t < 1000 → t ≠ 3 → lk H t = none := fun t h1 h3 => by rw [← hHe, lk_appendO, hlow t h1]; simp [h3]
  clear hHe hlow
  have hll : (ndsW 2000 g.gs c.n).length = c.n.length := ndsW_length _ _ _
  have hnn' : n < c.n.length := by omega
  obtain ⟨y, hy⟩ : ∃ y, c.n[n] = y := ⟨_, rfl⟩
  have hget : (ndsW 2000 g.gs c.n)[n]'(by rw [hll]; exact hnn') = y.w (2000 + n) (g.gs.getD n 0) := by
    have h1 := ndsW_getA 2000 g.gs c.n n hnn' hf.n
    rw [List.getElem?_eq_getElem (by rw [hll]; exact hnn'), hy] at h1
    exact Option.some.inj h1
  have hnd : c.nd n = y := by rw [c.nd_get hnn', hy]
  have hyl : y.i.length ≤ 16 := by have := hval.l n hnn'; rw [hnd] at this; exact this
  have hyk : 0 ≤ y.k ∧ y.k ≤ 15 := ⟨by rw [← hy]; exact (hwf.k _ (List.getElem_mem hnn')).1, by rw [← hnd]; exact (nd_facts hsh hnn').1⟩
  have hcv : ∀ r1 r2 : Blk, Own g c ((7, r1) :: (7, r2) :: H) := fun r1 r2 => ho.mono fun t ht => by simp [show ¬ t = 7 by omega]
  have hckc := ck_own hwf hE
  have hfrz : ∀ (d : Ci) (h' : Hp), g.fits d → d.n.length = N → d.s.length = N → d.m.length = c.m.length → d.o.length = c.o.length → Own g d h' → [V.agg [.ref 1010 g.a 0 N (some N), .ref 1013 g.b 0 N (some N), .ref 1016 g.c 0 c.m.length (some c.m.length), .ref 1019 g.d 0 c.o.length (some c.o.length)]].map (frz h' 2) = [d.c] := fun d h' hf e1 e2 e3 e4 ho => by
    have e : cpV g d = V.agg [.ref 1010 g.a 0 N (some N), .ref 1013 g.b 0 N (some N), .ref 1016 g.c 0 c.m.length (some c.m.length), .ref 1019 g.d 0 c.o.length (some c.o.length)] := by simp [cpV, e1, e2, e3, e4]
    rw [← e]
    simp only [List.map_cons, List.map_nil]
    rw [ho.frz hf]
  have hsN : c.s.length = N := by omega
  simp [hN, hN0, hsN]
  intro gf7
  generalize gf7 7 = g7
  refine CallO.borrow 2 hckc (hfrz c _ hf hN hsN rfl rfl (hcv _ _)) rfl ?_
  have hq12 : q < 12 := by omega
  have h12 : ((w : Int)).tmod 12 = (q : Int) := modN (b := 12) hq
  simp [u8V, u8i ha, modN hn, hN, hN0, ho.n, hll, hnN, hget, Nd.w, h12]
  have hcases : q = 0 ∨ q = 1 ∨ q = 2 ∨ q = 3 ∨ q = 4 ∨ q = 5 ∨ q = 6 ∨ q = 7 ∨ q = 8 ∨ q = 9 ∨ q = 10 ∨ q = 11 := by omega
  have hU : ∀ (x' : Nd) (h' : Hp), x'.i = y.i → lk h' 1010 = some (.row g.a 4 ((ndsW 2000 g.gs c.n).set n (x'.w (2000 + n) (g.gs.getD n 0)))) → (∀ t, 1010 ≤ t → t ≠ 1010 → lk h' t = lk H t) → Own g { c with n := c.n.set n x' } h' := fun x' h' e h1 h2 => ho.upd_n hf hnn' (by rw [e, hy]) h1 h2
  have hI : ∀ (l : List Int) (h' : Hp), l.length = y.i.length → lk h' (2000 + n) = some (.row (g.gs.getD n 0) 1 (ints l)) → (∀ t, 1010 ≤ t → t ≠ 2000 + n → lk h' t = lk H t) → Own g { c with n := c.n.set n ⟨y.k, l, y.a, y.b⟩ } h' := fun l h' e h1 h2 => ho.upd_i hf hnn' (x := ⟨y.k, l, y.a, y.b⟩) (by rw [hy]) (by rw [hy]) (by rw [hy]) (by rw [hy]; exact e) h1 h2
  have hkn : lk H (2000 + n) = some (.row (g.gs.getD n 0) 1 (ints y.i)) := by
    rw [Nat.add_comm]; exact ho.i n _ (by rw [ndI_get hnn' hf.n, hy])
  have hyw : ∀ x' : Nd, 0 ≤ x'.k → x'.k < 256 → ({ c with n := c.n.set n x' } : Ci).wf := fun x' => setn_wf hwf
  have hmm : ∀ x' : Nd, ({ c with n := c.n.set n x' } : Ci).n.length = N := fun x' => by simpa using hN
  rcases hcases with rfl | rfl | rfl | rfl | rfl | rfl | rfl | rfl | rfl | rfl | rfl | rfl
  · -- another kind
    obtain ⟨r, hr⟩ : ∃ r, a % 200 = r := ⟨_, rfl⟩
    have hr2 : r < 200 := by omega
    have h200 : ((a : Int)).tmod 200 = (r : Int) := modN (b := 200) hr
    have hwr : IntKind.u8.wrap (16 + (r : Int)) = 16 + (r : Int) := wrap_u8 (by omega) (by omega)
    have hk := sp_kind hsh hnn' (k := 16 + (r : Int)) (by omega)
    rw [hnd] at hk
    simp [ho.n, hll, hN, hnN, h200, hwr, hget, Nd.w, h12]
    refine CallO.borrow 2 (ck_own (hyw _ (by simp only []; omega) (by simp only []; omega)) hk) (hfrz _ _ (fits_setn hf) (hmm _) hsN rfl rfl (hU ⟨16 + (r : Int), y.i, y.a, y.b⟩ _ rfl (by simp [Nd.w]) fun t h1 h2 => by simp [show ¬ t = 7 by omega, h2])) rfl ?_
    simp
    refine CallO.pure lives_c (by simp) ?_
    simp
  · -- too many inputs
    have hk := sp_wide hsh hnn' (l := List.replicate 17 0) (by simp) (by rw [hnd]; exact hyk.1)
    rw [hnd] at hk
    simp [ho.n, hll, hN, hnN, hget, Nd.w, h12, hlo 87]
    intro gm
    generalize gm 87 = g87
    refine ⟨rfl, ?_⟩
    refine CallO.borrow 2 (rd_agg (hyw ⟨y.k, List.replicate 17 0, y.a, y.b⟩ hyk.1 (show y.k < 256 by omega)) hk ?_ (pS (c := c) hsN (by simp [ho.s])) (pM (c := c) hf (by simp [ho.m]) (fun i z hz => ?_) (fun i z hz => ?_)) (pO (c := c) (by simp [ho.o]))) rfl rfl ?_
    · rw [frz_ref (es := (ndsW 2000 g.gs c.n).set n (V.agg [V.int .u8 y.k, V.ref 87 g87 0 17 (some 17), V.int .i64 y.a, V.int .i64 y.b])) (sz := 4) (by simp) (by simp [hll, hN]), List.drop_zero, List.take_of_length_le (by simp [hll, hN]), List.map_set,
        ndsW_frz (n := 0) 2000 g.gs c.n hf.n fun i z hz => by rw [Nat.add_comm]; simp [show ¬ i + 2000 = 87 by omega, show ¬ i + 2000 = 7 by omega, ho.i i z hz],
        frz_agg]
      simp only [List.map_cons, List.map_nil]
      rw [frz_ref (es := ints (List.replicate 17 0)) (sz := 1) (by simp [ints]) (by simp), List.drop_zero, List.take_of_length_le (by simp), frz_all _ _ (ints_pure _)]
      have e : ∀ h' : Hp, V.agg [frz h' 1 (V.int .u8 y.k), V.sl (ints (List.replicate 17 0)) (some 17), frz h' 1 (V.int .i64 y.a), frz h' 1 (V.int .i64 y.b)] = Nd.c ⟨y.k, List.replicate 17 0, y.a, y.b⟩ := fun h' => by simp [Nd.c, frz]
      rw [e, ← List.map_set]
      exact .trans (.map ndc_le _) (.cap _ _)
    · simp [show ¬ i + 10001000 = 1010 by omega, show ¬ i + 10001000 = 87 by omega, show ¬ i + 10001000 = 7 by omega, ho.ma i z hz]
    · simp [show ¬ i + 20001000 = 1010 by omega, show ¬ i + 20001000 = 87 by omega, show ¬ i + 20001000 = 7 by omega, ho.md i z hz]
    simp
    refine CallO.pure lives_c (by simp) ?_
    simp
  · -- a net that is none
    by_cases hy0 : y.i = []
    · simp [ho.n, hll, hN, hnN, hget, Nd.w, hy0]
      refine CallO.pure lives_c (by simp) ?_
      simp
    have hyl0 : 0 < y.i.length := List.length_pos_iff.2 hy0
    obtain ⟨p, hp⟩ : ∃ p, N + w = p := ⟨_, rfl⟩
    have hwp : IntKind.i64.wrap ((N : Int) + (w : Int)) = (p : Int) := addN hp (by omega)
    have hk := sp_net hsh hnn' (v := (p : Int)) (by omega) (by rw [hnd]; exact hyl0)
    rw [hnd] at hk
    have hset : (ints y.i).set 0 (.int .i64 (p : Int)) = ints (y.i.set 0 (p : Int)) := ints_setI _ _ _
    simp [ho.n, hll, hN, hnN, hget, Nd.w, h12, hy0, hkn, u8i hw, hwp, hyl0, ints_getE, hset, show ¬ 2000 + n = 7 by omega, show ¬ 7 = 2000 + n by omega]
    refine CallO.borrow 2 (ck_own (hyw ⟨y.k, y.i.set 0 (p : Int), y.a, y.b⟩ hyk.1 (show y.k < 256 by omega)) hk) (hfrz _ _ (fits_setn hf) (hmm _) hsN rfl rfl (hI (y.i.set 0 (p : Int)) _ (by simp) (by simp) fun t h1 h2 => by simp [show ¬ t = 7 by omega, h2])) rfl ?_
    simp
    refine CallO.pure lives_c (by simp) ?_
    simp
  · -- a bit
    have hb : bitB c ⟨(c.nd n).k, (c.nd n).i, (c.nd n).a, -1⟩ = false := by
      unfold bitB; simp only []; split <;> simp
    have hk := sp_bit hsh hnn' hb
    rw [hnd] at hk
    simp [ho.n, hll, hN, hnN, hget, Nd.w, h12]
    refine CallO.borrow 2 (ck_own (hyw _ (by simp only []; omega) (by simp only []; omega)) hk) (hfrz _ _ (fits_setn hf) (hmm _) hsN rfl rfl (hU ⟨y.k, y.i, y.a, -1⟩ _ rfl (by simp [Nd.w]) fun t h1 h2 => by simp [show ¬ t = 7 by omega, h2])) rfl ?_
    simp
    refine CallO.pure lives_c (by simp) ?_
    simp
  · -- a memory
    have hb : bitB c ⟨(c.nd n).k, (c.nd n).i, 1, (c.nd n).b⟩ = false := by
      unfold bitB; simp only []; split
      · have := hml.1; simp; omega
      · simp
    have hk := sp_bit hsh hnn' hb
    rw [hnd] at hk
    simp [ho.n, hll, hN, hnN, hget, Nd.w, h12]
    refine CallO.borrow 2 (ck_own (hyw _ (by simp only []; omega) (by simp only []; omega)) hk) (hfrz _ _ (fits_setn hf) (hmm _) hsN rfl rfl (hU ⟨y.k, y.i, 1, y.b⟩ _ rfl (by simp [Nd.w]) fun t h1 h2 => by simp [show ¬ t = 7 by omega, h2])) rfl ?_
    simp
    refine CallO.pure lives_c (by simp) ?_
    simp
  · -- no name
    have hbad : nmBad [] (c.s.set n []) = true := by
      cases hb : nmBad [] (c.s.set n []) with
      | true => rfl
      | false =>
        have := ((nm_good hb).1 [] (List.mem_iff_getElem.2 ⟨n, by simp; omega, by simp⟩)).1
        exact absurd this (by decide)
    have hk := sp_names hsh (s := c.s.set n []) (by simp; omega) hbad
    have hwd : ({ c with s := c.s.set n [] } : Ci).wf := ⟨hwf.k, fun z hz => by
      rcases List.mem_or_eq_of_mem_set hz with r | rfl
      · exact hwf.s z r
      · simp⟩
    simp [ho.s, hsN, hnN, h12]
    refine CallO.borrow 2 (rd_agg hwd hk (pN (c := c) hN hf (by simp [ho.n]) fun i z hz => by simp [show ¬ i + 2000 = 1013 by omega, show ¬ i + 2000 = 7 by omega, ho.i i z hz]) (pS (c := { c with s := c.s.set n [] }) (by simpa using hsN) (by simp [List.map_set])) (pM (c := c) hf (by simp [ho.m]) (fun i z hz => by simp [show ¬ i + 10001000 = 1013 by omega, show ¬ i + 10001000 = 7 by omega, ho.ma i z hz]) fun i z hz => by simp [show ¬ i + 20001000 = 1013 by omega, show ¬ i + 20001000 = 7 by omega, ho.md i z hz]) (pO (c := c) (by simp [ho.o]))) rfl rfl ?_
    simp
    refine CallO.pure lives_c (by simp) ?_
    simp
  · -- a name twice
    obtain ⟨n1, hn1⟩ : ∃ p, n + 1 = p := ⟨_, rfl⟩
    obtain ⟨p, hp⟩ : ∃ p, n1 % N = p := ⟨_, rfl⟩
    have hpN : p < N := by rw [← hp]; exact Nat.mod_lt _ (by omega)
    have hwn : IntKind.i64.wrap ((n : Int) + 1) = (n1 : Int) := by rw [← hn1]; exact wrapN n (by omega)
    obtain ⟨t, ht⟩ : ∃ t, c.s[p]'(by omega) = t := ⟨_, rfl⟩
    have hwd : ({ c with s := c.s.set n t } : Ci).wf := ⟨hwf.k, fun z hz => by
      rcases List.mem_or_eq_of_mem_set hz with r | rfl
      · exact hwf.s z r
      · rw [← ht]; exact hwf.s _ (List.getElem_mem _)⟩
    have hps : p < c.s.length := by omega
    simp [ho.s, hsN, hnN, h12, hwn, modN hp, hN0, hpN, ht]
    refine BrB.of (fun h2N => ?_) (fun h2N => ?_)
    · have h1 : N = 1 := by have := of_decide_eq_true h2N; omega
      have hn0 : n = 0 := by omega
      have hp0 : p = 0 := by omega
      have hd : ({ c with s := c.s.set n t } : Ci) = c := by
        have : c.s.set n t = c.s := set_same (by rw [List.getElem?_eq_getElem (by omega)]; simp only [hn0, ← ht, hp0])
        rw [this]
      have hk : chkE { c with s := c.s.set n t } = 0 := by rw [hd]; exact hE
      simp
      refine CallO.borrow 2 (rd_agg hwd hk (pN (c := c) hN hf (by simp [ho.n]) fun i z hz => by simp [show ¬ i + 2000 = 1013 by omega, show ¬ i + 2000 = 7 by omega, ho.i i z hz]) (pS (c := { c with s := c.s.set n t }) (by simpa using hsN) (by simp [List.map_set])) (pM (c := c) hf (by simp [ho.m]) (fun i z hz => by simp [show ¬ i + 10001000 = 1013 by omega, show ¬ i + 10001000 = 7 by omega, ho.ma i z hz]) fun i z hz => by simp [show ¬ i + 20001000 = 1013 by omega, show ¬ i + 20001000 = 7 by omega, ho.md i z hz]) (pO (c := c) (by simp [ho.o]))) rfl rfl ?_
      simp
      refine CallO.pure lives_c (by simp) ?_
      simp
    · have h1 : 2 ≤ N := by have := of_decide_eq_false h2N; omega
      have hnp : n ≠ p := by
        intro e
        by_cases hl : n1 < N
        · rw [Nat.mod_eq_of_lt hl] at hp; omega
        · have : n1 = N := by omega
          rw [this, Nat.mod_self] at hp; omega
      have hbad : nmBad [] (c.s.set n t) = true := by
        cases hb : nmBad [] (c.s.set n t) with
        | true => rfl
        | false =>
          have h3 := (nm_good hb).2
          have e1 : (c.s.set n t)[n]'(by simp; omega) = (c.s.set n t)[p]'(by simp; omega) := by
            rw [List.getElem_set_self, List.getElem_set_ne hnp, ht]
          exact absurd ((List.getElem_inj h3).1 e1) hnp
      have hk := sp_names hsh (s := c.s.set n t) (by simp; omega) hbad
      simp
      refine CallO.borrow 2 (rd_agg hwd hk (pN (c := c) hN hf (by simp [ho.n]) fun i z hz => by simp [show ¬ i + 2000 = 1013 by omega, show ¬ i + 2000 = 7 by omega, ho.i i z hz]) (pS (c := { c with s := c.s.set n t }) (by simpa using hsN) (by simp [List.map_set])) (pM (c := c) hf (by simp [ho.m]) (fun i z hz => by simp [show ¬ i + 10001000 = 1013 by omega, show ¬ i + 10001000 = 7 by omega, ho.ma i z hz]) fun i z hz => by simp [show ¬ i + 20001000 = 1013 by omega, show ¬ i + 20001000 = 7 by omega, ho.md i z hz]) (pO (c := c) (by simp [ho.o]))) rfl rfl ?_
      simp
      refine CallO.pure lives_c (by simp) ?_
      simp
  · -- a name less
    have hk := sp_count hsh (s := c.s.take n) (by simp; omega)
    have hwd : ({ c with s := c.s.take n } : Ci).wf := ⟨hwf.k, fun z hz => hwf.s z (List.mem_of_mem_take hz)⟩
    simp [ho.s, h12]
    refine ⟨by omega, ?_⟩
    refine CallO.borrow 2 (rd_agg hwd hk (pN (c := c) hN hf (by simp [ho.n]) fun i z hz => by simp [show ¬ i + 2000 = 7 by omega, ho.i i z hz]) ?_ (pM (c := c) hf (by simp [ho.m]) (fun i z hz => by simp [show ¬ i + 10001000 = 7 by omega, ho.ma i z hz]) fun i z hz => by simp [show ¬ i + 20001000 = 7 by omega, ho.md i z hz]) (pO (c := c) (by simp [ho.o]))) rfl rfl ?_
    · rw [frz_ref (es := c.s.map .str) (sz := 1) (by simp [ho.s]) (by simp; omega), List.drop_zero, ← List.map_take, frz_all _ _ (strs_pure _)]
      exact .cap _ _
    simp
    refine CallO.pure lives_c (by simp) ?_
    simp
  · -- one more output
    have hwv : IntKind.i64.wrap (-1 - (n : Int)) = -1 - (n : Int) := wrap_i64 (by omega) (by omega)
    have hk := sp_out hsh (v := -1 - (n : Int)) (by omega) (by omega)
    have hwd : ({ c with o := c.o ++ [-1 - (n : Int)] } : Ci).wf := ⟨hwf.k, hwf.s⟩
    simp [ho.o, h12, hwv]
    intro ga gb
    generalize gb 1019 = g1019
    refine ⟨by omega, ?_⟩
    refine CallO.borrow 2 (rd_agg hwd hk (pN (c := c) hN hf (by simp [ho.n]) fun i z hz => by simp [show ¬ i + 2000 = 1019 by omega, show ¬ i + 2000 = 163 by omega, show ¬ i + 2000 = 7 by omega, ho.i i z hz]) (pS (c := c) hsN (by simp [ho.s])) (pM (c := c) hf (by simp [ho.m]) (fun i z hz => by simp [show ¬ i + 10001000 = 1019 by omega, show ¬ i + 10001000 = 163 by omega, show ¬ i + 10001000 = 7 by omega, ho.ma i z hz]) fun i z hz => by simp [show ¬ i + 20001000 = 1019 by omega, show ¬ i + 20001000 = 163 by omega, show ¬ i + 20001000 = 7 by omega, ho.md i z hz]) ?_) rfl rfl ?_
    · rw [frz_ref (es := ints (c.o ++ [-1 - (n : Int)])) (sz := 1) (by simp [ints]) (by simp), List.drop_zero, List.take_of_length_le (by simp), frz_all _ _ (ints_pure _)]
      exact .refl _
    simp
    refine CallO.pure lives_c (by simp) ?_
    simp
  · -- one more memory, without addresses
    have hk := sp_mem hsh (m := ⟨[], [0], 0⟩) (e := 8) (by simp [mdE, wrB]) (by omega) (by omega)
    have hwd : ({ c with m := c.m ++ [⟨[], [0], 0⟩] } : Ci).wf := ⟨hwf.k, hwf.s⟩
    have hml2 : (mdsW 10001000 20001000 g.ms c.m).length = c.m.length := mdsW_length _ _ _ _
    have htk : List.take c.m.length (mdsW 10001000 20001000 g.ms c.m) = mdsW 10001000 20001000 g.ms c.m := List.take_of_length_le (by omega)
    simp [ho.m, mdsW_length, h12, htk]
    intro ga gb gd
    generalize gd 1016 = g1016
    generalize ga 170 = g170
    refine ⟨by omega, ?_⟩
    refine CallO.borrow 2 (rd_agg hwd hk (pN (c := c) hN hf (by simp [ho.n]) fun i z hz => by simp [show ¬ i + 2000 = 1016 by omega, show ¬ i + 2000 = 172 by omega, show ¬ i + 2000 = 170 by omega, show ¬ i + 2000 = 7 by omega, ho.i i z hz]) (pS (c := c) hsN (by simp [ho.s])) ?_ (pO (c := c) (by simp [ho.o]))) rfl rfl ?_
    · rw [frz_ref (es := mdsW 10001000 20001000 g.ms c.m ++ [V.agg [V.nil, V.ref 170 g170 0 1 (some 1), V.int .i64 0]]) (sz := 3) (by simp) (by simp [hml2]), List.drop_zero, List.take_of_length_le (by simp [hml2]), List.map_append, mdsW_frz (n := 0) 10001000 20001000 g.ms c.m hf.m (fun i z hz => by rw [Nat.add_comm 10001000 i]; simp [show ¬ i + 10001000 = 1016 by omega, show ¬ i + 10001000 = 172 by omega, show ¬ i + 10001000 = 170 by omega, show ¬ i + 10001000 = 7 by omega, ho.ma i z hz]) (fun i z hz => by rw [Nat.add_comm 20001000 i]; simp [show ¬ i + 20001000 = 1016 by omega, show ¬ i + 20001000 = 172 by omega, show ¬ i + 20001000 = 170 by omega, show ¬ i + 20001000 = 7 by omega, ho.md i z hz])]
      simp only [List.map_cons, List.map_nil, frz_agg]
      rw [frz_ref (es := ints [0]) (sz := 1) (by simp [ints]) (by simp), List.drop_zero, List.take_of_length_le (by simp), frz_all _ _ (ints_pure _)]
      exact slc_snoc ⟨VLe.nil', .cap _ _, .refl _, trivial⟩
    simp
    refine CallO.pure lives_c (by simp) ?_
    simp
  · -- one more memory, whose write enable is no net
    have hk := sp_mem hsh (m := ⟨[0], [0], (N : Int)⟩) (e := 1) (by simp [mdE, wrB, outB, hN, hN0]) (by omega) (by omega)
    have hwd : ({ c with m := c.m ++ [⟨[0], [0], (N : Int)⟩] } : Ci).wf := ⟨hwf.k, hwf.s⟩
    have hml2 : (mdsW 10001000 20001000 g.ms c.m).length = c.m.length := mdsW_length _ _ _ _
    have htk : List.take c.m.length (mdsW 10001000 20001000 g.ms c.m) = mdsW 10001000 20001000 g.ms c.m := List.take_of_length_le (by omega)
    simp [ho.m, mdsW_length, h12, htk]
    intro ga gb gc gd
    generalize gd 1016 = g1016
    generalize ga 179 = g179
    generalize gb 180 = g180
    refine ⟨by omega, ?_⟩
    refine CallO.borrow 2 (rd_agg hwd hk (pN (c := c) hN hf (by simp [ho.n]) fun i z hz => by simp [show ¬ i + 2000 = 1016 by omega, show ¬ i + 2000 = 185 by omega, show ¬ i + 2000 = 180 by omega, show ¬ i + 2000 = 179 by omega, show ¬ i + 2000 = 7 by omega, ho.i i z hz]) (pS (c := c) hsN (by simp [ho.s])) ?_ (pO (c := c) (by simp [ho.o]))) rfl rfl ?_
    · rw [frz_ref (es := mdsW 10001000 20001000 g.ms c.m ++ [V.agg [V.ref 179 g179 0 1 (some 1), V.ref 180 g180 0 1 (some 1), V.int .i64 (N : Int)]]) (sz := 3) (by simp) (by simp [hml2]), List.drop_zero, List.take_of_length_le (by simp [hml2]), List.map_append, mdsW_frz (n := 0) 10001000 20001000 g.ms c.m hf.m (fun i z hz => by rw [Nat.add_comm 10001000 i]; simp [show ¬ i + 10001000 = 1016 by omega, show ¬ i + 10001000 = 185 by omega, show ¬ i + 10001000 = 180 by omega, show ¬ i + 10001000 = 179 by omega, show ¬ i + 10001000 = 7 by omega, ho.ma i z hz]) (fun i z hz => by rw [Nat.add_comm 20001000 i]; simp [show ¬ i + 20001000 = 1016 by omega, show ¬ i + 20001000 = 185 by omega, show ¬ i + 20001000 = 180 by omega, show ¬ i + 20001000 = 179 by omega, show ¬ i + 20001000 = 7 by omega, ho.md i z hz])]
      simp only [List.map_cons, List.map_nil, frz_agg]
      rw [frz_ref (b := 179) (es := ints [0]) (sz := 1) (by simp [ints]) (by simp), frz_ref (b := 180) (es := ints [0]) (sz := 1) (by simp [ints]) (by simp), List.drop_zero, List.take_of_length_le (by simp), frz_all _ _ (ints_pure _)]
      exact slc_snoc ⟨.cap _ _, .cap _ _, .refl _, trivial⟩
    simp
    refine CallO.pure lives_c (by simp) ?_
    simp
  · -- a loop
    simp
    refine CallO.pure (rcomb2_c y.k) (by simp) ?_
    simp
    refine BrB.of (fun hcb => ?_) (fun hcb => ?_)
    case refine_2 =>
      simp [hcb]
      refine CallO.pure lives_c (by simp) ?_
      simp
    simp [hcb]
    refine BrB.of (fun h13 => ?_) (fun h13 => ?_)
    · simp [h13]
      refine CallO.pure lives_c (by simp) ?_
      simp
    have h13' : y.k ≠ 13 := of_decide_eq_false h13
    by_cases hy0 : y.i = []
    · simp [ho.n, hll, hN, hnN, hget, Nd.w, hy0, h13']
      refine CallO.pure lives_c (by simp) ?_
      simp
    have hyl0 : 0 < y.i.length := List.length_pos_iff.2 hy0
    have hk := sp_loop hsh hnn' (by rw [hnd]; exact hcb) (by rw [hnd]; exact h13') (by rw [hnd]; exact hyl0)
    rw [hnd] at hk
    have hset : (ints y.i).set 0 (.int .i64 (n : Int)) = ints (y.i.set 0 (n : Int)) := ints_setI _ _ _
    simp [ho.n, hll, hN, hnN, hget, Nd.w, h12, hy0, h13', hkn, hyl0, ints_getE, hset, show ¬ 2000 + n = 7 by omega, show ¬ 7 = 2000 + n by omega]
    refine CallO.borrow 2 (ck_own (hyw ⟨y.k, y.i.set 0 (n : Int), y.a, y.b⟩ hyk.1 (show y.k < 256 by omega)) hk) (hfrz _ _ (fits_setn hf) (hmm _) hsN rfl rfl (hI (y.i.set 0 (n : Int)) _ (by simp) (by simp) fun t h1 h2 => by simp [show ¬ t = 7 by omega, h2])) rfl ?_
    simp
    refine CallO.pure lives_c (by simp) ?_
    simp
end Go.Proofs.YtcdfifbabhfknaaDoor
