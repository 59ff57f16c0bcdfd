/- Netlists: the law Copy. Conditions: none. -/
import Derived.Test.YtcdfifbabhfknaaDoorNet14
namespace Go.Proofs.YtcdfifbabhfknaaDoor
open Go
@[simp] theorem cpV_cells (g : CG) (c : Ci) : (cpV g c).cells = [.ref 1010 g.a 0 c.n.length (some c.n.length), .ref 1013 g.b 0 c.s.length (some c.s.length), .ref 1016 g.c 0 c.m.length (some c.m.length), .ref 1019 g.d 0 c.o.length (some c.o.length)] := rfl
@[simp] theorem cpV_cellsOk (g : CG) (c : Ci) : (cpV g c).cellsOk = true := rfl
theorem u8_up (z : Int) : IntKind.u8.wrap (z + 1) ≠ z := by
  rw [IntKind.wrap_u8]; omega
theorem ints_setI (l : List Int) (k : Nat) (z : Int) : (ints l).set k (.int .i64 z) = ints (l.set k z) := by simp [ints, List.map_set]
def headK (c : Ci) : Option Int := c.n.head?.map Nd.k
structure L10 (a : Ci) (g : CG) (i : Nat) (c : Ci) : Prop where
  f : g.fits c
  l : c.lens
  n : c.n.length = a.n.length
  z : i = 0 → headK c = headK a
  s : 0 < i → headK c ≠ headK a
theorem lens_setn {c : Ci} (h : c.lens) {i : Nat} {x : Nd} (hx : x.i.length < 1000000000) : ({ c with n := c.n.set i x } : Ci).lens :=
  ⟨by simpa using h.n, h.s, h.m, h.o, fun y hy => by
    rcases List.mem_or_eq_of_mem_set hy with q | rfl
    · exact h.i y q
    · exact hx, h.a⟩
theorem lens_setm {c : Ci} (h : c.lens) {i : Nat} {x : Md} (hx : x.a.length < 1000000000 ∧ x.d.length < 1000000000) : ({ c with m := c.m.set i x } : Ci).lens :=
  ⟨h.n, h.s, by simpa using h.m, h.o, h.i, fun y hy => by
    rcases List.mem_or_eq_of_mem_set hy with q | rfl
    · exact h.a y q
    · exact hx⟩
theorem fits_setn {g : CG} {c : Ci} (h : g.fits c) {i : Nat} {x : Nd} : g.fits { c with n := c.n.set i x } := ⟨by simpa using h.n, h.m, by simpa using h.nl, h.ml⟩
theorem fits_setm {g : CG} {c : Ci} (h : g.fits c) {i : Nat} {x : Md} : g.fits { c with m := c.m.set i x } := ⟨h.n, by simpa using h.m, h.nl, by simpa using h.ml⟩
theorem headK_set {c : Ci} {i : Nat} {x : Nd} (h : i < c.n.length) (hk : x.k = c.n[i].k) : headK { c with n := c.n.set i x } = headK c := by
  cases hn : c.n with
  | nil => rw [hn] at h; simp at h
  | cons y r =>
    cases i with
    | zero => simp [hn] at hk; simp [headK, hn, hk]
    | succ i => simp [headK, hn]
theorem headK_pos {c : Ci} {i : Nat} {x : Nd} (h : 0 < i) : headK { c with n := c.n.set i x } = headK c := by
  cases hn : c.n with
  | nil => simp [headK, hn]
  | cons y r =>
    cases i with
    | zero => omega
    | succ i => simp [headK, hn]
theorem headK_eq (c : Ci) : headK c = c.n[0]?.map Nd.k := by
  unfold headK
  cases c.n <;> rfl
theorem headK_zero {c : Ci} (h : 0 < c.n.length) {x : Nd} : headK { c with n := c.n.set 0 x } = some x.k ∧ headK c = some c.n[0].k := by
  rw [headK_eq, headK_eq]; simp [h]
theorem fits_seto {g : CG} {c : Ci} (h : g.fits c) {l : List Int} : g.fits { c with o := l } := ⟨h.n, h.m, h.nl, h.ml⟩
theorem lens_seto {c : Ci} (h : c.lens) {l : List Int} (hl : l.length < 1000000000) : ({ c with o := l } : Ci).lens := ⟨h.n, h.s, h.m, hl, h.i, h.a⟩
structure L11 (cn : List Nd) (g : CG) (c : Ci) : Prop where
  f : g.fits c
  l : c.lens
  n : c.n = cn
theorem cpV_set {g : CG} {c : Ci} {i : Nat} {x : Nd} : cpV g { c with n := c.n.set i x } = cpV g c := by simp [cpV]
theorem cpV_setm {g : CG} {c : Ci} {i : Nat} {x : Md} : cpV g { c with m := c.m.set i x } = cpV g c := by simp [cpV]
set_option maxHeartbeats 4000000 in
theorem law10_c (a b : Ci) (hls : greatB a = false → greatB b = false → a.lens ∧ b.lens) : PureC Tryd.prog gl0 10 [a.v, b.v] (.bool true) := by
  refine PureC.of_W 2 ok10 rfl ?_
  simp [i10, x10]
  intro gf2 gf3
  generalize gf2 2 = g2
  generalize gf3 3 = g3
  refine CallO.pure (great_c a) (by simp) ?_
  simp
  refine BrB.of (fun h1 => ?_) (fun h1 => ?_)
  · simp [h1]
    refine CallO.pure lives_c (by simp) ?_
    simp
  simp [h1]
  refine CallO.pure (great_c b) (by simp) ?_
  simp
  refine BrB.of (fun h2 => ?_) (fun h2 => ?_)
  · simp
    refine CallO.pure lives_c (by simp) ?_
    simp
  obtain ⟨hla, hlb⟩ := hls h1 h2
  simp
  refine copy_own a hla (by simp) fun g hf h2 ho hlow => ?_
  have hH2 : lk (h2 ++ [(3, Blk.row g3 4 [b.v]), (2, Blk.row g2 4 [a.v])]) 2 = some (Blk.row g2 4 [a.v]) := by rw [lk_appendO, hlow _ (by omega)]; rfl
  have hH3 : lk (h2 ++ [(3, Blk.row g3 4 [b.v]), (2, Blk.row g2 4 [a.v])]) 3 = some (Blk.row g3 4 [b.v]) := by rw [lk_appendO, hlow _ (by omega)]; rfl
  generalize h2 ++ [(3, Blk.row g3 4 [b.v]), (2, Blk.row g2 4 [a.v])] = H at *
  simp
  intro gf5 gm
  generalize gf5 5 = g5
  have hs1 : PureC Tryd.prog gl0 18 [a.v, a.c] (.bool true) := by
    have := PureC.wide (args := [a.v, a.c]) (same_c a a hla) ⟨.refl _, cic_le a, trivial⟩ (.refl _)
    rwa [sameB_self] at this
  have hs2 : PureC Tryd.prog gl0 35 [a.v, a.c] (.bool true) := by
    have := PureC.wide (args := [a.v, a.c]) (Same_c a a hla) ⟨.refl _, cic_le a, trivial⟩ (.refl _)
    rwa [sameB_self] at this
  have hfr : ∀ h', Own g a h' → [V.agg [.sl (a.n.map Nd.v) none, .sl (a.s.map .str) none, .sl (a.m.map Md.v) none, .sl (ints a.o) none], V.agg [.ref 1010 g.a 0 a.n.length (some a.n.length), .ref 1013 g.b 0 a.s.length (some a.s.length), .ref 1016 g.c 0 a.m.length (some a.m.length), .ref 1019 g.d 0 a.o.length (some a.o.length)]].map (frz h' 2) = [a.v, a.c] := fun h' ho => by
    show [frz h' 2 a.v, frz h' 2 (cpV g a)] = _
    rw [ho.frz hf, frz_pure _ _ (by simp)]
  have ho5 : ∀ k1 k2, Own g a ((5, k1) :: (5, k2) :: H) := fun k1 k2 => ho.mono fun t ht => by simp [show ¬ t = 5 by omega]
  simp [hH2]
  first | refine ⟨_, _, _, .borrow 2 hs1 (hfr _ (ho5 _ _)) rfl, ?_⟩ | refine ⟨_, ⟨_, _, .borrow 2 hs1 (hfr _ (ho5 _ _)) rfl⟩, ?_⟩ | refine ⟨_, _, ⟨_, .borrow 2 hs1 (hfr _ (ho5 _ _)) rfl⟩, ?_⟩
  simp [hH2]
  first | refine ⟨_, _, _, .borrow 2 hs2 (hfr _ (ho5 _ _)) rfl, ?_⟩ | refine ⟨_, ⟨_, _, .borrow 2 hs2 (hfr _ (ho5 _ _)) rfl⟩, ?_⟩ | refine ⟨_, _, ⟨_, .borrow 2 hs2 (hfr _ (ho5 _ _)) rfl⟩, ?_⟩
  simp [hH2, hH3]
  first | refine ⟨_, _, _, .pure (Same_c a b hla) (by simp), ?_⟩ | refine ⟨_, ⟨_, _, .pure (Same_c a b hla) (by simp)⟩, ?_⟩ | refine ⟨_, _, ⟨_, .pure (Same_c a b hla) (by simp)⟩, ?_⟩
  simp [hH2, hH3]
  first | refine ⟨_, _, _, .pure (same_c a b hla) (by simp), ?_⟩ | refine ⟨_, ⟨_, _, .pure (same_c a b hla) (by simp)⟩, ?_⟩ | refine ⟨_, _, ⟨_, .pure (same_c a b hla) (by simp)⟩, ?_⟩
  simp [hH2]
  refine ⟨by simp [indAll, snocF, indF, memN], ?_⟩
  refine CallO.pure (copyV_c a hla) (by simp) ?_
  simp
  intro gf6
  generalize gf6 6 = g6
  refine LoopP.of (X := Nat × Ci) (fun y => [(7, natV y.1), (2, .ptr 2 g2 0 0), (5, .ptr 5 g5 0 0), (6, .ptr 6 g6 0 0)]) (fun y => (5, .row g5 4 [cpV g y.2]) :: (2, .row g2 4 [a.v]) :: (6, .row g6 4 [a.v]) :: cpH g y.2)
    (fun y => y.1 ≤ a.n.length ∧ L10 a g y.1 y.2) (fun y => a.n.length - y.1) (0, a) ⟨by simp, hf, hla, rfl, fun _ => rfl, fun h => absurd h (by simp)⟩ (by simp [natV]) ?_ ?_
  · simp [hH2]
    refine ⟨rfl, rfl, ?_⟩
    exact (ho.mono fun t ht => by simp [show ¬ t = 5 by omega, show ¬ t = 6 by omega]).sub
  rintro ⟨i, c⟩ ⟨k1, k2⟩
  dsimp only at k1 k2 ⊢
  have hoc := own_cpH k2.f
  generalize cpH g c = Hc at hoc ⊢
  simp [natV]
  refine BrB.of (fun hb => ?_) (fun hb => ?_)
  · have hi : i < c.n.length := of_decide_eq_true hb
    have hw := wrapN i (by have := k2.f.nl; omega)
    have hcn := k2.n
    obtain ⟨m, hm⟩ : ∃ m, c.n[i].i.length = m := ⟨_, rfl⟩
    have hml : m < 1000000000 := by rw [← hm]; exact k2.l.i _ (List.getElem_mem hi)
    simp
    refine LoopP.of (X := Nat × Ci) (fun y => [(8, natV y.1), (7, natV i), (2, .ptr 2 g2 0 0), (5, .ptr 5 g5 0 0), (6, .ptr 6 g6 0 0)]) (fun y => (5, .row g5 4 [cpV g y.2]) :: (2, .row g2 4 [a.v]) :: (6, .row g6 4 [a.v]) :: cpH g y.2)
      (fun y => y.1 ≤ m ∧ y.2.n[i]?.map (fun x => x.i.length) = some m ∧ L10 a g i y.2) (fun y => m - y.1) (0, c) ⟨by simp, by simp [hi, hm], k2⟩ (by simp [natV]) (by simp [cpV]; exact (hoc.mono fun t ht => by simp [show ¬ t = 5 by omega, show ¬ t = 6 by omega, show ¬ t = 2 by omega]).sub) ?_
    rintro ⟨k, d⟩ ⟨q1, q2, q3⟩
    dsimp only at q1 q2 q3 ⊢
    have hod := own_cpH q3.f
    generalize cpH g d = Hd at hod ⊢
    have hid : i < d.n.length := by rw [q3.n, ← k2.n]; exact hi
    obtain ⟨x, hx⟩ : ∃ x, d.n[i] = x := ⟨_, rfl⟩
    have hxm : x.i.length = m := by simpa [hid, hx] using q2
    have hll : (ndsW 2000 g.gs d.n).length = d.n.length := ndsW_length _ _ _
    have hg0 := ndsW_getA 2000 g.gs d.n i hid q3.f.n
    rw [hx] at hg0
    have hlt : i < (ndsW 2000 g.gs d.n).length := by rw [hll]; exact hid
    have hget : (ndsW 2000 g.gs d.n)[i] = x.w (2000 + i) (g.gs.getD i 0) := by rw [List.getElem?_eq_getElem hlt] at hg0; exact Option.some.inj hg0
    have hki : lk Hd (2000 + i) = some (.row (g.gs.getD i 0) 1 (ints x.i)) := by
      rw [Nat.add_comm]; exact hod.i i _ (by rw [ndI_get hid q3.f.n, hx])
    simp [natV, hod.n, hll, hid, hget, Nd.w]
    refine BrB.of (fun hb2 => ?_) (fun hb2 => ?_)
    · have hk : k < x.i.length := of_decide_eq_true hb2
      have hwk := wrapN k (by omega)
      obtain ⟨z, hz⟩ : ∃ z, x.i[k] = z := ⟨_, rfl⟩
      simp [hod.n, hll, hid, hget, Nd.w, hki, hk, ints_getE, hz, hwk, show ¬ 2000 + i = 5 by omega, show ¬ 2000 + i = 2 by omega, show ¬ 2000 + i = 6 by omega, ints_setI]
      have hup := hod.upd_i (h' := (2000 + i, Blk.row (g.gs.getD i 0) 1 (ints (x.i.set k (IntKind.i64.wrap (z + 1))))) :: (5, Blk.row g5 4 [cpV g d]) :: (2, Blk.row g2 4 [a.v]) :: (6, Blk.row g6 4 [a.v]) :: Hd) q3.f hid (x := { x with i := x.i.set k (IntKind.i64.wrap (z + 1)) }) (by simp [hx]) (by simp [hx]) (by simp [hx]) (by simp [hx]) (by simp) (fun t h1 h2 => by simp [show ¬ t = 5 by omega, show ¬ t = 6 by omega, show ¬ t = 2 by omega, h2])
      refine ⟨k + 1, { d with n := d.n.set i { x with i := x.i.set k (IntKind.i64.wrap (z + 1)) } }, ⟨by omega, by simp [hid, hxm], fits_setn q3.f, lens_setn q3.l (by simpa [hxm] using hml), by simpa using q3.n, fun e => by rw [headK_set hid (by simp [hx])]; exact q3.z e, fun e => by rw [headK_set hid (by simp [hx])]; exact q3.s e⟩, by simp, ?_, by omega⟩
      simp [cpV_set, show ¬ 5 = 2000 + i by omega, show ¬ 2 = 2000 + i by omega, show ¬ 6 = 2000 + i by omega]
      simpa using hup.sub
    · have hu := u8_up x.k
      obtain ⟨z, hz⟩ : ∃ z, IntKind.u8.wrap (x.k + 1) = z := ⟨_, rfl⟩
      rw [hz] at hu
      simp [hod.n, hll, hid, hget, Nd.w, hz, hw]
      have hup := hod.upd_n (h' := (1010, Blk.row g.a 4 ((ndsW 2000 g.gs d.n).set i (({ x with k := z } : Nd).w (2000 + i) (g.gs.getD i 0)))) :: (5, Blk.row g5 4 [cpV g d]) :: (2, Blk.row g2 4 [a.v]) :: (6, Blk.row g6 4 [a.v]) :: Hd) q3.f hid (x := { x with k := z }) (by simp [hx]) (by simp) (fun t h1 h2 => by simp [show ¬ t = 5 by omega, show ¬ t = 6 by omega, show ¬ t = 2 by omega, h2])
      refine ⟨i + 1, { d with n := d.n.set i { x with k := z } }, ⟨by omega, fits_setn q3.f, lens_setn q3.l (by simp only []; omega), by simpa using q3.n, fun e => by omega, fun _ => ?_⟩, by simp, ⟨cpV_set.symm, by simpa [Nd.w] using hup.sub⟩, by omega⟩
      by_cases h0 : i = 0
      · subst h0
        obtain ⟨e1, e2⟩ := headK_zero (c := d) hid (x := { x with k := z })
        rw [e1, ← q3.z rfl, e2, hx]
        simpa using hu
      · rw [headK_pos (by omega)]
        exact q3.s (by omega)
  · have hi : i = c.n.length := by have := of_decide_eq_false hb; have := k2.n; omega
    have hhd : c.n ≠ [] → headK c ≠ headK a := fun h => k2.s (by have := List.length_pos_iff.2 h; omega)
    obtain ⟨cn, hcn⟩ : ∃ l, c.n = l := ⟨_, rfl⟩
    obtain ⟨M, hM⟩ : ∃ M, c.m.length = M := ⟨_, rfl⟩
    have hMl : M < 1000000 := by rw [← hM]; exact k2.f.ml
    simp
    refine LoopP.of (X := Nat × Ci) (fun y => [(9, natV y.1), (2, .ptr 2 g2 0 0), (5, .ptr 5 g5 0 0), (6, .ptr 6 g6 0 0)]) (fun y => (5, .row g5 4 [cpV g y.2]) :: (2, .row g2 4 [a.v]) :: (6, .row g6 4 [a.v]) :: cpH g y.2)
      (fun y => y.1 ≤ M ∧ y.2.m.length = M ∧ L11 cn g y.2) (fun y => M - y.1) (0, c) ⟨by simp, hM, k2.f, k2.l, hcn⟩ (by simp [natV]) (by simp [cpV]; exact (hoc.mono fun t ht => by simp [show ¬ t = 5 by omega, show ¬ t = 6 by omega, show ¬ t = 2 by omega]).sub) ?_
    have hh : cn ≠ [] → cn[0]?.map Nd.k ≠ headK a := fun h => by rw [← hcn, ← headK_eq]; exact hhd (by rw [hcn]; exact h)
    clear hoc hhd hcn hM k2 hi hb k1
    clear Hc c i
    rintro ⟨i, c⟩ ⟨k1, k2, k3⟩
    dsimp only at k1 k2 k3 ⊢
    have hoc := own_cpH k3.f
    generalize cpH g c = Hc at hoc ⊢
    simp [natV]
    refine BrB.of (fun hb => ?_) (fun hb => ?_)
    · have hi : i < c.m.length := of_decide_eq_true hb
      have hw := wrapN i (by omega)
      obtain ⟨m1, hm1⟩ : ∃ m, c.m[i].a.length = m := ⟨_, rfl⟩
      obtain ⟨m2, hm2⟩ : ∃ m, c.m[i].d.length = m := ⟨_, rfl⟩
      have hml : m1 < 1000000000 ∧ m2 < 1000000000 := by rw [← hm1, ← hm2]; exact k3.l.a _ (List.getElem_mem hi)
      simp
      refine LoopP.of (X := Nat × Ci) (fun y => [(10, natV y.1), (9, natV i), (2, .ptr 2 g2 0 0), (5, .ptr 5 g5 0 0), (6, .ptr 6 g6 0 0)]) (fun y => (5, .row g5 4 [cpV g y.2]) :: (2, .row g2 4 [a.v]) :: (6, .row g6 4 [a.v]) :: cpH g y.2)
        (fun y => y.1 ≤ m1 ∧ y.2.m[i]?.map (fun x => (x.a.length, x.d.length)) = some (m1, m2) ∧ y.2.m.length = M ∧ L11 cn g y.2) (fun y => m1 - y.1) (0, c) ⟨by simp, by simp [hi, hm1, hm2], k2, k3⟩ (by simp [natV]) (by simp [cpV]; exact (hoc.mono fun t ht => by simp [show ¬ t = 5 by omega, show ¬ t = 6 by omega, show ¬ t = 2 by omega]).sub) ?_
      rintro ⟨k, d⟩ ⟨q1, q2, q3, q4⟩
      dsimp only at q1 q2 q3 q4 ⊢
      have hod := own_cpH q4.f
      generalize cpH g d = Hd at hod ⊢
      have hid : i < d.m.length := by omega
      obtain ⟨x, hx⟩ : ∃ x, d.m[i] = x := ⟨_, rfl⟩
      have hxm : x.a.length = m1 ∧ x.d.length = m2 := by simpa [hid, hx] using q2
      have hll : (mdsW 10001000 20001000 g.ms d.m).length = d.m.length := mdsW_length _ _ _ _
      have hg0 := mdsW_getA 10001000 20001000 g.ms d.m i hid q4.f.m
      rw [hx] at hg0
      have hlt : i < (mdsW 10001000 20001000 g.ms d.m).length := by rw [hll]; exact hid
      have hget : (mdsW 10001000 20001000 g.ms d.m)[i] = x.w' (10001000 + i) (g.ms.getD i (0, 0)).1 (20001000 + i) (g.ms.getD i (0, 0)).2 := by rw [List.getElem?_eq_getElem hlt] at hg0; exact Option.some.inj hg0
      have hki : lk Hd (10001000 + i) = some (.row (g.ms.getD i (0, 0)).1 1 (ints x.a)) := by
        rw [Nat.add_comm]; exact hod.ma i _ (by rw [mdA_get hid q4.f.m, hx])
      simp [natV, hod.m, hll, hid, hget, Md.w']
      refine BrB.of (fun hb2 => ?_) (fun hb2 => ?_)
      · have hk : k < x.a.length := of_decide_eq_true hb2
        have hwk := wrapN k (by omega)
        obtain ⟨z, hz⟩ : ∃ z, x.a[k] = z := ⟨_, rfl⟩
        simp [hod.m, hll, hid, hget, Md.w', hki, hk, ints_getE, hz, hwk, show ¬ 10001000 + i = 5 by omega, show ¬ 10001000 + i = 2 by omega, show ¬ 10001000 + i = 6 by omega, ints_setI]
        have hup := hod.upd_a (h' := (10001000 + i, Blk.row (g.ms.getD i (0, 0)).1 1 (ints (x.a.set k (IntKind.i64.wrap (z + 1))))) :: (5, Blk.row g5 4 [cpV g d]) :: (2, Blk.row g2 4 [a.v]) :: (6, Blk.row g6 4 [a.v]) :: Hd) q4.f hid (x := { x with a := x.a.set k (IntKind.i64.wrap (z + 1)) }) (by simp [hx]) (by simp [hx]) (by simp [hx]) (by simp) (fun t h1 h2 => by simp [show ¬ t = 5 by omega, show ¬ t = 6 by omega, show ¬ t = 2 by omega, h2])
        refine ⟨k + 1, { d with m := d.m.set i { x with a := x.a.set k (IntKind.i64.wrap (z + 1)) } }, ⟨by omega, by simp [hid, hxm], by simpa using q3, fits_setm q4.f, lens_setm q4.l (by simp only [List.length_set]; omega), q4.n⟩, by simp, ?_, by omega⟩
        simp [cpV_setm, show ¬ 5 = 10001000 + i by omega, show ¬ 2 = 10001000 + i by omega, show ¬ 6 = 10001000 + i by omega]
        simpa using hup.sub
      · simp
        refine LoopP.of (X := Nat × Ci) (fun y => [(11, natV y.1), (9, natV i), (2, .ptr 2 g2 0 0), (5, .ptr 5 g5 0 0), (6, .ptr 6 g6 0 0)]) (fun y => (5, .row g5 4 [cpV g y.2]) :: (2, .row g2 4 [a.v]) :: (6, .row g6 4 [a.v]) :: cpH g y.2)
          (fun y => y.1 ≤ m2 ∧ y.2.m[i]?.map (fun x => (x.a.length, x.d.length)) = some (m1, m2) ∧ y.2.m.length = M ∧ L11 cn g y.2) (fun y => m2 - y.1) (0, d) ⟨by simp, q2, q3, q4⟩ (by simp [natV]) (by simp [cpV]; exact (hod.mono fun t ht => by simp [show ¬ t = 5 by omega, show ¬ t = 6 by omega, show ¬ t = 2 by omega]).sub) ?_
        clear q1 q2 q3 q4 hod hid hxm hll hg0 hget hki hlt hb2 hx
        clear Hd x k d
        rintro ⟨k, d⟩ ⟨q1, q2, q3, q4⟩
        dsimp only at q1 q2 q3 q4 ⊢
        have hod := own_cpH q4.f
        generalize cpH g d = Hd at hod ⊢
        have hid : i < d.m.length := by omega
        obtain ⟨x, hx⟩ : ∃ x, d.m[i] = x := ⟨_, rfl⟩
        have hxm : x.a.length = m1 ∧ x.d.length = m2 := by simpa [hid, hx] using q2
        have hll : (mdsW 10001000 20001000 g.ms d.m).length = d.m.length := mdsW_length _ _ _ _
        have hg0 := mdsW_getA 10001000 20001000 g.ms d.m i hid q4.f.m
        rw [hx] at hg0
        have hlt : i < (mdsW 10001000 20001000 g.ms d.m).length := by rw [hll]; exact hid
        have hget : (mdsW 10001000 20001000 g.ms d.m)[i] = x.w' (10001000 + i) (g.ms.getD i (0, 0)).1 (20001000 + i) (g.ms.getD i (0, 0)).2 := by rw [List.getElem?_eq_getElem hlt] at hg0; exact Option.some.inj hg0
        have hki : lk Hd (20001000 + i) = some (.row (g.ms.getD i (0, 0)).2 1 (ints x.d)) := by
          rw [Nat.add_comm]; exact hod.md i _ (by rw [mdD_get hid q4.f.m, hx])
        simp [natV, hod.m, hll, hid, hget, Md.w']
        refine BrB.of (fun hb2 => ?_) (fun hb2 => ?_)
        · have hk : k < x.d.length := of_decide_eq_true hb2
          have hwk := wrapN k (by omega)
          obtain ⟨z, hz⟩ : ∃ z, x.d[k] = z := ⟨_, rfl⟩
          simp [hod.m, hll, hid, hget, Md.w', hki, hk, ints_getE, hz, hwk, show ¬ 20001000 + i = 5 by omega, show ¬ 20001000 + i = 2 by omega, show ¬ 20001000 + i = 6 by omega, ints_setI]
          have hup := hod.upd_d (h' := (20001000 + i, Blk.row (g.ms.getD i (0, 0)).2 1 (ints (x.d.set k (IntKind.i64.wrap (z + 1))))) :: (5, Blk.row g5 4 [cpV g d]) :: (2, Blk.row g2 4 [a.v]) :: (6, Blk.row g6 4 [a.v]) :: Hd) q4.f hid (x := { x with d := x.d.set k (IntKind.i64.wrap (z + 1)) }) (by simp [hx]) (by simp [hx]) (by simp [hx]) (by simp) (fun t h1 h2 => by simp [show ¬ t = 5 by omega, show ¬ t = 6 by omega, show ¬ t = 2 by omega, h2])
          refine ⟨k + 1, { d with m := d.m.set i { x with d := x.d.set k (IntKind.i64.wrap (z + 1)) } }, ⟨by omega, by simp [hid, hxm], by simpa using q3, fits_setm q4.f, lens_setm q4.l (by simp only [List.length_set]; omega), q4.n⟩, by simp, ?_, by omega⟩
          simp [cpV_setm, show ¬ 5 = 20001000 + i by omega, show ¬ 2 = 20001000 + i by omega, show ¬ 6 = 20001000 + i by omega]
          simpa using hup.sub
        · simp [hw]
          refine ⟨i + 1, d, ⟨by omega, q3, q4⟩, by simp, ⟨rfl, ?_⟩, by omega⟩
          exact (hod.mono fun t ht => by simp [show ¬ t = 5 by omega, show ¬ t = 6 by omega, show ¬ t = 2 by omega]).sub
    · simp
      obtain ⟨m, hm⟩ : ∃ m, c.o.length = m := ⟨_, rfl⟩
      have hml : m < 1000000000 := by rw [← hm]; exact k3.l.o
      refine LoopP.of (X := Nat × Ci) (fun y => [(12, natV y.1), (2, .ptr 2 g2 0 0), (5, .ptr 5 g5 0 0), (6, .ptr 6 g6 0 0)]) (fun y => (5, .row g5 4 [cpV g y.2]) :: (2, .row g2 4 [a.v]) :: (6, .row g6 4 [a.v]) :: cpH g y.2)
        (fun y => y.1 ≤ m ∧ y.2.o.length = m ∧ L11 cn g y.2) (fun y => m - y.1) (0, c) ⟨by simp, hm, k3⟩ (by simp [natV]) (by simp [cpV]; exact (hoc.mono fun t ht => by simp [show ¬ t = 5 by omega, show ¬ t = 6 by omega, show ¬ t = 2 by omega]).sub) ?_
      clear hoc k1 k2 k3 hb hm
      clear Hc c i
      rintro ⟨k, d⟩ ⟨q1, q2, q4⟩
      dsimp only at q1 q2 q4 ⊢
      have hod := own_cpH q4.f
      generalize cpH g d = Hd at hod ⊢
      simp [natV]
      refine BrB.of (fun hb => ?_) (fun hb => ?_)
      · have hk : k < d.o.length := of_decide_eq_true hb
        have hwk := wrapN k (by omega)
        obtain ⟨z, hz⟩ : ∃ z, d.o[k] = z := ⟨_, rfl⟩
        simp [hod.o, hk, ints_getE, hz, hwk, ints_setI]
        have hup := hod.upd_o (h' := (1019, Blk.row g.d 1 (ints (d.o.set k (IntKind.i64.wrap (z + 1))))) :: (5, Blk.row g5 4 [cpV g d]) :: (2, Blk.row g2 4 [a.v]) :: (6, Blk.row g6 4 [a.v]) :: Hd) (l := d.o.set k (IntKind.i64.wrap (z + 1))) (by simp) (fun t h1 h2 => by simp [show ¬ t = 5 by omega, show ¬ t = 6 by omega, show ¬ t = 2 by omega, h2])
        refine ⟨k + 1, { d with o := d.o.set k (IntKind.i64.wrap (z + 1)) }, ⟨by omega, by simpa using q2, fits_seto q4.f, lens_seto q4.l (by simpa [q2] using hml), q4.n⟩, by simp, ⟨by simp [cpV], hup.sub⟩, by omega⟩
      · simp
        refine CallO.pure (same_c a a hla) (by simp) ?_
        rw [sameB_self]
        simp
        have hod5 : Own g d ((5, Blk.row g5 4 [cpV g d]) :: (2, Blk.row g2 4 [a.v]) :: (6, Blk.row g6 4 [a.v]) :: Hd) := hod.mono fun t ht => by simp [show ¬ t = 5 by omega, show ¬ t = 6 by omega, show ¬ t = 2 by omega]
        refine BrB.of (fun hb2 => ?_) (fun hb2 => ?_)
        · simp [hb2]
          refine CallO.pure lives_c (by simp) ?_
          simp
        · have hb2' := of_decide_eq_false hb2
          have hcn : cn ≠ [] := fun e => hb2' (by simp [q4.n, e])
          have hne : a ≠ d := fun e => hh hcn (by rw [← q4.n, ← headK_eq, e])
          have hs3 : PureC Tryd.prog gl0 35 [a.v, d.c] (.bool false) := by
            have := PureC.wide (args := [a.v, d.c]) (Same_c a d hla) ⟨.refl _, cic_le d, trivial⟩ (.refl _)
            rwa [show sameB a d = false by simp [sameB, hne]] at this
          simp [hb2]
          refine CallO.borrow 2 hs3 (?_ : [V.agg [.sl (a.n.map Nd.v) none, .sl (a.s.map .str) none, .sl (a.m.map Md.v) none, .sl (ints a.o) none], cpV g d].map (frz _ 2) = [a.v, d.c]) rfl ?_
          · show [frz _ 2 a.v, frz _ 2 (cpV g d)] = _
            rw [hod5.frz q4.f, frz_pure _ _ (by simp)]
          simp
          refine CallO.pure lives_c (by simp) ?_
          simp
end Go.Proofs.YtcdfifbabhfknaaDoor
