/- Netlists: two circuits compared; the law Copy. Conditions: none. -/
import Derived.Test.YtmbgmfenlededaaGreatDoorNet10
namespace Go.Proofs.YtmbgmfenlededaaGreatDoor
open Go
theorem equal_c (a b : List Int) (ca cb : Option Nat) (hl : a.length < 1000000000000) : PureC Tryz.prog gl0 62 [.sl (ints a) ca, .sl (ints b) cb] (.bool (decide (a = b))) := by
  obtain ⟨q, hq⟩ : ∃ r, decide (a = b) = r := ⟨_, rfl⟩
  rw [hq]
  have hne : a ≠ b → q = false := fun h => by rw [← hq]; simp [h]
  have heq : a = b → q = true := fun h => by rw [← hq]; simp [h]
  refine PureC.of_W 2 ok62 rfl ?_
  simp [i62, x62]
  refine BrB.of (fun h1 => ?_) (fun h1 => ?_)
  · have hab : a.length = b.length := of_decide_eq_true h1
    simp
    refine LoopP.of (X := Nat) (fun i => [(13, natV i), (12, natV a.length), (11, .sl (ints a) ca), (1, .sl (ints b) cb), (0, .sl (ints a) ca)]) (fun _ => [])
      (fun i => i ≤ a.length ∧ a.take i = b.take i) (fun i => a.length - i) 0 ⟨by simp, by simp⟩ (by simp [natV]) (by simp) ?_
    rintro i ⟨h3, h4⟩
    simp [natV]
    refine BrB.of (fun h5 => ?_) (fun h5 => ?_)
    · have hi : i < a.length := of_decide_eq_true h5
      have hj : i < b.length := by omega
      have hw := wrapN i (by omega)
      simp [hi, hj, ints_getE]
      refine BrB.of (fun h6 => ?_) (fun h6 => ?_)
      · have he : a[i] = b[i] := of_decide_eq_true h6
        simp [hw]
        refine ⟨i + 1, ⟨by omega, ?_⟩, rfl, by omega⟩
        rw [List.take_succ_eq_append_getElem hi, List.take_succ_eq_append_getElem hj, h4, he]
      · have he : ¬ a[i] = b[i] := of_decide_eq_false h6
        have := hne fun e => by subst e; exact he rfl
        simp [this]
    · have hi : i = a.length := by have := of_decide_eq_false h5; omega
      have : a = b := by rw [hi, List.take_length, hab, List.take_length] at h4; exact h4
      simp [heq this]
  · have hab : ¬ a.length = b.length := of_decide_eq_false h1
    have := hne fun e => hab (by rw [e])
    simp [this]
theorem equalS_c (a b : List (List UInt8)) (ca cb : Option Nat) (hl : a.length < 1000000000000) : PureC Tryz.prog gl0 65 [.sl (a.map .str) ca, .sl (b.map .str) cb] (.bool (decide (a = b))) := by
  obtain ⟨q, hq⟩ : ∃ r, decide (a = b) = r := ⟨_, rfl⟩
  rw [hq]
  have hne : a ≠ b → q = false := fun h => by rw [← hq]; simp [h]
  have heq : a = b → q = true := fun h => by rw [← hq]; simp [h]
  refine PureC.of_W 2 ok65 rfl ?_
  simp [i65, x65]
  refine BrB.of (fun h1 => ?_) (fun h1 => ?_)
  · have hab : a.length = b.length := of_decide_eq_true h1
    simp
    refine LoopP.of (X := Nat) (fun i => [(13, natV i), (12, natV a.length), (11, .sl (a.map .str) ca), (1, .sl (b.map .str) cb), (0, .sl (a.map .str) ca)]) (fun _ => [])
      (fun i => i ≤ a.length ∧ a.take i = b.take i) (fun i => a.length - i) 0 ⟨by simp, by simp⟩ (by simp [natV]) (by simp) ?_
    rintro i ⟨h3, h4⟩
    simp [natV]
    refine BrB.of (fun h5 => ?_) (fun h5 => ?_)
    · have hi : i < a.length := of_decide_eq_true h5
      have hj : i < b.length := by omega
      have hw := wrapN i (by omega)
      simp [hi, hj]
      refine BrB.of (fun h6 => ?_) (fun h6 => ?_)
      · have he : a[i] = b[i] := of_decide_eq_true h6
        simp [hw]
        refine ⟨i + 1, ⟨by omega, ?_⟩, rfl, by omega⟩
        rw [List.take_succ_eq_append_getElem hi, List.take_succ_eq_append_getElem hj, h4, he]
      · have he : ¬ a[i] = b[i] := of_decide_eq_false h6
        have := hne fun e => by subst e; exact he rfl
        simp [this]
    · have hi : i = a.length := by have := of_decide_eq_false h5; omega
      have : a = b := by rw [hi, List.take_length, hab, List.take_length] at h4; exact h4
      simp [heq this]
  · have hab : ¬ a.length = b.length := of_decide_eq_false h1
    have := hne fun e => hab (by rw [e])
    simp [this]
open Classical in
noncomputable def nodeB (a b : Nd) : Bool := decide (a = b)
open Classical in
noncomputable def memB (a b : Md) : Bool := decide (a = b)
open Classical in
noncomputable def nodesB (a b : List Nd) : Bool := decide (a = b)
open Classical in
noncomputable def memsB (a b : List Md) : Bool := decide (a = b)
theorem nodeB_c (a b : Nd) (hl : a.i.length < 1000000000000) : PureC Tryz.prog gl0 61 [a.v, b.v] (.bool (nodeB a b)) := by
  obtain ⟨q, hq⟩ : ∃ r, nodeB a b = r := ⟨_, rfl⟩
  rw [hq]
  have hne : a ≠ b → q = false := fun h => by rw [← hq, nodeB]; simp [h]
  have heq : a = b → q = true := fun h => by rw [← hq, nodeB]; simp [h]
  refine PureC.of_W 2 ok61 rfl ?_
  simp [i61, x61, Nd.v]
  intro g1 g2
  refine BrB.of (fun h1 => ?_) (fun h1 => ?_)
  · have h1' := of_decide_eq_true h1
    simp [h1]
    refine CallO.pure (equal_c a.i b.i none none hl) (by simp) ?_
    by_cases h2 : a.i = b.i
    · simp [h2]
      refine BrB.of (fun h3 => ?_) (fun h3 => ?_)
      · have h3' := of_decide_eq_true h3
        simp [h3]
        by_cases h4 : a.b = b.b
        · have := heq (by cases a; cases b; simp at *; exact ⟨h1', h2, h3', h4⟩)
          simp [h4, this]
        · have := hne fun e => h4 (by rw [e])
          simp [h4, this]
      · have h3' := of_decide_eq_false h3
        have := hne fun e => h3' (by rw [e])
        simp [h3, this]
    · have := hne fun e => h2 (by rw [e])
      simp [h2, this]
  · have h1' := of_decide_eq_false h1
    have := hne fun e => h1' (by rw [e])
    simp [h1, this]
theorem memB_c (a b : Md) (hl : a.a.length < 1000000000000) (hd : a.d.length < 1000000000000) : PureC Tryz.prog gl0 63 [a.v, b.v] (.bool (memB a b)) := by
  obtain ⟨q, hq⟩ : ∃ r, memB a b = r := ⟨_, rfl⟩
  rw [hq]
  have hne : a ≠ b → q = false := fun h => by rw [← hq, memB]; simp [h]
  have heq : a = b → q = true := fun h => by rw [← hq, memB]; simp [h]
  refine PureC.of_W 2 ok63 rfl ?_
  simp [i63, x63, Md.v]
  intro g1 g2
  refine CallO.pure (equal_c a.a b.a none none hl) (by simp) ?_
  by_cases h1 : a.a = b.a
  · simp [h1]
    refine CallO.pure (equal_c a.d b.d none none hd) (by simp) ?_
    by_cases h2 : a.d = b.d
    · simp [h2]
      by_cases h3 : a.w = b.w
      · have := heq (by cases a; cases b; simp at *; exact ⟨h1, h2, h3⟩)
        simp [h3, this]
      · have := hne fun e => h3 (by rw [e])
        simp [h3, this]
    · have := hne fun e => h2 (by rw [e])
      simp [h2, this]
  · have := hne fun e => h1 (by rw [e])
    simp [h1, this]
theorem eqNds_c (a b : List Nd) (hl : a.length < 1000000000) (hi : ∀ x ∈ a, x.i.length < 1000000000) : PureC Tryz.prog gl0 64 [.sl (a.map Nd.v) none, .sl (b.map Nd.v) none, .fn 61 [] []] (.bool (nodesB a b)) := by
  obtain ⟨q, hq⟩ : ∃ r, nodesB a b = r := ⟨_, rfl⟩
  rw [hq]
  have hne : a ≠ b → q = false := fun h => by rw [← hq, nodesB]; simp [h]
  have heq : a = b → q = true := fun h => by rw [← hq, nodesB]; simp [h]
  refine PureC.of_W 2 ok64 rfl ?_
  simp [i64, x64]
  refine BrB.of (fun h1 => ?_) (fun h1 => ?_)
  · have hab : a.length = b.length := of_decide_eq_true h1
    simp
    refine LoopP.of (X := Nat) (fun i => [(17, natV i), (16, natV a.length), (15, .sl (a.map Nd.v) none), (1, .sl (b.map Nd.v) none), (2, .fn 61 [] [])]) (fun _ => [])
      (fun i => i ≤ a.length ∧ a.take i = b.take i) (fun i => a.length - i) 0 ⟨by simp, by simp⟩ (by simp [natV]) (by simp) ?_
    rintro i ⟨h3, h4⟩
    simp [natV]
    refine BrB.of (fun h5 => ?_) (fun h5 => ?_)
    · have hia : i < a.length := of_decide_eq_true h5
      have hj : i < b.length := by omega
      have hw := wrapN i (by omega)
      have hxl := hi _ (List.getElem_mem hia)
      simp [hia, hj]
      intro g8 g9
      refine CallO.pure (nodeB_c a[i] b[i] (by omega)) (by simp) ?_
      by_cases he : a[i] = b[i]
      · simp [he, nodeB, hw]
        refine ⟨i + 1, ⟨by omega, ?_⟩, rfl, by omega⟩
        rw [List.take_succ_eq_append_getElem hia, List.take_succ_eq_append_getElem hj, h4, he]
      · have := hne fun e => by subst e; exact he rfl
        simp [he, nodeB, this]
    · have hi : i = a.length := by have := of_decide_eq_false h5; omega
      have : a = b := by rw [hi, List.take_length, hab, List.take_length] at h4; exact h4
      simp [heq this]
  · have hab : ¬ a.length = b.length := of_decide_eq_false h1
    have := hne fun e => hab (by rw [e])
    simp [this]
theorem eqMds_c (a b : List Md) (hl : a.length < 1000000000) (hi : ∀ x ∈ a, x.a.length < 1000000000 ∧ x.d.length < 1000000000) : PureC Tryz.prog gl0 66 [.sl (a.map Md.v) none, .sl (b.map Md.v) none, .fn 63 [] []] (.bool (memsB a b)) := by
  obtain ⟨q, hq⟩ : ∃ r, memsB a b = r := ⟨_, rfl⟩
  rw [hq]
  have hne : a ≠ b → q = false := fun h => by rw [← hq, memsB]; simp [h]
  have heq : a = b → q = true := fun h => by rw [← hq, memsB]; simp [h]
  refine PureC.of_W 2 ok66 rfl ?_
  simp [i66, x66]
  refine BrB.of (fun h1 => ?_) (fun h1 => ?_)
  · have hab : a.length = b.length := of_decide_eq_true h1
    simp
    refine LoopP.of (X := Nat) (fun i => [(17, natV i), (16, natV a.length), (15, .sl (a.map Md.v) none), (1, .sl (b.map Md.v) none), (2, .fn 63 [] [])]) (fun _ => [])
      (fun i => i ≤ a.length ∧ a.take i = b.take i) (fun i => a.length - i) 0 ⟨by simp, by simp⟩ (by simp [natV]) (by simp) ?_
    rintro i ⟨h3, h4⟩
    simp [natV]
    refine BrB.of (fun h5 => ?_) (fun h5 => ?_)
    · have hia : i < a.length := of_decide_eq_true h5
      have hj : i < b.length := by omega
      have hw := wrapN i (by omega)
      have hxl := hi _ (List.getElem_mem hia)
      simp [hia, hj]
      intro g8 g9
      refine CallO.pure (memB_c a[i] b[i] (by omega) (by omega)) (by simp) ?_
      by_cases he : a[i] = b[i]
      · simp [he, memB, hw]
        refine ⟨i + 1, ⟨by omega, ?_⟩, rfl, by omega⟩
        rw [List.take_succ_eq_append_getElem hia, List.take_succ_eq_append_getElem hj, h4, he]
      · have := hne fun e => by subst e; exact he rfl
        simp [he, memB, this]
    · have hi : i = a.length := by have := of_decide_eq_false h5; omega
      have : a = b := by rw [hi, List.take_length, hab, List.take_length] at h4; exact h4
      simp [heq this]
  · have hab : ¬ a.length = b.length := of_decide_eq_false h1
    have := hne fun e => hab (by rw [e])
    simp [this]
theorem Same_c (a b : Ci) (hl : a.lens) : PureC Tryz.prog gl0 19 [a.v, b.v] (.bool (sameB a b)) := by
  obtain ⟨q, hq⟩ : ∃ r, sameB a b = r := ⟨_, rfl⟩
  rw [hq]
  have hne : a ≠ b → q = false := fun h => by rw [← hq, sameB]; simp [h]
  have heq : a = b → q = true := fun h => by rw [← hq, sameB]; simp [h]
  refine PureC.of_W 2 ok19 rfl ?_
  simp [i19, x19]
  intro g1 g2
  refine CallO.pure (eqNds_c a.n b.n (by have := hl.n; omega) hl.i) (by simp [V.pure, V.pureL]) ?_
  by_cases h1 : a.n = b.n
  · simp [h1, nodesB]
    refine CallO.pure (equalS_c a.s b.s none none (by have := hl.s; omega)) (by simp) ?_
    by_cases h2 : a.s = b.s
    · simp [h2]
      refine CallO.pure (eqMds_c a.m b.m (by have := hl.m; omega) hl.a) (by simp [V.pure, V.pureL]) ?_
      by_cases h3 : a.m = b.m
      · simp [h3, memsB]
        refine CallO.pure (equal_c a.o b.o none none (by have := hl.o; omega)) (by simp) ?_
        by_cases h4 : a.o = b.o
        · have := heq (by cases a; cases b; simp at *; exact ⟨h1, h2, h3, h4⟩)
          simp [h4, this]
        · have := hne fun e => h4 (by rw [e])
          simp [h4, this]
      · have := hne fun e => h3 (by rw [e])
        simp [h3, memsB, this]
    · have := hne fun e => h2 (by rw [e])
      simp [h2, this]
  · have := hne fun e => h1 (by rw [e])
    simp [h1, nodesB, this]
/-! A circuit in memory of one's own, as a caller of Copy has it: its blocks' numbers are those of the callee, raised by 1000. -/
structure CG where
  a : Nat
  b : Nat
  c : Nat
  d : Nat
  gs : List Nat
  ms : List (Nat × Nat)
def cpV (g : CG) (c : Ci) : V := .agg [.ref 1010 g.a 0 c.n.length (some c.n.length), .ref 1013 g.b 0 c.s.length (some c.s.length), .ref 1016 g.c 0 c.m.length (some c.m.length), .ref 1019 g.d 0 c.o.length (some c.o.length)]
/-- The heap holds the circuit. -/
structure Own (g : CG) (c : Ci) (h : Hp) : Prop where
  n : lk h 1010 = some (.row g.a 4 (ndsW 2000 g.gs c.n))
  s : lk h 1013 = some (.row g.b 1 (c.s.map .str))
  m : lk h 1016 = some (.row g.c 3 (mdsW 10001000 20001000 g.ms c.m))
  o : lk h 1019 = some (.row g.d 1 (ints c.o))
  i : ∀ (i : Nat) x, (ndI g.gs c.n)[i]? = some x → lk h (i + 2000) = some (.row x.1 1 (ints x.2))
  ma : ∀ (i : Nat) x, (mdA g.ms c.m)[i]? = some x → lk h (i + 10001000) = some (.row x.1 1 (ints x.2))
  md : ∀ (i : Nat) x, (mdD g.ms c.m)[i]? = some x → lk h (i + 20001000) = some (.row x.1 1 (ints x.2))
def cpH (g : CG) (c : Ci) : Hp :=
  (1010, .row g.a 4 (ndsW 2000 g.gs c.n)) :: (1013, .row g.b 1 (c.s.map .str)) :: (1016, .row g.c 3 (mdsW 10001000 20001000 g.ms c.m)) :: (1019, .row g.d 1 (ints c.o)) :: (owH 2000 (ndI g.gs c.n) ++ (owH 10001000 (mdA g.ms c.m) ++ owH 20001000 (mdD g.ms c.m)))
structure CG.fits (g : CG) (c : Ci) : Prop where
  n : g.gs.length = c.n.length
  m : g.ms.length = c.m.length
  nl : c.n.length < 1000000
  ml : c.m.length < 1000000
theorem lk_ndI_low {g : CG} {c : Ci} {t : Nat} (h : t < 2000) : lk (owH 2000 (ndI g.gs c.n) ++ (owH 10001000 (mdA g.ms c.m) ++ owH 20001000 (mdD g.ms c.m))) t = none := by
  rw [lk_appendO, lk_owH_low _ _ _ h]
  simp only
  rw [lk_appendO, lk_owH_low _ _ _ (by omega)]
  exact lk_owH_low _ _ _ (by omega)
theorem own_cpH {g : CG} {c : Ci} (hf : g.fits c) : Own g c (cpH g c) := by
  have hgl : (ndI g.gs c.n).length < 1000000 := by rw [ndI_length (by have := hf.n; omega)]; have := hf.n; have := hf.nl; omega
  have hml : (mdA g.ms c.m).length < 1000000 := by rw [mdA_length (by have := hf.m; omega)]; have := hf.m; have := hf.ml; omega
  refine ⟨by simp [cpH], by simp [cpH], by simp [cpH], by simp [cpH], fun i x hx => ?_, fun i x hx => ?_, fun i x hx => ?_⟩
  · simp only [cpH, lk_cons_ne (show i + 2000 ≠ 1010 by omega), lk_cons_ne (show i + 2000 ≠ 1013 by omega), lk_cons_ne (show i + 2000 ≠ 1016 by omega), lk_cons_ne (show i + 2000 ≠ 1019 by omega)]
    rw [lk_appendO, show i + 2000 = 2000 + i by omega, lk_owH, hx]; rfl
  · have hi : i < 1000000 := by have := (List.getElem?_eq_some_iff.1 hx).1; omega
    simp only [cpH, lk_cons_ne (show i + 10001000 ≠ 1010 by omega), lk_cons_ne (show i + 10001000 ≠ 1013 by omega), lk_cons_ne (show i + 10001000 ≠ 1016 by omega), lk_cons_ne (show i + 10001000 ≠ 1019 by omega)]
    rw [lk_appendO, lk_owH_high _ _ _ (by omega)]
    simp only
    rw [lk_appendO, show i + 10001000 = 10001000 + i by omega, lk_owH, hx]; rfl
  · simp only [cpH, lk_cons_ne (show i + 20001000 ≠ 1010 by omega), lk_cons_ne (show i + 20001000 ≠ 1013 by omega), lk_cons_ne (show i + 20001000 ≠ 1016 by omega), lk_cons_ne (show i + 20001000 ≠ 1019 by omega)]
    rw [lk_appendO, lk_owH_high _ _ _ (by omega)]
    simp only
    rw [lk_appendO, lk_owH_high _ _ _ (by omega)]
    simp only
    rw [show i + 20001000 = 20001000 + i by omega, lk_owH, hx]; rfl
theorem Own.sub {g : CG} {c : Ci} {h : Hp} (ho : Own g c h) : Sub (cpH g c) h := by
  refine ⟨ho.n, ho.s, ho.m, ho.o, sub_app.2 ⟨sub_owH _ _ _ fun i x hx => ?_, sub_app.2 ⟨sub_owH _ _ _ fun i x hx => ?_, sub_owH _ _ _ fun i x hx => ?_⟩⟩⟩
  · rw [Nat.add_comm]; exact ho.i i x hx
  · rw [Nat.add_comm]; exact ho.ma i x hx
  · rw [Nat.add_comm]; exact ho.md i x hx
theorem Own.mono {g : CG} {c : Ci} {h h' : Hp} (ho : Own g c h) (hs : ∀ t, 1010 ≤ t → lk h' t = lk h t) : Own g c h' :=
  ⟨by rw [hs _ (by omega)]; exact ho.n, by rw [hs _ (by omega)]; exact ho.s, by rw [hs _ (by omega)]; exact ho.m, by rw [hs _ (by omega)]; exact ho.o, fun i x hx => by rw [hs _ (by omega)]; exact ho.i i x hx, fun i x hx => by rw [hs _ (by omega)]; exact ho.ma i x hx, fun i x hx => by rw [hs _ (by omega)]; exact ho.md i x hx⟩
theorem Own.frz {g : CG} {c : Ci} {h : Hp} (ho : Own g c h) (hf : g.fits c) : Go.Proofs.YtmbgmfenlededaaGreatDoor.frz h 2 (cpV g c) = c.c := by
  rw [cpV, frz_agg]
  simp only [List.map_cons, List.map_nil]
  rw [frz_ref ho.n (by rw [ndsW_length]; omega), frz_ref ho.s (by simp), frz_ref ho.m (by rw [mdsW_length]; omega), frz_ref ho.o (by simp)]
  simp only [List.drop_zero]
  rw [List.take_of_length_le (by rw [ndsW_length]; exact Nat.le_refl _), List.take_of_length_le (by simp), List.take_of_length_le (by rw [mdsW_length]; exact Nat.le_refl _), List.take_of_length_le (by simp), frz_all _ _ (strs_pure _), frz_all _ _ (ints_pure _),
    ndsW_frz (n := 0) 2000 g.gs c.n hf.n fun i y hy => ?_, mdsW_frz (n := 0) 10001000 20001000 g.ms c.m hf.m (fun i y hy => ?_) fun i y hy => ?_]
  · rfl
  · rw [Nat.add_comm]; exact ho.ma i y hy
  · rw [Nat.add_comm]; exact ho.md i y hy
  · rw [Nat.add_comm]; exact ho.i i y hy
/-! What a caller has behind Copy. -/
def upG (gf : Nat → Nat) : Nat → List Nat → List Nat
  | _, [] => []
  | b, g :: r => (gf b + g) :: upG gf (b + 1) r
def upG2 (gf : Nat → Nat) : Nat → Nat → List (Nat × Nat) → List (Nat × Nat)
  | _, _, [] => []
  | b, c, g :: r => (gf b + g.1, gf c + g.2) :: upG2 gf (b + 1) (c + 1) r
@[simp] theorem upG_length (gf : Nat → Nat) (b : Nat) (l : List Nat) : (upG gf b l).length = l.length := by
  induction l generalizing b with
  | nil => rfl
  | cons g r ih => simp [upG, ih]
@[simp] theorem upG2_length (gf : Nat → Nat) (b c : Nat) (l : List (Nat × Nat)) : (upG2 gf b c l).length = l.length := by
  induction l generalizing b c with
  | nil => rfl
  | cons g r ih => simp [upG2, ih]
theorem ndsW_up (gf : Nat → Nat) (b : Nat) : ∀ (gs : List Nat) (l : List Nd), (ndsW b gs l).map (V.rn (upS 1000 gf)) = ndsW (1000 + b) (upG gf (1000 + b) gs) l
  | [], l => by rw [ndsW_nil, upG, ndsW_nil]; exact map_rn_pure (nds_pure l)
  | g :: gs, [] => rfl
  | g :: gs, x :: r => by
    have := ndsW_up gf (b + 1) gs r
    simp only [ndsW, upG, List.map_cons, this]
    congr 1
theorem mdsW_up (gf : Nat → Nat) (b1 b2 : Nat) : ∀ (gs : List (Nat × Nat)) (l : List Md), (mdsW b1 b2 gs l).map (V.rn (upS 1000 gf)) = mdsW (1000 + b1) (1000 + b2) (upG2 gf (1000 + b1) (1000 + b2) gs) l
  | [], l => by rw [mdsW_nil, upG2, mdsW_nil]; exact map_rn_pure (mds_pure l)
  | g :: gs, [] => rfl
  | g :: gs, x :: r => by
    have := mdsW_up gf (b1 + 1) (b2 + 1) gs r
    simp only [mdsW, upG2, List.map_cons, this]
    congr 1
theorem ndI_up (gf : Nat → Nat) (b : Nat) (gs : List Nat) (l : List Nd) (i : Nat) (y : Nat × List Int) (h : (ndI (upG gf b gs) l)[i]? = some y) : ∃ x, (ndI gs l)[i]? = some x ∧ y = (gf (b + i) + x.1, x.2) := by
  induction gs generalizing b l i with
  | nil => simp [ndI, upG] at h
  | cons g r ih =>
    cases l with
    | nil => simp [ndI, upG] at h
    | cons x l =>
      cases i with
      | zero => simp [ndI, upG] at h ⊢; exact h.symm
      | succ i =>
        have := ih (b + 1) l i (by simpa [ndI, upG] using h)
        rw [show b + 1 + i = b + (i + 1) by omega] at this
        simpa [ndI] using this
theorem mdA_up (gf : Nat → Nat) (b c : Nat) (gs : List (Nat × Nat)) (l : List Md) (i : Nat) (y : Nat × List Int) (h : (mdA (upG2 gf b c gs) l)[i]? = some y) : ∃ x, (mdA gs l)[i]? = some x ∧ y = (gf (b + i) + x.1, x.2) := by
  induction gs generalizing b c l i with
  | nil => simp [mdA, upG2] at h
  | cons g r ih =>
    cases l with
    | nil => simp [mdA, upG2] at h
    | cons x l =>
      cases i with
      | zero => simp [mdA, upG2] at h ⊢; exact h.symm
      | succ i =>
        have := ih (b + 1) (c + 1) l i (by simpa [mdA, upG2] using h)
        rw [show b + 1 + i = b + (i + 1) by omega] at this
        simpa [mdA] using this
theorem mdD_up (gf : Nat → Nat) (b c : Nat) (gs : List (Nat × Nat)) (l : List Md) (i : Nat) (y : Nat × List Int) (h : (mdD (upG2 gf b c gs) l)[i]? = some y) : ∃ x, (mdD gs l)[i]? = some x ∧ y = (gf (c + i) + x.1, x.2) := by
  induction gs generalizing b c l i with
  | nil => simp [mdD, upG2] at h
  | cons g r ih =>
    cases l with
    | nil => simp [mdD, upG2] at h
    | cons x l =>
      cases i with
      | zero => simp [mdD, upG2] at h ⊢; exact h.symm
      | succ i =>
        have := ih (b + 1) (c + 1) l i (by simpa [mdD, upG2] using h)
        rw [show c + 1 + i = c + (i + 1) by omega] at this
        simpa [mdD] using this
/-! Changes of a circuit in memory of one's own. -/
theorem ndsW_getA (b : Nat) : ∀ (gs : List Nat) (l : List Nd) (i : Nat) (h : i < l.length), gs.length = l.length → (ndsW b gs l)[i]? = some ((l[i]).w (b + i) (gs.getD i 0))
  | [], l, i, h, e => by rw [← e] at h; simp at h
  | g :: gs, [], i, h, _ => by simp at h
  | g :: gs, x :: r, 0, h, _ => by simp [ndsW]
  | g :: gs, x :: r, i + 1, h, e => by
    have := ndsW_getA (b + 1) gs r i (by simpa using h) (by simpa using e)
    rw [show b + 1 + i = b + (i + 1) by omega] at this
    simpa [ndsW] using this
theorem ndsW_setA (b : Nat) : ∀ (gs : List Nat) (l : List Nd) (i : Nat) (x : Nd), gs.length = l.length → (ndsW b gs l).set i (x.w (b + i) (gs.getD i 0)) = ndsW b gs (l.set i x)
  | [], l, i, x, e => by rw [show l = [] from List.length_eq_zero_iff.1 e.symm]; simp [ndsW]
  | g :: gs, [], i, x, _ => rfl
  | g :: gs, y :: r, 0, x, _ => by simp [ndsW]
  | g :: gs, y :: r, i + 1, x, e => by
    have := ndsW_setA (b + 1) gs r i x (by simpa using e)
    rw [show b + 1 + i = b + (i + 1) by omega] at this
    simpa [ndsW] using this
theorem mdsW_getA (b c : Nat) : ∀ (gs : List (Nat × Nat)) (l : List Md) (i : Nat) (h : i < l.length), gs.length = l.length → (mdsW b c gs l)[i]? = some ((l[i]).w' (b + i) (gs.getD i (0, 0)).1 (c + i) (gs.getD i (0, 0)).2)
  | [], l, i, h, e => by rw [← e] at h; simp at h
  | g :: gs, [], i, h, _ => by simp at h
  | g :: gs, x :: r, 0, h, _ => by simp [mdsW]
  | g :: gs, x :: r, i + 1, h, e => by
    have := mdsW_getA (b + 1) (c + 1) gs r i (by simpa using h) (by simpa using e)
    rw [show b + 1 + i = b + (i + 1) by omega, show c + 1 + i = c + (i + 1) by omega] at this
    simpa [mdsW] using this
theorem mdsW_setA (b c : Nat) : ∀ (gs : List (Nat × Nat)) (l : List Md) (i : Nat) (x : Md), gs.length = l.length → (mdsW b c gs l).set i (x.w' (b + i) (gs.getD i (0, 0)).1 (c + i) (gs.getD i (0, 0)).2) = mdsW b c gs (l.set i x)
  | [], l, i, x, e => by rw [show l = [] from List.length_eq_zero_iff.1 e.symm]; simp [mdsW]
  | g :: gs, [], i, x, _ => rfl
  | g :: gs, y :: r, 0, x, _ => by simp [mdsW]
  | g :: gs, y :: r, i + 1, x, e => by
    have := mdsW_setA (b + 1) (c + 1) gs r i x (by simpa using e)
    rw [show b + 1 + i = b + (i + 1) by omega, show c + 1 + i = c + (i + 1) by omega] at this
    simpa [mdsW] using this
theorem set_same {α : Type} {l : List α} {i : Nat} {x : α} (h : l[i]? = some x) : l.set i x = l := by
  apply List.ext_getElem?
  intro j
  by_cases hj : i = j
  · subst hj
    obtain ⟨h1, h2⟩ := List.getElem?_eq_some_iff.1 h
    rw [List.getElem?_set_self h1, h]
  · rw [List.getElem?_set_ne hj]
theorem ndsW_setI (b : Nat) (gs : List Nat) (l : List Nd) (i : Nat) (h : i < l.length) (e : gs.length = l.length) (x : Nd) (hk : x.k = l[i].k) (ha : x.a = l[i].a) (hb : x.b = l[i].b) (hi : x.i.length = l[i].i.length) : ndsW b gs (l.set i x) = ndsW b gs l := by
  rw [← ndsW_setA b gs l i x e]
  refine set_same ?_
  rw [ndsW_getA b gs l i h e]
  simp [Nd.w, hk, ha, hb, hi]
theorem mdsW_setI (b c : Nat) (gs : List (Nat × Nat)) (l : List Md) (i : Nat) (h : i < l.length) (e : gs.length = l.length) (x : Md) (hk : x.a.length = l[i].a.length) (ha : x.d.length = l[i].d.length) (hb : x.w = l[i].w) : mdsW b c gs (l.set i x) = mdsW b c gs l := by
  rw [← mdsW_setA b c gs l i x e]
  refine set_same ?_
  rw [mdsW_getA b c gs l i h e]
  simp [Md.w', hk, ha, hb]
theorem ndI_get {gs : List Nat} {l : List Nd} {i : Nat} (h : i < l.length) (e : gs.length = l.length) : (ndI gs l)[i]? = some (gs.getD i 0, l[i].i) := by
  simp [ndI, List.getElem?_zipWith, List.getElem?_eq_getElem h, List.getElem?_eq_getElem (show i < gs.length by omega), List.getD_eq_getElem?_getD]
theorem mdA_get {gs : List (Nat × Nat)} {l : List Md} {i : Nat} (h : i < l.length) (e : gs.length = l.length) : (mdA gs l)[i]? = some ((gs.getD i (0, 0)).1, l[i].a) := by
  simp [mdA, List.getElem?_zipWith, List.getElem?_eq_getElem h, List.getElem?_eq_getElem (show i < gs.length by omega), List.getD_eq_getElem?_getD]
theorem mdD_get {gs : List (Nat × Nat)} {l : List Md} {i : Nat} (h : i < l.length) (e : gs.length = l.length) : (mdD gs l)[i]? = some ((gs.getD i (0, 0)).2, l[i].d) := by
  simp [mdD, List.getElem?_zipWith, List.getElem?_eq_getElem h, List.getElem?_eq_getElem (show i < gs.length by omega), List.getD_eq_getElem?_getD]
theorem ndI_set {gs : List Nat} {l : List Nd} {i j : Nat} {x : Nd} (hij : i ≠ j) : (ndI gs (l.set i x))[j]? = (ndI gs l)[j]? := by
  simp [ndI, List.getElem?_zipWith, List.getElem?_set_ne hij]
theorem mdA_set {gs : List (Nat × Nat)} {l : List Md} {i j : Nat} {x : Md} (hij : i ≠ j) : (mdA gs (l.set i x))[j]? = (mdA gs l)[j]? := by
  simp [mdA, List.getElem?_zipWith, List.getElem?_set_ne hij]
theorem mdD_set {gs : List (Nat × Nat)} {l : List Md} {i j : Nat} {x : Md} (hij : i ≠ j) : (mdD gs (l.set i x))[j]? = (mdD gs l)[j]? := by
  simp [mdD, List.getElem?_zipWith, List.getElem?_set_ne hij]
theorem ndI_setI {gs : List Nat} {l : List Nd} {i : Nat} {x : Nd} (h : i < l.length) (hx : x.i = l[i].i) : ndI gs (l.set i x) = ndI gs l := by
  apply List.ext_getElem?
  intro j
  by_cases hj : i = j
  · subst hj
    simp only [ndI, List.getElem?_zipWith, List.getElem?_set_self h, List.getElem?_eq_getElem h]
    cases gs[i]? <;> simp [hx]
  · exact ndI_set hj
variable {g : CG} {c : Ci} {h h' : Hp} {i : Nat}
theorem Own.bound_i (hf : g.fits c) {j : Nat} {y : Nat × List Int} (hy : (ndI g.gs c.n)[j]? = some y) : j < 1000000 := by
  have := (List.getElem?_eq_some_iff.1 hy).1
  rw [ndI_length (by have := hf.n; omega)] at this
  have := hf.n; have := hf.nl; omega
theorem Own.bound_m (hf : g.fits c) {j : Nat} {y : Nat × List Int} (hy : (mdA g.ms c.m)[j]? = some y) : j < 1000000 := by
  have := (List.getElem?_eq_some_iff.1 hy).1
  rw [mdA_length (by have := hf.m; omega)] at this
  have := hf.m; have := hf.ml; omega
theorem Own.bound_d (hf : g.fits c) {j : Nat} {y : Nat × List Int} (hy : (mdD g.ms c.m)[j]? = some y) : j < 1000000 := by
  have := (List.getElem?_eq_some_iff.1 hy).1
  rw [mdD_length (by have := hf.m; omega)] at this
  have := hf.m; have := hf.ml; omega
/-- A node's list changes in place. -/
theorem Own.upd_i (ho : Own g c h) (hf : g.fits c) (hi : i < c.n.length) {x : Nd} (hk : x.k = c.n[i].k) (ha : x.a = c.n[i].a) (hb : x.b = c.n[i].b) (hl : x.i.length = c.n[i].i.length) (h1 : lk h' (2000 + i) = some (.row (g.gs.getD i 0) 1 (ints x.i))) (h2 : ∀ t, 1010 ≤ t → t ≠ 2000 + i → lk h' t = lk h t) : Own g { c with n := c.n.set i x } h' := by
  have hil := hf.nl
  refine ⟨?_, ?_, ?_, ?_, fun j y hy => ?_, fun j y hy => ?_, fun j y hy => ?_⟩
  · rw [h2 _ (by omega) (by omega)]; simp only []; rw [ndsW_setI _ _ _ i hi hf.n x hk ha hb hl]; exact ho.n
  · rw [h2 _ (by omega) (by omega)]; exact ho.s
  · rw [h2 _ (by omega) (by omega)]; exact ho.m
  · rw [h2 _ (by omega) (by omega)]; exact ho.o
  · by_cases hj : i = j
    · subst hj
      rw [ndI_get (by simpa using hi) (by simpa using hf.n)] at hy
      cases hy
      rw [Nat.add_comm, h1]; simp
    · rw [ndI_set hj] at hy
      rw [h2 _ (by omega) (by omega)]; exact ho.i j y hy
  · rw [h2 _ (by omega) (by omega)]; exact ho.ma j y hy
  · rw [h2 _ (by omega) (by omega)]; exact ho.md j y hy
/-- A node changes in place, apart from its list. -/
theorem Own.upd_n (ho : Own g c h) (hf : g.fits c) (hi : i < c.n.length) {x : Nd} (hx : x.i = c.n[i].i) (h1 : lk h' 1010 = some (.row g.a 4 ((ndsW 2000 g.gs c.n).set i (x.w (2000 + i) (g.gs.getD i 0))))) (h2 : ∀ t, 1010 ≤ t → t ≠ 1010 → lk h' t = lk h t) : Own g { c with n := c.n.set i x } h' := by
  refine ⟨?_, ?_, ?_, ?_, fun j y hy => ?_, fun j y hy => ?_, fun j y hy => ?_⟩
  · rw [h1]; simp only []; rw [ndsW_setA _ _ _ i x hf.n]
  · rw [h2 _ (by omega) (by omega)]; exact ho.s
  · rw [h2 _ (by omega) (by omega)]; exact ho.m
  · rw [h2 _ (by omega) (by omega)]; exact ho.o
  · simp only [] at hy; rw [ndI_setI hi hx] at hy
    rw [h2 _ (by omega) (by omega)]; exact ho.i j y hy
  · rw [h2 _ (by omega) (by omega)]; exact ho.ma j y hy
  · rw [h2 _ (by omega) (by omega)]; exact ho.md j y hy
/-- A memory's addresses, data change in place. -/
theorem Own.upd_a (ho : Own g c h) (hf : g.fits c) (hi : i < c.m.length) {x : Md} (hd : x.d = c.m[i].d) (hw : x.w = c.m[i].w) (hl : x.a.length = c.m[i].a.length) (h1 : lk h' (10001000 + i) = some (.row (g.ms.getD i (0, 0)).1 1 (ints x.a))) (h2 : ∀ t, 1010 ≤ t → t ≠ 10001000 + i → lk h' t = lk h t) : Own g { c with m := c.m.set i x } h' := by
  have hil := hf.ml
  refine ⟨?_, ?_, ?_, ?_, fun j y hy => ?_, fun j y hy => ?_, fun j y hy => ?_⟩
  · rw [h2 _ (by omega) (by omega)]; exact ho.n
  · rw [h2 _ (by omega) (by omega)]; exact ho.s
  · rw [h2 _ (by omega) (by omega)]; simp only []; rw [mdsW_setI _ _ _ _ i hi hf.m x hl (by rw [hd]) hw]; exact ho.m
  · rw [h2 _ (by omega) (by omega)]; exact ho.o
  · have := Own.bound_i hf hy
    rw [h2 _ (by omega) (by omega)]; exact ho.i j y hy
  · by_cases hj : i = j
    · subst hj
      rw [mdA_get (by simpa using hi) (by simpa using hf.m)] at hy
      cases hy
      rw [Nat.add_comm, h1]; simp
    · rw [mdA_set hj] at hy
      rw [h2 _ (by omega) (by omega)]; exact ho.ma j y hy
  · have hy' : (mdD g.ms c.m)[j]? = some y := by
      by_cases hj : i = j
      · subst hj
        simp only [] at hy
        rw [mdD_get (by simpa using hi) (by simpa using hf.m)] at hy
        rw [mdD_get hi hf.m]
        simpa [hd] using hy
      · rwa [mdD_set hj] at hy
    have := Own.bound_d hf hy'
    rw [h2 _ (by omega) (by omega)]; exact ho.md j y hy'
theorem Own.upd_d (ho : Own g c h) (hf : g.fits c) (hi : i < c.m.length) {x : Md} (hd : x.a = c.m[i].a) (hw : x.w = c.m[i].w) (hl : x.d.length = c.m[i].d.length) (h1 : lk h' (20001000 + i) = some (.row (g.ms.getD i (0, 0)).2 1 (ints x.d))) (h2 : ∀ t, 1010 ≤ t → t ≠ 20001000 + i → lk h' t = lk h t) : Own g { c with m := c.m.set i x } h' := by
  have hil := hf.ml
  refine ⟨?_, ?_, ?_, ?_, fun j y hy => ?_, fun j y hy => ?_, fun j y hy => ?_⟩
  · rw [h2 _ (by omega) (by omega)]; exact ho.n
  · rw [h2 _ (by omega) (by omega)]; exact ho.s
  · rw [h2 _ (by omega) (by omega)]; simp only []; rw [mdsW_setI _ _ _ _ i hi hf.m x (by rw [hd]) hl hw]; exact ho.m
  · rw [h2 _ (by omega) (by omega)]; exact ho.o
  · have := Own.bound_i hf hy
    rw [h2 _ (by omega) (by omega)]; exact ho.i j y hy
  · have hy' : (mdA g.ms c.m)[j]? = some y := by
      by_cases hj : i = j
      · subst hj
        simp only [] at hy
        rw [mdA_get (by simpa using hi) (by simpa using hf.m)] at hy
        rw [mdA_get hi hf.m]
        simpa [hd] using hy
      · rwa [mdA_set hj] at hy
    have := Own.bound_m hf hy'
    rw [h2 _ (by omega) (by omega)]; exact ho.ma j y hy'
  · by_cases hj : i = j
    · subst hj
      rw [mdD_get (by simpa using hi) (by simpa using hf.m)] at hy
      cases hy
      rw [Nat.add_comm, h1]; simp
    · rw [mdD_set hj] at hy
      rw [h2 _ (by omega) (by omega)]; exact ho.md j y hy
theorem Own.upd_o (ho : Own g c h) {l : List Int} (h1 : lk h' 1019 = some (.row g.d 1 (ints l))) (h2 : ∀ t, 1010 ≤ t → t ≠ 1019 → lk h' t = lk h t) : Own g { c with o := l } h' :=
  ⟨by rw [h2 _ (by omega) (by omega)]; exact ho.n, by rw [h2 _ (by omega) (by omega)]; exact ho.s, by rw [h2 _ (by omega) (by omega)]; exact ho.m, h1, fun j y hy => by rw [h2 _ (by omega) (by omega)]; exact ho.i j y hy, fun j y hy => by rw [h2 _ (by omega) (by omega)]; exact ho.ma j y hy, fun j y hy => by rw [h2 _ (by omega) (by omega)]; exact ho.md j y hy⟩
end Go.Proofs.YtmbgmfenlededaaGreatDoor
