/- Netlists: contracts, a copy taken for what it holds; same. Conditions: none. Netlists: contracts, the law Check. Conditions: none. -/
import Derived.Test.YtcdfifbabhfknaaDoorNet9

namespace Go.Proofs.YtcdfifbabhfknaaDoor
open Go
/-! A value that reads as a list of parts reads as any list of wider parts. -/
theorem VLe.agg {a b : List V} (h : AllLe a b) : VLe (.agg a) (.agg b) := fun G M r hr => by
  obtain ⟨h1, h2⟩ := h.spec
  cases hr with
  | agg _ arr hs q ho => exact .agg b arr (by rw [hs, h1]) (fun i hi => h2 i G M _ (q i (by omega))) (fun i hi => ho i (by omega))
/-- Cell by cell. -/
def CellsLe (a b : V) : Prop := AllLe a.cells b.cells
theorem VLe.slc {a b : List V} {c : Option Nat} (hl : a.length = b.length) (h : ∀ i, CellsLe (a.getD i .undef) (b.getD i .undef)) : VLe (.sl a c) (.sl b c) := fun G M r hr => by
  cases hr with
  | slnil cap base rcap hc hb =>
    have : b = [] := List.length_eq_zero_iff.1 (by rw [← hl]; rfl)
    subst this
    exact .slnil _ _ _ hc hb
  | sl _ _ rb ro rcap sz cells hne hG hsz hb hl2 hc hh ho =>
    rw [hl]
    refine .sl b c rb ro rcap sz cells (fun e => hne (List.length_eq_zero_iff.1 (by rw [hl, e]; rfl))) hG (fun i hi => ?_) (by rw [← hl]; exact hb) (by rw [← hl]; exact hl2) hc (fun i j hi hj => ?_) (fun i j hi hj => ho i j (by omega) hj)
    · rw [← (h i).spec.1]; exact hsz i (by omega)
    · exact (h i).spec.2 j G M _ (hh i j (by omega) hj)
theorem VLe.map {α : Type} {f g : α → V} {c : Option Nat} (h : ∀ x, CellsLe (f x) (g x)) (l : List α) : VLe (.sl (l.map f) c) (.sl (l.map g) c) := by
  refine VLe.slc (by simp) fun i => ?_
  simp only [List.getD_eq_getElem?_getD, List.getElem?_map]
  cases l[i]? with
  | none => exact AllLe.refl _
  | some x => exact h x
/-- A node, a memory as they stand in a copy. -/
def Nd.c (x : Nd) : V := .agg [.int .u8 x.k, .sl (ints x.i) (some x.i.length), .int .i64 x.a, .int .i64 x.b]
def Md.c (x : Md) : V := .agg [.sl (ints x.a) (some x.a.length), .sl (ints x.d) (some x.d.length), .int .i64 x.w]
def Ci.c (c : Ci) : V := .agg [.sl (c.n.map Nd.c) (some c.n.length), .sl (c.s.map .str) (some c.s.length), .sl (c.m.map Md.c) (some c.m.length), .sl (ints c.o) (some c.o.length)]
theorem ndc_le (x : Nd) : CellsLe x.c x.v := ⟨.refl _, .cap _ _, .refl _, .refl _, trivial⟩
theorem mdc_le (x : Md) : CellsLe x.c x.v := ⟨.cap _ _, .cap _ _, .refl _, trivial⟩
theorem cic_le (c : Ci) : VLe c.c c.v := .agg ⟨.trans (.map ndc_le _) (.cap _ _), .cap _ _, .trans (.map mdc_le _) (.cap _ _), .cap _ _, trivial⟩
theorem frz_agg (h : Hp) (n : Nat) (cs : List V) : frz h n (.agg cs) = .agg (cs.map (frz h n)) := by
  cases n <;> simp [frz, mapRL_eq]
theorem frz_ints {h : Hp} {n b g : Nat} {l : List Int} (hb : lk h b = some (.row g 1 (ints l))) : frz h (n + 1) (.ref b g 0 l.length (some l.length)) = .sl (ints l) (some l.length) := by
  rw [frz_ref hb (by simp), List.drop_zero, List.take_of_length_le (by simp), frz_all _ _ (ints_pure l)]
theorem ndsW_frz {h : Hp} {n : Nat} (b : Nat) : ∀ (gs : List Nat) (l : List Nd), gs.length = l.length → (∀ (i : Nat) y, (ndI gs l)[i]? = some y → lk h (b + i) = some (.row y.1 1 (ints y.2))) → (ndsW b gs l).map (frz h (n + 1)) = l.map Nd.c
  | [], [], _, _ => rfl
  | [], x :: r, h, _ => by simp at h
  | g :: gs, [], h, _ => by simp at h
  | g :: gs, x :: r, hl, hk => by
    have ih := ndsW_frz (h := h) (n := n) (b + 1) gs r (by simpa using hl) fun i y hy => by
      have := hk (i + 1) y (by simpa [ndI] using hy)
      rwa [show b + (i + 1) = b + 1 + i by omega] at this
    have h0 := hk 0 (g, x.i) (by simp [ndI])
    rw [Nat.add_zero] at h0
    simp only [ndsW, List.map_cons, ih]
    congr 1
    rw [Nd.w, frz_agg]
    simp only [List.map_cons, List.map_nil, frz_ints h0]
    simp [Nd.c, frz]
theorem mdsW_frz {h : Hp} {n : Nat} (b1 b2 : Nat) : ∀ (gs : List (Nat × Nat)) (l : List Md), gs.length = l.length → (∀ (i : Nat) y, (mdA gs l)[i]? = some y → lk h (b1 + i) = some (.row y.1 1 (ints y.2))) → (∀ (i : Nat) y, (mdD gs l)[i]? = some y → lk h (b2 + i) = some (.row y.1 1 (ints y.2))) → (mdsW b1 b2 gs l).map (frz h (n + 1)) = l.map Md.c
  | [], [], _, _, _ => rfl
  | [], x :: r, h, _, _ => by simp at h
  | g :: gs, [], h, _, _ => by simp at h
  | g :: gs, x :: r, hl, hk, hk2 => by
    have ih := mdsW_frz (h := h) (n := n) (b1 + 1) (b2 + 1) gs r (by simpa using hl) (fun i y hy => by
      have := hk (i + 1) y (by simpa [mdA] using hy)
      rwa [show b1 + (i + 1) = b1 + 1 + i by omega] at this) fun i y hy => by
      have := hk2 (i + 1) y (by simpa [mdD] using hy)
      rwa [show b2 + (i + 1) = b2 + 1 + i by omega] at this
    have h0 := hk 0 (g.1, x.a) (by simp [mdA])
    have h1 := hk2 0 (g.2, x.d) (by simp [mdD])
    rw [Nat.add_zero] at h0 h1
    simp only [mdsW, List.map_cons, ih]
    congr 1
    rw [Md.w', frz_agg]
    simp only [List.map_cons, List.map_nil, frz_ints h0, frz_ints h1]
    simp [Md.c, frz]
structure Ci.lens (c : Ci) : Prop where
  n : c.n.length < 1000000
  s : c.s.length < 1000000000
  m : c.m.length < 1000000
  o : c.o.length < 1000000000
  i : ∀ x ∈ c.n, x.i.length < 1000000000
  a : ∀ x ∈ c.m, x.a.length < 1000000000 ∧ x.d.length < 1000000000
theorem copyP_c (c : Ci) (hl : c.lens) : PureC Tryd.prog gl0 13 [c.v] c.c := by
  refine PureC.of_own 2 (copy_c c hl.n hl.s hl.m hl.o hl.i hl.a) ?_
  rintro v h ⟨g10, g13, g16, g19, gs, ms, h1, h2, rfl, rfl⟩
  have hgl : (ndI gs c.n).length < 1000000 := by rw [ndI_length (by omega)]; have := hl.n; omega
  have hml : (mdA ms c.m).length < 1000000 := by rw [mdA_length (by omega)]; have := hl.m; omega
  have htl : copyH c g10 g13 g16 g19 gs ms = (10, .row g10 4 (ndsW 1000 gs c.n)) :: (13, .row g13 1 (c.s.map .str)) :: (16, .row g16 3 (mdsW 10000000 20000000 ms c.m)) :: (19, .row g19 1 (ints c.o)) :: tailH (ndI gs c.n) (mdA ms c.m) (mdD ms c.m) := rfl
  rw [refsV, frz_agg]
  simp only [List.map_cons, List.map_nil]
  rw [frz_ref (es := ndsW 1000 gs c.n) (sz := 4) (by rw [htl]; simp) (by rw [ndsW_length]; omega), frz_ref (es := c.s.map .str) (sz := 1) (by rw [htl]; simp) (by simp), frz_ref (es := mdsW 10000000 20000000 ms c.m) (sz := 3) (by rw [htl]; simp) (by rw [mdsW_length]; omega), frz_ref (es := ints c.o) (sz := 1) (by rw [htl]; simp) (by simp)]
  simp only [List.drop_zero]
  rw [List.take_of_length_le (by rw [ndsW_length]; exact Nat.le_refl _), List.take_of_length_le (by simp), List.take_of_length_le (by rw [mdsW_length]; exact Nat.le_refl _), List.take_of_length_le (by simp), frz_all _ _ (strs_pure _), frz_all _ _ (ints_pure _),
    ndsW_frz (n := 0) 1000 gs c.n h1 fun i y hy => ?_, mdsW_frz (n := 0) 10000000 20000000 ms c.m h2 (fun i y hy => ?_) fun i y hy => ?_]
  · rfl
  · rw [htl]; simp [show ¬ 10000000 + i = 10 by omega, show ¬ 10000000 + i = 13 by omega, show ¬ 10000000 + i = 16 by omega, show ¬ 10000000 + i = 19 by omega, tail_B hgl hy]
  · rw [htl]; simp [show ¬ 20000000 + i = 10 by omega, show ¬ 20000000 + i = 13 by omega, show ¬ 20000000 + i = 16 by omega, show ¬ 20000000 + i = 19 by omega, tail_D hgl hml hy]
  · rw [htl]; simp [show ¬ 1000 + i = 10 by omega, show ¬ 1000 + i = 13 by omega, show ¬ 1000 + i = 16 by omega, show ¬ 1000 + i = 19 by omega, tail_A hy]
theorem copyV_c (c : Ci) (hl : c.lens) : PureC Tryd.prog gl0 13 [c.v] c.v := PureC.wide (copyP_c c hl) (AllLe.refl _) (cic_le c)
theorem intsD_len (a b : List Int) : intsD a b a.length = if a = b then 0 else 1 := by simp [intsD]
open Classical in
noncomputable def sameB (a b : Ci) : Bool := decide (a = b)
@[simp] theorem ints_take (l : List Int) : List.take l.length (ints l) = ints l := List.take_of_length_le (by simp)
theorem intsL_c (a b : List Int) (cb : Option Nat) (hl : a.length < 1000000000000) : PureC Tryd.prog gl0 20 [.sl (ints a) (some a.length), .sl (ints b) cb] (.int .i64 (if a = b then 0 else 1)) := by
  have := ints_c a b a.length cb hl
  rwa [intsD_len] at this
theorem same_c (a b : Ci) (hl : a.lens) : PureC Tryd.prog gl0 18 [a.v, b.v] (.bool (sameB a b)) := by
  obtain ⟨q, hq⟩ : ∃ r, sameB a b = r := ⟨_, rfl⟩
  rw [hq]
  have hne : a ≠ b → q = false := fun h => by rw [← hq, sameB]; simp [h]
  have heq : a = b → q = true := fun h => by rw [← hq, sameB]; simp [h]
  refine PureC.of_W 2 ok18 rfl ?_
  simp [i18, x18]
  intro gf gf2 gm
  generalize gf 2 = g2
  generalize gf2 3 = g3
  refine BrB.of (fun h1 => ?_) (fun h1 => ?_)
  · have h1' := of_decide_eq_true h1
    simp [h1]
    refine BrB.of (fun h2 => ?_) (fun h2 => ?_)
    · have h2' := of_decide_eq_true h2
      simp [h2]
      refine BrB.of (fun h3 => ?_) (fun h3 => ?_)
      · have h3' := of_decide_eq_true h3
        simp [h3]
        refine ⟨_, _, _, .pure (intsL_c a.o b.o none (by have := hl.o; omega)) (by simp), ?_⟩
        simp
        by_cases ho : a.o = b.o
        · simp [ho]
          refine LoopP.of (X := Nat) (fun i => [(5, natV i), (3, .ptr 3 g3 0 0), (2, .ptr 2 g2 0 0)]) (fun _ => [(3, .row g3 4 [b.v]), (2, .row g2 4 [a.v])])
            (fun i => i ≤ a.n.length ∧ a.n.take i = b.n.take i) (fun i => a.n.length - i) 0 ⟨by simp, by simp⟩ (by simp [natV]) (by simp) ?_
          rintro i ⟨h5, h6⟩
          simp [natV]
          refine BrB.of (fun hb => ?_) (fun hb => ?_)
          · have hi : i < a.n.length := of_decide_eq_true hb
            have hj : i < b.n.length := by omega
            have hw := wrapN i (by have := hl.n; omega)
            have hxl := hl.i _ (List.getElem_mem hi)
            have hnd : a.n[i] ≠ b.n[i] → q = false := fun h => hne fun e => by subst e; exact h rfl
            simp [hi, hj]
            intro gm
            generalize gm 6 = g6
            generalize gm 7 = g7
            have hfin : a.n[i] = b.n[i] → a.n.take (i + 1) = b.n.take (i + 1) := fun h => by
              rw [List.take_succ_eq_append_getElem hi, List.take_succ_eq_append_getElem hj, h6, h]
            generalize hx : a.n[i] = x at *
            generalize hy : b.n[i] = y at *
            refine ⟨rfl, fun gm => ?_⟩
            refine BrB.of (fun t1 => ?_) (fun t1 => ?_)
            · have t1' := of_decide_eq_true t1
              simp [t1]
              refine BrB.of (fun t2 => ?_) (fun t2 => ?_)
              · have t2' := of_decide_eq_true t2
                simp [t2]
                refine BrB.of (fun t3 => ?_) (fun t3 => ?_)
                · have t3' := of_decide_eq_true t3
                  simp [t3]
                  first | refine ⟨_, _, _, .pure (intsL_c x.i y.i none (by omega)) (by simp), ?_⟩ | refine ⟨_, ⟨_, _, .pure (intsL_c x.i y.i none (by omega)) (by simp)⟩, ?_⟩ | refine ⟨_, _, ⟨_, .pure (intsL_c x.i y.i none (by omega)) (by simp)⟩, ?_⟩
                  simp
                  by_cases hxi : x.i = y.i
                  · have hxy : x = y := by cases x; cases y; simp at *; exact ⟨t1', hxi, t2', t3'⟩
                    simp [hxi, hw]
                    exact ⟨i + 1, ⟨hi, hfin hxy⟩, by simp, by omega⟩
                  · have := hnd fun e => hxi (by rw [e])
                    simp [hxi, this]
                · have t3' := of_decide_eq_false t3
                  have := hnd fun e => t3' (by rw [e])
                  simp [t3, this]
              · have t2' := of_decide_eq_false t2
                have := hnd fun e => t2' (by rw [e])
                simp [t2, this]
            · have t1' := of_decide_eq_false t1
              have := hnd fun e => t1' (by rw [e])
              simp [t1, this]
          · have hi : i = a.n.length := by have := of_decide_eq_false hb; omega
            have hn : a.n = b.n := by rw [hi, List.take_length, h1', List.take_length] at h6; exact h6
            simp
            refine LoopP.of (X := Nat) (fun i => [(8, natV i), (3, .ptr 3 g3 0 0), (2, .ptr 2 g2 0 0)]) (fun _ => [(3, .row g3 4 [b.v]), (2, .row g2 4 [a.v])])
              (fun i => i ≤ a.s.length ∧ a.s.take i = b.s.take i) (fun i => a.s.length - i) 0 ⟨by simp, by simp⟩ (by simp [natV]) (by simp) ?_
            rintro j ⟨h7, h8⟩
            simp [natV]
            refine BrB.of (fun hb => ?_) (fun hb => ?_)
            · have hi : j < a.s.length := of_decide_eq_true hb
              have hj : j < b.s.length := by omega
              have hw := wrapN j (by have := hl.s; omega)
              simp [hi, hj]
              refine BrB.of (fun t1 => ?_) (fun t1 => ?_)
              · have t1' := of_decide_eq_true t1
                simp [hw]
                refine ⟨j + 1, ⟨hi, ?_⟩, by simp, by omega⟩
                rw [List.take_succ_eq_append_getElem hi, List.take_succ_eq_append_getElem hj, h8, t1']
              · have t1' := of_decide_eq_false t1
                have := hne fun e => by subst e; exact t1' rfl
                simp [this]
            · have hj : j = a.s.length := by have := of_decide_eq_false hb; omega
              have hs : a.s = b.s := by rw [hj, List.take_length, h2', List.take_length] at h8; exact h8
              simp
              refine LoopP.of (X := Nat) (fun i => [(9, natV i), (3, .ptr 3 g3 0 0), (2, .ptr 2 g2 0 0)]) (fun _ => [(3, .row g3 4 [b.v]), (2, .row g2 4 [a.v])])
                (fun i => i ≤ a.m.length ∧ a.m.take i = b.m.take i) (fun i => a.m.length - i) 0 ⟨by simp, by simp⟩ (by simp [natV]) (by simp) ?_
              rintro j ⟨h9, h10⟩
              simp [natV]
              refine BrB.of (fun hb => ?_) (fun hb => ?_)
              · have hi : j < a.m.length := of_decide_eq_true hb
                have hj : j < b.m.length := by omega
                have hw := wrapN j (by have := hl.m; omega)
                have hxl := hl.a _ (List.getElem_mem hi)
                have hnd : a.m[j] ≠ b.m[j] → q = false := fun h => hne fun e => by subst e; exact h rfl
                simp [hi, hj]
                intro gm
                generalize gm 10 = g10
                generalize gm 11 = g11
                have hfin : a.m[j] = b.m[j] → a.m.take (j + 1) = b.m.take (j + 1) := fun h => by
                  rw [List.take_succ_eq_append_getElem hi, List.take_succ_eq_append_getElem hj, h10, h]
                generalize hx : a.m[j] = x at *
                generalize hy : b.m[j] = y at *
                refine ⟨rfl, fun gm => ?_⟩
                refine BrB.of (fun t1 => ?_) (fun t1 => ?_)
                · have t1' := of_decide_eq_true t1
                  simp [t1]
                  first | refine ⟨_, _, _, .pure (intsL_c x.a y.a none (by omega)) (by simp), ?_⟩ | refine ⟨_, ⟨_, _, .pure (intsL_c x.a y.a none (by omega)) (by simp)⟩, ?_⟩ | refine ⟨_, _, ⟨_, .pure (intsL_c x.a y.a none (by omega)) (by simp)⟩, ?_⟩
                  simp
                  by_cases hxa : x.a = y.a
                  · simp [hxa]
                    first | refine ⟨_, _, _, .pure (intsL_c x.d y.d none (by omega)) (by simp), ?_⟩ | refine ⟨_, ⟨_, _, .pure (intsL_c x.d y.d none (by omega)) (by simp)⟩, ?_⟩ | refine ⟨_, _, ⟨_, .pure (intsL_c x.d y.d none (by omega)) (by simp)⟩, ?_⟩
                    simp
                    by_cases hxd : x.d = y.d
                    · have hxy : x = y := by cases x; cases y; simp at *; exact ⟨hxa, hxd, t1'⟩
                      simp [hxd, hw]
                      exact ⟨j + 1, ⟨hi, hfin hxy⟩, by simp, by omega⟩
                    · have := hnd fun e => hxd (by rw [e])
                      simp [hxd, this]
                  · have := hnd fun e => hxa (by rw [e])
                    simp [hxa, this]
                · have t1' := of_decide_eq_false t1
                  have := hnd fun e => t1' (by rw [e])
                  simp [t1, this]
              · have hj : j = a.m.length := by have := of_decide_eq_false hb; omega
                have hm : a.m = b.m := by rw [hj, List.take_length, h3', List.take_length] at h10; exact h10
                have := heq (by cases a; cases b; simp at *; exact ⟨hn, hs, hm, ho⟩)
                simp [this]
        · have := hne fun e => ho (by rw [e])
          simp [ho, this]
      · have h3' := of_decide_eq_false h3
        have := hne fun e => h3' (by rw [e])
        simp [h3, this]
    · have h2' := of_decide_eq_false h2
      have := hne fun e => h2' (by rw [e])
      simp [h2, this]
  · have h1' := of_decide_eq_false h1
    have := hne fun e => h1' (by rw [e])
    simp [h1, this]
end Go.Proofs.YtcdfifbabhfknaaDoor

namespace Go.Proofs.YtcdfifbabhfknaaDoor
open Go
theorem sameB_self (c : Ci) : sameB c c = true := by simp [sameB]
theorem law3_c (c : Ci) (hw : greatB c = false → c.wf) (hl : greatB c = false → c.lens) : PureC Tryd.prog gl0 3 [c.v] (.bool true) := by
  refine PureC.of_W 2 ok3 rfl ?_
  simp [i3, x3]
  intro gf
  refine CallO.pure (great_c c) (by simp) ?_
  simp
  refine BrB.of (fun hg => ?_) (fun hg => ?_)
  · simp
    refine CallO.pure lives_c (by simp) ?_
    simp
  · have hwf := hw hg
    have hls := hl hg
    have hlv := levelsW_c c hwf
    rw [lvRes_eq] at hlv
    simp
    refine CallO.pure (copyV_c c hls) (by simp) ?_
    simp
    intro gf3
    refine CallO.pure (check_c c hwf) (by simp) ?_
    simp
    refine CallO.pure hlv (by simp) ?_
    by_cases he : chkE c = 0
    · simp [he]
      refine CallO.own 1000 (order_c c hwf) (by simp) (by simp) ?_
      rintro v h (⟨h1, -⟩ | ⟨-, g, L, rfl, rfl, hR, -⟩) gf4
      · exact absurd he h1
      · simp
        refine CallO.pure (rcheck_c c hwf) (by simp) ?_
        simp [he]
        refine CallO.pure (same_c c c hls) (by simp) ?_
        simp [sameB_self]
        refine CallO.pure lives_c (by simp) ?_
        simp
    · simp [he]
      refine CallO.own 1000 (order_c c hwf) (by simp) (by simp) ?_
      rintro v h (⟨h1, rfl, rfl⟩ | ⟨h1, -⟩) gf4
      · simp
        refine CallO.pure (rcheck_c c hwf) (by simp) ?_
        simp
        refine CallO.pure (same_c c c hls) (by simp) ?_
        simp [sameB_self, he]
        refine CallO.pure lives_c (by simp) ?_
        simp
      · exact absurd h1 he
end Go.Proofs.YtcdfifbabhfknaaDoor
