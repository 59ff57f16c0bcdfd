/- Netlists: contracts, copies of lists. Conditions: none. Netlists: contracts, Copy. Conditions: none. -/
import Derived.Test.YtekbgkainigfnaaGreatDoorNet8

namespace Go.Proofs.YtekbgkainigfnaaGreatDoor
open Go
theorem nds_cells (l : List Nd) : ((l.map Nd.v).all fun x => decide (x.cells.length = 4)) = true := by simp
theorem mds_cells (l : List Md) : ((l.map Md.v).all fun x => decide (x.cells.length = 3)) = true := by simp
theorem strs_cells (l : List (List UInt8)) : ((l.map V.str).all fun x => decide (x.cells.length = 1)) = true := by simp
theorem strs_pure (l : List (List UInt8)) : V.pureL (l.map V.str) = true := V.pureL_map _ l fun _ => rfl
end Go.Proofs.YtekbgkainigfnaaGreatDoor

namespace Go.Proofs.YtekbgkainigfnaaGreatDoor
open Go
@[simp] theorem ci_cells (c : Ci) : c.v.cells = [.sl (c.n.map Nd.v) none, .sl (c.s.map .str) none, .sl (c.m.map Md.v) none, .sl (ints c.o) none] := rfl
@[simp] theorem nd_cells (c : Nd) : c.v.cells = [.int .u8 c.k, .sl (ints c.i) none, .int .i64 c.a, .int .i64 c.b] := rfl
@[simp] theorem md_cells (c : Md) : c.v.cells = [.sl (ints c.a) none, .sl (ints c.d) none, .int .i64 c.w] := rfl
/-! Lists of one's own behind a list, each in a block: block b + i holds the ints of entry i. -/
def owH (b : Nat) : List (Nat × List Int) → Hp
  | [] => []
  | x :: r => (b, .row x.1 1 (ints x.2)) :: owH (b + 1) r
def owR (b : Nat) (x : Nat × List Int) : V := .ref b x.1 0 x.2.length (some x.2.length)
theorem lk_owH_low (b : Nat) (L : List (Nat × List Int)) (t : Nat) (h : t < b) : lk (owH b L) t = none := by
  induction L generalizing b with
  | nil => rfl
  | cons x r ih =>
    have hne : ¬ t = b := by omega
    simp [owH, lk, hne, ih (b + 1) (by omega)]
theorem lk_owH (b : Nat) (L : List (Nat × List Int)) (i : Nat) : lk (owH b L) (b + i) = (L[i]?).map fun x => .row x.1 1 (ints x.2) := by
  induction L generalizing b i with
  | nil => simp [owH, lk]
  | cons x r ih =>
    cases i with
    | zero => simp [owH, lk]
    | succ i =>
      have hne : ¬ b + (i + 1) = b := by omega
      have := ih (b + 1) i
      rw [show b + 1 + i = b + (i + 1) by omega] at this
      simp [owH, lk, this]
theorem lk_owH_high (b : Nat) (L : List (Nat × List Int)) (t : Nat) (h : b + L.length ≤ t) : lk (owH b L) t = none := by
  have := lk_owH b L (t - b)
  rw [show b + (t - b) = t by omega] at this
  rw [this, List.getElem?_eq_none (by omega)]; rfl
theorem sub_owH (b : Nat) (L : List (Nat × List Int)) (h : Hp) (hk : ∀ (i : Nat) x, L[i]? = some x → lk h (b + i) = some (.row x.1 1 (ints x.2))) : Sub (owH b L) h := by
  induction L generalizing b with
  | nil => trivial
  | cons x r ih =>
    refine ⟨by simpa using hk 0 x rfl, ih (b + 1) fun i y hy => ?_⟩
    have := hk (i + 1) y (by simpa using hy)
    rwa [show b + (i + 1) = b + 1 + i by omega] at this
theorem owH_snoc (b : Nat) (L : List (Nat × List Int)) (x : Nat × List Int) : owH b (L ++ [x]) = owH b L ++ [(b + L.length, .row x.1 1 (ints x.2))] := by
  induction L generalizing b with
  | nil => simp [owH]
  | cons y r ih => simp [owH, ih (b + 1), show b + 1 + r.length = b + (r.length + 1) by omega]
/-- A node whose inputs are in block b, of generation g. -/
def Nd.w (x : Nd) (b g : Nat) : V := .agg [.int .u8 x.k, .ref b g 0 x.i.length (some x.i.length), .int .i64 x.a, .int .i64 x.b]
def Md.w' (x : Md) (b1 g1 b2 g2 : Nat) : V := .agg [.ref b1 g1 0 x.a.length (some x.a.length), .ref b2 g2 0 x.d.length (some x.d.length), .int .i64 x.w]
/-- Nodes, of which the first have inputs of their own: gs are the generations. -/
def ndsW (b : Nat) : List Nat → List Nd → List V
  | g :: gs, x :: r => x.w b g :: ndsW (b + 1) gs r
  | _, l => l.map Nd.v
def mdsW (b1 b2 : Nat) : List (Nat × Nat) → List Md → List V
  | g :: gs, x :: r => x.w' b1 g.1 b2 g.2 :: mdsW (b1 + 1) (b2 + 1) gs r
  | _, l => l.map Md.v
theorem ndsW_nil (b : Nat) (l : List Nd) : ndsW b [] l = l.map Nd.v := by cases l <;> rfl
theorem ndsW_length (b : Nat) : ∀ (gs : List Nat) (l : List Nd), (ndsW b gs l).length = l.length
  | [], l => by simp [ndsW_nil]
  | g :: gs, [] => rfl
  | g :: gs, x :: r => by simp [ndsW, ndsW_length (b + 1) gs r]
theorem ndsW_get (b : Nat) : ∀ (gs : List Nat) (l : List Nd) (i : Nat) (h : i < l.length), gs.length ≤ i → (ndsW b gs l)[i]? = some (l[i]).v
  | [], l, i, h, _ => by simp [ndsW_nil, h]
  | g :: gs, [], i, h, _ => by simp at h
  | g :: gs, x :: r, 0, h, hg => by simp at hg
  | g :: gs, x :: r, i + 1, h, hg => by
    have := ndsW_get (b + 1) gs r i (by simpa using h) (by simpa using hg)
    simpa [ndsW] using this
theorem ndsW_set (b : Nat) : ∀ (gs : List Nat) (l : List Nd) (g : Nat) (h : gs.length < l.length), (ndsW b gs l).set gs.length ((l[gs.length]).w (b + gs.length) g) = ndsW b (gs ++ [g]) l
  | [], [], g, h => by simp at h
  | [], x :: r, g, h => by simp [ndsW]
  | g' :: gs, [], g, h => by simp at h
  | g' :: gs, x :: r, g, h => by
    have := ndsW_set (b + 1) gs r g (by simpa using h)
    simp only [ndsW, List.length_cons, List.getElem_cons_succ, List.set_cons_succ, List.cons_append]
    rw [← this, show b + 1 + gs.length = b + (gs.length + 1) by omega]
theorem mdsW_nil (b1 b2 : Nat) (l : List Md) : mdsW b1 b2 [] l = l.map Md.v := by cases l <;> rfl
theorem mdsW_length (b1 b2 : Nat) : ∀ (gs : List (Nat × Nat)) (l : List Md), (mdsW b1 b2 gs l).length = l.length
  | [], l => by simp [mdsW_nil]
  | g :: gs, [] => rfl
  | g :: gs, x :: r => by simp [mdsW, mdsW_length (b1 + 1) (b2 + 1) gs r]
theorem mdsW_get (b1 b2 : Nat) : ∀ (gs : List (Nat × Nat)) (l : List Md) (i : Nat) (h : i < l.length), gs.length ≤ i → (mdsW b1 b2 gs l)[i]? = some (l[i]).v
  | [], l, i, h, _ => by simp [mdsW_nil, h]
  | g :: gs, [], i, h, _ => by simp at h
  | g :: gs, x :: r, 0, h, hg => by simp at hg
  | g :: gs, x :: r, i + 1, h, hg => by
    have := mdsW_get (b1 + 1) (b2 + 1) gs r i (by simpa using h) (by simpa using hg)
    simpa [mdsW] using this
theorem mdsW_set (b1 b2 : Nat) : ∀ (gs : List (Nat × Nat)) (l : List Md) (g : Nat × Nat) (h : gs.length < l.length), (mdsW b1 b2 gs l).set gs.length ((l[gs.length]).w' (b1 + gs.length) g.1 (b2 + gs.length) g.2) = mdsW b1 b2 (gs ++ [g]) l
  | [], [], g, h => by simp at h
  | [], x :: r, g, h => by simp [mdsW]
  | g' :: gs, [], g, h => by simp at h
  | g' :: gs, x :: r, g, h => by
    have := mdsW_set (b1 + 1) (b2 + 1) gs r g (by simpa using h)
    simp only [mdsW, List.length_cons, List.getElem_cons_succ, List.set_cons_succ, List.cons_append]
    rw [← this, show b1 + 1 + gs.length = b1 + (gs.length + 1) by omega, show b2 + 1 + gs.length = b2 + (gs.length + 1) by omega]
theorem nd_rn (s : Nat → Nat → Nat × Nat) (x : Nd) : x.v.rn s = x.v := rn_pure _ (nd_pure x)
theorem ndsW_rn (s : Nat → Nat → Nat × Nat) (b : Nat) : ∀ (gs : List Nat) (l : List Nd), (∀ i g, b ≤ i → s i g = (i, g)) → (ndsW b gs l).map (V.rn s) = ndsW b gs l
  | [], l, _ => by rw [ndsW_nil]; exact map_rn_pure (nds_pure l)
  | g :: gs, [], _ => rfl
  | g :: gs, x :: r, h => by
    have := ndsW_rn s (b + 1) gs r fun i g hi => h i g (by omega)
    simp only [ndsW, List.map_cons, this]
    congr 1
    simp [Nd.w, h b g (Nat.le_refl _)]
theorem mdsW_rn (s : Nat → Nat → Nat × Nat) (b1 b2 : Nat) : ∀ (gs : List (Nat × Nat)) (l : List Md), (∀ i g, b1 ≤ i → s i g = (i, g)) → (∀ i g, b2 ≤ i → s i g = (i, g)) → (mdsW b1 b2 gs l).map (V.rn s) = mdsW b1 b2 gs l
  | [], l, _, _ => by rw [mdsW_nil]; exact map_rn_pure (mds_pure l)
  | g :: gs, [], _, _ => rfl
  | g :: gs, x :: r, h, k => by
    have := mdsW_rn s (b1 + 1) (b2 + 1) gs r (fun i g hi => h i g (by omega)) fun i g hi => k i g (by omega)
    simp only [mdsW, List.map_cons, this]
    congr 1
    simp [Md.w', h b1 g.1 (Nat.le_refl _), k b2 g.2 (Nat.le_refl _)]
/-- A list of one's own, behind a block that takes another number. -/
theorem lk_owH_mv {base : Nat} {L : List (Nat × List Int)} {b b' g : Nat} {s : Nat → Nat → Nat × Nat} {i : Nat} {x : Nat × List Int} (hne : b ≠ b') (h1 : ¬ base + i = b') (h2 : ¬ base + i = b) (hi : L[i]? = some x) : lk (mvH s b b' g (owH base L)) (base + i) = some (.row x.1 1 (ints x.2)) := by
  rw [lk_mvH hne, if_neg h1, if_neg h2, lk_owH base L i, hi]
  simp [map_rn_pure (ints_pure x.2)]
def ndI (gs : List Nat) (l : List Nd) : List (Nat × List Int) := List.zipWith (fun g x => (g, x.i)) gs l
def mdA (gs : List (Nat × Nat)) (l : List Md) : List (Nat × List Int) := List.zipWith (fun g x => (g.1, x.a)) gs l
def mdD (gs : List (Nat × Nat)) (l : List Md) : List (Nat × List Int) := List.zipWith (fun g x => (g.2, x.d)) gs l
def refsV (c : Ci) (g10 g13 g16 g19 : Nat) : V := .agg [.ref 10 g10 0 c.n.length (some c.n.length), .ref 13 g13 0 c.s.length (some c.s.length), .ref 16 g16 0 c.m.length (some c.m.length), .ref 19 g19 0 c.o.length (some c.o.length)]
def copyH (c : Ci) (g10 g13 g16 g19 : Nat) (gs : List Nat) (ms : List (Nat × Nat)) : Hp :=
  (10, .row g10 4 (ndsW 1000 gs c.n)) :: (13, .row g13 1 (c.s.map .str)) :: (16, .row g16 3 (mdsW 10000000 20000000 ms c.m)) :: (19, .row g19 1 (ints c.o)) :: (owH 1000 (ndI gs c.n) ++ (owH 10000000 (mdA ms c.m) ++ owH 20000000 (mdD ms c.m)))
def CopyK (c : Ci) (v : V) (h : Hp) : Prop := ∃ g10 g13 g16 g19 gs ms, gs.length = c.n.length ∧ ms.length = c.m.length ∧ v = refsV c g10 g13 g16 g19 ∧ h = copyH c g10 g13 g16 g19 gs ms
theorem ndI_snoc {gs : List Nat} {l : List Nd} {x : Nd} (g : Nat) (hi : gs.length < l.length) (hx : l[gs.length] = x) : ndI (gs ++ [g]) l = ndI gs l ++ [(g, x.i)] := by
  unfold ndI
  have : l = l.take gs.length ++ x :: l.drop (gs.length + 1) := by rw [← hx, ← List.drop_eq_getElem_cons hi, List.take_append_drop]
  conv => lhs; rw [this]
  conv => rhs; rw [this]
  rw [List.zipWith_append (by simp; omega)]
  simp
  have e : List.zipWith (fun g x => (g, x.i)) gs (l.take gs.length ++ x :: l.drop (gs.length + 1)) = List.zipWith (fun g (x : Nd) => (g, x.i)) (gs ++ []) (l.take gs.length ++ x :: l.drop (gs.length + 1)) := by rw [List.append_nil]
  rw [e, List.zipWith_append (by simp; omega)]
  simp
theorem sub_owH_snoc {b : Nat} {L : List (Nat × List Int)} {x : Nat × List Int} {h : Hp} (h1 : lk h (b + L.length) = some (.row x.1 1 (ints x.2))) (h2 : ∀ (i : Nat) y, i < L.length → L[i]? = some y → lk h (b + i) = some (.row y.1 1 (ints y.2))) : Sub (owH b (L ++ [x])) h := by
  refine sub_owH b _ h fun i y hy => ?_
  by_cases hi : i < L.length
  · rw [List.getElem?_append_left hi] at hy
    exact h2 i y hi hy
  · by_cases he : i = L.length
    · subst he; simp at hy; subst hy; exact h1
    · rw [List.getElem?_append_right (by omega), List.getElem?_eq_none (by simp; omega)] at hy
      cases hy
theorem zipW_snoc {α β γ : Type} (f : α → β → γ) {gs : List α} {l : List β} {x : β} (g : α) (hi : gs.length < l.length) (hx : l[gs.length] = x) : List.zipWith f (gs ++ [g]) l = List.zipWith f gs l ++ [f g x] := by
  have : l = l.take gs.length ++ x :: l.drop (gs.length + 1) := by rw [← hx, ← List.drop_eq_getElem_cons hi, List.take_append_drop]
  conv => lhs; rw [this]
  conv => rhs; rw [this]
  rw [List.zipWith_append (by simp; omega)]
  have e : List.zipWith f gs (l.take gs.length ++ x :: l.drop (gs.length + 1)) = List.zipWith f (gs ++ []) (l.take gs.length ++ x :: l.drop (gs.length + 1)) := by rw [List.append_nil]
  rw [e, List.zipWith_append (by simp; omega)]
  simp
theorem mdA_snoc {gs : List (Nat × Nat)} {l : List Md} {x : Md} (g : Nat × Nat) (hi : gs.length < l.length) (hx : l[gs.length] = x) : mdA (gs ++ [g]) l = mdA gs l ++ [(g.1, x.a)] := zipW_snoc _ g hi hx
theorem mdD_snoc {gs : List (Nat × Nat)} {l : List Md} {x : Md} (g : Nat × Nat) (hi : gs.length < l.length) (hx : l[gs.length] = x) : mdD (gs ++ [g]) l = mdD gs l ++ [(g.2, x.d)] := zipW_snoc _ g hi hx
theorem mdA_length {gs : List (Nat × Nat)} {l : List Md} (h : gs.length ≤ l.length) : (mdA gs l).length = gs.length := by simp [mdA]; omega
theorem mdD_length {gs : List (Nat × Nat)} {l : List Md} (h : gs.length ≤ l.length) : (mdD gs l).length = gs.length := by simp [mdD]; omega
theorem lk_mv_ints {T : Hp} {t b b' g g0 : Nat} {s : Nat → Nat → Nat × Nat} {l : List Int} (hne : b ≠ b') (h1 : ¬ t = b') (h2 : ¬ t = b) (hT : lk T t = some (.row g0 1 (ints l))) : lk (mvH s b b' g T) t = some (.row g0 1 (ints l)) := by
  rw [lk_mvH hne, if_neg h1, if_neg h2, hT]
  simp [map_rn_pure (ints_pure l)]
/-- The three families of a copy's inner lists. -/
def tailH (A B D : List (Nat × List Int)) : Hp := owH 1000 A ++ (owH 10000000 B ++ owH 20000000 D)
theorem tail_low {A B D : List (Nat × List Int)} {t : Nat} (h : t < 1000) : lk (tailH A B D) t = none := by
  rw [tailH, lk_appendO, lk_owH_low _ _ _ h]
  simp only
  rw [lk_appendO, lk_owH_low _ _ _ (by omega)]
  exact lk_owH_low _ _ _ (by omega)
theorem tail_A {A B D : List (Nat × List Int)} {i : Nat} {x : Nat × List Int} (h : A[i]? = some x) : lk (tailH A B D) (1000 + i) = some (.row x.1 1 (ints x.2)) := by
  rw [tailH, lk_appendO, lk_owH, h]; rfl
theorem tail_B {A B D : List (Nat × List Int)} {i : Nat} {x : Nat × List Int} (hA : A.length < 1000000) (h : B[i]? = some x) : lk (tailH A B D) (10000000 + i) = some (.row x.1 1 (ints x.2)) := by
  rw [tailH, lk_appendO, lk_owH_high _ _ _ (by omega)]
  simp only
  rw [lk_appendO, lk_owH, h]; rfl
theorem tail_D {A B D : List (Nat × List Int)} {i : Nat} {x : Nat × List Int} (hA : A.length < 1000000) (hB : B.length < 1000000) (h : D[i]? = some x) : lk (tailH A B D) (20000000 + i) = some (.row x.1 1 (ints x.2)) := by
  rw [tailH, lk_appendO, lk_owH_high _ _ _ (by omega)]
  simp only
  rw [lk_appendO, lk_owH_high _ _ _ (by omega)]
  simp only
  rw [lk_owH, h]; rfl
theorem sub_tail {A B D : List (Nat × List Int)} {h : Hp} (h1 : Sub (owH 1000 A) h) (h2 : Sub (owH 10000000 B) h) (h3 : Sub (owH 20000000 D) h) : Sub (tailH A B D) h := sub_app.2 ⟨h1, sub_app.2 ⟨h2, h3⟩⟩
theorem ndI_length {gs : List Nat} {l : List Nd} (h : gs.length ≤ l.length) : (ndI gs l).length = gs.length := by simp [ndI]; omega
end Go.Proofs.YtekbgkainigfnaaGreatDoor
