/- Netlists: contracts, a copy taken for what it holds; same. Conditions: none. Netlists: contracts, the law Check. Conditions: none. -/
import Derived.Test.YtekbgkainigfnaaGreatDoorNet9

namespace Go.Proofs.YtekbgkainigfnaaGreatDoor
open Go
/-! A value that reads as a list of parts reads as any list of wider parts. -/
theorem VLe.agg {a b : List V} (h : AllLe a b) : VLe (.agg a) (.agg b) := fun G M r hr => by
  obtain ⟨h1, h2⟩ := h.spec
  cases hr with
  | agg _ arr hs q ho => exact .agg b arr (by rw [hs, h1]) (fun i hi => h2 i G M _ (q i (by omega))) (fun i hi => ho i (by omega))
/-- Cell by cell. -/
def CellsLe (a b : V) : Prop := AllLe a.cells b.cells
theorem VLe.slc {a b : List V} {c : Option Nat} (hl : a.length = b.length) (h : ∀ i, CellsLe (a.getD i .undef) (b.getD i .undef)) : VLe (.sl a c) (.sl b c) := fun G M r hr => by
  cases hr with
  | slnil cap base rcap hc hb =>
    have : b = [] := List.length_eq_zero_iff.1 (by rw [← hl]; rfl)
    subst this
    exact .slnil _ _ _ hc hb
  | sl _ _ rb ro rcap sz cells hne hG hsz hb hl2 hc hh ho =>
    rw [hl]
    refine .sl b c rb ro rcap sz cells (fun e => hne (List.length_eq_zero_iff.1 (by rw [hl, e]; rfl))) hG (fun i hi => ?_) (by rw [← hl]; exact hb) (by rw [← hl]; exact hl2) hc (fun i j hi hj => ?_) (fun i j hi hj => ho i j (by omega) hj)
    · rw [← (h i).spec.1]; exact hsz i (by omega)
    · exact (h i).spec.2 j G M _ (hh i j (by omega) hj)
theorem VLe.map {α : Type} {f g : α → V} {c : Option Nat} (h : ∀ x, CellsLe (f x) (g x)) (l : List α) : VLe (.sl (l.map f) c) (.sl (l.map g) c) := by
  refine VLe.slc (by simp) fun i => ?_
  simp only [List.getD_eq_getElem?_getD, List.getElem?_map]
  cases l[i]? with
  | none => exact AllLe.refl _
  | some x => exact h x
/-- A node, a memory as they stand in a copy. -/
def Nd.c (x : Nd) : V := .agg [.int .u8 x.k, .sl (ints x.i) (some x.i.length), .int .i64 x.a, .int .i64 x.b]
def Md.c (x : Md) : V := .agg [.sl (ints x.a) (some x.a.length), .sl (ints x.d) (some x.d.length), .int .i64 x.w]
def Ci.c (c : Ci) : V := .agg [.sl (c.n.map Nd.c) (some c.n.length), .sl (c.s.map .str) (some c.s.length), .sl (c.m.map Md.c) (some c.m.length), .sl (ints c.o) (some c.o.length)]
theorem ndc_le (x : Nd) : CellsLe x.c x.v := ⟨.refl _, .cap _ _, .refl _, .refl _, trivial⟩
theorem mdc_le (x : Md) : CellsLe x.c x.v := ⟨.cap _ _, .cap _ _, .refl _, trivial⟩
theorem cic_le (c : Ci) : VLe c.c c.v := .agg ⟨.trans (.map ndc_le _) (.cap _ _), .cap _ _, .trans (.map mdc_le _) (.cap _ _), .cap _ _, trivial⟩
theorem frz_agg (h : Hp) (n : Nat) (cs : List V) : frz h n (.agg cs) = .agg (cs.map (frz h n)) := by
  cases n <;> simp [frz, mapRL_eq]
theorem frz_ints {h : Hp} {n b g : Nat} {l : List Int} (hb : lk h b = some (.row g 1 (ints l))) : frz h (n + 1) (.ref b g 0 l.length (some l.length)) = .sl (ints l) (some l.length) := by
  rw [frz_ref hb (by simp), List.drop_zero, List.take_of_length_le (by simp), frz_all _ _ (ints_pure l)]
theorem ndsW_frz {h : Hp} {n : Nat} (b : Nat) : ∀ (gs : List Nat) (l : List Nd), gs.length = l.length → (∀ (i : Nat) y, (ndI gs l)[i]? = some y → lk h (b + i) = some (.row y.1 1 (ints y.2))) → (ndsW b gs l).map (frz h (n + 1)) = l.map Nd.c
  | [], [], _, _ => rfl
  | [], x :: r, h, _ => by simp at h
  | g :: gs, [], h, _ => by simp at h
  | g :: gs, x :: r, hl, hk => by
    have ih := ndsW_frz (h := h) (n := n) (b + 1) gs r (by simpa using hl) fun i y hy => by
      have := hk (i + 1) y (by simpa [ndI] using hy)
      rwa [show b + (i + 1) = b + 1 + i by omega] at this
    have h0 := hk 0 (g, x.i) (by simp [ndI])
    rw [Nat.add_zero] at h0
    simp only [ndsW, List.map_cons, ih]
    congr 1
    rw [Nd.w, frz_agg]
    simp only [List.map_cons, List.map_nil, frz_ints h0]
    simp [Nd.c, frz]
theorem mdsW_frz {h : Hp} {n : Nat} (b1 b2 : Nat) : ∀ (gs : List (Nat × Nat)) (l : List Md), gs.length = l.length → (∀ (i : Nat) y, (mdA gs l)[i]? = some y → lk h (b1 + i) = some (.row y.1 1 (ints y.2))) → (∀ (i : Nat) y, (mdD gs l)[i]? = some y → lk h (b2 + i) = some (.row y.1 1 (ints y.2))) → (mdsW b1 b2 gs l).map (frz h (n + 1)) = l.map Md.c
  | [], [], _, _, _ => rfl
  | [], x :: r, h, _, _ => by simp at h
  | g :: gs, [], h, _, _ => by simp at h
  | g :: gs, x :: r, hl, hk, hk2 => by
    have ih := mdsW_frz (h := h) (n := n) (b1 + 1) (b2 + 1) gs r (by simpa using hl) (fun i y hy => by
      have := hk (i + 1) y (by simpa [mdA] using hy)
      rwa [show b1 + (i + 1) = b1 + 1 + i by omega] at this) fun i y hy => by
      have := hk2 (i + 1) y (by simpa [mdD] using hy)
      rwa [show b2 + (i + 1) = b2 + 1 + i by omega] at this
    have h0 := hk 0 (g.1, x.a) (by simp [mdA])
    have h1 := hk2 0 (g.2, x.d) (by simp [mdD])
    rw [Nat.add_zero] at h0 h1
    simp only [mdsW, List.map_cons, ih]
    congr 1
    rw [Md.w', frz_agg]
    simp only [List.map_cons, List.map_nil, frz_ints h0, frz_ints h1]
    simp [Md.c, frz]
structure Ci.lens (c : Ci) : Prop where
  n : c.n.length < 1000000
  s : c.s.length < 1000000000
  m : c.m.length < 1000000
  o : c.o.length < 1000000000
  i : ∀ x ∈ c.n, x.i.length < 1000000000
  a : ∀ x ∈ c.m, x.a.length < 1000000000 ∧ x.d.length < 1000000000
theorem intsD_len (a b : List Int) : intsD a b a.length = if a = b then 0 else 1 := by simp [intsD]
open Classical in
noncomputable def sameB (a b : Ci) : Bool := decide (a = b)
@[simp] theorem ints_take (l : List Int) : List.take l.length (ints l) = ints l := List.take_of_length_le (by simp)
end Go.Proofs.YtekbgkainigfnaaGreatDoor

namespace Go.Proofs.YtekbgkainigfnaaGreatDoor
open Go
theorem sameB_self (c : Ci) : sameB c c = true := by simp [sameB]
end Go.Proofs.YtekbgkainigfnaaGreatDoor
