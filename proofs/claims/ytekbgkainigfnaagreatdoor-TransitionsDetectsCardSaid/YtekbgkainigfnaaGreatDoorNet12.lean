/- Netlists: nodes under way and the memory of their lists. Conditions: none. -/
import Derived.Test.YtekbgkainigfnaaGreatDoorNet11
namespace Go.Proofs.YtekbgkainigfnaaGreatDoor
open Go
/-- A node under way: its kind, its list, its bit; the list's memory (generation, capacity), if it has any. -/
structure Ent where
  k : Nat
  l : List Nat
  b : Nat
  m : Option (Nat × Option Nat)
def Ent.nd (e : Ent) : Nd := ⟨e.k, e.l.map fun (x : Nat) => (x : Int), 0, e.b⟩
def Ent.iv (e : Ent) (n : Nat) : V := match e.m with
  | none => .nil
  | some (g, cap) => .ref n g 0 e.l.length cap
def Ent.v (e : Ent) (n : Nat) : V := .agg [u8V e.k, e.iv n, natV 0, natV e.b]
def Ent.h (e : Ent) (n : Nat) : Hp := match e.m with
  | none => []
  | some (g, _) => [(n, .row g 1 (natsV e.l))]
def entV (b : Nat) : List Ent → List V
  | [] => []
  | e :: r => e.v b :: entV (b + 1) r
def entH (b : Nat) : List Ent → Hp
  | [] => []
  | e :: r => e.h b ++ entH (b + 1) r
@[simp] theorem entV_length (b : Nat) (L : List Ent) : (entV b L).length = L.length := by
  induction L generalizing b with
  | nil => rfl
  | cons e r ih => simp [entV, ih]
theorem entV_snoc (b : Nat) (L : List Ent) (e : Ent) : entV b (L ++ [e]) = entV b L ++ [e.v (b + L.length)] := by
  induction L generalizing b with
  | nil => rfl
  | cons x r ih => simp [entV, ih, show b + 1 + r.length = b + (r.length + 1) by omega]
theorem entV_get (b : Nat) (L : List Ent) (i : Nat) (h : i < L.length) : (entV b L)[i]'(by rw [entV_length]; exact h) = L[i].v (b + i) := by
  induction L generalizing b i with
  | nil => simp at h
  | cons x r ih =>
    cases i with
    | zero => rfl
    | succ i => simp [entV, ih (b + 1) i (by simpa using h), show b + 1 + i = b + (i + 1) by omega]
theorem entV_set (b : Nat) (L : List Ent) (i : Nat) (e : Ent) : (entV b L).set i (e.v (b + i)) = entV b (L.set i e) := by
  induction L generalizing b i with
  | nil => rfl
  | cons x r ih =>
    cases i with
    | zero => rfl
    | succ i => simp [entV, ← ih, show b + 1 + i = b + (i + 1) by omega]
theorem entV_rn (s : Nat → Nat → Nat × Nat) (b : Nat) (L : List Ent) (h : ∀ i g, b ≤ i → s i g = (i, g)) : (entV b L).map (V.rn s) = entV b L := by
  induction L generalizing b with
  | nil => rfl
  | cons e r ih =>
    have h1 := ih (b + 1) fun i g hi => h i g (by omega)
    simp only [entV, List.map_cons, h1]
    congr 1
    cases hm : e.m with
    | none => simp [Ent.v, Ent.iv, hm, u8V, natV]
    | some x => simp [Ent.v, Ent.iv, hm, u8V, natV, h b _ (Nat.le_refl _)]
theorem lk_entH_low (b : Nat) (L : List Ent) (t : Nat) (h : t < b) : lk (entH b L) t = none := by
  induction L generalizing b with
  | nil => rfl
  | cons e r ih =>
    have h1 := ih (b + 1) (by omega)
    cases hm : e.m with
    | none => simp [entH, Ent.h, hm, h1]
    | some x => simp [entH, Ent.h, hm, h1, show ¬ t = b by omega]
theorem lk_entH (b : Nat) (L : List Ent) (i : Nat) (e : Ent) (g : Nat) (c : Option Nat) (h : L[i]? = some e) (hm : e.m = some (g, c)) : lk (entH b L) (b + i) = some (.row g 1 (natsV e.l)) := by
  induction L generalizing b i with
  | nil => simp at h
  | cons x r ih =>
    cases i with
    | zero =>
      simp only [List.getElem?_cons_zero, Option.some.injEq] at h
      subst h
      simp [entH, Ent.h, hm]
    | succ i =>
      have := ih (b + 1) i (by simpa using h)
      rw [show b + 1 + i = b + (i + 1) by omega] at this
      cases hx : x.m with
      | none => simpa [entH, Ent.h, hx] using this
      | some y => simpa [entH, Ent.h, hx, show ¬ b + (i + 1) = b by omega] using this
theorem sub_entH (b : Nat) (L : List Ent) (h : Hp) (hk : ∀ (i : Nat) e g c, L[i]? = some e → e.m = some (g, c) → lk h (b + i) = some (.row g 1 (natsV e.l))) : Sub (entH b L) h := by
  induction L generalizing b with
  | nil => trivial
  | cons e r ih =>
    simp only [entH, sub_app]
    refine ⟨?_, ih (b + 1) fun i x g c hx hm => ?_⟩
    · cases hm : e.m with
      | none => simp [Ent.h, hm]
      | some y =>
        have := hk 0 e y.1 y.2 (by simp) hm
        simpa [Ent.h, hm] using this
    · have := hk (i + 1) x g c (by simpa using hx) hm
      rwa [show b + (i + 1) = b + 1 + i by omega] at this
theorem lk_entH_mv {base : Nat} {L : List Ent} {b b' g : Nat} {s : Nat → Nat → Nat × Nat} {i : Nat} {e : Ent} {g0 : Nat} {c : Option Nat} (hne : b ≠ b') (h1 : ¬ base + i = b') (h2 : ¬ base + i = b) (hi : L[i]? = some e) (hm : e.m = some (g0, c)) : lk (mvH s b b' g (entH base L)) (base + i) = some (.row g0 1 (natsV e.l)) := by
  rw [lk_mvH hne, if_neg h1, if_neg h2, lk_entH base L i e g0 c hi hm]
  simp [Blk.rn, map_rn_pure (natsV_pure _)]
/-- What nodes under way hold, read. -/
theorem natsV_ints (l : List Nat) : natsV l = ints (l.map fun (x : Nat) => (x : Int)) := by simp [natsV, natV, ints]
def Ent.f (e : Ent) : V := .agg [u8V e.k, (match e.m with | none => .nil | some (_, cap) => .sl (natsV e.l) cap), natV 0, natV e.b]
theorem ent_frz {h : Hp} {n : Nat} (b : Nat) (L : List Ent) (hk : ∀ (i : Nat) e g c, L[i]? = some e → e.m = some (g, c) → lk h (b + i) = some (.row g 1 (natsV e.l))) : (entV b L).map (frz h (n + 1)) = L.map Ent.f := by
  induction L generalizing b with
  | nil => rfl
  | cons e r ih =>
    have h1 := ih (b + 1) fun i x g c hx hm => by
      have := hk (i + 1) x g c (by simpa using hx) hm
      rwa [show b + (i + 1) = b + 1 + i by omega] at this
    simp only [entV, List.map_cons, h1]
    congr 1
    cases hm : e.m with
    | none => simp [Ent.v, Ent.iv, Ent.f, hm, u8V, natV, frz]
    | some y =>
      have h0 := hk 0 e y.1 y.2 (by simp) hm
      rw [Nat.add_zero] at h0
      simp only [Ent.v, Ent.iv, Ent.f, hm, frz_agg, List.map_cons, List.map_nil]
      rw [frz_ref h0 (by simp), List.drop_zero, List.take_of_length_le (by simp), frz_all _ _ (natsV_pure _)]
      simp [u8V, natV, frz]
theorem ent_le (e : Ent) (h : e.m = none → e.l = []) : CellsLe e.f e.nd.v := by
  refine ⟨.refl _, ?_, .refl _, .refl _, trivial⟩
  cases hm : e.m with
  | none => simp only [h hm, Ent.nd]; exact VLe.nil'
  | some y => simp only [Ent.nd, natsV_ints]; exact .cap _ _
theorem ents_le (L : List Ent) (h : ∀ e ∈ L, e.m = none → e.l = []) (c : Option Nat) : VLe (.sl (L.map Ent.f) c) (.sl ((L.map Ent.nd).map Nd.v) none) := by
  refine VLe.trans (VLe.slc (by simp) fun i => ?_) (.cap _ c)
  simp only [List.map_map, List.getD_eq_getElem?_getD, List.getElem?_map]
  cases hx : L[i]? with
  | none => exact AllLe.refl _
  | some e => exact ent_le e (h e (List.mem_of_getElem? hx))
end Go.Proofs.YtekbgkainigfnaaGreatDoor
