/- Netlists: contracts, a copy taken for what it holds; same. Conditions: none. Netlists: contracts, the law Check. Conditions: none. -/
import Derived.Test.YtekbgkainigfnaaGreatDoorNet9

namespace Go.Proofs.YtekbgkainigfnaaGreatDoor
open Go
/-! A value that reads as a list of parts reads as any list of wider parts. -/
theorem VLe.agg {a b : List V} (h : AllLe a b) : VLe (.agg a) (.agg b) := fun G M r hr => by
  obtain ⟨h1, h2⟩ := h.spec
  cases hr with
  | agg _ arr hs q ho => exact .agg b arr (by rw [hs, h1]) (fun i hi => h2 i G M _ (q i (by omega))) (fun i hi => ho i (by omega))
/-- Cell by cell. -/
def CellsLe (a b : V) : Prop := AllLe a.cells b.cells
theorem VLe.slc {a b : List V} {c : Option Nat} (hl : a.length = b.length) (h : ∀ i, CellsLe (a.getD i .undef) (b.getD i .undef)) : VLe (.sl a c) (.sl b c) := fun G M r hr => by
  cases hr with
  | slnil cap base rcap hc hb =>
    have : b = [] := List.length_eq_zero_iff.1 (by rw [← hl]; rfl)
    subst this
    exact .slnil _ _ _ hc hb
  | sl _ _ rb ro rcap sz cells hne hG hsz hb hl2 hc hh ho =>
    rw [hl]
    refine .sl b c rb ro rcap sz cells (fun e => hne (List.length_eq_zero_iff.1 (by rw [hl, e]; rfl))) hG (fun i hi => ?_) (by rw [← hl]; exact hb) (by rw [← hl]; exact hl2) hc (fun i j hi hj => ?_) (fun i j hi hj => ho i j (by omega) hj)
    · rw [← (h i).spec.1]; exact hsz i (by omega)
    · exact (h i).spec.2 j G M _ (hh i j (by omega) hj)
theorem VLe.map {α : Type} {f g : α → V} {c : Option Nat} (h : ∀ x, CellsLe (f x) (g x)) (l : List α) : VLe (.sl (l.map f) c) (.sl (l.map g) c) := by
  refine VLe.slc (by simp) fun i => ?_
  simp only [List.getD_eq_getElem?_getD, List.getElem?_map]
  cases l[i]? with
  | none => exact AllLe.refl _
  | some x => exact h x
/-- A node, a memory as they stand in a copy. -/
def Nd.c (x : Nd) : V := .agg [.int .u8 x.k, .sl (ints x.i) (some x.i.length), .int .i64 x.a, .int .i64 x.b]
def Md.c (x : Md) : V := .agg [.sl (ints x.a) (some x.a.length), .sl (ints x.d) (some x.d.length), .int .i64 x.w]
def Ci.c (c : Ci) : V := .agg [.sl (c.n.map Nd.c) (some c.n.length), .sl (c.s.map .str) (some c.s.length), .sl (c.m.map Md.c) (some c.m.length), .sl (ints c.o) (some c.o.length)]
theorem frz_agg (h : Hp) (n : Nat) (cs : List V) : frz h n (.agg cs) = .agg (cs.map (frz h n)) := by
  cases n <;> simp [frz, mapRL_eq]
structure Ci.lens (c : Ci) : Prop where
  n : c.n.length < 1000000
  s : c.s.length < 1000000000
  m : c.m.length < 1000000
  o : c.o.length < 1000000000
  i : ∀ x ∈ c.n, x.i.length < 1000000000
  a : ∀ x ∈ c.m, x.a.length < 1000000000 ∧ x.d.length < 1000000000
@[simp] theorem ints_take (l : List Int) : List.take l.length (ints l) = ints l := List.take_of_length_le (by simp)
end Go.Proofs.YtekbgkainigfnaaGreatDoor

namespace Go.Proofs.YtekbgkainigfnaaGreatDoor
open Go
end Go.Proofs.YtekbgkainigfnaaGreatDoor
