/- Patterns: contracts of the laws' own reading of a pattern. Conditions: none. -/
import Derived.Test.YtekbgkainigfnaaGreatDoorS0
import Derived.Test.YtekbgkainigfnaaGreatDoorLC
import Derived.Test.YtekbgkainigfnaaGreatDoorNet10
namespace Go.Proofs.YtekbgkainigfnaaGreatDoor
open Go
attribute [simp] u8s_pure
@[simp] theorem pt_cells (p : Pt) : p.v.cells = [.sl (p.i.map u8V) none, .sl (p.s.map u8V) none] := rfl
@[simp] theorem pt_cellsOk (p : Pt) : p.v.cellsOk = true := rfl
@[simp] theorem pt_pure (p : Pt) : V.pure p.v = true := by simp [Pt.v]
theorem cnt_app (k : Int) : ∀ a b : List Nd, cnt k (a ++ b) = cnt k a + cnt k b
  | [], b => by simp [cnt, ids]
  | n :: a, b => by rw [List.cons_append, cnt_cons, cnt_cons, cnt_app k a b]; omega
theorem cnt_take {k : Int} {l : List Nd} {i : Nat} {y : Nd} (h : i < l.length) (hy : l[i] = y) : cnt k (l.take (i + 1)) = cnt k (l.take i) + if y.k = k then 1 else 0 := by
  rw [List.take_succ_eq_append_getElem h, cnt_app, hy, cnt_cons]
  simp [cnt, ids]
/-- Values of a list, taken round. -/
def tkN (l : List Nat) (n most : Nat) : List Nat := tab n fun i => if l.length = 0 then 2 else l.getD (i % l.length) 0 % most
@[simp] theorem tkN_length (l : List Nat) (n most : Nat) : (tkN l n most).length = n := by simp [tkN]
theorem tab_snoc {α : Type} (n : Nat) (f : Nat → α) : tab (n + 1) f = tab n f ++ [f n] := by simp [tab, List.range_succ]
theorem listV_le (l : List V) : VLe (listV l) (.sl l none) := by
  cases l with
  | nil => exact VLe.nil'
  | cons a r => exact .refl _
end Go.Proofs.YtekbgkainigfnaaGreatDoor
