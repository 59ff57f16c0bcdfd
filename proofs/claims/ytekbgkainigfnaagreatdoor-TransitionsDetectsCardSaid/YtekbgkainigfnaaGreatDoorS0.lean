/- Circuits evaluated in an order; patterns as data. No program stands in it. Conditions: none. -/
import Derived.Test.YtekbgkainigfnaaGreatDoorNet11
import Derived.Test.YtekbgkainigfnaaGreatDoorBase15
namespace Go.Proofs.YtekbgkainigfnaaGreatDoor
open Go
variable {α β : Type}
/-- The values after the nodes of a list are evaluated one after another. -/
def evl (ev : Nat → (Nat → α) → α) (cb : Nat → Bool) : List Nat → (Nat → α) → (Nat → α)
  | [], f => f
  | n :: L, f => evl ev cb L (if cb n = true then upd1 f n (ev n f) else f)
theorem evl_snoc (ev : Nat → (Nat → α) → α) (cb : Nat → Bool) (n : Nat) : ∀ (L : List Nat) (f : Nat → α), evl ev cb (L ++ [n]) f = if cb n = true then upd1 (evl ev cb L f) n (ev n (evl ev cb L f)) else evl ev cb L f
  | [], _ => rfl
  | m :: L, f => by simp only [List.cons_append, evl, evl_snoc ev cb n L]
/-- Values laid at places. -/
def put : List Nat → List α → (Nat → α) → (Nat → α)
  | n :: ns, v :: vs, f => put ns vs (upd1 f n v)
  | _, _, f => f
theorem put_snoc (n : Nat) (v : α) : ∀ (ns : List Nat) (vs : List α) (f : Nat → α), ns.length = vs.length → put (ns ++ [n]) (vs ++ [v]) f = upd1 (put ns vs f) n v
  | [], [], _, _ => rfl
  | [], _ :: _, _, h => by simp at h
  | _ :: _, [], _, h => by simp at h
  | m :: ns, w :: vs, f, h => by
    simp only [List.cons_append, put]
    exact put_snoc n v ns vs _ (by simpa using h)
theorem put_take {ns : List Nat} {vs : List α} {f : Nat → α} (i : Nat) (h : ns.length = vs.length) (hi : i < ns.length) : put (ns.take (i + 1)) (vs.take (i + 1)) f = upd1 (put (ns.take i) (vs.take i) f) ns[i] (vs[i]'(by omega)) := by
  rw [List.take_succ_eq_append_getElem hi, List.take_succ_eq_append_getElem (l := vs) (by omega)]
  exact put_snoc _ _ _ _ _ (by simp; omega)
/-- Each node of a list stands behind those it reads. -/
def Topo (g : Nat → List Nat) : List Nat → List Nat → Prop
  | _, [] => True
  | A, n :: L => (∀ x ∈ g n, x ∈ A) ∧ Topo g (n :: A) L
/-- The numbers of the nodes of a kind. -/
def ids (k : Int) : List Nd → Nat → List Nat
  | [], _ => []
  | n :: r, i => if n.k = k then i :: ids k r (i + 1) else ids k r (i + 1)
theorem ofLs_ids (k : Int) : ∀ (l : List Nd) (i : Nat), ofLs [k] l i = natsV (ids k l i)
  | [], _ => rfl
  | n :: r, i => by
    simp only [ofLs, ids, List.mem_singleton]
    split <;> simp [ofLs_ids k r (i + 1), natsV, natV]
theorem ids_mem (k : Int) : ∀ (l : List Nd) (i x : Nat), x ∈ ids k l i ↔ ∃ j, ∃ h : j < l.length, x = i + j ∧ l[j].k = k
  | [], i, x => by simp [ids]
  | n :: r, i, x => by
    have ih := ids_mem k r (i + 1) x
    have hsh : (∃ j, ∃ h : j < (n :: r).length, x = i + j ∧ (n :: r)[j].k = k) ↔ (x = i ∧ n.k = k) ∨ ∃ j, ∃ h : j < r.length, x = i + 1 + j ∧ r[j].k = k := by
      constructor
      · rintro ⟨j, hj, rfl, hk⟩
        cases j with
        | zero => exact .inl ⟨rfl, hk⟩
        | succ j => exact .inr ⟨j, by simpa using hj, by omega, hk⟩
      · rintro (⟨rfl, hk⟩ | ⟨j, hj, rfl, hk⟩)
        · exact ⟨0, by simp, rfl, hk⟩
        · exact ⟨j + 1, by simpa using hj, by omega, hk⟩
    rw [hsh, ← ih]
    simp only [ids]
    split
    · rename_i hk; simp [hk]
    · rename_i hk; simp [hk]
/-- How many nodes are of a kind. -/
def cnt (k : Int) (l : List Nd) : Nat := (ids k l 0).length
theorem ids_len (k : Int) : ∀ (l : List Nd) (i : Nat), (ids k l i).length = cnt k l
  | l, 0 => rfl
  | [], i + 1 => rfl
  | n :: r, i + 1 => by
    unfold cnt
    simp only [ids]
    split
    · simp [ids_len k r (i + 2), ids_len k r 1]
    · simp [ids_len k r (i + 2), ids_len k r 1]
theorem cnt_cons (k : Int) (n : Nd) (r : List Nd) : cnt k (n :: r) = (if n.k = k then 1 else 0) + cnt k r := by
  rw [cnt, ids]
  split
  · simp [ids_len k r 1]; omega
  · simp [ids_len k r 1]
theorem cnt_le (k : Int) : ∀ l : List Nd, cnt k l ≤ l.length
  | [] => by simp [cnt, ids]
  | n :: r => by
    rw [cnt_cons]
    have := cnt_le k r
    simp only [List.length_cons]
    split <;> omega
theorem ids_lt {k : Int} {l : List Nd} {x : Nat} (h : x ∈ ids k l 0) : ∃ hx : x < l.length, l[x].k = k := by
  obtain ⟨j, hj, rfl, hk⟩ := (ids_mem k l 0 x).1 h
  simp only [Nat.zero_add]
  exact ⟨hj, hk⟩
/-- A pattern, as data. -/
structure Pt where
  i : List Nat
  s : List Nat
def Pt.v (p : Pt) : V := .agg [.sl (p.i.map u8V) none, .sl (p.s.map u8V) none]
end Go.Proofs.YtekbgkainigfnaaGreatDoor
