/- Circuits evaluated in an order; patterns as data. No program stands in it. Conditions: none. -/
import Derived.Test.YtekbgkainigfnaaGreatDoorNet11
import Derived.Test.YtekbgkainigfnaaGreatDoorBase15
namespace Go.Proofs.YtekbgkainigfnaaGreatDoor
open Go
variable {α β : Type}
/-- The values after the nodes of a list are evaluated one after another. -/
def evl (ev : Nat → (Nat → α) → α) (cb : Nat → Bool) : List Nat → (Nat → α) → (Nat → α)
  | [], f => f
  | n :: L, f => evl ev cb L (if cb n = true then upd1 f n (ev n f) else f)
theorem evl_snoc (ev : Nat → (Nat → α) → α) (cb : Nat → Bool) (n : Nat) : ∀ (L : List Nat) (f : Nat → α), evl ev cb (L ++ [n]) f = if cb n = true then upd1 (evl ev cb L f) n (ev n (evl ev cb L f)) else evl ev cb L f
  | [], _ => rfl
  | m :: L, f => by simp only [List.cons_append, evl, evl_snoc ev cb n L]
/-- Values laid at places. -/
def put : List Nat → List α → (Nat → α) → (Nat → α)
  | n :: ns, v :: vs, f => put ns vs (upd1 f n v)
  | _, _, f => f
theorem put_snoc (n : Nat) (v : α) : ∀ (ns : List Nat) (vs : List α) (f : Nat → α), ns.length = vs.length → put (ns ++ [n]) (vs ++ [v]) f = upd1 (put ns vs f) n v
  | [], [], _, _ => rfl
  | [], _ :: _, _, h => by simp at h
  | _ :: _, [], _, h => by simp at h
  | m :: ns, w :: vs, f, h => by
    simp only [List.cons_append, put]
    exact put_snoc n v ns vs _ (by simpa using h)
theorem put_take {ns : List Nat} {vs : List α} {f : Nat → α} (i : Nat) (h : ns.length = vs.length) (hi : i < ns.length) : put (ns.take (i + 1)) (vs.take (i + 1)) f = upd1 (put (ns.take i) (vs.take i) f) ns[i] (vs[i]'(by omega)) := by
  rw [List.take_succ_eq_append_getElem hi, List.take_succ_eq_append_getElem (l := vs) (by omega)]
  exact put_snoc _ _ _ _ _ (by simp; omega)
theorem put_ne {n : Nat} : ∀ (ns : List Nat) (vs : List α) (f : Nat → α), n ∉ ns → put ns vs f n = f n
  | [], _, _, _ => by simp [put]
  | _ :: _, [], _, _ => by simp [put]
  | m :: ns, w :: vs, f, h => by
    simp only [List.mem_cons, not_or] at h
    rw [put, put_ne ns vs _ h.2, upd1_ne _ _ h.1]
theorem put_mem {n : Nat} : ∀ (ns : List Nat) (vs : List α) (f f' : Nat → α), ns.length = vs.length → n ∈ ns → put ns vs f n = put ns vs f' n
  | [], _, _, _, _, hm => by simp at hm
  | _ :: _, [], _, _, h, _ => by simp at h
  | m :: ns, w :: vs, f, f', h, hm => by
    rw [put, put]
    by_cases hc : n ∈ ns
    · exact put_mem ns vs _ _ (by simpa using h) hc
    · rw [put_ne ns vs _ hc, put_ne ns vs _ hc]
      rcases List.mem_cons.1 hm with rfl | hm
      · simp
      · exact absurd hm hc
theorem put_rel {R : α → β → Prop} {n : Nat} : ∀ (ns : List Nat) (vs : List α) (ws : List β) (f : Nat → α) (f' : Nat → β), ns.length = vs.length → ns.length = ws.length →
    (∀ i (h1 : i < vs.length) (h2 : i < ws.length), R vs[i] ws[i]) → (n ∈ ns ∨ R (f n) (f' n)) → R (put ns vs f n) (put ns ws f' n)
  | [], vs, ws, f, f', h1, h2, _, hm => by
    rcases hm with hm | hm
    · simp at hm
    · simpa [put] using hm
  | _ :: _, [], _, _, _, h1, _, _, _ => by simp at h1
  | _ :: _, _ :: _, [], _, _, _, h2, _, _ => by simp at h2
  | m :: ns, v :: vs, w :: ws, f, f', h1, h2, hr, hm => by
    rw [put, put]
    refine put_rel ns vs ws _ _ (by simpa using h1) (by simpa using h2) (fun i a b => hr (i + 1) (by simp; omega) (by simp; omega)) ?_
    by_cases hc : n = m
    · subst hc
      refine .inr ?_
      have h0 := hr 0 (by simp) (by simp)
      simp only [upd1_same]
      exact h0
    · rcases hm with hm | hm
      · exact .inl ((List.mem_cons.1 hm).resolve_left hc)
      · rw [upd1_ne _ _ hc, upd1_ne _ _ hc]; exact .inr hm
/-- Each node of a list stands behind those it reads. -/
def Topo (g : Nat → List Nat) : List Nat → List Nat → Prop
  | _, [] => True
  | A, n :: L => (∀ x ∈ g n, x ∈ A) ∧ Topo g (n :: A) L
theorem evl_rel {g : Nat → List Nat} {cb : Nat → Bool} {ev : Nat → (Nat → α) → α} {ev' : Nat → (Nat → β) → β} {R : Nat → α → β → Prop}
    (hev : ∀ n f f', cb n = true → (∀ x ∈ g n, R x (f x) (f' x)) → R n (ev n f) (ev' n f')) :
    ∀ (L A : List Nat) (f : Nat → α) (f' : Nat → β), Topo g A L → (∀ n, (n ∈ A ∨ cb n = false) → R n (f n) (f' n)) → ∀ n, (n ∈ A ∨ n ∈ L ∨ cb n = false) → R n (evl ev cb L f n) (evl ev' cb L f' n)
  | [], A, f, f', _, hi, n, hn => hi n (by rcases hn with h | h | h; exact .inl h; simp at h; exact .inr h)
  | m :: L, A, f, f', ht, hi, n, hn => by
    simp only [evl]
    refine evl_rel hev L (m :: A) _ _ ht.2 (fun k hk => ?_) n ?_
    · by_cases hc : cb m = true
      · simp only [hc, if_true]
        by_cases hkm : k = m
        · subst hkm
          rw [upd1_same, upd1_same]
          exact hev k f f' hc fun x hx => hi x (.inl (ht.1 x hx))
        · rw [upd1_ne _ _ hkm, upd1_ne _ _ hkm]
          refine hi k ?_
          rcases hk with hk | hk
          · exact .inl ((List.mem_cons.1 hk).resolve_left hkm)
          · exact .inr hk
      · simp only [hc]
        refine hi k ?_
        rcases hk with hk | hk
        · rcases List.mem_cons.1 hk with rfl | hk
          · exact .inr (by simpa using hc)
          · exact .inl hk
        · exact .inr hk
    · rcases hn with h | h | h
      · exact .inl (List.mem_cons_of_mem _ h)
      · rcases List.mem_cons.1 h with rfl | h
        · exact .inl List.mem_cons_self
        · exact .inr (.inl h)
      · exact .inr (.inr h)
/-- The numbers of the nodes of a kind. -/
def ids (k : Int) : List Nd → Nat → List Nat
  | [], _ => []
  | n :: r, i => if n.k = k then i :: ids k r (i + 1) else ids k r (i + 1)
theorem ofLs_ids (k : Int) : ∀ (l : List Nd) (i : Nat), ofLs [k] l i = natsV (ids k l i)
  | [], _ => rfl
  | n :: r, i => by
    simp only [ofLs, ids, List.mem_singleton]
    split <;> simp [ofLs_ids k r (i + 1), natsV, natV]
theorem ids_mem (k : Int) : ∀ (l : List Nd) (i x : Nat), x ∈ ids k l i ↔ ∃ j, ∃ h : j < l.length, x = i + j ∧ l[j].k = k
  | [], i, x => by simp [ids]
  | n :: r, i, x => by
    have ih := ids_mem k r (i + 1) x
    have hsh : (∃ j, ∃ h : j < (n :: r).length, x = i + j ∧ (n :: r)[j].k = k) ↔ (x = i ∧ n.k = k) ∨ ∃ j, ∃ h : j < r.length, x = i + 1 + j ∧ r[j].k = k := by
      constructor
      · rintro ⟨j, hj, rfl, hk⟩
        cases j with
        | zero => exact .inl ⟨rfl, hk⟩
        | succ j => exact .inr ⟨j, by simpa using hj, by omega, hk⟩
      · rintro (⟨rfl, hk⟩ | ⟨j, hj, rfl, hk⟩)
        · exact ⟨0, by simp, rfl, hk⟩
        · exact ⟨j + 1, by simpa using hj, by omega, hk⟩
    rw [hsh, ← ih]
    simp only [ids]
    split
    · rename_i hk; simp [hk]
    · rename_i hk; simp [hk]
/-- How many nodes are of a kind. -/
def cnt (k : Int) (l : List Nd) : Nat := (ids k l 0).length
theorem ids_len (k : Int) : ∀ (l : List Nd) (i : Nat), (ids k l i).length = cnt k l
  | l, 0 => rfl
  | [], i + 1 => rfl
  | n :: r, i + 1 => by
    unfold cnt
    simp only [ids]
    split
    · simp [ids_len k r (i + 2), ids_len k r 1]
    · simp [ids_len k r (i + 2), ids_len k r 1]
theorem cnt_cons (k : Int) (n : Nd) (r : List Nd) : cnt k (n :: r) = (if n.k = k then 1 else 0) + cnt k r := by
  rw [cnt, ids]
  split
  · simp [ids_len k r 1]; omega
  · simp [ids_len k r 1]
theorem cnt_le (k : Int) : ∀ l : List Nd, cnt k l ≤ l.length
  | [] => by simp [cnt, ids]
  | n :: r => by
    rw [cnt_cons]
    have := cnt_le k r
    simp only [List.length_cons]
    split <;> omega
theorem ids_lt {k : Int} {l : List Nd} {x : Nat} (h : x ∈ ids k l 0) : ∃ hx : x < l.length, l[x].k = k := by
  obtain ⟨j, hj, rfl, hk⟩ := (ids_mem k l 0 x).1 h
  simp only [Nat.zero_add]
  exact ⟨hj, hk⟩
/-- A pattern, as data. -/
structure Pt where
  i : List Nat
  s : List Nat
def Pt.v (p : Pt) : V := .agg [.sl (p.i.map u8V) none, .sl (p.s.map u8V) none]
end Go.Proofs.YtekbgkainigfnaaGreatDoor
