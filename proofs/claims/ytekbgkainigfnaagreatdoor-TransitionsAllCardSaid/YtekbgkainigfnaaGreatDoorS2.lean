/- Patterns: contracts of the laws' own reading of a pattern. Conditions: none. -/
import Derived.Test.YtekbgkainigfnaaGreatDoorS0
import Derived.Test.YtekbgkainigfnaaGreatDoorLC
import Derived.Test.YtekbgkainigfnaaGreatDoorNet10
namespace Go.Proofs.YtekbgkainigfnaaGreatDoor
open Go
attribute [simp] u8s_pure
@[simp] theorem pt_cells (p : Pt) : p.v.cells = [.sl (p.i.map u8V) none, .sl (p.s.map u8V) none] := rfl
@[simp] theorem pt_cellsOk (p : Pt) : p.v.cellsOk = true := rfl
@[simp] theorem pt_pure (p : Pt) : V.pure p.v = true := by simp [Pt.v]
theorem modS {a b p : Nat} (h : a % b = p) : ((a : Int)).tmod (b : Int) = (p : Int) := by rw [← h]; rfl
theorem cnt_app (k : Int) : ∀ a b : List Nd, cnt k (a ++ b) = cnt k a + cnt k b
  | [], b => by simp [cnt, ids]
  | n :: a, b => by rw [List.cons_append, cnt_cons, cnt_cons, cnt_app k a b]; omega
theorem cnt_take {k : Int} {l : List Nd} {i : Nat} {y : Nd} (h : i < l.length) (hy : l[i] = y) : cnt k (l.take (i + 1)) = cnt k (l.take i) + if y.k = k then 1 else 0 := by
  rw [List.take_succ_eq_append_getElem h, cnt_app, hy, cnt_cons]
  simp [cnt, ids]
theorem count_c (c : Ci) (k : Nat) (hl : c.n.length < 1000000) : PureC Tryz.prog gl0 74 [c.v, u8V k] (natV (cnt (k : Int) c.n)) := by
  refine PureC.of_W 2 ok74 rfl ?_
  simp [i74, x74, Ci.v, u8V]
  intro gf
  generalize gf 2 = g2
  refine LoopP.of (X := Nat) (fun i => [(6, natV i), (5, natV (cnt (k : Int) (c.n.take i))), (2, .ptr 2 g2 0 0), (1, .int .u8 (k : Int))]) (fun _ => [(2, .row g2 4 [.agg [.sl (c.n.map Nd.v) none, .sl (c.s.map .str) none, .sl (c.m.map Md.v) none, .sl (ints c.o) none]])])
    (fun i => i ≤ c.n.length) (fun i => c.n.length - i) 0 (Nat.zero_le _) (by simp [natV, cnt, ids]) (by simp) ?_
  intro i hi
  simp [natV]
  refine BrB.of (fun hb => ?_) (fun hb => ?_)
  · have hi' : i < c.n.length := of_decide_eq_true hb
    have hw := wrapN i (by omega)
    obtain ⟨y, hy⟩ : ∃ y, c.n[i] = y := ⟨_, rfl⟩
    have ht := cnt_take (k := (k : Int)) hi' hy
    have hle := cnt_le (k : Int) (c.n.take i)
    have hle2 : (c.n.take i).length ≤ i := by simp; omega
    obtain ⟨q, hq⟩ : ∃ q, cnt (k : Int) (c.n.take i) = q := ⟨_, rfl⟩
    rw [hq] at ht hle
    have hw2 := wrapN q (by omega)
    simp [hi', hy, Nd.v, hq]
    refine BrB.of (fun h1 => ?_) (fun h1 => ?_)
    · have h1' := of_decide_eq_true h1
      rw [if_pos h1'] at ht
      simp [hw, hw2]
      exact ⟨i + 1, hi', by rw [ht]; simp, by omega⟩
    · have h1' := of_decide_eq_false h1
      rw [if_neg h1'] at ht
      simp [hw]
      exact ⟨i + 1, hi', by rw [ht]; simp, by omega⟩
  · have hi' : i = c.n.length := by have := of_decide_eq_false hb; omega
    subst hi'
    simp
/-- Values of a list, taken round. -/
def tkN (l : List Nat) (n most : Nat) : List Nat := tab n fun i => if l.length = 0 then 2 else l.getD (i % l.length) 0 % most
@[simp] theorem tkN_length (l : List Nat) (n most : Nat) : (tkN l n most).length = n := by simp [tkN]
theorem tkN_le (l : List Nat) (n most : Nat) (hm : 0 < most) (hm2 : most ≤ 4) : ∀ x ∈ tkN l n most, x ≤ 3 := by
  intro x hx
  simp only [tkN, tab, List.mem_map] at hx
  obtain ⟨i, -, rfl⟩ := hx
  split
  · omega
  · have := Nat.mod_lt (l.getD (i % l.length) 0) hm
    omega
theorem tab_snoc {α : Type} (n : Nat) (f : Nat → α) : tab (n + 1) f = tab n f ++ [f n] := by simp [tab, List.range_succ]
theorem listV_le (l : List V) : VLe (listV l) (.sl l none) := by
  cases l with
  | nil => exact VLe.nil'
  | cons a r => exact .refl _
theorem taken_c (l : List Nat) (cap : Option Nat) (n most : Nat) (hn : n < 1000000) (hm : 0 < most) (hm2 : most < 256) : PureC Tryz.prog gl0 73 [.sl (l.map u8V) cap, natV n, u8V most] (.sl ((tkN l n most).map u8V) none) := by
  refine PureC.wide (res := listV ((tkN l n most).map u8V)) ?_ (AllLe.refl _) (listV_le _)
  refine PureC.of_W 2 ok73 rfl ?_
  simp [i73, x73, natV, u8V]
  refine LoopP.ofM (X := Nat × Option (Nat × List V)) (fun z => [(8, natV z.1), (7, accV 1000 z.2), (0, .sl (l.map u8V) cap), (1, natV n), (2, u8V most)]) (fun z => accH 1000 1 z.2)
    (fun z => z.1 ≤ n ∧ (z.2 = none ↔ z.1 = 0) ∧ accL z.2 = (tkN l z.1 most).map u8V) (fun z => n - z.1) (.done ⟨(0, none), ⟨by simp, by simp, by simp [accL, tkN, tab]⟩, by simp [natV, accV, u8V], by simp [accH]⟩) ?_
  rintro ⟨j, acc⟩ ⟨q1, q2, q3⟩
  dsimp only at q1 q2 q3 ⊢
  have hlp := u8s_pure l
  simp [natV, u8V]
  refine BrB.of (fun hb => ?_) (fun hb => ?_)
  · have hj : j < n := of_decide_eq_true hb
    have hw := wrapN j (by omega)
    obtain ⟨v, hv⟩ : ∃ v, (if l.length = 0 then 2 else l.getD (j % l.length) 0 % most) = v := ⟨_, rfl⟩
    have hnx : (tkN l (j + 1) most).map u8V = (tkN l j most).map u8V ++ [.int .u8 (v : Int)] := by
      rw [tkN, tab_snoc, hv]; simp [tkN, u8V]
    have hjl : ((tkN l j most).map u8V).length = j := by simp
    rw [← q3] at hnx hjl
    simp
    refine BrB.of (fun h0 => ?_) (fun h0 => ?_)
    · have h0' : l.length = 0 := by simpa using h0
      rw [if_pos h0'] at hv
      subst hv
      cases acc with
      | none =>
        have hj0 : j = 0 := q2.1 rfl
        simp [accV, accH, hw]
        intro ga gb
        refine .move 19 1000 _ (by simp) (by simp; rfl) fun g' => .done ⟨j + 1, some (g', [.int .u8 2]), ⟨hj, by simp, by rw [hnx]; rfl⟩, ?_⟩
        simp [rnL_pure _ hlp]
        omega
      | some gl =>
        obtain ⟨g, r⟩ := gl
        simp only [accL] at hnx hjl
        simp [accV, accH, hw]
        intro ga gb
        refine ⟨by omega, .done ⟨j + 1, some (gb 1000, r ++ [.int .u8 2]), ⟨hj, by simp, by rw [hnx]; rfl⟩, ?_⟩⟩
        simp
        omega
    · have h0' : ¬ l.length = 0 := by simpa using h0
      rw [if_neg h0'] at hv
      have hlt := Nat.mod_lt j (show 0 < l.length by omega)
      obtain ⟨p, hp⟩ : ∃ p, j % l.length = p := ⟨_, rfl⟩
      rw [hp] at hlt hv
      have hm1 : ((j : Int)).tmod (l.length : Int) = (p : Int) := modS hp
      obtain ⟨x, hx⟩ : ∃ x, l[p] = x := ⟨_, rfl⟩
      have hxv : x % most = v := by rw [← hv, List.getD_eq_getElem?_getD, List.getElem?_eq_getElem hlt, hx]; rfl
      have hm3 : ((x : Int)).tmod (most : Int) = (v : Int) := modS hxv
      have hl0 : l ≠ [] := fun e => h0' (by rw [e]; rfl)
      have hm0 : most ≠ 0 := by omega
      cases acc with
      | none =>
        have hj0 : j = 0 := q2.1 rfl
        simp [hl0, hm1, hlt, hx, hm3, hm0, u8V, accV, accH, hw]
        intro ga gb
        refine .move 31 1000 _ (by simp) (by simp; rfl) fun g' => .done ⟨j + 1, some (g', [.int .u8 (v : Int)]), ⟨hj, by simp, by rw [hnx]; rfl⟩, ?_⟩
        simp [rnL_pure _ hlp]
        omega
      | some gl =>
        obtain ⟨g, r⟩ := gl
        simp only [accL] at hnx hjl
        simp [hl0, hm1, hlt, hx, hm3, hm0, u8V, accV, accH, hw]
        intro ga gb
        refine ⟨by omega, .done ⟨j + 1, some (gb 1000, r ++ [.int .u8 (v : Int)]), ⟨hj, by simp, by rw [hnx]; rfl⟩, ?_⟩⟩
        simp
        omega
  · have hj : j = n := by have := of_decide_eq_false hb; omega
    subst hj
    cases acc with
    | none =>
      have hj0 : j = 0 := q2.1 rfl
      subst hj0
      simp [accV, accH, tkN, tab, listV]
    | some gl =>
      obtain ⟨g, r⟩ := gl
      simp only [accL] at q3
      have hrp : V.pureL r = true := by rw [q3]; exact u8s_pure _
      have hr0 : r ≠ [] := fun e => by
        have h1 := q2.2
        subst e
        have : j = 0 := by have := congrArg List.length q3; simpa using this.symm
        exact absurd (h1 this) (by simp)
      have hlv : listV r = .sl r none := by cases r with
        | nil => exact absurd rfl hr0
        | cons a b => rfl
      rw [← q3, hlv]
      simp [accV, accH, map_frz_pure hrp]
theorem pof_c (p : Pt) (c : Ci) (hl : c.n.length < 1000000) : PureC Tryz.prog gl0 38 [p.v, c.v] (Pt.v ⟨tkN p.i (cnt 0 c.n) 4, tkN p.s (cnt 14 c.n) 3⟩) := by
  have c0 : PureC Tryz.prog gl0 74 [c.v, u8V 0] (natV (cnt 0 c.n)) := count_c c 0 hl
  have c1 : PureC Tryz.prog gl0 74 [c.v, u8V 14] (natV (cnt 14 c.n)) := count_c c 14 hl
  have l0 := cnt_le 0 c.n
  have l1 := cnt_le 14 c.n
  generalize cnt 0 c.n = A at c0 l0 ⊢
  generalize cnt 14 c.n = B at c1 l1 ⊢
  have t0 := taken_c p.i none A 4 (by omega) (by omega) (by omega)
  have t1 := taken_c p.s none B 3 (by omega) (by omega) (by omega)
  simp only [u8V, natV] at c0 c1 t0 t1
  generalize (tkN p.i A 4) = X at t0 ⊢
  generalize (tkN p.s B 3) = Y at t1 ⊢
  refine PureC.of_W 2 ok38 rfl ?_
  simp [i38, x38, Pt.v]
  intro gf1 gf2 gf3 gm
  refine ⟨_, _, _, .pure c0 (by simp), ?_⟩
  simp
  refine ⟨_, _, _, .pure t0 (by simp [u8s_pure]), ?_⟩
  simp
  refine ⟨_, _, _, .pure c1 (by simp), ?_⟩
  simp
  refine ⟨_, _, _, .pure t1 (by simp [u8s_pure]), ?_⟩
  simp [mapRL_pure]
  try rfl
end Go.Proofs.YtekbgkainigfnaaGreatDoor
