/- Words: values packed into a word, a word unpacked. Conditions: none. -/
import Derived.Test.YtmbgmfenlededaaGreatDoorW1
namespace Go.Proofs.YtmbgmfenlededaaGreatDoor
open Go
/-! Arrays told by a function. -/
def tab {α : Type} (n : Nat) (f : Nat → α) : List α := (List.range n).map f
def upd1 {α : Type} (f : Nat → α) (i : Nat) (v : α) : Nat → α := fun j => if j = i then v else f j
@[simp] theorem upd1_same {α : Type} (f : Nat → α) (i : Nat) (v : α) : upd1 f i v i = v := by simp [upd1]
theorem upd1_ne {α : Type} (f : Nat → α) {i j : Nat} (v : α) (h : j ≠ i) : upd1 f i v j = f j := by simp [upd1, h]
@[simp] theorem tab_length {α : Type} (n : Nat) (f : Nat → α) : (tab n f).length = n := by simp [tab]
theorem tab_get {α : Type} (n : Nat) (f : Nat → α) (i : Nat) (h : i < (tab n f).length) : (tab n f)[i] = f i := by simp [tab]
theorem tab_get? {α : Type} {n : Nat} (f : Nat → α) {i : Nat} (h : i < n) : (tab n f)[i]? = some (f i) := by simp [tab, h]
theorem tab_set {α : Type} (n : Nat) (f : Nat → α) (i : Nat) (v : α) : (tab n f).set i v = tab n (upd1 f i v) := by
  refine List.ext_getElem? fun j => ?_
  rw [List.getElem?_set]
  unfold tab upd1
  by_cases h : i = j
  · subst h
    by_cases h2 : i < n <;> simp [h2]
  · have h' : ¬ j = i := fun e => h e.symm
    by_cases h2 : j < n <;> simp [h, h', h2]
theorem tab_congr {α : Type} {n : Nat} {f g : Nat → α} (h : ∀ i, i < n → f i = g i) : tab n f = tab n g := by
  unfold tab
  exact List.map_congr_left fun i hi => h i (by simpa using hi)
theorem tab_const {α : Type} (n : Nat) (v : α) : List.replicate n v = tab n fun _ => v := by
  refine List.ext_getElem? fun j => ?_
  by_cases h : j < n <;> simp [tab, h]
theorem tab_map {α β : Type} (n : Nat) (f : Nat → α) (h : α → β) : (tab n f).map h = tab n fun i => h (f i) := by simp [tab, Function.comp_def]
theorem tab_of {α : Type} [Inhabited α] (l : List α) : l = tab l.length fun i => l.getD i default := by
  refine List.ext_getElem? fun j => ?_
  by_cases h : j < l.length <;> simp [tab, h]
theorem tab_pure {n : Nat} {f : Nat → V} (h : ∀ i, (f i).pure = true) : V.pureL (tab n f) = true := pureL_map h _
where pureL_map {f : Nat → V} (h : ∀ i, (f i).pure = true) (l : List Nat) : V.pureL (l.map f) = true := V.pureL_map f l h

theorem frz_tab {h : Hp} {m b g n sz : Nat} {cap : Option Nat} {f : Nat → V} (hb : lk h b = some (.row g sz (tab n f))) (hf : ∀ i, (f i).pure = true) : frz h (m + 1) (.ref b g 0 n cap) = .sl (tab n f) cap := by
  rw [frz_ref hb (by simp), List.drop_zero, List.take_of_length_le (by simp), frz_all _ _ (tab_pure hf)]
@[simp] theorem wd_cells (w : Wd) : w.v.cells = [bvV w.o, bvV w.z] := rfl
@[simp] theorem wd_cellsOk (w : Wd) : w.v.cellsOk = true := rfl
@[simp] theorem bvV_pure (b : BitVec 64) : (bvV b).pure = true := rfl
@[simp] theorem wd_pure (w : Wd) : w.v.pure = true := rfl
def lanesV (w : Wd) (n : Nat) : List V := tab n fun i => u8V (w.lane i)
theorem lanesV_pure (w : Wd) (n : Nat) : V.pureL (lanesV w n) = true := tab_pure fun _ => rfl
theorem map_frz_pure {l : List V} (h : V.pureL l = true) {f : Nat → Nat → Nat → Nat → Option Nat → V} {p : Nat → Nat → Nat → Nat → V} : (l.map fun x => V.mapR f p x) = l := by
  have := mapRL_pure (f := f) (p := p) l h
  rw [mapRL_eq] at this; exact this
theorem unpack_c (w : Wd) (n m : Nat) (hm : min n 64 = m) : PureC Tryz.prog gl0 22 [w.v, natV n] (.sl (lanesV w m) (some m)) := by
  have hm64 : m ≤ 64 := by omega
  refine PureC.of_W 2 ok22 rfl ?_
  have hmi : min (n : Int) 64 = (m : Int) := by omega
  have hmx : max (0 : Int) (m : Int) = (m : Int) := by omega
  simp [i22, x22, natV, hmi, hmx, show m ≤ 549755813888 by omega]
  intro gf2 gf10
  generalize gf2 2 = g2
  generalize gf10 10 = g10
  refine LoopP.of (X := Nat) (fun i => [(13, natV i), (12, natV m), (5, .ref 10 g10 0 m (some m)), (2, .ptr 2 g2 0 0)]) (fun i => [(10, .row g10 1 (tab m fun j => if j < i then u8V (w.lane j) else u8V 0)), (2, .row g2 2 [w.v])])
    (fun i => i ≤ m) (fun i => m - i) 0 (Nat.zero_le _) (by simp [natV]) (by simp [tab_const, u8V]) ?_
  intro i hi
  simp [natV]
  refine BrB.of (fun hb => ?_) (fun hb => ?_)
  · have hi' : i < m := of_decide_eq_true hb
    have hw := wrapN i (by omega)
    simp
    refine CallO.pure (at_c w i (by omega)) rfl ?_
    simp [hi', tab_get, u8V, hw, tab_set]
    refine ⟨i + 1, hi', by simp, ?_, by omega⟩
    refine tab_congr fun j hj => ?_
    unfold upd1
    by_cases hji : j = i
    · subst hji; simp
    · have : (j < i + 1) ↔ j < i := by omega
      simp [hji, this]
  · have hi' : i = m := by have := of_decide_eq_false hb; omega
    subst hi'
    have he : (tab i fun j => if j < i then u8V (w.lane j) else u8V 0) = lanesV w i := tab_congr fun j hj => by rw [if_pos hj]
    rw [he]
    have hl : (lanesV w i).length = i := by simp [lanesV]
    simp [map_frz_pure (lanesV_pure w i), hl]
    exact List.take_of_length_le (by omega)
def mo (a : Nat) : BitVec 64 := if a = 1 ∨ a = 3 then 1#64 else 0#64
def mz (a : Nat) : BitVec 64 := if a = 0 ∨ a = 3 then 1#64 else 0#64
def pk (f : Nat → BitVec 64) : Nat → BitVec 64
  | 0 => 0#64
  | n + 1 => pk f n ||| (f n <<< n)
def packW (l : List Nat) : Wd := ⟨pk (fun i => mo (clean (l.getD i 0))) (min l.length 64), pk (fun i => mz (clean (l.getD i 0))) (min l.length 64)⟩
theorem bv_shl1 (a : BitVec 64) (i : Nat) (h : i ≤ 64) : IntKind.u64.wrap ((a.toNat : Int) * 2 ^ (min i IntKind.u64.bits)) = ((a <<< i).toNat : Int) := bv_shl a i h
theorem clean_le (v : Nat) : clean v ≤ 3 := by unfold clean; split <;> omega
set_option maxRecDepth 100000 in
theorem pack_c (l : List Nat) (cap : Option Nat) (hl : l.length < 1000000000) : PureC Tryz.prog gl0 10 [.sl (l.map u8V) cap] (packW l).v := by
  obtain ⟨m, hm⟩ : ∃ m, min l.length 64 = m := ⟨_, rfl⟩
  have hmi : min (l.length : Int) 64 = (m : Int) := by omega
  unfold packW
  rw [hm]
  generalize hfo : (fun i => mo (clean (l.getD i 0))) = fo
  generalize hfz : (fun i => mz (clean (l.getD i 0))) = fz
  refine PureC.of_W 2 ok10 rfl ?_
  simp [i10, x10, hmi]
  intro gf2 gf3
  generalize gf2 2 = g2
  generalize gf3 3 = g3
  refine LoopP.of (X := Nat) (fun i => [(9, natV i), (8, natV m), (3, .ptr 3 g3 0 0), (2, .ptr 2 g2 0 0), (0, .sl (l.map u8V) cap)]) (fun i => [(3, .row g3 2 [.agg [bvV (pk fo i), bvV (pk fz i)]]), (2, .row g2 2 [.agg [.int .u64 0, .int .u64 0]])])
    (fun i => i ≤ m) (fun i => m - i) 0 (Nat.zero_le _) (by simp [natV]) (by simp [pk, bvV]) ?_
  intro i hi
  simp [natV]
  refine BrB.of (fun hb => ?_) (fun hb => ?_)
  · have hi' : i < m := of_decide_eq_true hb
    have hil : i < l.length := by omega
    have hw := wrapN i (by omega)
    obtain ⟨v, hv⟩ : ∃ v, l[i] = v := ⟨_, rfl⟩
    obtain ⟨u, hu⟩ : ∃ u, clean v = u := ⟨_, rfl⟩
    have hu3 : u ≤ 3 := by rw [← hu]; exact clean_le v
    have hcl := clean_c v
    rw [hu] at hcl
    have ho : fo i = mo u := by rw [← hfo]; simp [hil, hv, hu]
    have hz : fz i = mz u := by rw [← hfz]; simp [hil, hv, hu]
    obtain ⟨po, hpo⟩ : ∃ p, pk fo i = p := ⟨_, rfl⟩
    obtain ⟨pz, hpz⟩ : ∃ p, pk fz i = p := ⟨_, rfl⟩
    obtain ⟨so, hso⟩ : ∃ p, mo u <<< i = p := ⟨_, rfl⟩
    obtain ⟨sz, hsz⟩ : ∃ p, mz u <<< i = p := ⟨_, rfl⟩
    have e1 := bv_shl1 (mo u) i (by omega)
    have e2 := bv_shl1 (mz u) i (by omega)
    rw [hso] at e1
    rw [hsz] at e2
    have e3 := bv_or po so
    have e4 := bv_or pz sz
    have n1 : pk fo (i + 1) = po ||| so := by simp only [pk, ho, hpo, hso]
    have n2 : pk fz (i + 1) = pz ||| sz := by simp only [pk, hz, hpz, hsz]
    obtain ⟨ro, hro⟩ : ∃ r, po ||| so = r := ⟨_, rfl⟩
    obtain ⟨rz, hrz⟩ : ∃ r, pz ||| sz = r := ⟨_, rfl⟩
    rw [hro] at e3 n1
    rw [hrz] at e4 n2
    rw [hpo, hpz]
    simp [hil, hv, u8V]
    refine CallO.pure hcl rfl ?_
    have hc : u = 0 ∨ u = 1 ∨ u = 2 ∨ u = 3 := by omega
    rcases hc with rfl | rfl | rfl | rfl <;> simp [u8V, gl0, mo, mz, bvV] at e1 e2 ⊢
    all_goals exact ⟨i + 1, hi', hw, ⟨by rw [e1, e3, n1], by rw [e2, e4, n2]⟩, by omega⟩
  · have hi' : i = m := by have := of_decide_eq_false hb; omega
    subst hi'
    simp [Wd.v, bvV]
/-! What is packed is read again. -/
theorem bit1 (k : Nat) : (1#64).getLsbD k = decide (k = 0) := by
  cases k with
  | zero => rfl
  | succ k => simp [BitVec.getLsbD_one]
theorem pk_get (f : Nat → BitVec 64) (hf : ∀ i, f i = 0#64 ∨ f i = 1#64) : ∀ n j, n ≤ 64 → (pk f n).getLsbD j = (decide (j < n) && decide (f j = 1#64))
  | 0, j, _ => by simp [pk]
  | n + 1, j, h => by
    rw [pk, BitVec.getLsbD_or, pk_get f hf n j (by omega), BitVec.getLsbD_shiftLeft]
    rcases hf n with e | e
    · rw [e]
      by_cases hj : j = n
      · subst hj; simp [e]
      · have : (j < n + 1) ↔ j < n := by omega
        simp [this]
    · rw [e, bit1]
      by_cases hj : j = n
      · subst hj; simp [e]; omega
      · by_cases hlt : j < n
        · have h1 : j < n + 1 := by omega
          simp [hlt, h1]
        · have h1 : ¬ j < n + 1 := by omega
          have h2 : ¬ j - n = 0 := by omega
          simp [hlt, h1, h2]
theorem mo_01 (a : Nat) : mo a = 0#64 ∨ mo a = 1#64 := by unfold mo; split <;> simp
theorem mz_01 (a : Nat) : mz a = 0#64 ∨ mz a = 1#64 := by unfold mz; split <;> simp
theorem mo_lv (o z : Bool) : decide (mo (clean (lv o z)) = 1#64) = o := by cases o <;> cases z <;> rfl
theorem mz_lv (o z : Bool) : decide (mz (clean (lv o z)) = 1#64) = z := by cases o <;> cases z <;> rfl
def lanesL (w : Wd) (n : Nat) : List Nat := tab n w.lane
theorem lanes_get (w : Wd) (n i : Nat) (h : i < n) : (lanesL w n).getD i 0 = w.lane i := by
  rw [List.getD_eq_getElem?_getD, lanesL, tab_get? _ h]; rfl
theorem pack_lanes (w : Wd) : packW (lanesL w 64) = w := by
  obtain ⟨o, z⟩ := w
  have hl : min (lanesL ⟨o, z⟩ 64).length 64 = 64 := by simp [lanesL]
  unfold packW
  rw [hl]
  congr 1
  · apply BitVec.eq_of_getLsbD_eq
    intro i hi
    rw [pk_get _ (fun i => mo_01 _) 64 i (by omega), lanes_get _ _ _ hi]
    simp [hi, Wd.lane, mo_lv]
  · apply BitVec.eq_of_getLsbD_eq
    intro i hi
    rw [pk_get _ (fun i => mz_01 _) 64 i (by omega), lanes_get _ _ _ hi]
    simp [hi, Wd.lane, mz_lv]
theorem lanesV_eq (w : Wd) (n : Nat) : lanesV w n = (lanesL w n).map u8V := by simp [lanesV, lanesL, tab_map]
theorem lv_inj {o z o' z' : Bool} (h : lv o z = lv o' z') : o = o' ∧ z = z' := by
  cases o <;> cases z <;> cases o' <;> cases z' <;> simp [lv] at h ⊢
theorem wd_ext {v w : Wd} (h : ∀ i, i < 64 → v.lane i = w.lane i) : v = w := by
  obtain ⟨o, z⟩ := v
  obtain ⟨o', z'⟩ := w
  congr 1
  · exact BitVec.eq_of_getLsbD_eq fun i hi => (lv_inj (h i hi)).1
  · exact BitVec.eq_of_getLsbD_eq fun i hi => (lv_inj (h i hi)).2
/-- The lanes before i are the same. -/
def same (v w : Wd) : Nat → Bool
  | 0 => true
  | i + 1 => same v w i && decide (v.lane i = w.lane i)
theorem same_iff (v w : Wd) : ∀ n, same v w n = true ↔ ∀ i, i < n → v.lane i = w.lane i
  | 0 => by simp [same]
  | n + 1 => by
    rw [same, Bool.and_eq_true, same_iff v w n, decide_eq_true_eq]
    exact ⟨fun ⟨h1, h2⟩ i hi => by
      by_cases e : i = n
      · rw [e]; exact h2
      · exact h1 i (by omega), fun h => ⟨fun i hi => h i (by omega), h n (by omega)⟩⟩
end Go.Proofs.YtmbgmfenlededaaGreatDoor
