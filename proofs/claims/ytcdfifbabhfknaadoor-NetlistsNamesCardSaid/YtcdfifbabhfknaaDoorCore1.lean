/- The ideal values, their relation to the model's values, and its monotonicity. No program stands in it. Conditions: none. -/
import Derived.Orders
import Derived.Laws.Cells
import Derived.Laws.World
import Derived.Laws.CopyRow
namespace Go.Proofs.YtcdfifbabhfknaaDoor
open Go

/-- Ideal values. 'sl': an immutable slice, its elements; 'ref': a slice of memory of the activation's own (block, generation, offset, length); 'ptr': a pointer into such memory; 'iptr': a pointer into an immutable element. -/
inductive V where
  | undef
  | int (k : IntKind) (n : Int)
  | bool (b : Bool)
  | str (s : List UInt8)
  | agg (cs : List V)
  | tup (vs : List V)
  | sl (xs : List V) (cap : Option Nat)
  | ref (b g off len : Nat) (cap : Option Nat)
  | ptr (b g i off : Nat)
  | iptr (x : V) (off : Nat)
  | fn (f : FuncId) (fst cap : List V)
  | nilfn
  | nil
  | own (b g : Nat)
  deriving Inhabited

def V.cells : V → List V
  | .agg cs => cs
  | v => [v]

/-- May stand in one cell. -/
def V.isCell : V → Bool
  | .undef | .agg _ | .tup _ => false
  | _ => true

mutual
def V.pure : V → Bool
  | .agg cs => V.pureL cs
  | .tup cs => V.pureL cs
  | .sl xs _ => V.pureL xs
  | .iptr x _ => x.pure
  | .fn _ a b => V.pureL a && V.pureL b
  | .ref .. => false
  | .ptr .. => false
  | .own .. => false
  | .undef => true
  | .int .. => true
  | .bool _ => true
  | .str _ => true
  | .nilfn => true
  | .nil => true
def V.pureL : List V → Bool
  | [] => true
  | v :: r => v.pure && V.pureL r
end

mutual
def V.scalar : V → Bool
  | .agg cs => V.scalarL cs
  | .tup cs => V.scalarL cs
  | .sl .. => false
  | .iptr .. => false
  | .fn .. => false
  | .ref .. => false
  | .ptr .. => false
  | .own .. => false
  | .undef => true
  | .int .. => true
  | .bool _ => true
  | .str _ => true
  | .nilfn => true
  | .nil => true
def V.scalarL : List V → Bool
  | [] => true
  | v :: r => v.scalar && V.scalarL r
end

theorem V.pureL_iff (l : List V) : V.pureL l = true ↔ ∀ v ∈ l, v.pure = true := by
  induction l with
  | nil => simp [V.pureL]
  | cons a r ih => simp [V.pureL, ih]
theorem V.scalarL_iff (l : List V) : V.scalarL l = true ↔ ∀ v ∈ l, v.scalar = true := by
  induction l with
  | nil => simp [V.scalarL]
  | cons a r ih => simp [V.scalarL, ih]
theorem V.pureL_map {α : Type} (f : α → V) (l : List α) (h : ∀ a, (f a).pure = true) : V.pureL (l.map f) = true := by
  rw [V.pureL_iff]; intro v hv; obtain ⟨a, _, rfl⟩ := List.mem_map.1 hv; exact h a

theorem V.pure_getD {l : List V} (h : V.pureL l = true) (i : Nat) : (l.getD i .undef).pure = true := by
  rw [V.pureL_iff] at h
  rw [List.getD_eq_getElem?_getD]
  cases hi : l[i]? with
  | none => rfl
  | some v => exact h v (List.mem_of_getElem? hi)
theorem V.scalar_getD {l : List V} (h : V.scalarL l = true) (i : Nat) : (l.getD i .undef).scalar = true := by
  rw [V.scalarL_iff] at h
  rw [List.getD_eq_getElem?_getD]
  cases hi : l[i]? with
  | none => rfl
  | some v => exact h v (List.mem_of_getElem? hi)
theorem V.pure_cells {v : V} (h : v.pure = true) : V.pureL v.cells = true := by
  cases v <;> simp_all [V.cells, V.pure, V.pureL]
theorem V.scalar_cells {v : V} (h : v.scalar = true) : V.scalarL v.cells = true := by
  cases v <;> simp_all [V.cells, V.scalar, V.scalarL]

/-- What an own block is in memory: its generation, its elements' size, how many elements it has room for from its first one on, the first one's place, the block (none: there is none yet). -/
structure MB where
  gen : Nat
  sz : Nat
  room : Nat
  base : Nat
  real : Option Nat

abbrev GMap := Nat → Option (Array Value)
abbrev MMap := Nat → Option MB

def RefReal (mb : MB) (off len : Nat) (ra : Option Addr) (rcap : Nat) : Prop :=
  match mb.real with
  | none => ra = none ∧ rcap = 0 ∧ off = 0
  | some rb => (ra = some ⟨rb, mb.base + off * mb.sz, none⟩ ∧ off + rcap ≤ mb.room) ∨ (len = 0 ∧ rcap = 0)

inductive RelV (G : GMap) (M : MMap) : V → Value → Prop
  | undef (v : Value) : RelV G M .undef v
  | int (k : IntKind) (n : Int) : RelV G M (.int k n) (.int k n)
  | bool (b : Bool) : RelV G M (.bool b) (.bool b)
  | str (s : List UInt8) : RelV G M (.str s) (.string ⟨s.toArray⟩)
  | agg (cs : List V) (arr : Array Value) (hs : arr.size = cs.length)
      (h : ∀ i, i < cs.length → RelV G M (cs.getD i .undef) (arr.getD i Go.undef)) (ho : ∀ i, i < cs.length → (arr.getD i Go.undef).oneCell' = true) :
      RelV G M (.agg cs) (.agg arr)
  | tup (cs : List V) (arr : Array Value) (hs : arr.size = cs.length)
      (h : ∀ i, i < cs.length → RelV G M (cs.getD i .undef) (arr.getD i Go.undef)) : RelV G M (.tup cs) (.tuple arr)
  | slnil (cap : Option Nat) (base : Option Addr) (rcap : Nat) (hc : ∀ c, cap = some c → rcap = c) (hb : rcap = 0 ∨ base.isSome = true) : RelV G M (.sl [] cap) (.slice base 0 rcap)
  | sl (xs : List V) (cap : Option Nat) (rb ro rcap sz : Nat) (cells : Array Value) (hne : xs ≠ []) (hG : G rb = some cells)
      (hsz : ∀ i, i < xs.length → (xs.getD i .undef).cells.length = sz) (hb : ro + xs.length * sz ≤ cells.size) (hl : xs.length ≤ rcap)
      (hc : ∀ c, cap = some c → rcap = c)
      (h : ∀ i j, i < xs.length → j < sz → RelV G M ((xs.getD i .undef).cells.getD j .undef) (cells.getD (ro + i * sz + j) Go.undef))
      (ho : ∀ i j, i < xs.length → j < sz → (cells.getD (ro + i * sz + j) Go.undef).oneCell' = true) :
      RelV G M (.sl xs cap) (.slice (some ⟨rb, ro, none⟩) xs.length rcap)
  | ref (b g off len : Nat) (cap : Option Nat) (ra : Option Addr) (rcap : Nat) (mb : MB) (hM : M b = some mb) (hg : g ≤ mb.gen) (hl : len ≤ rcap) (hc : ∀ c, cap = some c → rcap = c)
      (h : g = mb.gen → RefReal mb off len ra rcap) : RelV G M (.ref b g off len cap) (.slice ra len rcap)
  | ptr (b g i off : Nat) (ad : Addr) (mb : MB) (hM : M b = some mb) (hg : g ≤ mb.gen)
      (h : g = mb.gen → ∃ rb, mb.real = some rb ∧ ad = ⟨rb, mb.base + i * mb.sz + off, none⟩) : RelV G M (.ptr b g i off) (.pointer (some ad))
  | iptr (x : V) (off : Nat) (rb ro : Nat) (cells : Array Value) (hG : G rb = some cells) (hb : ro + x.cells.length ≤ cells.size)
      (h : ∀ j, j < x.cells.length → RelV G M (x.cells.getD j .undef) (cells.getD (ro + j) Go.undef))
      (ho : ∀ j, j < x.cells.length → (cells.getD (ro + j) Go.undef).oneCell' = true) :
      RelV G M (.iptr x off) (.pointer (some ⟨rb, ro + off, none⟩))
  | fn (f : FuncId) (fst cap : List V) (rfst rcap : Array Value) (h1 : rfst.size = fst.length) (h2 : rcap.size = cap.length)
      (h3 : ∀ i, i < fst.length → RelV G M (fst.getD i .undef) (rfst.getD i Go.undef)) (h4 : ∀ i, i < cap.length → RelV G M (cap.getD i .undef) (rcap.getD i Go.undef)) :
      RelV G M (.fn f fst cap) (.func (.func f) rfst rcap)
  | nilfn : RelV G M .nilfn .nilFunc
  | nil : RelV G M .nil (.slice none 0 0)
  | own (b g : Nat) (r : Value) (mb : MB) (hM : M b = some mb) (hg : g ≤ mb.gen) (ho : r.oneCell' = true)
      (h : g = mb.gen → ∃ rb, mb.real = some rb ∧ r = (if mb.sz = 0 then .map (some rb) else .pointer (some ⟨rb, 0, none⟩))) : RelV G M (.own b g) r

def GMap.le (G G' : GMap) : Prop := ∀ k c, G k = some c → G' k = some c
def MMap.le (M M' : MMap) : Prop := ∀ b mb, M b = some mb → ∃ mb', M' b = some mb' ∧ mb.gen ≤ mb'.gen ∧ (mb'.gen = mb.gen → mb' = mb)

/-- The generation that a block made now would have; 0 for a number that is not in use. -/
def freshGen (M : MMap) (b : Nat) : Nat := match M b with
  | some mb => mb.gen + 1
  | none => 0

theorem GMap.le_refl (G : GMap) : G.le G := fun _ _ h => h
theorem GMap.le_trans {a b c : GMap} (h : a.le b) (k : b.le c) : a.le c := fun x y z => k x y (h x y z)
theorem MMap.le_refl (M : MMap) : M.le M := fun _ mb h => ⟨mb, h, Nat.le_refl _, fun _ => rfl⟩
theorem MMap.le_trans {a b c : MMap} (h : a.le b) (k : b.le c) : a.le c := by
  intro x mb hx
  obtain ⟨m1, e1, l1, q1⟩ := h x mb hx
  obtain ⟨m2, e2, l2, q2⟩ := k x m1 e1
  refine ⟨m2, e2, Nat.le_trans l1 l2, fun e => ?_⟩
  have h1 : m1.gen = mb.gen := by omega
  rw [q2 (by omega), q1 h1]

theorem RelV.mono {G G' : GMap} {M M' : MMap} (hG : G.le G') (hM : M.le M') {v : V} {r : Value} (h : RelV G M v r) : RelV G' M' v r := by
  induction h with
  | undef v => exact .undef v
  | int k n => exact .int k n
  | bool b => exact .bool b
  | str s => exact .str s
  | agg cs arr hs _ ho ih => exact .agg cs arr hs ih ho
  | tup cs arr hs _ ih => exact .tup cs arr hs ih
  | slnil cap base rcap hc hb => exact .slnil cap base rcap hc hb
  | sl xs cap rb ro rcap sz cells hne hg hsz hb hl hc _ ho ih => exact .sl xs cap rb ro rcap sz cells hne (hG _ _ hg) hsz hb hl hc ih ho
  | ref b g off len cap ra rcap mb hm hg hl hc h =>
    obtain ⟨mb', e, l, q⟩ := hM _ _ hm
    refine .ref b g off len cap ra rcap mb' e (Nat.le_trans hg l) hl hc fun e' => ?_
    have := q (by omega); subst this; exact h e'
  | ptr b g i off ad mb hm hg h =>
    obtain ⟨mb', e, l, q⟩ := hM _ _ hm
    refine .ptr b g i off ad mb' e (Nat.le_trans hg l) fun e' => ?_
    have := q (by omega); subst this; exact h e'
  | iptr x off rb ro cells hg hb _ ho ih => exact .iptr x off rb ro cells (hG _ _ hg) hb ih ho
  | fn f fst cap rfst rcap h1 h2 _ _ ih3 ih4 => exact .fn f fst cap rfst rcap h1 h2 ih3 ih4
  | nilfn => exact .nilfn
  | nil => exact .nil
  | own b g r mb hm hg ho h =>
    obtain ⟨mb', e, l, q⟩ := hM _ _ hm
    refine .own b g r mb' e (Nat.le_trans hg l) ho fun e' => ?_
    have := q (by omega); subst this; exact h e'

/-- A value without references does not ask what the own blocks are. -/
theorem RelV.pure {G : GMap} {M : MMap} (M' : MMap) {v : V} {r : Value} (h : RelV G M v r) (hp : v.pure = true) : RelV G M' v r := by
  induction h with
  | undef v => exact .undef v
  | int k n => exact .int k n
  | bool b => exact .bool b
  | str s => exact .str s
  | agg cs arr hs _ ho ih => exact .agg cs arr hs (fun i hi => ih i hi (V.pure_getD (by simpa [V.pure] using hp) i)) ho
  | tup cs arr hs _ ih => exact .tup cs arr hs (fun i hi => ih i hi (V.pure_getD (by simpa [V.pure] using hp) i))
  | slnil cap base rcap hc hb => exact .slnil cap base rcap hc hb
  | sl xs cap rb ro rcap sz cells hne hg hsz hb hl hc _ ho ih =>
    exact .sl xs cap rb ro rcap sz cells hne hg hsz hb hl hc (fun i j hi hj => ih i j hi hj (V.pure_getD (V.pure_cells (V.pure_getD (by simpa [V.pure] using hp) i)) j)) ho
  | ref => simp [V.pure] at hp
  | ptr => simp [V.pure] at hp
  | own => simp [V.pure] at hp
  | iptr x off rb ro cells hg hb _ ho ih => exact .iptr x off rb ro cells hg hb (fun j hj => ih j hj (V.pure_getD (V.pure_cells (by simpa [V.pure] using hp)) j)) ho
  | fn f fst cap rfst rcap h1 h2 _ _ ih3 ih4 =>
    simp only [V.pure, Bool.and_eq_true] at hp
    exact .fn f fst cap rfst rcap h1 h2 (fun i hi => ih3 i hi (V.pure_getD hp.1 i)) (fun i hi => ih4 i hi (V.pure_getD hp.2 i))
  | nilfn => exact .nilfn
  | nil => exact .nil

theorem RelV.scalar {G : GMap} {M : MMap} (G' : GMap) (M' : MMap) {v : V} {r : Value} (h : RelV G M v r) (hp : v.scalar = true) : RelV G' M' v r := by
  induction h with
  | undef v => exact .undef v
  | int k n => exact .int k n
  | bool b => exact .bool b
  | str s => exact .str s
  | agg cs arr hs _ ho ih => exact .agg cs arr hs (fun i hi => ih i hi (V.scalar_getD (by simpa [V.scalar] using hp) i)) ho
  | tup cs arr hs _ ih => exact .tup cs arr hs (fun i hi => ih i hi (V.scalar_getD (by simpa [V.scalar] using hp) i))
  | nilfn => exact .nilfn
  | nil => exact .nil
  | slnil => simp [V.scalar] at hp
  | sl => simp [V.scalar] at hp
  | ref => simp [V.scalar] at hp
  | ptr => simp [V.scalar] at hp
  | own => simp [V.scalar] at hp
  | iptr => simp [V.scalar] at hp
  | fn => simp [V.scalar] at hp

/-- A value that may stand in one cell reads as a value of one cell. -/
theorem RelV.oneCell {G : GMap} {M : MMap} {v : V} {r : Value} (h : RelV G M v r) (hp : v.isCell = true) : r.oneCell' = true := by
  cases h <;> first
    | rfl
    | assumption
    | simp [V.isCell] at hp

/-- The cells of a value that is no tuple and not unknown. -/
def V.cellsOk : V → Bool
  | .agg _ => true
  | v => v.isCell

theorem RelV.cells {G : GMap} {M : MMap} {v : V} {r : Value} (h : RelV G M v r) (hp : v.cellsOk = true) :
    r.cells.size = v.cells.length ∧ ∀ j, j < v.cells.length → RelV G M (v.cells.getD j .undef) (r.cells.getD j Go.undef) ∧ (r.cells.getD j Go.undef).oneCell' = true := by
  by_cases ha : ∃ cs, v = .agg cs
  · obtain ⟨cs, rfl⟩ := ha
    cases h with
    | agg cs arr hs h ho => exact ⟨hs, fun j hj => ⟨h j hj, ho j hj⟩⟩
  · have hc : v.isCell = true := by cases v <;> simp_all [V.cellsOk]
    have hr := h.oneCell hc
    have h1 : v.cells = [v] := by cases v <;> simp_all [V.cells]
    have h2 : r.cells = #[r] := by cases r <;> simp_all [Value.oneCell', Value.cells]
    rw [h1, h2]
    refine ⟨rfl, fun j hj => ?_⟩
    obtain rfl : j = 0 := by simpa using hj
    exact ⟨h, hr⟩

/-- The nil slice, taken for a slice without elements. -/
def V.norm : V → V
  | .nil => .sl [] (some 0)
  | v => v
theorem RelV.norm {G : GMap} {M : MMap} {v : V} {r : Value} (h : RelV G M v r) : RelV G M v.norm r := by
  cases h <;> first
    | exact .slnil _ _ _ (by simp) (.inl rfl)
    | (constructor <;> assumption)
    | assumption
end Go.Proofs.YtcdfifbabhfknaaDoor
