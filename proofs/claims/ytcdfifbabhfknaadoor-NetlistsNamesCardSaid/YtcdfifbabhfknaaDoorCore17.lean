/- Regions whose order is drawn: whatever each operation does, if those that may change places leave each other alone. No program stands in it. Conditions: none. -/
import Derived.Test.YtcdfifbabhfknaaDoorCore16
namespace Go.Proofs.YtcdfifbabhfknaaDoor
open Go

abbrev FF := Nat → Option V
abbrev HH := Nat → Option Blk

def bnds (ops : Array Oper) (j i : Nat) : Bool := match ops[j]? with
  | some o => o.after.any fun e => Region.binds .any e && e.on == i
  | none => false
/-- Every edge that binds points back. -/
def ckBack (ops : Array Oper) : Bool := (List.range ops.size).all fun j => match ops[j]? with
  | some o => o.after.all fun e => !(Region.binds .any e) || decide (e.on < j)
  | none => true

theorem bnds_listed {ops : Array Oper} {listed : Array Bool} {j i : Nat} (hj : j ∈ Region.ready .any ops listed) (hb : bnds ops j i = true) : listed.getD i false = true := by
  obtain ⟨-, o, ho, hall⟩ := mem_ready.1 hj
  simp only [bnds, ho] at hb
  obtain ⟨e, he, hb⟩ := Array.any_eq_true'.1 hb
  simp only [Bool.and_eq_true, beq_iff_eq] at hb
  have := hall e he hb.1
  rw [hb.2] at this; exact this

def unl (sz : Nat) (listed : Array Bool) : Nat := (List.range sz).countP fun i => !listed.getD i true

theorem countP_lt {p q : Nat → Bool} {i : Nat} : ∀ (l : List Nat), (∀ j ∈ l, q j = true → p j = true) → i ∈ l → p i = true → q i = false → l.countP q < l.countP p
  | [], _, h, _, _ => by cases h
  | x :: l, h1, h2, h3, h4 => by
    have hle : l.countP q ≤ l.countP p := List.countP_mono_left fun j hj => h1 j (List.mem_cons_of_mem _ hj)
    simp only [List.countP_cons]
    by_cases hx : i = x
    · subst hx
      rw [h3, h4]; simp; omega
    · have hi : i ∈ l := by
        rcases List.mem_cons.1 h2 with h | h
        · exact absurd h hx
        · exact h
      have := countP_lt l (fun j hj => h1 j (List.mem_cons_of_mem _ hj)) hi h3 h4
      have hxx := h1 x (List.mem_cons_self)
      cases hq : q x <;> cases hp : p x
      · simp; omega
      · simp; omega
      · rw [hxx hq] at hp; cases hp
      · simp; omega

theorem unl_set {sz : Nat} {listed : Array Bool} {i : Nat} (hs : listed.size = sz) (hi : i < sz) (hu : listed.getD i true = false) : unl sz (listed.setIfInBounds i true) < unl sz listed := by
  refine countP_lt (i := i) _ (fun j _ hj => ?_) (List.mem_range.2 hi) (by rw [hu]; rfl) ?_
  · by_cases hji : i = j
    · subst hji; rw [hu]; rfl
    · rw [getD_set_ne true hji] at hj; exact hj
  · have : i < listed.size := by omega
    simp [this]

theorem unl_zero {sz : Nat} {listed : Array Bool} (h : unl sz listed = 0) : ∀ i, i < sz → listed.getD i true = true := by
  intro i hi
  have := List.countP_eq_zero.1 h i (List.mem_range.2 hi)
  simpa using this


theorem listed_ft {listed : Array Bool} {i : Nat} (h : listed.getD i false = true) : listed.getD i true = true := by
  rcases Nat.lt_or_ge i listed.size with h' | h'
  · simp [h'] at h ⊢; exact h
  · simp [Array.getElem?_eq_none h']


theorem first_unlisted {sz : Nat} {listed : Array Bool} : ∀ i, i < sz → listed.getD i true = false → ∃ i, i < sz ∧ listed.getD i true = false ∧ ∀ j, j < i → listed.getD j true = true := by
  intro i
  induction i using Nat.strongRecOn with
  | ind i ih =>
    intro hi hu
    by_cases h : ∃ j, j < i ∧ listed.getD j true = false
    · obtain ⟨j, hj, hju⟩ := h; exact ih j hj (by omega) hju
    · refine ⟨i, hi, hu, fun j hj => ?_⟩
      cases hl : listed.getD j true with
      | true => rfl
      | false => exact absurd ⟨j, hj, hl⟩ h

theorem ready_ex {ops : Array Oper} {listed : Array Bool} (hb : ckBack ops = true) (hs : listed.size = ops.size) {i : Nat} (hi : i < ops.size) (hu : listed.getD i true = false) : Region.ready .any ops listed ≠ [] := by
  obtain ⟨j, hj, hju, hall⟩ := first_unlisted i hi hu
  intro hn
  have : j ∈ Region.ready .any ops listed := by
    refine mem_ready.2 ⟨hju, ops[j], Array.getElem?_eq_getElem hj, fun e he hbe => ?_⟩
    simp only [ckBack, List.all_eq_true, List.mem_range] at hb
    have h1 := hb j hj
    rw [Array.getElem?_eq_getElem hj] at h1
    have h1 := (Array.all_eq_true_iff_forall_mem.1 h1) e he
    simp only [hbe, Bool.not_true, Bool.false_or, decide_eq_true_eq] at h1
    have h2 := hall e.on h1
    have hlt : e.on < listed.size := by omega
    simp [hlt] at h2 ⊢
    exact h2
  rw [hn] at this; cases this


def ov {α : Type} (D : List (Nat × α)) (F : Nat → Option α) : Nat → Option α := fun t => match lk D t with
  | some v => some v
  | none => F t
theorem lk_append {α : Type} (D h : List (Nat × α)) : lk (D ++ h) = ov D (lk h) := by
  induction D with
  | nil => rfl
  | cons p r ih =>
    obtain ⟨k, v⟩ := p
    funext t
    simp only [List.cons_append, lk, ih, ov]
    by_cases h1 : t = k <;> simp [h1]
theorem ov_none {α : Type} {D : List (Nat × α)} {F : Nat → Option α} {t : Nat} (h : lk D t = none) : ov D F t = F t := by simp [ov, h]

/-- The state behind the first k steps, of which those in L are taken. -/
def st {α : Type} (D : Nat → List (Nat × α)) (L : Nat → Bool) (F0 : Nat → Option α) : Nat → Nat → Option α
  | 0 => F0
  | k + 1 => if L k = true then ov (D k) (st D L F0 k) else st D L F0 k

section
variable {α : Type} {D : Nat → List (Nat × α)} {L : Nat → Bool} {F0 : Nat → Option α}

theorem st_below {t : Nat} : ∀ k, (∀ j, j < k → lk (D j) t ≠ none → L j = true) → st D L F0 k t = st D (fun _ => true) F0 k t
  | 0, _ => rfl
  | k + 1, h => by
    have ih := st_below k fun j hj => h j (by omega)
    simp only [st, if_true]
    by_cases hl : L k = true
    · rw [if_pos hl]; simp only [ov, ih]
    · rw [if_neg hl, ih]
      have : lk (D k) t = none := by
        cases hc : lk (D k) t with
        | none => rfl
        | some v => exact absurd (h k (by omega) (by rw [hc]; simp)) hl
      rw [ov_none this]

theorem st_above {t i : Nat} : ∀ k, i ≤ k → (∀ j, i ≤ j → j < k → lk (D j) t ≠ none → L j = false) → st D L F0 k t = st D L F0 i t
  | 0, hi, _ => by obtain rfl : i = 0 := by omega
                   rfl
  | k + 1, hi, h => by
    by_cases hik : i = k + 1
    · rw [hik]
    · have ih := st_above (i := i) k (by omega) fun j h1 h2 => h j h1 (by omega)
      simp only [st]
      by_cases hl : L k = true
      · rw [if_pos hl]
        have : lk (D k) t = none := by
          cases hc : lk (D k) t with
          | none => rfl
          | some v => have := h k (by omega) (by omega) (by rw [hc]; simp); rw [this] at hl; cases hl
        rw [ov_none this, ih]
      · rw [if_neg hl, ih]

theorem st_congr {L' : Nat → Bool} : ∀ k, (∀ j, j < k → L' j = L j) → st D L' F0 k = st D L F0 k
  | 0, _ => rfl
  | k + 1, h => by
    simp only [st]
    rw [st_congr k fun j hj => h j (by omega), h k (by omega)]

theorem ov_comm {A B : List (Nat × α)} {F : Nat → Option α} (h : ∀ t, lk A t = none ∨ lk B t = none) : ov A (ov B F) = ov B (ov A F) := by
  funext t
  simp only [ov]
  rcases h t with h | h
  · simp [h]
  · simp [h]

theorem st_put {L' : Nat → Bool} {i : Nat} (hi : L i = false) (hi' : L' i = true) (hL : ∀ j, j ≠ i → L' j = L j) : ∀ k, i < k → (∀ j, i < j → j < k → L j = true → ∀ t, lk (D i) t = none ∨ lk (D j) t = none) → st D L' F0 k = ov (D i) (st D L F0 k)
  | 0, h, _ => by omega
  | k + 1, h, hd => by
    simp only [st]
    by_cases hik : i = k
    · subst hik
      rw [if_pos hi', hi, if_neg (by simp), st_congr i fun j hj => hL j (by omega)]
    · have ih := st_put hi hi' hL k (by omega) fun j h1 h2 => hd j h1 (by omega)
      rw [hL k (Ne.symm hik), ih]
      by_cases hl : L k = true
      · rw [if_pos hl, if_pos hl]
        exact ov_comm fun t => (hd k (by omega) (by omega) hl t).symm
      · rw [if_neg hl, if_neg hl]
end

/-! ### What must have come before an operation -/

def ancM (acc : List Nat) (o : Oper) : Nat := o.after.toList.foldl (fun m e => if Region.binds .any e = true then (m ||| acc.getD e.on 0) ||| 2 ^ e.on else m) 0
def ancs : List Oper → List Nat → List Nat
  | [], acc => acc
  | o :: r, acc => ancs r (acc ++ [ancM acc o])
def bd (an : List Nat) (i j : Nat) : Bool := (an.getD j 0).testBit i

def AncOk (ops : Array Oper) (m j : Nat) : Prop := ∀ L : Nat → Prop, (∀ x y, L x → bnds ops x y = true → L y) → (∀ y, bnds ops j y = true → L y) → ∀ i, m.testBit i = true → L i

theorem ancM_ok {ops : Array Oper} {acc : List Nat} (hacc : ∀ j, j < acc.length → AncOk ops (acc.getD j 0) j) {k : Nat} {o : Oper} (ho : ops[k]? = some o) : AncOk ops (ancM acc o) k := by
  intro L hL hk
  have key : ∀ (l : List Edge) (m : Nat), (∀ e ∈ l, e ∈ o.after) → (∀ i, m.testBit i = true → L i) → ∀ i, (l.foldl (fun m e => if Region.binds .any e = true then (m ||| acc.getD e.on 0) ||| 2 ^ e.on else m) m).testBit i = true → L i := by
    intro l
    induction l with
    | nil => intro m _ hm; exact hm
    | cons e r ih =>
      intro m hl hm
      simp only [List.foldl_cons]
      refine ih _ (fun e' he' => hl e' (List.mem_cons_of_mem _ he')) fun i hi => ?_
      split at hi
      · rename_i hb
        have hon : L e.on := hk e.on (by
          simp only [bnds, ho, Array.any_eq_true']
          exact ⟨e, hl e List.mem_cons_self, by simp [hb]⟩)
        rw [Nat.testBit_or, Nat.testBit_or, Bool.or_eq_true, Bool.or_eq_true] at hi
        rcases hi with (hi | hi) | hi
        · exact hm i hi
        · rcases Nat.lt_or_ge e.on acc.length with h | h
          · exact hacc e.on h L hL (fun y hy => hL e.on y hon hy) i hi
          · rw [List.getD_eq_getElem?_getD, List.getElem?_eq_none h] at hi; simp at hi
        · rw [Nat.testBit_two_pow] at hi
          have : e.on = i := by simpa using hi
          exact this ▸ hon
      · exact hm i hi
  exact key o.after.toList 0 (fun e he => by simpa using he) (fun i hi => by simp at hi)

theorem ancs_ok {ops : Array Oper} : ∀ (l : List Oper) (acc : List Nat), ops.toList.drop acc.length = l → (∀ j, j < acc.length → AncOk ops (acc.getD j 0) j) → ∀ j, j < (ancs l acc).length → AncOk ops ((ancs l acc).getD j 0) j
  | [], acc, _, hacc => hacc
  | o :: r, acc, hd, hacc => by
    have ho : ops[acc.length]? = some o := by
      have := congrArg (fun l : List Oper => l[0]?) hd
      simpa using this
    refine ancs_ok r _ (by rw [List.length_append, List.length_singleton, ← List.tail_drop, hd]; rfl) fun j hj => ?_
    by_cases hja : j < acc.length
    · have : (acc ++ [ancM acc o]).getD j 0 = acc.getD j 0 := by rw [List.getD_eq_getElem?_getD, List.getD_eq_getElem?_getD, List.getElem?_append_left hja]
      rw [this]; exact hacc j hja
    · have hje : j = acc.length := by simp at hj; omega
      subst hje
      have : (acc ++ [ancM acc o]).getD acc.length 0 = ancM acc o := by simp [List.getD_eq_getElem?_getD]
      rw [this]; exact ancM_ok hacc ho

theorem bd_spec {ops : Array Oper} {i j : Nat} (hb : bd (ancs ops.toList []) i j = true) (L : Nat → Prop) (hL : ∀ x y, L x → bnds ops x y = true → L y) (hj : ∀ y, bnds ops j y = true → L y) : L i := by
  unfold bd at hb
  rcases Nat.lt_or_ge j (ancs ops.toList []).length with h | h
  · exact ancs_ok ops.toList [] rfl (fun j hj => by simp at hj) j h L hL hj i hb
  · rw [List.getD_eq_getElem?_getD, List.getElem?_eq_none h] at hb; simp at hb

/-! ### The rule -/

def dD (d : Option Nat) (v : V) : Fr := match d with
  | some d => [(d, v)]
  | none => []
theorem putF_dD (fr : Fr) (d : Option Nat) (v : V) : putF fr d v = dD d v ++ fr := by cases d <;> rfl
theorem lk_dD {d : Option Nat} {v : V} {t : Nat} (h : d ≠ some t) : lk (dD d v) t = none := by
  cases d with
  | none => rfl
  | some e =>
    have : t ≠ e := fun he => h (by rw [he])
    simp [dD, lk, this]
theorem lk_dD_some {d : Option Nat} {v : V} {t : Nat} (h : lk (dD d v) t ≠ none) : d = some t := by
  by_cases hd : d = some t
  · exact hd
  · exact absurd (lk_dD hd) h

/-- What an operation does wherever it finds what it looks at. -/
def YieldS (P : Program) (gl : Fr) (n : Nat) (ops : Array Oper) (i : Nat) (o : Oper) (F : FF) (H : HH) (rd ids : Nat → Prop) (v : V) (W : Hp) : Prop :=
  ∀ {fr : Fr} {h : Hp} {G : GMap} {M : MMap} {a : Act} {w : World} {Q : Exit → Act → World → Prop} {K' : Act → World → Prop}, R n gl G M fr h a w → (∀ t ∈ o.looksAt ops, lk fr t = F t) → (∀ b, rd b → lk h b = H b) → (∀ b, ids b → freshGen M b = 0) →
    (∀ rv G' M' w', R n gl G' M' (putF fr o.dst v) (W ++ h) (a.put o.dst rv) w' → Ext G M w G' M' w' → (∀ b, ¬ ids b → freshGen M b = 0 → freshGen M' b = 0) → K' (a.put o.dst rv) w') → wpOp P ops Q i K' a w

structure SlotInd (ops : Array Oper) (x y : Oper) : Prop where
  xy : ∀ t ∈ y.looksAt ops, x.dst ≠ some t
  yx : ∀ t ∈ x.looksAt ops, y.dst ≠ some t
  dd : ∀ t, x.dst = some t → y.dst ≠ some t
structure HeapInd (W W' : Hp) (rd rd' : Nat → Prop) : Prop where
  ww : ∀ b, lk W b = none ∨ lk W' b = none
  wr : ∀ b, rd' b → lk W b = none
  rw : ∀ b, rd b → lk W' b = none

section
variable {P : Program} {gl : Fr} {n : Nat} {ops : Array Oper} {vs : Nat → V} {Ws : Nat → Hp} {rd ids : Nat → Nat → Prop} {F0 : FF} {H0 : HH}

def Dv (ops : Array Oper) (vs : Nat → V) (i : Nat) : Fr := match ops[i]? with
  | some o => dD o.dst (vs i)
  | none => []

def all1 : Nat → Bool := fun _ => true

theorem region_any (hback : ckBack ops = true)
    (hy : ∀ i o, ops[i]? = some o → YieldS P gl n ops i o (st (Dv ops vs) all1 F0 i) (st Ws all1 H0 i) (rd i) (ids i) (vs i) (Ws i))
    (hslot : ∀ i j oi oj, i < j → ops[i]? = some oi → ops[j]? = some oj → bd (ancs ops.toList []) i j = false → SlotInd ops oi oj)
    (hheap : ∀ i j, i < j → j < ops.size → bd (ancs ops.toList []) i j = false → HeapInd (Ws i) (Ws j) (rd i) (rd j))
    (hids : ∀ i j b, i ≠ j → ids i b → ¬ ids j b) {Q : Exit → Act → World → Prop} {G0 : GMap} {M0' : MMap} {w0 : World}
    (hfin : ∀ fr' h' G' M' a' w', lk fr' = st (Dv ops vs) all1 F0 ops.size → lk h' = st Ws all1 H0 ops.size → R n gl G' M' fr' h' a' w' → Ext G0 M0' w0 G' M' w' →
      (∀ b, (∀ i, ¬ ids i b) → freshGen M0' b = 0 → freshGen M' b = 0) → Q .normal a' w') :
    ∀ (fuel : Nat) (listed : Array Bool) (fr : Fr) (h : Hp) (G : GMap) (M : MMap) (a : Act) (w : World), listed.size = ops.size → (∀ x y, listed.getD x false = true → bnds ops x y = true → listed.getD y false = true) →
      lk fr = st (Dv ops vs) (fun j => listed.getD j false) F0 ops.size → lk h = st Ws (fun j => listed.getD j false) H0 ops.size → R n gl G M fr h a w → Ext G0 M0' w0 G M w →
      (∀ i, listed.getD i false = false → ∀ b, ids i b → freshGen M b = 0) → (∀ b, (∀ i, ¬ ids i b) → freshGen M0' b = 0 → freshGen M b = 0) → unl ops.size listed ≤ fuel → wpAny P .any ops Q fuel listed a w := by
  have done : ∀ (listed : Array Bool) (fr : Fr) (h : Hp) (G : GMap) (M : MMap) (a : Act) (w : World), listed.size = ops.size → (∀ i, i < ops.size → listed.getD i true = true) →
      lk fr = st (Dv ops vs) (fun j => listed.getD j false) F0 ops.size → lk h = st Ws (fun j => listed.getD j false) H0 ops.size → R n gl G M fr h a w → Ext G0 M0' w0 G M w →
      (∀ b, (∀ i, ¬ ids i b) → freshGen M0' b = 0 → freshGen M b = 0) → Q .normal a w := by
    intro listed fr h G M a w hs hal hf hh hr hx hfr
    have hl : ∀ j, j < ops.size → all1 j = (fun j => listed.getD j false) j := fun j hj => by
      have := hal j hj
      have hjs : j < listed.size := by omega
      simp [hjs] at this
      simp [all1, hjs, this]
    exact hfin fr h G M a w (by rw [hf, st_congr ops.size hl]) (by rw [hh, st_congr ops.size hl]) hr hx hfr
  intro fuel
  induction fuel with
  | zero =>
    intro listed fr h G M a w hs hdc hf hh hr hx hfi hfr hu
    have hal := unl_zero (by omega : unl ops.size listed = 0)
    refine ⟨?_, done listed fr h G M a w hs hal hf hh hr hx hfr⟩
    cases hrd : Region.ready .any ops listed with
    | nil => rfl
    | cons i r =>
      have hm : i ∈ Region.ready .any ops listed := by rw [hrd]; exact List.mem_cons_self
      obtain ⟨h1, o, h2, -⟩ := mem_ready.1 hm
      rw [hal i (Array.getElem?_eq_some_iff.1 h2).1] at h1; cases h1
  | succ fuel ihf =>
    intro listed fr h G M a w hs hdc hf hh hr hx hfi hfr hu
    refine ⟨fun hn => ?_, fun i hir => ?_⟩
    · refine done listed fr h G M a w hs (fun i hi' => ?_) hf hh hr hx hfr
      cases hl : listed.getD i true with
      | true => rfl
      | false => exact absurd hn (ready_ex hback hs hi' hl)
    · obtain ⟨hun, o, ho, hall⟩ := mem_ready.1 hir
      have his : i < ops.size := (Array.getElem?_eq_some_iff.1 ho).1
      have hil : i < listed.size := by omega
      have hunf : listed.getD i false = false := by
        simp [hil] at hun
        simp [hil, hun]
      have hpre : ∀ y, bnds ops i y = true → listed.getD y false = true := fun y hy' => bnds_listed hir hy'
      have below : ∀ j, bd (ancs ops.toList []) j i = true → listed.getD j false = true := fun j hb => bd_spec hb (fun x => listed.getD x false = true) hdc hpre
      have above : ∀ j, listed.getD j false = true → bd (ancs ops.toList []) i j = false := by
        intro j hj
        cases hb : bd (ancs ops.toList []) i j with
        | false => rfl
        | true =>
          have := bd_spec hb (fun x => listed.getD x false = true) hdc (fun y hy' => hdc j y hj hy')
          rw [hunf] at this; cases this
      have hdv : ∀ j, Dv ops vs j = match ops[j]? with | some oj => dD oj.dst (vs j) | none => [] := fun j => rfl
      have hlist : ∀ j, listed.getD j false = true → j < ops.size := fun j hj => by
        rcases Nat.lt_or_ge j listed.size with h' | h'
        · omega
        · simp [Array.getElem?_eq_none h'] at hj
      have hset : ∀ j, j ≠ i → (listed.setIfInBounds i true).getD j false = listed.getD j false := fun j hj => getD_set_ne false (Ne.symm hj)
      have hseti : (listed.setIfInBounds i true).getD i false = true := by simp [hil]
      refine hy i o ho hr (fun t ht => ?_) (fun b hb => ?_) (fun b hb => hfi i hunf b hb) (fun rv G' M' w' hr' hx' hf' => ?_)
      · rw [hf]
        rw [st_above (i := i) ops.size (by omega) fun j h1 h2 h3 => ?_]
        · refine st_below i fun j hj h3 => ?_
          have hoj : ops[j]? = some ops[j] := Array.getElem?_eq_getElem (by omega)
          rw [hdv, hoj] at h3
          have hd := lk_dD_some h3
          cases hb : bd (ancs ops.toList []) j i with
          | true => exact below j hb
          | false => exact absurd hd ((hslot j i _ _ hj hoj ho hb).xy t ht)
        · have hoj : ops[j]? = some ops[j] := Array.getElem?_eq_getElem h2
          rw [hdv, hoj] at h3
          have hd := lk_dD_some h3
          cases hl : listed.getD j false with
          | false => rfl
          | true =>
            have hji : i ≠ j := fun e => by rw [← e, hunf] at hl; cases hl
            exact absurd hd ((hslot i j _ _ (by omega) ho hoj (above j hl)).yx t ht)
      · rw [hh]
        rw [st_above (i := i) ops.size (by omega) fun j h1 h2 h3 => ?_]
        · refine st_below i fun j hj h3 => ?_
          cases hb' : bd (ancs ops.toList []) j i with
          | true => exact below j hb'
          | false => exact absurd ((hheap j i hj his hb').wr b hb) h3
        · cases hl : listed.getD j false with
          | false => rfl
          | true =>
            have hji : i ≠ j := fun e => by rw [← e, hunf] at hl; cases hl
            exact absurd ((hheap i j (by omega) h2 (above j hl)).rw b hb) h3
      · refine ihf (listed.setIfInBounds i true) _ _ G' M' _ w' (by simpa using hs) ?_ ?_ ?_ hr' (hx.trans hx') ?_ ?_ ?_
        · intro x y h1 h2
          by_cases hy' : y = i
          · subst hy'; exact hseti
          · rw [hset y hy']
            by_cases hxi : x = i
            · subst hxi; exact hpre y h2
            · rw [hset x hxi] at h1; exact hdc x y h1 h2
        · rw [putF_dD, lk_append, hf]
          have : dD o.dst (vs i) = Dv ops vs i := by rw [hdv, ho]
          rw [this]
          refine (st_put (L := fun j => listed.getD j false) hunf hseti hset ops.size his fun j h1 h2 h3 t => ?_).symm
          have hoj : ops[j]? = some ops[j] := Array.getElem?_eq_getElem h2
          have hI := hslot i j _ _ h1 ho hoj (above j h3)
          rw [hdv, hdv, ho, hoj]
          by_cases hd : o.dst = some t
          · exact .inr (lk_dD (hI.dd t hd))
          · exact .inl (lk_dD hd)
        · rw [lk_append, hh]
          exact (st_put (L := fun j => listed.getD j false) hunf hseti hset ops.size his fun j h1 h2 h3 t => (hheap i j h1 h2 (above j h3)).ww t).symm
        · intro j hj b hb
          have hji : j ≠ i := fun e => by rw [e, hseti] at hj; cases hj
          rw [hset j hji] at hj
          exact hf' b (fun hc => hids i j b (Ne.symm hji) hc hb) (hfi j hj b hb)
        · intro b hb h0
          exact hf' b (hb i) (hfr b hb h0)
        · have := unl_set hs his hun
          omega
end
end Go.Proofs.YtcdfifbabhfknaaDoor
