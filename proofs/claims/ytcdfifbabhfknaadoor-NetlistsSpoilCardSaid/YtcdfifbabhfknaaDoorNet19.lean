/- Netlists: a pin of a valid circuit reads another net. Conditions: none. -/
import Derived.Test.YtcdfifbabhfknaaDoorNet16
namespace Go.Proofs.YtcdfifbabhfknaaDoor
open Go
theorem lvF_rank {c : Ci} {n : Nat} {r : Nat → Nat} (h : ∀ i, i < n → ∀ x ∈ c.g i, x < n ∧ r x < r i) : ∀ k i, i < n → r i < k → lvF c k i = lvF c (r i + 1) i := by
  intro k
  induction k using Nat.strongRecOn with
  | ind k ih =>
    intro i hn hk
    cases k with
    | zero => omega
    | succ k =>
      simp only [lvF]
      refine mx_congr fun x hx => ?_
      obtain ⟨h1, h2⟩ := h i hn x hx
      rw [ih k (by omega) x h1 (by omega)]
      by_cases hik : r i = k
      · subst hik; rw [ih (r i) (by omega) x h1 h2]
      · rw [ih (r i) (by omega) x h1 h2]
theorem acyc_rank {c : Ci} (r : Nat → Nat) (h : ∀ i, i < c.n.length → ∀ x ∈ c.g i, x < c.n.length ∧ r x < r i) : acyc c :=
  ⟨fun i => lvF c (r i + 1) i, fun i hi => by
    show lvF c (r i + 1) i = mx (fun j => lvF c (r j + 1) j) (c.g i)
    simp only [lvF]
    refine mx_congr fun x hx => ?_
    obtain ⟨h1, h2⟩ := h i hi x hx
    rw [lvF_rank h (r i) x h1 h2]
    rfl⟩
def NoBus (l : List Nd) : Prop := ∀ y ∈ l, y.k ≠ 13
theorem gate_nobus (g : Gx) (l : List Nd) : (ndN (gateN false g l)).k ≠ 13 := by
  have hk : gateKind false g < 9 := by simp only [gateKind]; exact Nat.mod_lt _ (by omega)
  simp only [ndN]
  unfold gateN
  dsimp only
  generalize gateKind false g = k at *
  rw [if_neg (show ¬ (10 < k ∧ 0 < (trisF l 0).length) by omega)]
  rw [if_neg (show ¬ (k = 9 ∨ k = 10) by omega)]
  split
  · simp; omega
  · split
    · simp
    · split
      · simp
      · split
        · simp; omega
        · simp
theorem gates_nobus : ∀ (gs : List Gx) (l : List Nd), NoBus l → NoBus (gatesN false gs l)
  | [], _, h => h
  | g :: gs, l, h => gates_nobus gs _ fun y hy => by
    rcases List.mem_append.1 hy with q | q
    · exact h y q
    · rw [List.mem_singleton.1 q]; exact gate_nobus g l
theorem ci_nobus (x : Cx) (hb : x.bus = false) : NoBus x.ci.n := by
  have h0 : NoBus x.st0 := by
    intro y hy
    simp only [Cx.st0, Cx.st1] at hy
    rcases List.mem_append.1 hy with q | q
    · rcases List.mem_append.1 q with q | q
      · rw [List.eq_of_mem_replicate q]; simp [in0]
      · rw [List.eq_of_mem_replicate q]; simp [dffN]
    · split at q
      · simp at q; rcases q with rfl | rfl <;> simp
      · simp at q
  have h1 : NoBus x.ns0 := by
    unfold Cx.ns0
    rw [hb]
    exact gates_nobus _ _ h0
  have h2 : ∀ i, i ≤ x.f % 3 → NoBus (x.ns1 i) := by
    intro i
    induction i with
    | zero => exact fun _ => h1
    | succ i ih =>
      intro hi y hy
      simp only [Cx.ns1] at hy
      rcases List.mem_or_eq_of_mem_set hy with q | rfl
      · exact ih (by omega) y q
      · obtain ⟨-, -, h3⟩ := ns1_ok x i (by omega)
        obtain ⟨q1, q2⟩ := h3 i (by omega)
        simp only [List.getD_eq_getElem?_getD, List.getElem?_eq_getElem q1, Option.getD_some, q2]
        omega
  exact h2 _ (Nat.le_refl _)
/-- The circuit with another net at a pin. -/
def repin (c : Ci) (n p to : Nat) : Ci := { c with n := c.n.set n ⟨(c.nd n).k, (c.nd n).i.set p (to : Int), (c.nd n).a, (c.nd n).b⟩ }
section
variable {c : Ci} {n p to : Nat}
theorem repin_len : (repin c n p to).n.length = c.n.length := by simp [repin]
theorem repin_nd {i : Nat} (h : i ≠ n) : (repin c n p to).nd i = c.nd i := by
  simp [repin, Ci.nd, List.getD_eq_getElem?_getD, List.getElem?_set_ne (Ne.symm h)]
theorem repin_self (h : n < c.n.length) : (repin c n p to).nd n = ⟨(c.nd n).k, (c.nd n).i.set p (to : Int), (c.nd n).a, (c.nd n).b⟩ := by
  simp [repin, Ci.nd, List.getD_eq_getElem?_getD, h]
theorem repin_k (i : Nat) (h : n < c.n.length) : ((repin c n p to).nd i).k = (c.nd i).k := by
  by_cases hi : i = n
  · subst hi; rw [repin_self h]
  · rw [repin_nd hi]
theorem repin_g {i : Nat} (h : i ≠ n) : (repin c n p to).g i = c.g i := by
  unfold Ci.g; rw [repin_nd h]
theorem repin_gn (h : n < c.n.length) (hk : combB (c.nd n).k = true) : (repin c n p to).g n = (c.g n).set p to := by
  unfold Ci.g
  rw [repin_self h]
  simp only [hk, if_true, List.map_set, Int.toNat_natCast]
theorem repin_ndE (h : n < c.n.length) (y : Nd) : ndE (repin c n p to) y = ndE c y := by
  unfold ndE
  have h1 : ∀ v : Int, ((repin c n p to).nd v.toNat).k = (c.nd v.toNat).k := fun v => repin_k _ h
  simp only [repin_len, h1]
  rfl
theorem repin_shE (h : n < c.n.length) (hto : to < c.n.length) (hs : shE c = 0) (hb : NoBus c.n) : shE (repin c n p to) = 0 := by
  obtain ⟨h1, h2, h3, h4, h5, h6⟩ := sh_zero hs
  unfold shE
  have e1 : shBig (repin c n p to) = false := by
    have : shBig (repin c n p to) = shBig c := by unfold shBig; rw [repin_len]; rfl
    rw [this]; exact h1
  rw [if_neg (by simp [e1]), if_neg (by rw [repin_len]; simpa [repin] using h2), shN, errs_all, shS]
  · rw [if_neg (by simpa [repin] using h4), shM, errs_all, shO, if_neg]
    · rw [repin_len]; simpa [repin] using h6
    · intro e he
      obtain ⟨m, hm, rfl⟩ := List.mem_map.1 he
      have := h5 m hm
      unfold mdE at this ⊢
      rwa [repin_len]
  · intro e he
    obtain ⟨y, hy, rfl⟩ := List.mem_map.1 he
    rw [repin_ndE h]
    rcases List.mem_or_eq_of_mem_set hy with q | rfl
    · exact h3 y q
    · have hn := h3 (c.nd n) (by rw [c.nd_get h]; exact List.getElem_mem h)
      have hbn := hb (c.nd n) (by rw [c.nd_get h]; exact List.getElem_mem h)
      obtain ⟨q1, q2, q3, q4, q5⟩ := nd_zero hn
      have hany : ((c.nd n).i.set p (to : Int)).any (outB c.n.length) = false := by
        rw [List.any_eq_false] at q3 ⊢
        intro v hv
        rcases List.mem_or_eq_of_mem_set hv with r | rfl
        · exact q3 v r
        · simp [lt_outB hto]
      unfold ndE
      simp only [List.length_set]
      rw [if_neg (by omega), if_neg (by simp [q2]), if_neg (by simp [hany]), if_neg (by simp [hbn]), if_neg]
      show ¬ (bitB c (c.nd n) = false)
      simp [q5]
/-- What is marked as depending on a node. -/
structure OnInv (c : Ci) (n p to : Nat) (o : Nat → Bool) : Prop where
  s : ∀ f, IsLv c.n.length (repin c n p to).g f → ∀ j, j < c.n.length → o j = true → f n ≤ f j
  n : o n = true
def Clo (c : Ci) (o : Nat → Bool) (i : Nat) : Prop := ∀ j, j < i → ∀ k ∈ c.g j, o k = true → o j = true
theorem OnInv.start (_h : n < c.n.length) : OnInv c n p to (fun j => decide (j = n)) := ⟨fun f _ j _ h => by
  have : j = n := by simpa using h
  subst this; exact Nat.le_refl _, by simp⟩
theorem OnInv.step {o : Nat → Bool} {i w : Nat} (h : OnInv c n p to o) (hi : i < c.n.length) (hwN : w < c.n.length) (hw : w ∈ c.g i) : OnInv c n p to (upd1 o i (o i || o w)) := by
  refine ⟨fun f hf j hj hjo => ?_, ?_⟩
  · by_cases hji : j = i
    · subst hji
      simp at hjo
      rcases hjo with q | q
      · exact h.s f hf j hj q
      · by_cases hn : j = n
        · subst hn; exact Nat.le_refl _
        · have h1 := h.s f hf w hwN q
          have h2 : f w + 1 ≤ f j := by rw [hf j hj, repin_g hn]; exact le_mx hw
          omega
    · rw [upd1_ne _ _ hji] at hjo
      exact h.s f hf j hj hjo
  · by_cases hn : n = i
    · subst hn; simp [h.n]
    · rw [upd1_ne _ _ hn]; exact h.n
theorem clo_step {o : Nat → Bool} {i : Nat} {b : Bool} (hbel : ∀ i, i < c.n.length → ∀ y ∈ c.g i, y < i) (hi : i < c.n.length) (h : Clo c o i) : Clo c (upd1 o i b) i := by
  intro j hj k hk hko
  have hkj := hbel j (by omega) k hk
  rw [upd1_ne _ _ (by omega)] at hko ⊢
  exact h j hj k hk hko
/-- A loop: what reads the net is marked. -/
theorem on_loop {o : Nat → Bool} (hN : n < c.n.length) (hk : combB (c.nd n).k = true) (hp : p < (c.g n).length) (h : OnInv c n p to o) (hto : to < c.n.length) (ho : o to = true) : ¬ acyc (repin c n p to) := by
  rintro ⟨f, hf⟩
  rw [repin_len] at hf
  have h1 := h.s f hf to hto ho
  have h2 : f to + 1 ≤ f n := by
    rw [hf n hN, repin_gn hN hk]
    exact le_mx (List.mem_iff_getElem.2 ⟨p, by simpa using hp, by simp⟩)
  omega
/-- No loop: the other net is not marked. -/
theorem on_free {o : Nat → Bool} (hN : n < c.n.length) (hk : combB (c.nd n).k = true) (h : OnInv c n p to o) (hbel : ∀ i, i < c.n.length → ∀ y ∈ c.g i, y < i) (hc : Clo c o c.n.length) (hto : to < c.n.length) (ho : o to = false) : acyc (repin c n p to) := by
  refine acyc_rank (fun i => if o i = true then c.n.length + i else i) ?_
  rw [repin_len]
  intro i hi x hx
  by_cases hin : i = n
  · subst hin
    rw [repin_gn hi hk] at hx
    simp only [h.n, if_true]
    rcases List.mem_or_eq_of_mem_set hx with q | rfl
    · have := hbel i hi x q
      refine ⟨by omega, ?_⟩
      split <;> omega
    · refine ⟨hto, ?_⟩
      rw [if_neg (by simp [ho])]; omega
  · rw [repin_g hin] at hx
    have hlt := hbel i hi x hx
    refine ⟨by omega, ?_⟩
    by_cases hox : o x = true
    · rw [if_pos hox, if_pos (hc i hi x hx hox)]; omega
    · rw [if_neg hox]; split <;> omega
end
end Go.Proofs.YtcdfifbabhfknaaDoor
