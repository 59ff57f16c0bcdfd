/- What an operation comes to is what the model's comes to: all operations but the calls. No program stands in it. Conditions: none. -/
import Derived.Test.YtcdfifbabhfknaaDoorCoreN
namespace Go.Proofs.YtcdfifbabhfknaaDoor
open Go

section
variable {P : Program} {gl : Fr} {n : Nat} {fr : Fr} {h : Hp} {G : GMap} {M : MMap} {a : Act} {w : World}

theorem istep_pure (hr : R n gl G M fr h a w) {o : Oper} {io : IOp} (hpure : isPure io = true) (hc : comp1 P o = some io) {Q : Exit → Act → World → Prop} {K : V → Hp → Prop} {id : Nat} (hi : istep P gl id fr h K io) : o.wp P a w (PurePost K G M w o a h) Q := by
  unfold comp1 at hc
  split at hc
  · rename_i x ho; cases hc; exact sound_mv hr (.inl ho) hi
  · rename_i x ho; cases hc; exact sound_mv hr (.inr ho) hi
  · rename_i c x y ho; cases hc; exact sound_pick hr ho hi
  · rename_i t x ho; cases hc; simp [isPure] at hpure
  · rename_i t ho
    cases hz : zeroOf P t with
    | none => rw [hz] at hc; cases hc
    | some z => rw [hz] at hc; cases hc; simp [isPure] at hpure
  · rename_i t ps ho
    split at hc
    · rename_i z fields hz hu
      split at hc
      · rename_i hf
        cases hl : coParts (placeOf P fields) ps.toList with
        | none => rw [hl] at hc; cases hc
        | some l => rw [hl] at hc; cases hc; exact sound_buildS hr ho hu hf hz hl hi
      · cases hc
    · rename_i z len e hz hu
      split at hc
      · rename_i ag m by_ ht
        cases hl : coParts (fun i => some (i * m, m)) ps.toList with
        | none => rw [hl] at hc; cases hc
        | some l => rw [hl] at hc; cases hc; exact sound_buildA (ty := (ag, m, by_)) hr ho hu ht hz hl hi
      · cases hc
    · cases hc
  · rename_i t len ps ho
    split at hc
    · rename_i e hu
      split at hc
      · rename_i ag m by_ z ht hz
        split at hc
        · rename_i hcond
          cases hl : coParts (fun i => some (i * m, m)) ps.toList with
          | none => rw [hl] at hc; cases hc
          | some l => rw [hl] at hc; cases hc; simp [isPure] at hpure
        · cases hc
      · cases hc
    · cases hc
  · rename_i t x ho
    cases ht : tyOf P t with
    | none => rw [ht] at hc; cases hc
    | some ty => rw [ht] at hc; cases hc; exact sound_load hr ho ht hi
  · rename_i t x y ho
    cases ht : tyOf P t with
    | none => rw [ht] at hc; cases hc
    | some ty => rw [ht] at hc; cases hc; simp [isPure] at hpure
  · rename_i op t x y yt ho
    split at hc
    · split at hc
      · cases hc; exact sound_bin hr ho hi
      · cases hc; exact sound_bin hr ho hi
      · rename_i hu; cases hc; exact sound_beq (neg := false) hr ho rfl hu hi
      · cases hp : plainStruct P t with
        | none => rw [hp] at hc; cases hc
        | some m => rw [hp] at hc; cases hc; exact sound_eqs (neg := false) hr ho rfl hp hi
    · split at hc
      · cases hc; exact sound_bin hr ho hi
      · cases hc; exact sound_bin hr ho hi
      · rename_i hu; cases hc; exact sound_beq (neg := true) hr ho rfl hu hi
      · cases hp : plainStruct P t with
        | none => rw [hp] at hc; cases hc
        | some m => rw [hp] at hc; cases hc; exact sound_eqs (neg := true) hr ho rfl hp hi
    · cases hc; exact sound_bin hr ho hi
  · rename_i op t x ho; cases hc; exact sound_un hr ho hi
  · rename_i s d x ho
    split at hc
    · rename_i ks k h1 h2; cases hc; exact sound_conv hr ho h1 h2 hi
    · rename_i h1 h2; cases hc; exact sound_cvs hr ho h1 h2 hi
    · rename_i e h1 h2
      split at hc
      · rename_i h3; cases hc; exact sound_b2s hr ho h1 h2 h3 hi
      · cases hc
    · cases hc
  · rename_i f x y ho; cases hc; exact sound_mkfn hr ho hi
  · rename_i t l c ho
    split at hc
    · rename_i e hu
      split at hc
      · rename_i ag m by_ z ht hz
        split at hc
        · rename_i hm; cases hc; simp [isPure] at hpure
        · cases hc
      · cases hc
    · cases hc
  · rename_i t x lo hi' mx ho
    split at hc
    · rename_i e hu
      split at hc
      · rename_i ag m by_ ht
        split at hc
        · rename_i hm; cases hc; exact sound_slice (ty := (ag, m, by_)) hr ho hu ht hm.2 hi
        · cases hc
      · cases hc
    · rename_i hu
      split at hc
      · cases hc; exact sound_sliceS hr ho hu hi
      · cases hc
    · cases hc
  · rename_i s x i ho
    split at hc
    · rename_i fields hu
      split at hc
      · rename_i f hf
        split at hc
        · rename_i ag m by_ ht
          split at hc
          · cases hc
          · rename_i hm; cases hc; exact sound_fieldA (ty := (ag, m, by_)) hr ho hu hf ht hm hi
        · cases hc
      · cases hc
    · cases hc
  · rename_i s x i ho
    split at hc
    · rename_i fields hu
      split at hc
      · rename_i f hf
        split at hc
        · rename_i ag m by_ ht
          cases hc; exact sound_field (ty := (ag, m, by_)) hr ho hu hf ht hi
        · cases hc
      · cases hc
    · cases hc
  · rename_i t x y ho
    split at hc
    · rename_i e hu
      split at hc
      · rename_i ag m by_ ht
        split at hc
        · cases hc; exact sound_idxA (ty := (ag, m, by_)) hr ho hu ht hi
        · cases hc
      · cases hc
    · rename_i len e hu
      split at hc
      · rename_i ag m by_ ht; cases hc; exact sound_idxP (ty := (ag, m, by_)) hr ho hu ht hi
      · cases hc
    · cases hc
  · rename_i t x y ho
    split at hc
    · rename_i len e hu
      split at hc
      · rename_i ag m by_ ht; cases hc; exact sound_idxV (ty := (ag, m, by_)) hr ho hu ht hi
      · cases hc
    · rename_i hu; cases hc; exact sound_idxS hr ho hu hi
    · cases hc
  · rename_i x i ho; cases hc; exact sound_extract hr ho hi
  · rename_i c ho
    split at hc
    · rename_i f hcal; cases hc; simp [isPure] at hpure
    · rename_i hcal
      split at hc
      · rename_i t x hat ha
        split at hc
        · rename_i e hu; cases hc; exact sound_len hr ho hcal ha hat hu hi
        · rename_i hu; cases hc; exact sound_lenS hr ho hcal ha hat hu hi
        · rename_i m e hu; cases hc; exact sound_lenK hr ho hcal ha hat (.inl ⟨e, hu⟩) hi
        · rename_i u hu
          split at hc
          · rename_i m e hu2; cases hc; exact sound_lenK hr ho hcal ha hat (.inr ⟨u, e, hu, hu2⟩) hi
          · cases hc
        · cases hc
      · cases hc
    · rename_i hcal
      split at hc
      · rename_i t x hat ha
        split at hc
        · rename_i e hu; cases hc; exact sound_cap hr ho hcal ha hat hu hi
        · cases hc
      · cases hc
    · rename_i hcal
      split at hc
      · rename_i t t2 x y hat ha
        split at hc
        · rename_i e e2 hu hu2
          split at hc
          · rename_i ag m by_ z ht hz
            split at hc
            · rename_i hm; cases hc; simp [isPure] at hpure
            · cases hc
          · cases hc
        · cases hc
      · cases hc
    · rename_i hcal
      split at hc
      · rename_i x y ha; cases hc; exact sound_mm (mx := true) hr ho hcal ha hi
      · cases hc
    · rename_i hcal
      split at hc
      · rename_i x y ha; cases hc; exact sound_mm (mx := false) hr ho hcal ha hi
      · cases hc
    · cases hc
  · cases hc


theorem comp1_inv {o : Oper} {io : IOp} (hc : comp1 P o = some io) (hnp : isPure io = false) :
    (∃ t y, o.op = .box t y ∧ io = .box (co y)) ∨ (∃ t z, o.op = .alloc t ∧ zeroOf P t = some z ∧ io = .alloc (vOfZ z)) ∨
    (∃ t e len ps l z ty, o.op = .buildSlice t len ps ∧ P.underlying t = some (.slice e) ∧ tyOf P e = some ty ∧ zeroOf P e = some z ∧ len * ty.2.1 ≤ 4096 ∧ ty.2.1 ≠ 0 ∧ coParts (fun i => some (i * ty.2.1, ty.2.1)) ps.toList = some l ∧
      io = .buildSl ty.2.1 len ((List.range (len * ty.2.1)).map fun i => (vOfZ z).cells.getD (i % ty.2.1) .undef) l) ∨
    (∃ t e x y z ty, o.op = .makeSlice t x y ∧ P.underlying t = some (.slice e) ∧ tyOf P e = some ty ∧ zeroOf P e = some z ∧ ty.2.1 ≠ 0 ∧ io = .mksl (vOfZ z).cells ty.2.1 ty.2.2 (co x) (co y)) ∨
    (∃ c f, o.op = .call c ∧ c.callee = .value f ∧ io = .call (co f) (c.args.toList.map co)) ∨ (∃ t x y ty, o.op = .store t x y ∧ tyOf P t = some ty ∧ io = .store ty.2.1 (co x) (co y)) ∨ ∃ c t t2 e e2 x y z ty, o.op = .call c ∧ c.callee = .builtin .append ∧ c.args.toList = [x, y] ∧ c.argTypes.toList = [t, t2] ∧ P.underlying t = some (.slice e) ∧ P.underlying t2 = some (.slice e2) ∧ tyOf P e = some ty ∧ zeroOf P e = some z ∧ ty.2.1 ≠ 0 ∧ io = .app ty.2.1 ty.2.2 (vOfZ z).cells (co x) (co y) := by
  unfold comp1 at hc
  split at hc
  · cases hc; simp [isPure] at hnp
  · cases hc; simp [isPure] at hnp
  · cases hc; simp [isPure] at hnp
  · rename_i t x ho; cases hc; exact .inl ⟨t, x, ho, rfl⟩
  · rename_i t ho
    cases hz : zeroOf P t with
    | none => rw [hz] at hc; cases hc
    | some z => rw [hz] at hc; cases hc; exact .inr (.inl ⟨t, z, ho, hz, rfl⟩)
  · rename_i t ps ho
    split at hc
    · split at hc
      · rename_i z fields hz hu hf
        cases hl : coParts (placeOf P fields) ps.toList with
        | none => rw [hl] at hc; cases hc
        | some l => rw [hl] at hc; cases hc; simp [isPure] at hnp
      · cases hc
    · split at hc
      · rename_i z len e hz hu _ ag m by_ ht
        cases hl : coParts (fun i => some (i * m, m)) ps.toList with
        | none => rw [hl] at hc; cases hc
        | some l => rw [hl] at hc; cases hc; simp [isPure] at hnp
      · cases hc
    · cases hc
  · rename_i t len ps ho
    split at hc
    · rename_i e hu
      split at hc
      · rename_i ag m by_ z ht hz
        split at hc
        · rename_i hcond
          cases hl : coParts (fun i => some (i * m, m)) ps.toList with
          | none => rw [hl] at hc; cases hc
          | some l => rw [hl] at hc; cases hc; exact .inr (.inr (.inl ⟨t, e, len, ps, l, z, (ag, m, by_), ho, hu, ht, hz, hcond.1, hcond.2, hl, rfl⟩))
        · cases hc
      · cases hc
    · cases hc
  · rename_i t x ho
    cases ht : tyOf P t with
    | none => rw [ht] at hc; cases hc
    | some ty => rw [ht] at hc; cases hc; simp [isPure] at hnp
  · rename_i t x y ho
    cases ht : tyOf P t with
    | none => rw [ht] at hc; cases hc
    | some ty => rw [ht] at hc; cases hc; exact .inr (.inr (.inr (.inr (.inr (.inl ⟨t, x, y, ty, ho, ht, rfl⟩)))))
  · rename_i op t x y yt ho
    split at hc
    · split at hc
      · cases hc; simp [isPure] at hnp
      · cases hc; simp [isPure] at hnp
      · cases hc; simp [isPure] at hnp
      · cases hp : plainStruct P t with
        | none => rw [hp] at hc; cases hc
        | some m => rw [hp] at hc; cases hc; simp [isPure] at hnp
    · split at hc
      · cases hc; simp [isPure] at hnp
      · cases hc; simp [isPure] at hnp
      · cases hc; simp [isPure] at hnp
      · cases hp : plainStruct P t with
        | none => rw [hp] at hc; cases hc
        | some m => rw [hp] at hc; cases hc; simp [isPure] at hnp
    · cases hc; simp [isPure] at hnp
  · cases hc; simp [isPure] at hnp
  · split at hc
    · cases hc; simp [isPure] at hnp
    · cases hc; simp [isPure] at hnp
    · split at hc
      · cases hc; simp [isPure] at hnp
      · cases hc
    · cases hc
  · cases hc; simp [isPure] at hnp
  · rename_i t x y ho
    split at hc
    · rename_i e hu
      split at hc
      · rename_i ag m by_ z ht hz
        split at hc
        · rename_i hm; cases hc; exact .inr (.inr (.inr (.inl ⟨t, e, x, y, z, (ag, m, by_), ho, hu, ht, hz, hm, rfl⟩)))
        · cases hc
      · cases hc
    · cases hc
  · split at hc
    · split at hc
      · split at hc
        · cases hc; simp [isPure] at hnp
        · cases hc
      · cases hc
    · split at hc
      · cases hc; simp [isPure] at hnp
      · cases hc
    · cases hc
  · split at hc
    · split at hc
      · split at hc
        · split at hc
          · cases hc
          · cases hc; simp [isPure] at hnp
        · cases hc
      · cases hc
    · cases hc
  · split at hc
    · split at hc
      · split at hc
        · cases hc; simp [isPure] at hnp
        · cases hc
      · cases hc
    · cases hc
  · split at hc
    · split at hc
      · split at hc
        · cases hc; simp [isPure] at hnp
        · cases hc
      · cases hc
    · split at hc
      · cases hc; simp [isPure] at hnp
      · cases hc
    · cases hc
  · split at hc
    · split at hc
      · cases hc; simp [isPure] at hnp
      · cases hc
    · cases hc; simp [isPure] at hnp
    · cases hc
  · cases hc; simp [isPure] at hnp
  · rename_i c ho
    split at hc
    · rename_i f hcal; cases hc; exact .inr (.inr (.inr (.inr (.inl ⟨c, f, ho, hcal, rfl⟩))))
    · split at hc
      · split at hc
        · cases hc; simp [isPure] at hnp
        · cases hc; simp [isPure] at hnp
        · cases hc; simp [isPure] at hnp
        · split at hc
          · cases hc; simp [isPure] at hnp
          · cases hc
        · cases hc
      · cases hc
    · split at hc
      · split at hc
        · cases hc; simp [isPure] at hnp
        · cases hc
      · cases hc
    · rename_i hcal
      split at hc
      · rename_i t t2 x y hat ha
        split at hc
        · rename_i e e2 hu hu2
          split at hc
          · rename_i ag m by_ z ht hz
            split at hc
            · rename_i hm; cases hc; exact .inr (.inr (.inr (.inr (.inr (.inr ⟨c, t, t2, e, e2, x, y, z, (ag, m, by_), ho, hcal, ha, hat, hu, hu2, ht, hz, hm, rfl⟩)))))
            · cases hc
          · cases hc
        · cases hc
      · cases hc
    · split at hc
      · cases hc; simp [isPure] at hnp
      · cases hc
    · split at hc
      · cases hc; simp [isPure] at hnp
      · cases hc
    · cases hc
  · cases hc


theorem comp1_ne_n {o : Oper} (x : NOp) : comp1 P o ≠ some (.n x) := by
  intro h
  unfold comp1 at h
  repeat' (first | (cases h; done) | (simp at h; done) | split at h | (simp only [Option.map_eq_some_iff] at h; obtain ⟨_, _, h⟩ := h))

/-- An operation that leaves the memory alone. -/
theorem pure_sound (hr : R n gl G M fr h a w) {o : Oper} {io : IOp} (hc : comp1X P o = some io) (hp : isPure io = true) {gf : Nat → Nat} {id : Nat} {y : Y} (he : eop gl gf id (lk fr) (lk h) io = some y) {Q : Exit → Act → World → Prop} :
    y.2.1 = [] ∧ o.wp P a w (PurePost (fun v _ => v = y.1) G M w o a h) Q := by
  rcases comp1X_inv hc with ⟨x, rfl, hn⟩ | h1
  · exact nop_pure hr hn (by simpa [isPure] using hp) (by simpa [eop] using he)
  · by_cases hne : ∃ x, io = .n x
    · obtain ⟨x, rfl⟩ := hne
      exact absurd h1 (comp1_ne_n _)
    · obtain ⟨q1, q2⟩ := eop_istep (id' := id) (fun x hx => hne ⟨x, hx⟩) hp he
      exact ⟨q1, istep_pure hr hp h1 q2⟩

/-- An operation has its value in the model, and changes there the blocks that it changes here. -/
theorem eop_sound (hr : R n gl G M fr h a w) {o : Oper} {io : IOp} (hcx : comp1X P o = some io) {id : Nat} {y : Y} (he : eop gl (freshGen M) id (lk fr) (lk h) io = some y) {Q : Exit → Act → World → Prop} :
    o.wp P a w (OpPost h id (fun v h' => v = y.1 ∧ h' = y.2.1 ++ h) G M w o a) Q := by
  cases hp : isPure io with
  | true =>
    obtain ⟨h1, h2⟩ := pure_sound (Q := Q) hr hcx hp he
    refine Oper.wp_mono ?_ h2
    rintro a' w' ⟨v, rv, e1, e2, e3, rfl⟩
    exact ⟨v, h, rv, G, M, ⟨e1, by rw [h1]; rfl⟩, e2, e3, hr.sim, .refl _ _ _, fun _ _ _ => rfl⟩
  | false =>
    rcases comp1X_inv hcx with ⟨x, rfl, hn⟩ | hc
    · exact nop_loud hr hn (by simpa [isPure] using hp) (by simpa [eop] using he)
    rcases comp1_inv hc hp with ⟨t, x, ho, rfl⟩ | ⟨t, z, ho, hz, rfl⟩ | ⟨t, e, len, ps, l, z, ty, ho, hu, ht, hz, hn, hn0, hl, rfl⟩ | ⟨t, e, x, y', z, ty, ho, hu, ht, hz, hn0, rfl⟩ | ⟨c, f, ho, hcal, rfl⟩ | ⟨t, x, y', ty, ho, ht, rfl⟩ | ⟨c, t, t2, e, e2, x, y', z, ty, ho, hcal, ha, hat, hu, hu2, ht, hz, hn0, rfl⟩
    · simp only [eop, evF_lk] at he
      obtain ⟨v, hv, he⟩ := eb_some he
      obtain ⟨h1, he⟩ := gd_some he
      cases he
      exact q_up hr (q_box hr ho hv h1) ⟨rfl, rfl⟩
    · simp only [eop] at he
      obtain ⟨h1, he⟩ := gd_some he
      cases he
      exact q_up hr (q_alloc hr ho hz h1) ⟨rfl, rfl⟩
    · simp only [eop, evpsF_lk] at he
      obtain ⟨vs, hvs, he⟩ := eb_some he
      obtain ⟨cs, hcs, he⟩ := eb_some he
      cases he
      obtain ⟨cs', hk, hq⟩ := q_buildSl hr ho hu ht hz hn hn0 hl (id := id) hvs (fillO_W (K := fun x => x = cs) hcs rfl)
      subst hk
      exact q_up hr (hq Q) ⟨rfl, rfl⟩
    · simp only [eop, evF_lk] at he
      split at he
      · rename_i k p k' q hx hy
        obtain ⟨h1, he⟩ := gd_some he
        cases he
        simp only [Bool.and_eq_true, decide_eq_true_eq] at h1
        exact q_up hr (q_mksl hr ho hu ht hz hn0 hx hy h1.1.1.1.1.1 h1.1.1.1.1.2 h1.1.1.1.2 h1.1.1.2 h1.1.2 Q) ⟨rfl, rfl⟩
      · cases he
    · simp [eop] at he
    · refine sound_store hr ho ht (id := id) ?_
      simp only [eop, evF_lk] at he
      simp only [istep]
      split at he
      · simp only [*]
        split at he
        · rename_i hb
          obtain ⟨h1, he⟩ := gd_some he
          cases he
          simp only [Bool.and_eq_true, decide_eq_true_eq] at h1
          simp only [hb]
          exact ⟨h1.1.1, h1.1.2, V.putOkB_iff.1 h1.2, by simp⟩
        · cases he
      · cases he
    · refine sound_appG hr ho hcal ha hat hu hu2 ht hz hn0 (id := id) ?_
      simp only [eop, evNF_lk] at he
      unfold appG
      split at he
      · simp only [*]
        obtain ⟨ys, hys, he⟩ := eb_some he
        obtain ⟨h1, he⟩ := gd_some he
        simp only [Bool.and_eq_true, decide_eq_true_eq] at h1
        refine elemsO_W hys ⟨fun x hx => ?_, h1.1.1.1.2, h1.1.1.2, h1.1.2, h1.2, fun hn => ?_, fun hn => ?_⟩
        · have := List.all_eq_true.1 h1.1.1.1.1 x hx
          simpa using this
        · rw [hn] at he
          cases he
          exact ⟨rfl, rfl⟩
        · split at he
          · rename_i hn'; exact absurd hn' hn
          · cases he; exact ⟨rfl, rfl⟩
      · simp only [*]
        split at he
        · rename_i hb
          obtain ⟨ys, hys, he⟩ := eb_some he
          obtain ⟨h1, he⟩ := gd_some he
          cases he
          simp only [Bool.and_eq_true, decide_eq_true_eq] at h1
          simp only [hb]
          exact elemsO_W hys ⟨h1.1.1.1.1.1, h1.1.1.1.1.2, h1.1.1.1.2, h1.1.1.2, h1.1.2, h1.2, rfl, rfl⟩
        · cases he
      · cases he
end

/-! ### An operation looks at its operands and at the blocks that it names, and at nothing else -/

def IOpd.slots : IOpd → List Nat
  | .t n => [n]
  | _ => []
def osl : Option IOpd → List Nat
  | none => []
  | some x => x.slots
def NOp.slots : NOp → List Nat
  | .bad | .mkmap => []
  | .isnil _ x | .srange x | .snext x => x.slots
  | .lookup _ _ _ m k | .idxByte m k => m.slots ++ k.slots
  | .mapup _ m k v => m.slots ++ k.slots ++ v.slots
def IOp.slots : IOp → List Nat
  | .n x => x.slots
  | .mv x | .box x | .load _ _ x | .un _ x | .conv _ x | .fieldA _ x | .field _ _ _ x | .len x | .lenS x | .cap x | .extract x _ | .b2s x | .cvs x => x.slots
  | .pick c a b => c.slots ++ a.slots ++ b.slots
  | .alloc _ | .lenK _ => []
  | .build _ ps | .buildSl _ _ _ ps => ps.flatMap fun p => p.2.2.slots
  | .store _ a x | .bin _ a x | .eqs _ _ a x | .beq _ a x | .idxA _ a x | .idxP _ _ a x | .idxV _ _ _ a x | .idxS a x | .app _ _ _ a x | .copy _ a x | .mm _ a x | .mksl _ _ _ a x => a.slots ++ x.slots
  | .mkfn _ a b => (a.flatMap IOpd.slots) ++ (b.flatMap IOpd.slots)
  | .slice _ x lo hi mx => x.slots ++ osl lo ++ osl hi ++ osl mx
  | .sliceS x lo hi => x.slots ++ osl lo ++ osl hi
  | .call f as => f.slots ++ as.flatMap IOpd.slots

section
variable {gl : Fr} {F F' : FF} {H H' : HH} {gf gf' : Nat → Nat} {id : Nat}

theorem evF_congr {x : IOpd} (hx : ∀ t ∈ x.slots, F' t = F t) : evF gl F' x = evF gl F x := by
  cases x <;> first | rfl | exact hx _ (by simp [IOpd.slots])
theorem evNF_congr {x : IOpd} (hx : ∀ t ∈ x.slots, F' t = F t) : evNF gl F' x = evNF gl F x := by unfold evNF; rw [evF_congr hx]
theorem evsF_congr : ∀ {l : List IOpd}, (∀ t ∈ l.flatMap IOpd.slots, F' t = F t) → evsF gl F' l = evsF gl F l
  | [], _ => rfl
  | x :: r, hx => by
    simp only [evsF]
    rw [evF_congr (fun t ht => hx t (by simp [ht])), evsF_congr (fun t ht => hx t (by simp only [List.flatMap_cons, List.mem_append]; exact .inr ht))]
theorem evpsF_congr : ∀ {l : List (Nat × Nat × IOpd)}, (∀ t ∈ l.flatMap (fun p => p.2.2.slots), F' t = F t) → evpsF gl F' l = evpsF gl F l
  | [], _ => rfl
  | (o, s, x) :: r, hx => by
    simp only [evpsF]
    rw [evF_congr (fun t ht => hx t (by simp [ht])), evpsF_congr (fun t ht => hx t (by simp only [List.flatMap_cons, List.mem_append]; exact .inr ht))]
theorem boundO_congr {d : Nat} {x : Option IOpd} (hx : ∀ t ∈ osl x, F' t = F t) : boundO gl F' d x = boundO gl F d x := by
  cases x with
  | none => rfl
  | some y => simp only [boundO]; rw [evF_congr (fun t ht => hx t ht)]
theorem boundMO_congr {x : Option IOpd} (hx : ∀ t ∈ osl x, F' t = F t) : boundMO gl F' x = boundMO gl F x := by
  cases x with
  | none => rfl
  | some y => simp only [boundMO]; rw [evF_congr (fun t ht => hx t ht)]

theorem elemsO_frame {sz : Nat} {v : V} {r : List V × List Nat} (he : elemsO H sz v = some r) (hH : ∀ b ∈ r.2, H' b = H b) : elemsO H' sz v = some r := by
  unfold elemsO at he ⊢
  split at he
  · exact he
  · rename_i b g off len cap
    cases hb : H b with
    | none => rw [hb] at he; cases he
    | some k =>
      rw [hb] at he
      cases k with
      | row g' sz' es =>
        obtain ⟨h1, h2⟩ := gd_some he
        cases h2
        have hbb : H' b = H b := hH b (by simp)
        rw [hbb, hb]
        simp only [h1, gd]
      | map g' es => cases he
      | siter g' s pos => cases he
  · cases he

theorem nop_congr {x : NOp} (hF : ∀ t ∈ x.slots, F' t = F t) : nop gl gf id F' H x = nop gl gf id F H x := by
  cases x <;> simp only [NOp.slots, List.mem_append] at hF <;> simp only [nop]
  case isnil neg x => rw [evF_congr hF]
  case lookup kd ok z m k => rw [evF_congr (fun t ht => hF t (.inl ht)), evF_congr (fun t ht => hF t (.inr ht))]
  case mapup kd m k v => rw [evF_congr (fun t ht => hF t (.inl (.inl ht))), evF_congr (fun t ht => hF t (.inl (.inr ht))), evF_congr (fun t ht => hF t (.inr ht))]
  case srange x => rw [evF_congr hF]
  case snext x => rw [evF_congr hF]
  case idxByte s c => rw [evF_congr (fun t ht => hF t (.inl ht)), evF_congr (fun t ht => hF t (.inr ht))]

theorem nop_frame {x : NOp} {y : Y} (he : nop gl gf id F H x = some y) (hH : ∀ b ∈ y.2.2, H' b = H b) (hg : gf' id = gf id) (hgr : ∀ b ∈ y.2.2, ∀ k, H b = some k → gf' b = gf b) : nop gl gf' id F H' x = some y := by
  cases x <;> simp only [nop] at he ⊢
  case bad => exact he
  case isnil neg x =>
    split at he
    · exact he
    · exact he
    · split at he
      · rename_i hb
        obtain ⟨h1, h2⟩ := gd_some he
        cases h2
        rw [hH _ (by simp), hb]
        simp only [h1, gd]
      · cases he
    · cases he
  case mkmap => rw [hg]; exact he
  case lookup kd ok z m k =>
    split at he
    · split at he
      · rename_i hb
        have he0 := he
        obtain ⟨h1, h2⟩ := gd_some he
        split at h2
        · cases h2; rw [hH _ (by simp), hb]; exact he0
        · cases h2; rw [hH _ (by simp), hb]; exact he0
        · cases h2
      · cases he
    · cases he
  case mapup kd m k v =>
    split at he
    · split at he
      · rename_i hb
        have he0 := he
        obtain ⟨h1, h2⟩ := gd_some he
        split at h2
        · cases h2; rw [hH _ (by simp), hb]; exact he0
        · cases h2; rw [hH _ (by simp), hb]; exact he0
        · cases h2
      · cases he
    · cases he
  case srange x => rw [hg]; exact he
  case snext x =>
    split at he
    · split at he
      · rename_i b g _ _ g' s pos hb
        have he0 := he
        obtain ⟨h1, h2⟩ := gd_some he
        have hin : y.2.2 = [b] := by
          cases hd : decide (pos < s.length) with
          | true => rw [hd] at h2; simp only [cond_true] at h2; cases h2; rfl
          | false => rw [hd] at h2; simp only [cond_false] at h2; cases h2; rfl
        rw [hH _ (by rw [hin]; simp), hb]; exact he0
      · cases he
    · cases he
  case idxByte s c => exact he

/-- The frame and the heap may differ where the operation doesn't look. -/
theorem eop_frame {io : IOp} (hF : ∀ t ∈ io.slots, F' t = F t) {y : Y} (he : eop gl gf id F H io = some y) (hH : ∀ b ∈ y.2.2, H' b = H b) (hg : gf' id = gf id) (hgr : ∀ b ∈ y.2.2, ∀ k, H b = some k → gf' b = gf b) : eop gl gf' id F' H' io = some y := by
  have stable : eop gl gf id F' H io = some y := by
    rw [← he]
    cases io <;> simp only [IOp.slots, List.mem_append] at hF <;> simp only [eop]
    case mv x => rw [evF_congr hF]
    case pick c x y => rw [evF_congr (fun t ht => hF t (.inl (.inl ht))), evF_congr (fun t ht => hF t (.inl (.inr ht))), evF_congr (fun t ht => hF t (.inr ht))]
    case box x => rw [evF_congr hF]
    case build z ps => rw [evpsF_congr hF]
    case buildSl sz len z ps => rw [evpsF_congr hF]
    case load ag m x => rw [evF_congr hF]
    case store m x y => rw [evF_congr (fun t ht => hF t (.inl ht)), evF_congr (fun t ht => hF t (.inr ht))]
    case bin op x y => rw [evF_congr (fun t ht => hF t (.inl ht)), evF_congr (fun t ht => hF t (.inr ht))]
    case eqs neg m x y => rw [evF_congr (fun t ht => hF t (.inl ht)), evF_congr (fun t ht => hF t (.inr ht))]
    case beq neg x y => rw [evF_congr (fun t ht => hF t (.inl ht)), evF_congr (fun t ht => hF t (.inr ht))]
    case un op x => rw [evF_congr hF]
    case conv k x => rw [evF_congr hF]
    case mkfn f x y => rw [evsF_congr (fun t ht => hF t (.inl ht)), evsF_congr (fun t ht => hF t (.inr ht))]
    case mksl z sz b x y => rw [evF_congr (fun t ht => hF t (.inl ht)), evF_congr (fun t ht => hF t (.inr ht))]
    case slice sz x lo hi mx =>
      rw [evNF_congr (fun t ht => hF t (.inl (.inl (.inl ht)))), boundO_congr (fun t ht => hF t (.inl (.inl (.inr ht)))), boundMO_congr (fun t ht => hF t (.inr ht))]
      simp only [boundO_congr (x := hi) (fun t ht => hF t (.inl (.inr ht)))]
    case sliceS x lo hi =>
      rw [evF_congr (fun t ht => hF t (.inl (.inl ht))), boundO_congr (fun t ht => hF t (.inl (.inr ht)))]
      simp only [boundO_congr (x := hi) (fun t ht => hF t (.inr ht))]
    case fieldA off x => rw [evF_congr hF]
    case field ag off m x => rw [evF_congr hF]
    case idxA sz x y => rw [evF_congr (fun t ht => hF t (.inl ht)), evF_congr (fun t ht => hF t (.inr ht))]
    case idxP len sz x y => rw [evF_congr (fun t ht => hF t (.inl ht)), evF_congr (fun t ht => hF t (.inr ht))]
    case idxV ag len sz x y => rw [evF_congr (fun t ht => hF t (.inl ht)), evF_congr (fun t ht => hF t (.inr ht))]
    case idxS x y => rw [evF_congr (fun t ht => hF t (.inl ht)), evF_congr (fun t ht => hF t (.inr ht))]
    case len x => rw [evNF_congr hF]
    case lenS x => rw [evF_congr hF]
    case cap x => rw [evNF_congr hF]
    case app sz b z x y => rw [evNF_congr (fun t ht => hF t (.inl ht)), evNF_congr (fun t ht => hF t (.inr ht))]
    case mm mx x y => rw [evF_congr (fun t ht => hF t (.inl ht)), evF_congr (fun t ht => hF t (.inr ht))]
    case extract x i => rw [evF_congr hF]
    case cvs x => rw [evF_congr hF]
    case b2s x => rw [evNF_congr hF]
    case n x => exact nop_congr (by simpa [IOp.slots] using hF)
  clear he hF
  have hrow : ∀ {b : Nat} {k : Blk}, b ∈ y.2.2 → H b = some k → H' b = some k := fun hb hk => by rw [hH _ hb]; exact hk
  cases io <;> simp only [eop] at stable ⊢
  case box x => rw [hg]; exact stable
  case alloc z => rw [hg]; exact stable
  case buildSl sz len z ps => rw [hg]; exact stable
  case mksl z sz b x z' => rw [hg]; exact stable
  case load ag m x =>
    split at stable
    · simp only [*]
    · rename_i b g i off hx
      try simp only [hx]
      cases hb : H b with
      | none => rw [hb] at stable; cases stable
      | some k =>
        rw [hb] at stable
        cases k with
        | row g' sz es =>
          obtain ⟨h1, h2⟩ := gd_some stable
          cases h2
          rw [hrow (by simp) hb]
          exact stable
        | map g' es => cases stable
        | siter g' s pos => cases stable
    · cases stable
  case store m x z =>
    split at stable
    · rename_i b g i off v hx hz
      try simp only [hx, hz]
      cases hb : H b with
      | none => rw [hb] at stable; cases stable
      | some k =>
        rw [hb] at stable
        cases k with
        | row g' sz es =>
          obtain ⟨h1, h2⟩ := gd_some stable
          cases h2
          rw [hrow (by simp) hb]
          exact stable
        | map g' es => cases stable
        | siter g' s pos => cases stable
    · cases stable
  case slice sz x lo hi mx =>
    split at stable
    · simp only [*]
    · rename_i b g off len cap hx
      try simp only [hx]
      cases hb : H b with
      | none => rw [hb] at stable; cases stable
      | some k =>
        rw [hb] at stable
        cases k with
        | row g' sz es =>
          have st0 := stable
          obtain ⟨h0, he⟩ := gd_some stable
          obtain ⟨l, h1, he⟩ := eb_some he
          obtain ⟨u, h2, he⟩ := eb_some he
          obtain ⟨m, h3, he⟩ := eb_some he
          obtain ⟨h4, he⟩ := gd_some he
          cases he
          rw [hrow (by simp) hb]
          exact st0
        | map g' es => cases stable
        | siter g' s pos => cases stable
    · cases stable
  case idxA sz x z =>
    split at stable
    · simp only [*]
    · rename_i b g off len cap k j hx hz
      try simp only [hx, hz]
      cases hb : H b with
      | none => rw [hb] at stable; cases stable
      | some k =>
        rw [hb] at stable
        cases k with
        | row g' sz es =>
          have st0 := stable
          obtain ⟨h1, h2⟩ := gd_some stable
          cases h2
          rw [hrow (by simp) hb]
          exact st0
        | map g' es => cases stable
        | siter g' s pos => cases stable
    · cases stable
  case app sz by_ z x vy =>
    split at stable
    · simp only [*]
      have st0 := stable
      obtain ⟨ys, hys, he⟩ := eb_some stable
      obtain ⟨h1, he⟩ := gd_some he
      have hr : y.2.2 = ys.2 := by
        split at he <;> (cases he; rfl)
      rw [elemsO_frame hys (fun b hb => hH b (by rw [hr]; exact hb))]
      rw [hys] at st0
      simp only [eb] at st0 ⊢
      first | exact st0 | (rw [hg]; exact st0)
    · rename_i b g off len cap vy hx hz
      try simp only [hx, hz]
      cases hb : H b with
      | none => rw [hb] at stable; cases stable
      | some k =>
        rw [hb] at stable
        cases k with
        | row g' sz es =>
          have st0 := stable
          obtain ⟨ys, hys, he⟩ := eb_some stable
          obtain ⟨h1, he⟩ := gd_some he
          cases he
          rw [hrow (by simp) hb]
          simp only []
          rw [elemsO_frame hys (fun b hb => hH b (by simp [hb])), hgr _ (by simp) _ hb]
          rw [hys] at st0
          exact st0
        | map g' es => cases stable
        | siter g' s pos => cases stable
    · cases stable
  case b2s x =>
    have st0 := stable
    obtain ⟨v, h1, h2⟩ := eb_some stable
    obtain ⟨es, h3, h4⟩ := eb_some h2
    obtain ⟨s, h5, h6⟩ := eb_some h4
    cases h6
    rw [h1] at st0 ⊢
    simp only [eb] at st0 ⊢
    have := elemsO_frame (H' := H') h3 hH
    rw [this]
    rw [h3] at st0
    exact st0
  case n x => exact nop_frame stable hH hg hgr
  all_goals exact stable
end
end Go.Proofs.YtcdfifbabhfknaaDoor
