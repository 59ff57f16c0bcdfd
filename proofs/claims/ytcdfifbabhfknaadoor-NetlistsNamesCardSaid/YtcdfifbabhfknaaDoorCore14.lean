/- Whatever operation is compiled stands for the model's; code; functions. No program stands in it. Conditions: none. -/
import Derived.Test.YtcdfifbabhfknaaDoorCore13
namespace Go.Proofs.YtcdfifbabhfknaaDoor
open Go

section
variable {P : Program} {gl : Fr} {n : Nat} {fr : Fr} {h : Hp} {G : GMap} {M : MMap} {a : Act} {w : World}

theorem istep_sound (hr : R n gl G M fr h a w) {o : Oper} {io : IOp} (hc : comp1 P o = some io) {Q : Exit → Act → World → Prop} {K : V → Hp → Prop} {id : Nat} (hi : istep P gl id fr h K io) : o.wp P a w (OpPost h id K G M w o a) Q := by
  unfold comp1 at hc
  split at hc
  · rename_i x ho; cases hc; exact pure_up hr (sound_mv hr (.inl ho) hi)
  · rename_i x ho; cases hc; exact pure_up hr (sound_mv hr (.inr ho) hi)
  · rename_i c x y ho; cases hc; exact pure_up hr (sound_pick hr ho hi)
  · rename_i t x ho; cases hc; exact sound_box hr ho hi
  · rename_i t ho
    cases hz : zeroOf P t with
    | none => rw [hz] at hc; cases hc
    | some z => rw [hz] at hc; cases hc; exact sound_alloc hr ho hz hi
  · rename_i t ps ho
    split at hc
    · rename_i z fields hz hu
      split at hc
      · rename_i hf
        cases hl : coParts (placeOf P fields) ps.toList with
        | none => rw [hl] at hc; cases hc
        | some l => rw [hl] at hc; cases hc; exact pure_up hr (sound_buildS hr ho hu hf hz hl hi)
      · cases hc
    · rename_i z len e hz hu
      split at hc
      · rename_i ag m by_ ht
        cases hl : coParts (fun i => some (i * m, m)) ps.toList with
        | none => rw [hl] at hc; cases hc
        | some l => rw [hl] at hc; cases hc; exact pure_up hr (sound_buildA (ty := (ag, m, by_)) hr ho hu ht hz hl hi)
      · cases hc
    · cases hc
  · rename_i t len ps ho
    split at hc
    · rename_i e hu
      split at hc
      · rename_i ag m by_ z ht hz
        split at hc
        · rename_i hcond
          cases hl : coParts (fun i => some (i * m, m)) ps.toList with
          | none => rw [hl] at hc; cases hc
          | some l => rw [hl] at hc; cases hc; exact sound_buildSl (ty := (ag, m, by_)) hr ho hu ht hz hcond.1 hcond.2 hl hi
        · cases hc
      · cases hc
    · cases hc
  · rename_i t x ho
    cases ht : tyOf P t with
    | none => rw [ht] at hc; cases hc
    | some ty => rw [ht] at hc; cases hc; exact pure_up hr (sound_load hr ho ht hi)
  · rename_i t x y ho
    cases ht : tyOf P t with
    | none => rw [ht] at hc; cases hc
    | some ty => rw [ht] at hc; cases hc; exact sound_store hr ho ht hi
  · rename_i op t x y yt ho
    split at hc
    · split at hc
      · cases hc; exact pure_up hr (sound_bin hr ho hi)
      · cases hc; exact pure_up hr (sound_bin hr ho hi)
      · rename_i hu; cases hc; exact pure_up hr (sound_beq (neg := false) hr ho rfl hu hi)
      · cases hp : plainStruct P t with
        | none => rw [hp] at hc; cases hc
        | some m => rw [hp] at hc; cases hc; exact pure_up hr (sound_eqs (neg := false) hr ho rfl hp hi)
    · split at hc
      · cases hc; exact pure_up hr (sound_bin hr ho hi)
      · cases hc; exact pure_up hr (sound_bin hr ho hi)
      · rename_i hu; cases hc; exact pure_up hr (sound_beq (neg := true) hr ho rfl hu hi)
      · cases hp : plainStruct P t with
        | none => rw [hp] at hc; cases hc
        | some m => rw [hp] at hc; cases hc; exact pure_up hr (sound_eqs (neg := true) hr ho rfl hp hi)
    · cases hc; exact pure_up hr (sound_bin hr ho hi)
  · rename_i op t x ho; cases hc; exact pure_up hr (sound_un hr ho hi)
  · rename_i s d x ho
    split at hc
    · rename_i ks k h1 h2; cases hc; exact pure_up hr (sound_conv hr ho h1 h2 hi)
    · rename_i h1 h2; cases hc; exact pure_up hr (sound_cvs hr ho h1 h2 hi)
    · rename_i e h1 h2
      split at hc
      · rename_i h3; cases hc; exact pure_up hr (sound_b2s hr ho h1 h2 h3 hi)
      · cases hc
    · cases hc
  · rename_i f x y ho; cases hc; exact pure_up hr (sound_mkfn hr ho hi)
  · rename_i t l c ho
    split at hc
    · rename_i e hu
      split at hc
      · rename_i ag m by_ z ht hz
        split at hc
        · rename_i hm; cases hc; exact sound_mksl (ty := (ag, m, by_)) hr ho hu ht hz hm hi
        · cases hc
      · cases hc
    · cases hc
  · rename_i t x lo hi' mx ho
    split at hc
    · rename_i e hu
      split at hc
      · rename_i ag m by_ ht
        split at hc
        · rename_i hm; cases hc; exact pure_up hr (sound_slice (ty := (ag, m, by_)) hr ho hu ht hm.2 hi)
        · cases hc
      · cases hc
    · rename_i hu
      split at hc
      · cases hc; exact pure_up hr (sound_sliceS hr ho hu hi)
      · cases hc
    · cases hc
  · rename_i s x i ho
    split at hc
    · rename_i fields hu
      split at hc
      · rename_i f hf
        split at hc
        · rename_i ag m by_ ht
          split at hc
          · cases hc
          · rename_i hm; cases hc; exact pure_up hr (sound_fieldA (ty := (ag, m, by_)) hr ho hu hf ht hm hi)
        · cases hc
      · cases hc
    · cases hc
  · rename_i s x i ho
    split at hc
    · rename_i fields hu
      split at hc
      · rename_i f hf
        split at hc
        · rename_i ag m by_ ht
          cases hc; exact pure_up hr (sound_field (ty := (ag, m, by_)) hr ho hu hf ht hi)
        · cases hc
      · cases hc
    · cases hc
  · rename_i t x y ho
    split at hc
    · rename_i e hu
      split at hc
      · rename_i ag m by_ ht
        split at hc
        · cases hc; exact pure_up hr (sound_idxA (ty := (ag, m, by_)) hr ho hu ht hi)
        · cases hc
      · cases hc
    · rename_i len e hu
      split at hc
      · rename_i ag m by_ ht; cases hc; exact pure_up hr (sound_idxP (ty := (ag, m, by_)) hr ho hu ht hi)
      · cases hc
    · cases hc
  · rename_i t x y ho
    split at hc
    · rename_i len e hu
      split at hc
      · rename_i ag m by_ ht; cases hc; exact pure_up hr (sound_idxV (ty := (ag, m, by_)) hr ho hu ht hi)
      · cases hc
    · rename_i hu; cases hc; exact pure_up hr (sound_idxS hr ho hu hi)
    · cases hc
  · rename_i x i ho; cases hc; exact pure_up hr (sound_extract hr ho hi)
  · rename_i c ho
    split at hc
    · rename_i f hcal; cases hc; exact sound_call hr ho hcal hi
    · rename_i hcal
      split at hc
      · rename_i t x hat ha
        split at hc
        · rename_i e hu; cases hc; exact pure_up hr (sound_len hr ho hcal ha hat hu hi)
        · rename_i hu; cases hc; exact pure_up hr (sound_lenS hr ho hcal ha hat hu hi)
        · rename_i m e hu; cases hc; exact pure_up hr (sound_lenK hr ho hcal ha hat (.inl ⟨e, hu⟩) hi)
        · rename_i u hu
          split at hc
          · rename_i m e hu2; cases hc; exact pure_up hr (sound_lenK hr ho hcal ha hat (.inr ⟨u, e, hu, hu2⟩) hi)
          · cases hc
        · cases hc
      · cases hc
    · rename_i hcal
      split at hc
      · rename_i t x hat ha
        split at hc
        · rename_i e hu; cases hc; exact pure_up hr (sound_cap hr ho hcal ha hat hu hi)
        · cases hc
      · cases hc
    · rename_i hcal
      split at hc
      · rename_i t t2 x y hat ha
        split at hc
        · rename_i e e2 hu hu2
          split at hc
          · rename_i ag m by_ z ht hz
            split at hc
            · rename_i hm; cases hc; exact sound_app (ty := (ag, m, by_)) hr ho hcal ha hat hu hu2 ht hz hm hi
            · cases hc
          · cases hc
        · cases hc
      · cases hc
    · rename_i hcal
      split at hc
      · rename_i x y ha; cases hc; exact pure_up hr (sound_mm (mx := true) hr ho hcal ha hi)
      · cases hc
    · rename_i hcal
      split at hc
      · rename_i x y ha; cases hc; exact pure_up hr (sound_mm (mx := false) hr ho hcal ha hi)
      · cases hc
    · cases hc
  · cases hc

theorem comp1X_inv {o : Oper} {io : IOp} (hc : comp1X P o = some io) : (∃ x, io = .n x ∧ (comp1N P o = some x ∨ x = .bad)) ∨ comp1 P o = some io := by
  unfold comp1X at hc
  split at hc
  · rename_i x hx; cases hc; exact .inl ⟨x, rfl, .inl hx⟩
  · split at hc
    · rename_i io' h; cases hc; exact .inr h
    · cases hc; exact .inl ⟨_, rfl, .inr rfl⟩

theorem istep_soundX (hr : R n gl G M fr h a w) {o : Oper} {io : IOp} (hc : comp1X P o = some io) {Q : Exit → Act → World → Prop} {K : V → Hp → Prop} {id : Nat} (hi : istep P gl id fr h K io) : o.wp P a w (OpPost h id K G M w o a) Q := by
  rcases comp1X_inv hc with ⟨x, rfl, -⟩ | h1
  · simp [istep] at hi
  · exact istep_sound hr h1 hi

/-! ### Operations in a row -/

def putF (fr : Fr) : Option Nat → V → Fr
  | none, _ => fr
  | some d, v => (d, v) :: fr

def guardW (fr : Fr) (A B : Prop) : Option (Nat × Bool) → Prop
  | none => A
  | some (t, want) => match lk fr t with
    | some (.bool b) => (b = want → A) ∧ (b ≠ want → B)
    | _ => False

def iops (P : Program) (gl : Fr) : List IOper → Fr → Hp → (Fr → Hp → Prop) → Prop
  | [], fr, h, K => K fr h
  | o :: r, fr, h, K => guardW fr (istep P gl (o.dst.getD 999999) fr h (fun v h' => iops P gl r (putF fr o.dst v) h' K) o.op) (iops P gl r (putF fr o.dst .undef) h K) o.guard

theorem lk_cons_ne {α : Type} {d t : Nat} {v : α} {fr : List (Nat × α)} (h : t ≠ d) : lk ((d, v) :: fr) t = lk fr t := by simp [lk, h]

theorem R.put (hr : R n gl G M fr h a w) {dst : Option Nat} (hd : match dst with | some d => d < n | none => True) {v : V} {rv : Value} {h' : Hp} {G' : GMap} {M' : MMap} {w' : World}
    (hv : RelV G' M' v rv) (hs : Sim G' M' h' w') (hx : Ext G M w G' M' w') : R n gl G' M' (putF fr dst v) h' (a.put dst rv) w' := by
  cases dst with
  | none => exact ⟨hs, fun t u ht => (hr.frr t u ht).mono hx.g hx.m, hr.sz, hr.df, hr.gl.mono hx.g⟩
  | some d =>
    refine ⟨hs, fun t u ht => ?_, by simp [Act.put, hr.sz], hr.df, hr.gl.mono hx.g⟩
    have hdn : d < a.tmps.size := by rw [hr.sz]; exact hd
    simp only [putF, lk] at ht
    split at ht
    · rename_i he
      cases ht; subst he
      have : ((a.put (some t) rv).tmps).getD t undef = rv := by
        simp [Act.put, Array.getD_eq_getD_getElem?, hdn]
      rw [this]; exact hv
    · rename_i he
      have : ((a.put (some d) rv).tmps).getD t undef = a.tmps.getD t undef := by
        simp only [Act.put, Array.getD_eq_getD_getElem?]
        rw [Array.getElem?_setIfInBounds_ne (by omega)]
      rw [this]; exact (hr.frr t u ht).mono hx.g hx.m

theorem wanted_spec {ops : Array Oper} {o : Oper} (hr : R n gl G M fr h a w) {t : Nat} {want b : Bool} (hg : guardOf ops o = some (some (t, want))) (hb : lk fr t = some (.bool b)) (hn : t < n) : Region.wanted o (yielded ops a.tmps) = (b == want) := by
  unfold guardOf at hg
  split at hg
  · cases hg
  · rename_i j want' he
    split at hg
    · rename_i d hd
      simp only [Option.some.injEq, Prod.mk.injEq] at hg
      obtain ⟨rfl, rfl⟩ := hg
      have hrv := relV_bool_inv (hr.frr _ _ hb)
      have hlt : d < a.tmps.size := by rw [hr.sz]; exact hn
      have hget : a.tmps[d]? = some (.bool b) := by
        rw [Array.getD_eq_getD_getElem?, Array.getElem?_eq_getElem hlt] at hrv
        rw [Array.getElem?_eq_getElem hlt]
        simpa using hrv
      simp only [Region.wanted, he, yielded, hd, Option.bind_some, hget]
      cases b <;> cases want' <;> rfl
    · cases hg

theorem wanted_none {ops : Array Oper} {o : Oper} {tmps : Array Value} (hg : guardOf ops o = some none) : Region.wanted o (yielded ops tmps) = true := by
  unfold guardOf at hg
  split at hg
  · rename_i he; simp [Region.wanted, he]
  · split at hg <;> cases hg

theorem compOp_spec {ops : Array Oper} {o : Oper} {x : IOper} (h : compOp P n ops o = some x) : comp1X P o = some x.op ∧ guardOf ops o = some x.guard ∧ x.dst = o.dst ∧ (match o.dst with | some d => d < n | none => True) := by
  unfold compOp at h
  split at h
  · rename_i io g h1 h2
    split at h
    · rename_i hd
      cases h
      refine ⟨h1, h2, rfl, ?_⟩
      cases hdst : o.dst with
      | none => trivial
      | some d => rw [hdst] at hd; simpa [dstOk] using hd
    · cases h
  · cases h

/-- One operation, in the model's terms. -/
theorem op_sound {ops : Array Oper} (hops : ∀ d, (∃ o, o ∈ ops.toList ∧ o.dst = some d) → d < n) (hr : R n gl G M fr h a w) {i : Nat} {o : Oper} (hi : ops[i]? = some o) {x : IOper} (hx : compOp P n ops o = some x) {Q : Exit → Act → World → Prop} {K : Fr → Hp → Prop} {K' : Act → World → Prop}
    (hg : guardW fr (istep P gl (x.dst.getD 999999) fr h (fun v h' => K (putF fr x.dst v) h') x.op) (K (putF fr x.dst .undef) h) x.guard)
    (hk : ∀ fr' h' G' M' a' w', K fr' h' → R n gl G' M' fr' h' a' w' → Ext G M w G' M' w' → K' a' w') : wpOp P ops Q i K' a w := by
  obtain ⟨c1, c2, c3, c4⟩ := compOp_spec hx
  unfold wpOp
  simp only [hi]
  have run : istep P gl (x.dst.getD 999999) fr h (fun v h' => K (putF fr x.dst v) h') x.op → o.wp P a w K' Q := by
    intro hs
    refine Oper.wp_mono ?_ (istep_soundX (Q := Q) hr c1 hs)
    rintro a' w' ⟨v, h', rv, G', M', hK, rfl, hv, hsim, hext, -⟩
    rw [c3] at hK
    exact hk _ _ G' M' _ _ hK (hr.put c4 hv hsim hext) hext
  have skip : K (putF fr x.dst .undef) h → K' (a.put o.dst undef) w := by
    intro hK
    rw [c3] at hK
    exact hk _ _ G M _ _ hK (hr.put c4 (.undef _) hr.sim (.refl _ _ _)) (.refl _ _ _)
  unfold guardW at hg
  split at hg
  · rename_i he
    rw [he] at c2
    rw [wanted_none c2, if_pos rfl]
    exact .inl (run hg)
  · rename_i t want he
    rw [he] at c2
    split at hg
    · rename_i b hb
      have ht : t < n := by
        unfold guardOf at c2
        split at c2
        · cases c2
        · split at c2
          · rename_i d hd
            simp only [Option.some.injEq, Prod.mk.injEq] at c2
            obtain ⟨rfl, rfl⟩ := c2
            simp only [Option.bind_eq_some_iff] at hd
            obtain ⟨o2, ho2, hd2⟩ := hd
            exact hops _ ⟨o2, by simpa using Array.mem_of_getElem? ho2, hd2⟩
          · cases c2
      rw [wanted_spec hr c2 hb ht]
      by_cases hbw : b = want
      · subst hbw
        rw [if_pos (by simp)]
        exact .inl (run (hg.1 rfl))
      · have hf : (b == want) = false := by simpa using hbw
        rw [hf, if_neg (by simp)]
        exact skip (hg.2 hbw)
    · exact hg.elim

theorem compOps_spec {ops : Array Oper} : ∀ {l : List Oper} {xs : List IOper}, compOps P n ops l = some xs → xs.length = l.length ∧ ∀ (i : Nat) (o : Oper), l[i]? = some o → ∃ x, xs[i]? = some x ∧ compOp P n ops o = some x
  | [], xs, h => by simp [compOps] at h; subst h; exact ⟨rfl, fun i o h => by simp at h⟩
  | o :: l, xs, h => by
    simp only [compOps] at h
    split at h
    · rename_i x l' h1 h2
      cases h
      obtain ⟨i1, i2⟩ := compOps_spec h2
      refine ⟨by simp [i1], fun i o' hi => ?_⟩
      cases i with
      | zero => simp at hi; subst hi; exact ⟨x, rfl, h1⟩
      | succ i => simpa using i2 i o' (by simpa using hi)
    · cases h

theorem dsts_lt {ops : Array Oper} {xs : List IOper} (hx : compOps P n ops ops.toList = some xs) : ∀ d, (∃ o, o ∈ ops.toList ∧ o.dst = some d) → d < n := by
  rintro d ⟨o, ho, hd⟩
  obtain ⟨i, hi⟩ := List.mem_iff_getElem?.1 ho
  obtain ⟨x, -, hc⟩ := (compOps_spec hx).2 i o hi
  have := (compOp_spec hc).2.2.2
  rw [hd] at this; exact this

theorem iops_sound {ops : Array Oper} {all : List IOper} (hx : compOps P n ops ops.toList = some all) {Q : Exit → Act → World → Prop} {K : Fr → Hp → Prop} : ∀ (l : List IOper) (k : Nat), all.drop k = l → ∀ {fr h G M a w}, R n gl G M fr h a w → iops P gl l fr h K →
    (∀ fr' h' G' M' a' w', K fr' h' → R n gl G' M' fr' h' a' w' → Ext G M w G' M' w' → Q .normal a' w') → wpOps P ops Q (List.range' k (all.length - k)) a w
  | [], k, hk, fr, h, G, M, a, w, hr, hi, hq => by
    have : all.length - k = 0 := by have := congrArg List.length hk; simpa using this
    rw [this]
    exact hq fr h G M a w hi hr (.refl _ _ _)
  | x :: l, k, hk, fr, h, G, M, a, w, hr, hi, hq => by
    have hlen : all.length - k = l.length + 1 := by have := congrArg List.length hk; simpa using this
    rw [hlen, List.range'_succ, wpOps_cons]
    have hxk : all[k]? = some x := by
      have := congrArg (fun q : List IOper => q[0]?) hk
      simpa using this
    have hkl : k < ops.toList.length := by rw [← (compOps_spec hx).1]; exact (List.getElem?_eq_some_iff.1 hxk).1
    obtain ⟨x', hx1, hx2⟩ := (compOps_spec hx).2 k _ (List.getElem?_eq_getElem hkl)
    rw [hxk] at hx1; cases hx1
    have hok : ops[k]? = some ops.toList[k] := by simp at hkl; simp [hkl]
    have hdrop : all.drop (k + 1) = l := by rw [← List.tail_drop, hk]; rfl
    have hll : all.length - (k + 1) = l.length := by omega
    refine op_sound (dsts_lt hx) hr hok hx2 (K := fun fr h => iops P gl l fr h K) hi fun fr' h' G' M' a' w' hK hr' hext => ?_
    have := iops_sound hx (Q := Q) l (k + 1) hdrop hr' hK (fun fr2 h2 G2 M2 a2 w2 q1 q2 q3 => hq fr2 h2 G2 M2 a2 w2 q1 q2 (hext.trans q3))
    rw [hll] at this; exact this

/-- A region in the order of its text. -/
theorem IW.region {id : Nat} {ops : Array Oper} {l : List IOper} (hx : compOps P n ops ops.toList = some l) {Q : IQ} (hi : iops P gl l fr h (Q .normal)) : IW P n gl (.region id ops false) Q fr h := by
  intro G M a w hr
  refine wp_region ?_
  have hl : l.length = ops.size := by have := (compOps_spec hx).1; simpa using this
  have := iops_sound hx (Q := Up n gl G M w Q) l 0 rfl hr hi (fun fr' h' G' M' a' w' q1 q2 q3 => ⟨.normal, G', M', fr', h', rfl, q1, q2, q3⟩)
  rw [Nat.sub_zero, hl, ← List.range_eq_range'] at this
  exact this
end
end Go.Proofs.YtcdfifbabhfknaaDoor
