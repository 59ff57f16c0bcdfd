/- A run says what the model does. No program stands in it. Conditions: none. -/
import Derived.Test.YtcdfifbabhfknaaDoorCore23
namespace Go.Proofs.YtcdfifbabhfknaaDoor
open Go

/-- Behind a run that went from S to S', seen from a state at the start. -/
def XQ (n : Nat) (gl : Fr) (S : ES) (e : IExit) (S' : ES) (G : GMap) (M : MMap) (w : World) : Exit → Act → World → Prop := fun ex a' w' =>
  ex = e.out ∧ ∃ G' M' fr' hl', lk fr' = S'.fr.get ∧ lk hl' = S'.h.get ∧ R n gl G' M' fr' hl' a' w' ∧ Ext G M w G' M' w' ∧ ∀ b, ¬ (S.c ≤ b ∧ b < S'.c) → freshGen M b = 0 → freshGen M' b = 0

def IWXg (wpf : (Exit → Act → World → Prop) → Act → World → Prop) (n : Nat) (gl : Fr) (S : ES) (e : IExit) (S' : ES) : Prop :=
  S.c ≤ S'.c ∧ ∀ G M a w fr hl, lk fr = S.fr.get → lk hl = S.h.get → R n gl G M fr hl a w → (∀ b, S.c ≤ b → b < S'.c → freshGen M b = 0) → wpf (XQ n gl S e S' G M w) a w

theorem XQ.trans {n : Nat} {gl : Fr} {S S1 S' : ES} {e : IExit} {G G1 : GMap} {M M1 : MMap} {w w1 : World} (hc1 : S.c ≤ S1.c) (hc2 : S1.c ≤ S'.c) (hx : Ext G M w G1 M1 w1) (hf : ∀ b, ¬ (S.c ≤ b ∧ b < S1.c) → freshGen M b = 0 → freshGen M1 b = 0)
    {ex : Exit} {a : Act} {w2 : World} (h : XQ n gl S1 e S' G1 M1 w1 ex a w2) : XQ n gl S e S' G M w ex a w2 := by
  obtain ⟨h1, G', M', fr', hl', h2, h3, h4, h5, h6⟩ := h
  exact ⟨h1, G', M', fr', hl', h2, h3, h4, hx.trans h5, fun b hb h0 => h6 b (fun hc => hb ⟨by omega, hc.2⟩) (hf b (fun hc => hb ⟨hc.1, by omega⟩) h0)⟩

section
variable {P : Program} {gl : Fr} {n : Nat} {ops : Array Oper} {cl : CallF}

theorem eob_bump (io : IOp) (c : Nat) : c ≤ bumpC io c := by
  unfold bumpC; cases isPure io <;> simp

/-- An operation in its turn. -/
theorem seq_op (hcl : CallOk P gl cl) (hops : ∀ d, (∃ o, o ∈ ops.toList ∧ o.dst = some d) → d < n) {i : Nat} {o : Oper} (ho : ops[i]? = some o) {x : IOper} (hx : compOp P n ops o = some x) {S : ES} (hg : xgd S.fr.get x.guard = some true)
    {y : V × T Blk × Nat} (he : xop cl gl x.op S = some y) : S.c ≤ y.2.2 ∧ ∀ {fr : Fr} {hl : Hp} {G : GMap} {M : MMap} {a : Act} {w : World} {Q : Exit → Act → World → Prop} {K' : Act → World → Prop}, lk fr = S.fr.get → lk hl = S.h.get → R n gl G M fr hl a w → (∀ b, S.c ≤ b → b < y.2.2 → freshGen M b = 0) →
      (∀ rv G' M' hl' w', lk hl' = y.2.1.get → R n gl G' M' (putF fr o.dst y.1) hl' (a.put o.dst rv) w' → Ext G M w G' M' w' → (∀ b, ¬ (S.c ≤ b ∧ b < y.2.2) → freshGen M b = 0 → freshGen M' b = 0) → K' (a.put o.dst rv) w') → wpOp P ops Q i K' a w := by
  obtain ⟨c1, c2, c3, c4⟩ := compOp_spec hx
  unfold xop at he
  cases hac : asCall x.op with
  | some fa =>
    obtain ⟨f, as⟩ := fa
    rw [hac] at he
    simp only [] at he
    obtain ⟨q, h1, h2⟩ := eb_some he
    have hi := hcl q.1 q.2 S.h S.c y.1 y.2.1 y.2.2 h2
    obtain ⟨hcal, hcc, hrun⟩ := hi
    refine ⟨hcc, fun {fr hl G M a w Q K'} hF hH hr hid hk => ?_⟩
    unfold wpOp
    simp only [ho]
    rw [guard_wanted hops hr c2 (F := S.fr.get) (fun t _ => by rw [hF]) hg, if_pos rfl]
    refine .inl ?_
    have hio := asCall_some hac
    rw [hio] at c1
    obtain ⟨c, g, e1, e2, rfl, rfl⟩ := comp1_call c1
    obtain ⟨fst, cap, vs, q1, q2, q3⟩ := xcallee_spec h1
    rw [← hF, evF_lk] at q1
    rw [← hF, evsF_lk] at q2
    refine Oper.wp_mono ?_ (call_at hr e1 e2 q1 q2 hcal (Post := fun rv w' => ∃ hl' G' M', lk hl' = y.2.1.get ∧ RelV G' M' y.1 rv ∧ Sim G' M' hl' w' ∧ Ext G M w G' M' w' ∧ ∀ b, ¬ (S.c ≤ b ∧ b < y.2.2) → freshGen M b = 0 → freshGen M' b = 0) fun rargs hsz hrel => ?_)
    · rintro a' w' ⟨rv, rfl, hl', G', M', k1, k2, k3, k4, k5⟩
      exact hk rv G' M' hl' w' k1 (hr.put c4 k2 k3 k4) k4 k5
    · rw [← q3] at hsz hrel
      exact hrun G M w rargs hl hH hr.sim hr.gl hsz hrel hid
  | none =>
    rw [hac] at he
    simp only [] at he
    obtain ⟨z, h1, h2⟩ := eb_some he
    obtain ⟨h', h3, h4⟩ := eb_some h2
    cases h4
    refine ⟨eob_bump _ _, fun {fr hl G M a w Q K'} hF hH hr hid hk => ?_⟩
    unfold wpOp
    simp only [ho]
    rw [guard_wanted hops hr c2 (F := S.fr.get) (fun t _ => by rw [hF]) hg, if_pos rfl]
    refine .inl ?_
    rw [← hF, ← hH] at h1
    cases hp : isPure x.op with
    | true =>
      obtain ⟨e1, e2⟩ := pure_sound (Q := Q) hr c1 hp h1
      refine Oper.wp_mono ?_ e2
      rintro a' w' ⟨v, rv, q1, rfl, q3, rfl⟩
      subst q1
      refine hk rv G M hl w' ?_ (hr.put c4 q3 hr.sim (.refl _ _ _)) (.refl _ _ _) (fun _ _ h0 => h0)
      rw [putsT_get h3, e1, hH]; rfl
    | false =>
      have hb : bumpC x.op S.c = S.c + 1 := by simp [bumpC, hp]
      simp only [hb] at hid hk ⊢
      have hc0 : freshGen M S.c = 0 := hid S.c (Nat.le_refl _) (by omega)
      have he2 : eop gl (freshGen M) S.c (lk fr) (lk hl) x.op = some z := eop_frame (fun t ht => rfl) h1 (fun b hb => rfl) (by rw [hc0, gfE_id]) (fun b hb k hk' => gfE_fresh hr.sim hc0 hk' hk')
      refine Oper.wp_mono ?_ (eop_sound hr c1 he2)
      rintro a' w' ⟨v, hh, rv, G', M', ⟨rfl, rfl⟩, rfl, q3, q4, q5, q6⟩
      refine hk rv G' M' (z.2.1 ++ hl) w' (by rw [lk_append, hH, putsT_get h3]) (hr.put c4 q3 q4 q5) q5 (fun b hnb h0 => (q6 b (fun e => hnb ⟨by omega, by omega⟩) (hr.sim.none_of_fresh h0)).trans h0)

theorem xops_sound (hcl : CallOk P gl cl) {all : List IOper} (hx : compOps P n ops ops.toList = some all) : ∀ (l : List IOper) (k : Nat), all.drop k = l → ∀ {S S' : ES}, xops cl gl l S = some S' →
    S.c ≤ S'.c ∧ ∀ (Q : Exit → Act → World → Prop) G M a w fr hl, lk fr = S.fr.get → lk hl = S.h.get → R n gl G M fr hl a w → (∀ b, S.c ≤ b → b < S'.c → freshGen M b = 0) → (∀ a' w', XQ n gl S .normal S' G M w .normal a' w' → Q .normal a' w') → wpOps P ops Q (List.range' k (all.length - k)) a w
  | [], k, hk, S, S', he => by
    simp only [xops, Option.some.injEq] at he; subst he
    refine ⟨Nat.le_refl _, fun Q G M a w fr hl hF hH hr hid hq => ?_⟩
    have : all.length - k = 0 := by have := congrArg List.length hk; simpa using this
    rw [this]
    exact hq a w ⟨rfl, G, M, fr, hl, hF, hH, hr, .refl _ _ _, fun _ _ h0 => h0⟩
  | x :: l, k, hk, S, S', he => by
    have hlen : all.length - k = l.length + 1 := by have := congrArg List.length hk; simpa using this
    have hxk : all[k]? = some x := by
      have := congrArg (fun q : List IOper => q[0]?) hk
      simpa using this
    have hkl : k < ops.toList.length := by rw [← (compOps_spec hx).1]; exact (List.getElem?_eq_some_iff.1 hxk).1
    obtain ⟨x', hx1, hx2⟩ := (compOps_spec hx).2 k _ (List.getElem?_eq_getElem hkl)
    rw [hxk] at hx1; cases hx1
    have hok : ops[k]? = some ops.toList[k] := by simp at hkl; simp [hkl]
    have hdrop : all.drop (k + 1) = l := by rw [← List.tail_drop, hk]; rfl
    have hll : all.length - (k + 1) = l.length := by omega
    obtain ⟨c1, c2, c3, c4⟩ := compOp_spec hx2
    simp only [xops] at he
    split at he
    · rename_i hg
      obtain ⟨y, h1, h2⟩ := eb_some he
      obtain ⟨fr1, h3, h4⟩ := eb_some h2
      obtain ⟨i1, i2⟩ := xops_sound hcl hx l (k + 1) hdrop h4
      obtain ⟨j1, j2⟩ := seq_op hcl (dsts_lt hx) hok hx2 hg h1
      refine ⟨Nat.le_trans j1 i1, fun Q G M a w fr hl hF hH hr hid hq => ?_⟩
      rw [hlen, List.range'_succ, wpOps_cons]
      refine j2 hF hH hr (fun b b1 b2 => hid b b1 (by simp only [] at i1; omega)) fun rv G' M' hl' w' k1 k2 k3 k4 => ?_
      have := i2 Q G' M' (a.put ops.toList[k].dst rv) w' (putF fr ops.toList[k].dst y.1) hl' (by rw [lk_putF', hF, putT_get h3, c3]) k1 k2 (fun b b1 b2 => k4 b (fun hc => by simp only [] at b1; omega) (hid b (by simp only [] at b1; omega) b2)) (fun a2 w2 hx2' => hq a2 w2 (XQ.trans j1 i1 k3 k4 hx2'))
      rw [hll] at this
      exact this
    · rename_i hg
      obtain ⟨fr1, h3, h4⟩ := eb_some he
      obtain ⟨i1, i2⟩ := xops_sound hcl hx l (k + 1) hdrop h4
      refine ⟨i1, fun Q G M a w fr hl hF hH hr hid hq => ?_⟩
      rw [hlen, List.range'_succ, wpOps_cons]
      refine yield_skip (P := P) (H := S.h.get) (rd := fun _ => True) (ids := fun _ => False) (dsts_lt hx) hok hx2 hg hr (fun t _ => by rw [hF]) (fun b _ => by rw [hH]) (fun b hb => hb.elim) fun rv G' M' w' k2 k3 k4 => ?_
      have := i2 Q G' M' (a.put ops.toList[k].dst rv) w' (putF fr ops.toList[k].dst .undef) ([] ++ hl) (by rw [lk_putF', hF, putT_get h3, c3]) hH k2 (fun b b1 b2 => k4 b (fun hc => hc) (hid b b1 b2)) (fun a2 w2 hx2' => hq a2 w2 (XQ.trans (S1 := S) (Nat.le_refl _) i1 k3 (fun b _ h0 => k4 b (fun hc => hc) h0) hx2'))
      rw [hll] at this
      exact this
    · cases he
end
end Go.Proofs.YtcdfifbabhfknaaDoor
