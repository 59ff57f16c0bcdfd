/- Each operation of a run does in the model what it does in the run. No program stands in it. Conditions: none. -/
import Derived.Test.YtcdfifbabhfknaaDoorCore22
namespace Go.Proofs.YtcdfifbabhfknaaDoor
open Go

theorem fresh_none {M : MMap} {b : Nat} (h : freshGen M b = 0) : M b = none := by
  unfold freshGen at h
  cases hb : M b with
  | none => rfl
  | some mb => rw [hb] at h; cases h
theorem none_fresh {M : MMap} {b : Nat} (h : M b = none) : freshGen M b = 0 := by simp [freshGen, h]

theorem putsT_get : ∀ {W : Hp} {h h' : T Blk}, putsT h W = some h' → h'.get = ov W h.get
  | [], h, h', he => by simp only [putsT, Option.some.injEq] at he; subst he; rfl
  | (b, k) :: r, h, h', he => by
    simp only [putsT] at he
    obtain ⟨h1, e1, e2⟩ := eb_some he
    rw [T.put_get e2, putsT_get e1]
    funext t
    simp only [upd, ov, lk]
    by_cases ht : t = b <;> simp [ht]
/-- A slot that is given a value. -/
def Fput' (F : FF) : Option Nat → V → FF
  | none, _ => F
  | some d, v => upd F d v
theorem putT_get {t t' : T V} {d : Option Nat} {v : V} (he : putT t d v = some t') : t'.get = Fput' t.get d v := by
  cases d with
  | none => simp only [putT, Option.some.injEq] at he; subst he; rfl
  | some d => exact T.put_get he

theorem lk_putF' (fr : Fr) (d : Option Nat) (v : V) : lk (putF fr d v) = Fput' (lk fr) d v := by
  cases d with
  | none => rfl
  | some d => funext t; simp [putF, Fput', upd, lk]

theorem memN_iff {x : Nat} {l : List Nat} : memN x l = true ↔ x ∈ l := by
  induction l with
  | nil => simp [memN]
  | cons a r ih =>
    simp only [memN, List.mem_cons]
    by_cases h : x = a
    · subst h
      have : Nat.beq x x = true := Nat.beq_refl x
      simp [this]
    · simp [nbeq_ne h, ih, h]

def cutL (H : HH) : List Nat → Hp
  | [] => []
  | b :: r => match H b with
    | some k => (b, k) :: cutL H r
    | none => cutL H r
theorem cutT_get {H : HH} : ∀ {S : List Nat} {t : T Blk}, cutT H S = some t → t.get = lk (cutL H S)
  | [], t, h => by simp only [cutT, Option.some.injEq] at h; subst h; funext b; simp [T.get, cutL, lk]
  | b :: r, t, h => by
    simp only [cutT] at h
    obtain ⟨t1, h1, h2⟩ := eb_some h
    have ih := cutT_get h1
    cases hb : H b with
    | none => rw [hb] at h2; cases h2; simp only [cutL, hb]; exact ih
    | some k =>
      rw [hb] at h2
      simp only [cutL, hb]
      rw [T.put_get h2, ih]
      funext x
      simp only [upd, lk]
theorem lk_cutL {H : HH} : ∀ {S : List Nat} {b : Nat} {k : Blk}, lk (cutL H S) b = some k ↔ b ∈ S ∧ H b = some k
  | [], b, k => by simp [cutL, lk]
  | a :: r, b, k => by
    cases ha : H a with
    | none =>
      simp only [cutL, ha, List.mem_cons]
      rw [lk_cutL]
      constructor
      · rintro ⟨h1, h2⟩; exact ⟨.inr h1, h2⟩
      · rintro ⟨h1 | h1, h2⟩
        · subst h1; rw [ha] at h2; cases h2
        · exact ⟨h1, h2⟩
    | some k' =>
      simp only [cutL, ha, lk, List.mem_cons]
      by_cases hb : b = a
      · subst hb; simp [ha]
      · rw [if_neg hb, lk_cutL]; simp [hb]

theorem lk_diffT {H H' : HH} : ∀ {L : List Nat} {b : Nat} {k : Blk}, lk (diffT H H' L) b = some k → H' b = some k
  | [], b, k, h => by simp [diffT, lk] at h
  | a :: r, b, k, h => by
    simp only [diffT] at h
    split at h
    · rename_i k' k0 h1 h2
      cases hb : Blk.beq k' k0 with
      | true => rw [hb] at h; exact lk_diffT h
      | false =>
        rw [hb] at h
        simp only [cond_false, lk] at h
        split at h
        · rename_i he; subst he; rw [h1]; exact h
        · exact lk_diffT h
    · rename_i k' h1 h2
      simp only [lk] at h
      split at h
      · rename_i he; subst he; rw [h1]; exact h
      · exact lk_diffT h
    · exact lk_diffT h
theorem lk_diffT_none {H H' : HH} : ∀ {L : List Nat} {b : Nat} {k k' : Blk}, lk (diffT H H' L) b = none → b ∈ L → H b = some k → H' b = some k' → k' = k
  | [], b, k, k', _, hb, _, _ => by cases hb
  | a :: r, b, k, k', h, hb, h1, h2 => by
    simp only [diffT] at h
    by_cases hab : b = a
    · subst hab
      rw [h1, h2] at h
      simp only [] at h
      cases he : Blk.beq k' k with
      | true => exact Blk.beq_eq he
      | false => rw [he] at h; simp [lk] at h
    · have hbr : b ∈ r := by
        rcases List.mem_cons.1 hb with h' | h'
        · exact absurd h' hab
        · exact h'
      split at h
      · rename_i k1 k0 e1 e2
        cases he : Blk.beq k1 k0 with
        | true => rw [he] at h; exact lk_diffT_none h hbr h1 h2
        | false => rw [he] at h; simp only [cond_false, lk, if_neg hab] at h; exact lk_diffT_none h hbr h1 h2
      · simp only [lk, if_neg hab] at h; exact lk_diffT_none h hbr h1 h2
      · exact lk_diffT_none h hbr h1 h2

/-- What a call of the run does in the model: at any state that fits the heap, whose numbers from c on to c' are free. -/
def ICallE (P : Program) (gl : Fr) (f : FuncId) (args : List V) (h : HH) (c : Nat) (v : V) (h' : HH) (c' : Nat) : Prop :=
  callable P f = true ∧ c ≤ c' ∧ ∀ (G : GMap) (M : MMap) (w : World) (rargs : Array Value) (hl : Hp), lk hl = h → Sim G M hl w → GlRel G gl → rargs.size = args.length → (∀ i, i < args.length → RelV G M (args.getD i .undef) (rargs.getD i undef)) →
    (∀ b, c ≤ b → b < c' → freshGen M b = 0) →
    Calls P f rargs w fun e w' => ∃ rv, e = .returned rv ∧ ∃ hl' G' M', lk hl' = h' ∧ RelV G' M' v rv ∧ Sim G' M' hl' w' ∧ Ext G M w G' M' w' ∧ ∀ b, ¬ (c ≤ b ∧ b < c') → freshGen M b = 0 → freshGen M' b = 0

def CallOk (P : Program) (gl : Fr) (cl : CallF) : Prop := ∀ f args h c v h' c', cl f args h c = some (v, h', c') → ICallE P gl f args h.get c v h'.get c'

section
variable {P : Program} {gl : Fr} {n : Nat} {fr : Fr} {h : Hp} {G : GMap} {M : MMap} {a : Act} {w : World} {ops : Array Oper}

theorem guard_looks {o : Oper} {t : Nat} {want : Bool} (hg : guardOf ops o = some (some (t, want))) : t ∈ o.looksAt ops ∧ ∃ (j : Nat) (oj : Oper), ops[j]? = some oj ∧ oj.dst = some t := by
  unfold guardOf at hg
  split at hg
  · cases hg
  · rename_i j want' he
    split at hg
    · rename_i d hd
      simp only [Option.some.injEq, Prod.mk.injEq] at hg
      obtain ⟨rfl, rfl⟩ := hg
      refine ⟨by simp [Oper.looksAt, he, hd], ?_⟩
      obtain ⟨oj, h1, h2⟩ := Option.bind_eq_some_iff.1 hd
      exact ⟨j, oj, h1, h2⟩
    · cases hg

/-- The guard of an operation, as the run sees it. -/
theorem guard_wanted (hops : ∀ d, (∃ o, o ∈ ops.toList ∧ o.dst = some d) → d < n) (hr : R n gl G M fr h a w) {o : Oper} {g : Option (Nat × Bool)} (hg : guardOf ops o = some g) {F : FF} (hF : ∀ t ∈ o.looksAt ops, lk fr t = F t) {b : Bool} (hx : xgd F g = some b) :
    Region.wanted o (yielded ops a.tmps) = b := by
  cases g with
  | none => simp only [xgd, Option.some.injEq] at hx; subst hx; exact wanted_none hg
  | some tw =>
    obtain ⟨t, want⟩ := tw
    obtain ⟨g1, j, oj, g2, g3⟩ := guard_looks hg
    simp only [xgd] at hx
    split at hx
    · rename_i b' hb
      cases hx
      rw [wanted_spec hr hg (by rw [hF t g1]; exact hb) (hops t ⟨oj, by simpa using Array.mem_of_getElem? g2, g3⟩)]
    · cases hx

theorem Sim.none_of_fresh (hs : Sim G M h w) {b : Nat} (h0 : freshGen M b = 0) : lk h b = none := by
  cases hb : lk h b with
  | none => rfl
  | some k =>
    have hk := hs.hb b k hb
    have := fresh_none h0
    cases k with
    | row g sz es => obtain ⟨mb, h1, -⟩ := hk; rw [this] at h1; cases h1
    | map g es => obtain ⟨mb, rb, h1, -⟩ := hk; rw [this] at h1; cases h1
    | siter g s pos => obtain ⟨mb, rb, h1, -⟩ := hk; rw [this] at h1; cases h1

theorem gfE_fresh (hs : Sim G M h w) {H : HH} {c : Nat} (hc : freshGen M c = 0) {b : Nat} {k : Blk} (hb : lk h b = some k) (hH : H b = some k) : freshGen M b = gfE H c b := by
  have hk := hs.hb b k hb
  have hne : b ≠ c := fun he => by
    subst he
    have := fresh_none hc
    cases k with
    | row g sz es => obtain ⟨mb, h1, -⟩ := hk; rw [this] at h1; cases h1
    | map g es => obtain ⟨mb, rb, h1, -⟩ := hk; rw [this] at h1; cases h1
    | siter g s pos => obtain ⟨mb, rb, h1, -⟩ := hk; rw [this] at h1; cases h1
  simp only [gfE, nbeq_ne hne, cond_false, hH]
  cases k with
  | row g sz es => obtain ⟨mb, h1, h2, -⟩ := hk; simp [freshGen, h1, h2]
  | map g es => obtain ⟨mb, rb, h1, h2, -⟩ := hk; simp [freshGen, h1, h2]
  | siter g s pos => obtain ⟨mb, rb, h1, h2, -⟩ := hk; simp [freshGen, h1, h2]
theorem gfE_id {H : HH} {c : Nat} : gfE H c c = 0 := by
  have : Nat.beq c c = true := Nat.beq_refl c
  simp [gfE, this]

theorem pure_reads {gf : Nat → Nat} {id : Nat} {F : FF} {H : HH} {io : IOp} (hp : touches io = false) {y : Y} (he : eop gl gf id F H io = some y) : y.2.2 = [] := by
  cases io <;> simp only [touches, isPure, Bool.not_false, Bool.not_true, Bool.true_eq_false] at hp <;> simp only [eop] at he
  case mv x => obtain ⟨v, h1, h2⟩ := eb_some he; cases h2; rfl
  case pick c x z =>
    split at he
    · rename_i t hc
      cases t <;> (simp only [] at he; obtain ⟨v, h1, h2⟩ := eb_some he; cases h2; rfl)
    · cases he
  case build z ps =>
    obtain ⟨l, h1, h2⟩ := eb_some he
    obtain ⟨cs, h3, h4⟩ := eb_some h2
    cases h4; rfl
  case bin op x z =>
    split at he
    · obtain ⟨v, h1, h2⟩ := eb_some he; cases h2; rfl
    · cases he
  case eqs neg m x z =>
    split at he
    · obtain ⟨h1, h2⟩ := gd_some he; cases h2; rfl
    · cases he
  case beq neg x z => split at he <;> first | (cases he; rfl) | cases he
  case un op x =>
    obtain ⟨v, h1, h2⟩ := eb_some he
    obtain ⟨v', h3, h4⟩ := eb_some h2
    cases h4; rfl
  case conv k x => split at he <;> first | (cases he; rfl) | cases he
  case mkfn f x z => split at he <;> first | (cases he; rfl) | cases he
  case sliceS x lo hi =>
    split at he
    · obtain ⟨l, h1, he⟩ := eb_some he
      obtain ⟨u, h2, he⟩ := eb_some he
      obtain ⟨h4, he⟩ := gd_some he
      cases he; rfl
    · cases he
  case fieldA off x => split at he <;> first | (cases he; rfl) | cases he
  case field ag off m x =>
    split at he
    · obtain ⟨h1, h2⟩ := gd_some he; cases h2; rfl
    · cases he
  case idxP len sz x z =>
    split at he
    · obtain ⟨h1, h2⟩ := gd_some he; cases h2; rfl
    · obtain ⟨h1, h2⟩ := gd_some he; cases h2; rfl
    · cases he
  case idxV ag len sz x z =>
    split at he
    · obtain ⟨h1, h2⟩ := gd_some he; cases h2; rfl
    · cases he
  case idxS x z =>
    split at he
    · obtain ⟨h1, h2⟩ := gd_some he; cases h2; rfl
    · cases he
  case len x => split at he <;> first | (cases he; rfl) | cases he
  case lenS x => split at he <;> first | (cases he; rfl) | cases he
  case lenK m => cases he; rfl
  case cap x => split at he <;> first | (cases he; rfl) | cases he
  case mm mx x z => split at he <;> first | (cases he; rfl) | cases he
  case extract x i =>
    split at he
    · obtain ⟨v, h1, h2⟩ := eb_some he; cases h2; rfl
    · cases he
  case cvs x => split at he <;> first | (cases he; rfl) | cases he

theorem touches_pure {io : IOp} (h : touches io = false) : isPure io = true := by cases io <;> first | rfl | (simp [touches, isPure] at h)

/-- An operation that is left out. -/
theorem yield_skip (hops : ∀ d, (∃ o, o ∈ ops.toList ∧ o.dst = some d) → d < n) {i : Nat} {o : Oper} (ho : ops[i]? = some o) {x : IOper} (hx : compOp P n ops o = some x) {F : FF} {H : HH} (hg : xgd F x.guard = some false) {rd ids : Nat → Prop} :
    YieldS P gl n ops i o F H rd ids .undef [] := by
  intro fr h G M a w Q K' hr hF hH hid hk
  obtain ⟨c1, c2, c3, c4⟩ := compOp_spec hx
  unfold wpOp
  simp only [ho]
  rw [guard_wanted hops hr c2 hF hg, if_neg (by simp)]
  exact hk undef G M w (hr.put c4 (.undef _) hr.sim (.refl _ _ _)) (.refl _ _ _) (fun _ _ h0 => h0)

theorem yield_op (hops : ∀ d, (∃ o, o ∈ ops.toList ∧ o.dst = some d) → d < n) {i : Nat} {o : Oper} (ho : ops[i]? = some o) {x : IOper} (hx : compOp P n ops o = some x) (hsl : ∀ t ∈ x.op.slots, t ∈ o.looksAt ops) {F : FF} {H : HH} (hg : xgd F x.guard = some true)
    {c : Nat} {y : Y} (he : eop gl (gfE H c) c F H x.op = some y) : YieldS P gl n ops i o F H (fun b => b ∈ y.2.2) (fun b => c ≤ b ∧ b < bumpC x.op c) y.1 y.2.1 := by
  intro fr h G M a w Q K' hr hF hH hid hk
  obtain ⟨c1, c2, c3, c4⟩ := compOp_spec hx
  unfold wpOp
  simp only [ho]
  rw [guard_wanted hops hr c2 hF hg, if_pos rfl]
  refine .inl ?_
  cases hp : isPure x.op with
  | true =>
    have he2 : eop gl (gfE H c) c (lk fr) (lk h) x.op = some y := eop_frame (fun t ht => hF t (hsl t ht)) he (fun b hb => hH b hb) rfl (fun _ _ _ _ => rfl)
    obtain ⟨e1, e2⟩ := pure_sound (Q := Q) hr c1 hp he2
    refine Oper.wp_mono ?_ e2
    rintro a' w' ⟨v, rv, q1, rfl, q3, rfl⟩
    subst q1
    refine hk rv G M w' ?_ (.refl _ _ _) (fun _ _ h0 => h0)
    rw [e1]
    exact hr.put c4 q3 hr.sim (.refl _ _ _)
  | false =>
    have hb : bumpC x.op c = c + 1 := by simp [bumpC, hp]
    have hc0 : freshGen M c = 0 := hid c ⟨Nat.le_refl _, by omega⟩
    have he2 : eop gl (freshGen M) c (lk fr) (lk h) x.op = some y := eop_frame (fun t ht => hF t (hsl t ht)) he (fun b hb => hH b hb) (by rw [hc0, gfE_id]) (fun b hb k hk' => gfE_fresh hr.sim hc0 (by rw [hH b hb]; exact hk') hk')
    refine Oper.wp_mono ?_ (eop_sound hr c1 he2)
    rintro a' w' ⟨v, h', rv, G', M', ⟨rfl, rfl⟩, rfl, q3, q4, q5, q6⟩
    exact hk rv G' M' w' (hr.put c4 q3 q4 q5) q5 (fun b hnb h0 => (q6 b (fun e => hnb ⟨by omega, by omega⟩) (hr.sim.none_of_fresh h0)).trans h0)

/-- A call, in the model's terms. -/
theorem call_at (hr : R n gl G M fr h a w) {o : Oper} {c : Call} {f : Operand} {Q : Exit → Act → World → Prop} (ho : o.op = .call c) (hc : c.callee = .value f) {fid : FuncId} {fst cap vs : List V}
    (hf : ev gl fr (co f) = some (.fn fid fst cap)) (hvs : evs gl fr (c.args.toList.map co) = some vs) (hcal : callable P fid = true) {Post : Value → World → Prop}
    (hcalls : ∀ rargs : Array Value, rargs.size = (fst ++ vs ++ cap).length → (∀ i, i < (fst ++ vs ++ cap).length → RelV G M ((fst ++ vs ++ cap).getD i .undef) (rargs.getD i undef)) → Calls P fid rargs w fun e w' => ∃ rv, e = .returned rv ∧ Post rv w') :
    o.wp P a w (fun a' w' => ∃ rv, a' = a.put o.dst rv ∧ Post rv w') Q := by
  obtain ⟨v1, v2⟩ := evs_co hr hvs
  have rf := ev_co hr hf
  generalize hev : a.eval f = r at rf
  cases rf with
  | fn _ _ _ rfst rcap s1 s2 s3 s4 =>
    unfold callable at hcal
    split at hcal
    · rename_i fn hfn
      simp only [Bool.and_eq_true, bne_iff_ne, ne_eq, Option.isSome_iff_exists] at hcal
      obtain ⟨hname, body, hbody⟩ := hcal
      have hrun : (execOp a.eval o).run P w = .ok (.enter fid (rfst ++ c.args.map a.eval ++ rcap)) w := by
        simp [execOp, ho, resolve, hc, hev, Deferred.ofValue, invoke, callFunc, hfn, hname, hbody]
      unfold Oper.wp
      rw [hrun, Oper.upon_enter]
      refine Calls.mono (hcalls (rfst ++ c.args.map a.eval ++ rcap) (by simp [v1]; omega) ?_) ?_
      · intro i hi
        simp only [List.length_append] at hi
        simp only [Array.getD_eq_getD_getElem?, List.getD_eq_getElem?_getD, Array.getElem?_append, List.getElem?_append, Array.size_append, Array.size_map, List.length_append, s1]
        have hl : c.args.size = vs.length := by rw [v1]; simp
        rw [hl]
        by_cases c1 : i < fst.length + vs.length
        · rw [if_pos c1, if_pos c1]
          by_cases c2 : i < fst.length
          · rw [if_pos c2, if_pos c2]
            have := s3 i c2
            simpa [Array.getD_eq_getD_getElem?, List.getD_eq_getElem?_getD] using this
          · rw [if_neg c2, if_neg c2]
            have := v2 (i - fst.length) (by omega)
            rw [← getD_map_toList] at this
            simpa only [Array.getD_eq_getD_getElem?, List.getD_eq_getElem?_getD] using this
        · rw [if_neg c1, if_neg c1]
          have := s4 (i - (fst.length + vs.length)) (by omega)
          simpa only [Array.getD_eq_getD_getElem?, List.getD_eq_getElem?_getD] using this
      · rintro e w' ⟨rv, rfl, hp⟩
        exact ⟨rv, rfl, hp⟩
    · cases hcal

theorem comp1_call {o : Oper} {f : IOpd} {as : List IOpd} (hcx : comp1X P o = some (.call f as)) : ∃ c g, o.op = .call c ∧ c.callee = .value g ∧ f = co g ∧ as = c.args.toList.map co := by
  rcases comp1X_inv hcx with ⟨x, hx, -⟩ | hc
  · cases hx
  rcases comp1_inv hc rfl with ⟨t, x, ho, h⟩ | ⟨t, z, ho, hz, h⟩ | ⟨t, e, len, ps, l, z, ty, ho, hu, ht, hz, hn, hn0, hl, h⟩ | ⟨t, e, x, y', z, ty, ho, hu, ht, hz, hn0, h⟩ | ⟨c, f, ho, hcal, h⟩ | ⟨t, x, y', ty, ho, ht, h⟩ | ⟨c, t, t2, e, e2, x, y', z, ty, ho, hcal, ha, hat, hu, hu2, ht, hz, hn0, h⟩
  all_goals first
    | (cases h; done)
    | (cases h; exact ⟨c, f, ho, hcal, rfl, rfl⟩)

theorem asCall_some {io : IOp} {f : IOpd} {as : List IOpd} (h : asCall io = some (f, as)) : io = .call f as := by
  cases io <;> simp only [asCall, reduceCtorEq] at h
  simp only [Option.some.injEq, Prod.mk.injEq] at h
  rw [h.1, h.2]

theorem xcallee_spec {F : FF} {f : IOpd} {as : List IOpd} {q : FuncId × List V} (h : xcallee gl F f as = some q) : ∃ fst cap vs, evF gl F f = some (.fn q.1 fst cap) ∧ evsF gl F as = some vs ∧ q.2 = fst ++ vs ++ cap := by
  unfold xcallee at h
  split at h
  · rename_i g fst cap vs h1 h2
    cases h
    exact ⟨fst, cap, vs, h1, h2, rfl⟩
  · cases h

/-- A call that sees of the heap only what it may reach: the rest stays. -/
theorem frame_call (hs : Sim G M h w) {H : HH} {S : List Nat} {q : FuncId × List V} (hq : V.inSL (memN · S) q.2 = true) (hcl : closedS H S = true) (hH : ∀ b, b ∈ S → lk h b = H b) {c : Nat} {v : V} {H' : HH} {c' : Nat}
    (hi : ICallE P gl q.1 q.2 (lk (cutL H S)) c v H' c') (hkeep : keepsT H H' S = true) (hgl : GlRel G gl) (hid : ∀ b, c ≤ b ∧ b < c' → freshGen M b = 0)
    (rargs : Array Value) (hsz : rargs.size = q.2.length) (hrel : ∀ i, i < q.2.length → RelV G M (q.2.getD i .undef) (rargs.getD i undef)) :
    Calls P q.1 rargs w fun e w' => ∃ rv, e = .returned rv ∧ ∃ G' M', RelV G' M' v rv ∧ Sim G' M' ((diffT H H' S ++ diffT H H' (upTo c (c' - c))) ++ h) w' ∧ Ext G M w G' M' w' ∧ ∀ b, ¬ (c ≤ b ∧ b < c') → freshGen M b = 0 → freshGen M' b = 0 := by
  obtain ⟨-, hcc, hi⟩ := hi
  let Sb : Nat → Bool := fun b => memN b S
  have hsub : ∀ b mb, MMap.cut Sb M b = some mb → M b = some mb ∧ Sb b = true := fun b mb hb => by
    cases hS : Sb b with
    | true => rw [MMap.cut_in hS] at hb; exact ⟨hb, rfl⟩
    | false => rw [MMap.cut_out hS] at hb; cases hb
  have hsim : Sim G (MMap.cut Sb M) (cutL H S) w := by
    refine ⟨hs.gw, fun b k hb => ?_, fun b b' mb mb' rb h1 h2 => hs.inj b b' mb mb' rb (hsub _ _ h1).1 (hsub _ _ h2).1, fun b mb rb h1 => hs.mlt b mb rb (hsub _ _ h1).1⟩
    obtain ⟨h1, h2⟩ := lk_cutL.1 hb
    refine (hs.hb b k (by rw [hH b h1]; exact h2)).cut Sb (memN_iff.2 h1) ?_
    have := List.all_eq_true.1 hcl b h1
    rw [h2] at this; exact this
  have hfr : ∀ b, c ≤ b → b < c' → freshGen (MMap.cut Sb M) b = 0 := fun b h1 h2 => none_fresh (by
    have := fresh_none (hid b ⟨h1, h2⟩)
    unfold MMap.cut
    cases Sb b <;> simp [this])
  refine Calls.mono (hi G (MMap.cut Sb M) w rargs (cutL H S) rfl hsim hgl hsz (fun i hi' => (hrel i hi').cut Sb (V.inS_getD hq i)) hfr) ?_
  rintro e w' ⟨rv, rfl, hl', G', MS, e1, e2, e3, e4, e5⟩
  refine ⟨rv, rfl, G', fun b => match MS b with | some mb => some mb | none => M b, ?_⟩
  have hM' : ∀ b mb, MS b = some mb → (match MS b with | some mb => some mb | none => M b) = MS b := fun b mb hb => by rw [hb]
  have hout : ∀ b, Sb b = false → ¬ (c ≤ b ∧ b < c') → MS b = none := fun b hb hnb => fresh_none (e5 b hnb (none_fresh (MMap.cut_out hb)))
  have hnr : ∀ b mb, M b = some mb → ¬ (c ≤ b ∧ b < c') := fun b mb hb hc => by rw [fresh_none (hid b hc)] at hb; cases hb
  have hin : ∀ b mb, M b = some mb → Sb b = true → ∃ mb', MS b = some mb' ∧ mb.gen ≤ mb'.gen ∧ (mb'.gen = mb.gen → mb' = mb) := fun b mb hb hS => e4.m b mb (by rw [MMap.cut_in hS]; exact hb)
  have hle1 : MS.le (fun b => match MS b with | some mb => some mb | none => M b) := fun b mb hb => ⟨mb, by simp only [hb], Nat.le_refl _, fun _ => rfl⟩
  have hle : M.le (fun b => match MS b with | some mb => some mb | none => M b) := fun b mb hb => by
    cases hS : Sb b with
    | true =>
      obtain ⟨mb', q1, q2, q3⟩ := hin b mb hb hS
      exact ⟨mb', by simp only [q1], q2, q3⟩
    | false => exact ⟨mb, by simp only [hout b hS (hnr b mb hb)]; exact hb, Nat.le_refl _, fun _ => rfl⟩
  have hown : ∀ b mb rb, M b = some mb → mb.real = some rb → owned (MMap.cut Sb M) rb → Sb b = true := by
    rintro b mb rb h1 h2 ⟨b3, mb3, h3, h4⟩
    obtain ⟨h5, h6⟩ := hsub _ _ h3
    have := hs.inj b b3 mb mb3 rb h1 h5 h2 h4
    rw [this]; exact h6
  have hsome : ∀ b mb, MS b = none → M b = some mb → Sb b = false := fun b mb h1 h2 => by
    cases hS : Sb b with
    | false => rfl
    | true =>
      obtain ⟨mb', q1, -⟩ := hin b mb h2 hS
      rw [h1] at q1; cases q1
  refine ⟨e2.mono G'.le_refl hle1, ⟨e3.gw, fun b k hb => ?_, fun b b' mb mb' rb h1 h2 h3 h4 => ?_, fun b mb rb h1 h2 => ?_⟩, ⟨e4.g, fun k c0 hk => ?_, hle, fun k hk => ?_, e4.os, e4.tape, e4.output, e4.size, fun k h1 h2 => ?_⟩, fun b hnb h0 => ?_⟩
  · rw [lk_append] at hb
    have known : ∀ k, H' b = some k → BlkRel G' (fun b => match MS b with | some mb => some mb | none => M b) w' b k := fun k hk => by
      have hbr := e3.hb b k (by rw [e1]; exact hk)
      have hms : ∃ mb, MS b = some mb := by
        cases k with
        | row g sz es => obtain ⟨mb, h1, -⟩ := hbr; exact ⟨mb, h1⟩
        | map g es => obtain ⟨mb, rb, h1, -⟩ := hbr; exact ⟨mb, h1⟩
        | siter g s pos => obtain ⟨mb, rb, h1, -⟩ := hbr; exact ⟨mb, h1⟩
      obtain ⟨mb, hmb⟩ := hms
      exact hbr.mono G'.le_refl hle1 (hM' b mb hmb) (fun _ _ _ _ => rfl)
    unfold ov at hb
    split at hb
    · rename_i k' hk'
      cases hb
      rw [lk_append] at hk'
      unfold ov at hk'
      split at hk'
      · rename_i k2 hk2
        cases hk'
        exact known _ (lk_diffT hk2)
      · exact known _ (lk_diffT hk')
    · rename_i hn
      rw [lk_append] at hn
      unfold ov at hn
      split at hn
      · cases hn
      · rename_i hn1
        by_cases hbS : b ∈ S
        · have hHb : H b = some k := by rw [← hH b hbS]; exact hb
          have hk2 := List.all_eq_true.1 hkeep b hbS
          rw [hHb] at hk2
          cases hk3 : H' b with
          | none => rw [hk3] at hk2; cases hk2
          | some k' =>
            have := lk_diffT_none hn1 hbS hHb hk3
            subst this
            exact known _ hk3
        · have hbr := hs.hb b k hb
          have hSb : Sb b = false := by
            cases hS : Sb b with
            | false => rfl
            | true => exact absurd (memN_iff.1 hS) hbS
          have hm : ∃ mb, M b = some mb := by
            cases k with
            | row g sz es => obtain ⟨mb, h1, -⟩ := hbr; exact ⟨mb, h1⟩
            | map g es => obtain ⟨mb, rb, h1, -⟩ := hbr; exact ⟨mb, h1⟩
            | siter g s pos => obtain ⟨mb, rb, h1, -⟩ := hbr; exact ⟨mb, h1⟩
          obtain ⟨mb, hmb⟩ := hm
          refine hbr.mono e4.g hle (by simp only [hout b hSb (hnr b mb hmb)]) fun mb2 rb h1 h2 => ?_
          refine e4.keep rb (hs.mlt b mb2 rb h1 h2).1 fun ho => ?_
          rw [hown b mb2 rb h1 h2 ho] at hSb; cases hSb
  · cases m1 : MS b with
    | some x =>
      simp only [m1] at h1; cases h1
      cases m2 : MS b' with
      | some x2 => simp only [m2] at h2; cases h2; exact e3.inj b b' _ _ rb m1 m2 h3 h4
      | none =>
        simp only [m2] at h2
        have hlt := (hs.mlt b' mb' rb h2 h4).1
        rcases e4.mnew rb ⟨b, mb, m1, h3⟩ with q | q
        · omega
        · have := hown b' mb' rb h2 h4 q
          rw [hsome b' mb' m2 h2] at this; cases this
    | none =>
      simp only [m1] at h1
      cases m2 : MS b' with
      | some x2 =>
        simp only [m2] at h2; cases h2
        have hlt := (hs.mlt b mb rb h1 h3).1
        rcases e4.mnew rb ⟨b', mb', m2, h4⟩ with q | q
        · omega
        · have := hown b mb rb h1 h3 q
          rw [hsome b mb m1 h1] at this; cases this
      | none => simp only [m2] at h2; exact hs.inj b b' _ _ rb h1 h2 h3 h4
  · cases m1 : MS b with
    | some x => simp only [m1] at h1; cases h1; exact e3.mlt b mb rb m1 h2
    | none =>
      simp only [m1] at h1
      obtain ⟨q1, q2⟩ := hs.mlt b mb rb h1 h2
      refine ⟨Nat.lt_of_lt_of_le q1 e4.size, ?_⟩
      cases hg : G' rb with
      | none => rfl
      | some c0 =>
        rcases e4.gnew rb c0 hg with q | q | q
        · rw [q2] at q; cases q
        · omega
        · have := hown b mb rb h1 h2 q
          rw [hsome b mb m1 h1] at this; cases this
  · rcases e4.gnew k c0 hk with q | q | ⟨b, mb, q1, q2⟩
    · exact .inl q
    · exact .inr (.inl q)
    · exact .inr (.inr ⟨b, mb, (hsub _ _ q1).1, q2⟩)
  · obtain ⟨b, mb, q1, q2⟩ := hk
    cases m1 : MS b with
    | some x =>
      simp only [m1] at q1; cases q1
      rcases e4.mnew k ⟨b, mb, m1, q2⟩ with q | ⟨b2, mb2, q3, q4⟩
      · exact .inl q
      · exact .inr ⟨b2, mb2, (hsub _ _ q3).1, q4⟩
    | none => simp only [m1] at q1; exact .inr ⟨b, mb, q1, q2⟩
  · refine e4.keep k h1 fun ⟨b, mb, q1, q2⟩ => h2 ⟨b, mb, (hsub _ _ q1).1, q2⟩
  · have hMb := fresh_none h0
    have : MS b = none := fresh_none (e5 b hnb (none_fresh (by
      unfold MMap.cut
      cases Sb b <;> simp [hMb])))
    exact none_fresh (by simp only [this, hMb])
end
end Go.Proofs.YtcdfifbabhfknaaDoor
