/- A run says what the model does: code, functions, contracts. No program stands in it. Conditions: none. -/
import Derived.Test.YtcdfifbabhfknaaDoorCore25
namespace Go.Proofs.YtcdfifbabhfknaaDoor
open Go

/-- A loop behind its first step. -/
def wpL (P : Program) (c : Code) (Q : Exit → Act → World → Prop) (a : Act) (w : World) : Prop :=
  ∀ b k cs, ∃ e a' w', Q e a' w' ∧ Arrives P (lone (b.at a (.code c :: .inLoop c :: k)) cs w) b k cs e a' w'

section
variable {P : Program} {gl : Fr} {n : Nat}

theorem wpL_wp {c : Code} {Q : Exit → Act → World → Prop} {a : Act} {w : World} (h : wpL P c Q a w) : (Code.loop c).wp P Q a w := by
  intro b k cs
  obtain ⟨e, a', w', hq, harr⟩ := h b k cs
  exact ⟨e, a', w', hq, .of_steps (.one step_loop) harr⟩

def loopQ (P : Program) (c : Code) (Q : Exit → Act → World → Prop) : Exit → Act → World → Prop
  | .normal, a, w => wpL P c Q a w
  | e, a, w => Q e a w

theorem wpL_mono {c : Code} {Q Q' : Exit → Act → World → Prop} {a : Act} {w : World} (h : wpL P c Q a w) (hq : ∀ e a w, Q e a w → Q' e a w) : wpL P c Q' a w := by
  intro b k cs
  obtain ⟨e, a', w', h1, h2⟩ := h b k cs
  exact ⟨e, a', w', hq _ _ _ h1, h2⟩

theorem wpL_step {c : Code} {Q : Exit → Act → World → Prop} {a : Act} {w : World} (hp : ∀ a w ch, ¬ Q (.panic ch) a w) (ho : ∀ a w, ¬ Q .outgrown a w) (h : c.wp P (loopQ P c Q) a w) : wpL P c Q a w := by
  intro b k cs
  obtain ⟨e, a2, w2, hq, harr⟩ := h b (.inLoop c :: k) cs
  cases e with
  | normal =>
    obtain ⟨e, a3, w3, hq3, harr3⟩ := hq b k cs
    exact ⟨e, a3, w3, hq3, .of_steps (Steps.trans harr (.one step_inLoop)) harr3⟩
  | exit id => exact ⟨_, a2, w2, hq, .pass (x := .inLoop c) rfl (fun _ _ => .inl (by simp)) harr⟩
  | goto l => exact ⟨_, a2, w2, hq, .pass (x := .inLoop c) rfl (fun _ _ => .inl (by simp)) harr⟩
  | ret => exact ⟨_, a2, w2, hq, .pass (x := .inLoop c) rfl (fun _ _ => .inl (by simp)) harr⟩
  | panic ch => exact absurd hq (hp _ _ _)
  | outgrown => exact absurd hq (ho _ _)

def FiOk (P : Program) (f : FuncId) (fi : FnI) : Prop :=
  ∃ fn body, P.funcs[f]? = some fn ∧ fn.body = some body ∧ fn.name ≠ "runtime.NumGoroutine" ∧ fn.ntmps = fi.n ∧ compRess P fn.results.toList = some fi.rs ∧ compX P fi.n body = some fi.code

def FTok (P : Program) (FT : Nat → Option FnI) : Prop := ∀ f fi, FT f = some fi → FiOk P f fi

/-- All entries of a table. -/
def T.allP {α : Type} (p : Nat → α → Prop) : T α → (Nat → Nat) → Prop
  | .lf, _ => True
  | .nd v l r, k => (match v with | some x => p (k 0) x | none => True) ∧ l.allP p (fun n => k (2 * n + 1)) ∧ r.allP p (fun n => k (2 * n + 2))
theorem T.allP_get {α : Type} {p : Nat → α → Prop} : ∀ {t : T α} {k : Nat → Nat}, t.allP p k → ∀ {n : Nat} {x : α}, t.get n = some x → p (k n) x
  | .lf, k, _, n, x, h => by simp [T.get] at h
  | .nd v l r, k, ha, n, x, h => by
    obtain ⟨h1, h2, h3⟩ := ha
    simp only [T.get] at h
    by_cases h0 : n = 0
    · subst h0
      simp only [Nat.beq, cond_true] at h
      rw [h] at h1; exact h1
    · rw [nbeq_ne h0] at h
      simp only [cond_false] at h
      by_cases hm : n % 2 = 1
      · have : Nat.beq (n % 2) 1 = true := by rw [hm]; rfl
        rw [this] at h
        simp only [cond_true] at h
        have := T.allP_get h2 h
        simp only [show 2 * (n / 2) + 1 = n by omega] at this
        exact this
      · rw [nbeq_ne hm] at h
        simp only [cond_false] at h
        have := T.allP_get h3 h
        simp only [show 2 * (n / 2 - 1) + 2 = n by omega] at this
        exact this
theorem FTok.of_all {P : Program} {t : T FnI} (h : t.allP (FiOk P) (fun n => n)) : FTok P t.get := fun _ _ hf => T.allP_get h hf

theorem argT_get : ∀ {args : List V} {i : Nat} {t : T V}, argT i args = some t → t.get = lk (argF i args)
  | [], i, t, h => by simp only [argT, Option.some.injEq] at h; subst h; funext b; simp [T.get, argF, lk]
  | v :: r, i, t, h => by
    simp only [argT] at h
    obtain ⟨t1, h1, h2⟩ := eb_some h
    rw [T.put_get h2, argT_get h1]
    funext x
    simp only [upd, argF, lk]

theorem resO_W {fr : Fr} {hl : Hp} : ∀ {rs : List IRes} {vs : List V} {K : List V → Prop}, resO (lk fr) (lk hl) rs = some vs → K vs → resW fr hl K rs
  | [], vs, K, h, hk => by simp only [resO, Option.some.injEq] at h; subst h; exact hk
  | .tmp t :: r, vs, K, h, hk => by
    simp only [resO] at h
    obtain ⟨v, h1, h2⟩ := eb_some h
    obtain ⟨vs', h3, h4⟩ := eb_some h2
    cases h4
    simp only [resW, h1]
    exact resO_W h3 hk
  | .cell t ag m :: r, vs, K, h, hk => by
    simp only [resO] at h
    split at h
    · rename_i b g i off ht
      split at h
      · rename_i g' sz es hb
        obtain ⟨h1, h2⟩ := gd_some h
        obtain ⟨vs', h3, h4⟩ := eb_some h2
        cases h4
        simp only [Bool.and_eq_true, decide_eq_true_eq] at h1
        simp only [resW, ht, hb]
        exact ⟨h1.1.1, h1.1.2, V.partOkB_iff.1 h1.2, resO_W h3 hk⟩
      · cases h
    · cases h

/-- The results of a function whose body is at its end. -/
theorem results_at {fn : Func} {rs : List IRes} {G : GMap} {M : MMap} {fr : Fr} {hl : Hp} {a : Act} {w : World} (hr : R n gl G M fr hl a w) (hres : compRess P fn.results.toList = some rs) {vs : List V} (hv : resO (lk fr) (lk hl) rs = some vs) :
    ∃ r, RelV G M (oneV vs) r ∧ (results fn a.tmps).run P w = .ok r w := by
  obtain ⟨vs', rvs, k1, k2, k3, k4⟩ := resW_sound (P := P) hr hres (resO_W (K := fun x => x = vs) hv rfl)
  subst k1
  have hmap : (fn.results.mapM (fun x => match x with
      | .tmp t => pure (a.tmps.getD t undef)
      | .cell ad t => do loadVar t (← asAddr (a.tmps.getD ad undef)) : ResultVar → Sem Value)).run P w = .ok rvs.toArray w := by
    rw [← Array.toArray_toList (xs := fn.results), List.mapM_toArray]
    simp only [Sem.run_map]
    exact congrArg (fun q : Result (List Value) => q.andThen fun a w' => Result.ok a.toArray w') k4
  have hrun : (results fn a.tmps).run P w = .ok (if h : rvs.toArray.size = 1 then rvs.toArray[0] else .tuple rvs.toArray) w := by
    unfold results
    rw [Sem.run_bind]
    exact congrArg (fun q : Result (Array Value) => q.andThen fun vs w => (pure (if h : vs.size = 1 then vs[0] else .tuple vs) : Sem Value).run P w) hmap
  match vs', rvs, k2, k3, hrun with
  | [v], [r], _, k3, hrun => exact ⟨r, k3 0 (by simp), by rw [hrun]; rfl⟩
  | [], [], k2, k3, hrun => exact ⟨_, .tup [] #[] rfl (fun i hi => by simp at hi), by rw [hrun]; rfl⟩
  | v1 :: v2 :: vs, r1 :: r2 :: rs, k2, k3, hrun =>
    refine ⟨.tuple (r1 :: r2 :: rs).toArray, .tup _ _ (by simpa using k2) (fun i hi => ?_), by rw [hrun, dif_neg (by simp)]⟩
    have := k3 i hi
    rw [getD_toArray]; exact this

/-- Runs of code that are right make calls that are right. -/
theorem callX_ok {FT : Nat → Option FnI} (hFT : FTok P FT) {rec : XC → ES → Option (IExit × ES)}
    (ih : ∀ (n : Nat) (c : Code) (x : XC) (S : ES) (e : IExit) (S' : ES), compX P n c = some x → rec x S = some (e, S') → IWXg (fun Q a w => c.wp P Q a w) n gl S e S') : CallOk P gl (callX FT rec) := by
  intro f args h c v h' c' he
  unfold callX at he
  obtain ⟨fi, h1, he⟩ := eb_some he
  obtain ⟨h2, he⟩ := gd_some he
  obtain ⟨fr0, h3, he⟩ := eb_some he
  obtain ⟨fn, body, f1, f2, f3, f4, f5, f6⟩ := hFT f fi h1
  have key : ∀ (e : IExit) (S : ES), rec fi.code ⟨fr0, h, c⟩ = some (e, S) → (e = .normal ∨ e = .ret) → (eb (resO S.fr.get S.h.get fi.rs) fun vs => some (oneV vs, S.h, S.c)) = some (v, h', c') → ICallE P gl f args h.get c v h'.get c' := by
    intro e S hrec hee hres
    obtain ⟨vs, r1, r2⟩ := eb_some hres
    simp only [Option.some.injEq, Prod.mk.injEq] at r2
    obtain ⟨rfl, rfl, rfl⟩ := r2
    obtain ⟨i1, i2⟩ := ih fi.n body fi.code ⟨fr0, h, c⟩ e S f6 hrec
    refine ⟨by simp [callable, f1, f2, f3], i1, fun G M w rargs hl hH hs hgl hsz hrel hid => ?_⟩
    refine calls_of_wp f1 f2 (wp_mono (i2 G M _ w (argF 0 args) hl (argT_get h3).symm hH ⟨hs, fun t u ht => ?_, ?_, rfl, hgl⟩ hid) ?_)
    · obtain ⟨-, q2, q3⟩ := lk_argF args 0 t u ht
      rw [Nat.sub_zero] at q2 q3
      have : (rargs ++ Array.replicate (fn.ntmps - rargs.size) undef).getD t undef = rargs.getD t undef := by
        simp only [Array.getD_eq_getD_getElem?, Array.getElem?_append]
        rw [if_pos (by omega)]
      rw [this, ← q3]; exact hrel t q2
    · have := Nat.le_of_ble_eq_true h2
      simp [f4]; omega
    · rintro ex a' w' ⟨rfl, G', M', fr', hl', e1, e2, hr, hx, hf⟩
      rw [← e1, ← e2] at r1
      obtain ⟨r, q1, q2⟩ := results_at (P := P) hr f5 r1
      have fin : a'.defers = [] ∧ ∃ v, (results fn a'.tmps).run P w' = .ok v w' ∧ ∃ rv, Ending.returned v = .returned rv ∧ ∃ hl' G' M', lk hl' = S.h.get ∧ RelV G' M' (oneV vs) rv ∧ Sim G' M' hl' w' ∧ Ext G M w G' M' w' ∧ ∀ b, ¬ (c ≤ b ∧ b < S.c) → freshGen M b = 0 → freshGen M' b = 0 :=
        ⟨hr.df, r, q2, r, rfl, hl', G', M', e2, q1, hr.sim, hx, hf⟩
      rcases hee with rfl | rfl
      · exact fin
      · exact fin
  split at he
  · rename_i S hrec; exact key .normal S hrec (.inl rfl) he
  · rename_i S hrec; exact key .ret S hrec (.inr rfl) he
  · cases he

theorem XQ.refl {S S' : ES} {e : IExit} {G : GMap} {M : MMap} {a : Act} {w : World} {fr : Fr} {hl : Hp} (hF : lk fr = S.fr.get) (hH : lk hl = S.h.get) (hr : R n gl G M fr hl a w) (h1 : S' = S) : XQ n gl S e S' G M w e.out a w := by
  subst h1
  exact ⟨rfl, G, M, fr, hl, hF, hH, hr, .refl _ _ _, fun _ _ h0 => h0⟩

theorem exec_sound {FT : Nat → Option FnI} (hFT : FTok P FT) : ∀ (m n : Nat) (c : Code) (x : XC) (S : ES) (e : IExit) (S' : ES), compX P n c = some x → exec FT gl m x S = some (e, S') →
    IWXg (fun Q a w => c.wp P Q a w) n gl S e S' ∧ ∀ c0, c = .loop c0 → IWXg (fun Q a w => wpL P c0 Q a w) n gl S e S' := by
  intro m
  induction m with
  | zero => intro n c x S e S' _ he; simp [exec] at he
  | succ m ih =>
    intro n c x S e S' hx he
    have ihA : ∀ (n : Nat) (c : Code) (x : XC) (S : ES) (e : IExit) (S' : ES), compX P n c = some x → exec FT gl m x S = some (e, S') → IWXg (fun Q a w => c.wp P Q a w) n gl S e S' := fun n c x S e S' h1 h2 => (ih n c x S e S' h1 h2).1
    have hcl : CallOk P gl (callX FT (exec FT gl m)) := callX_ok hFT ihA
    simp only [exec] at he
    -- no panic, no outgrowing
    have nopanic : ∀ {S : ES} {e : IExit} {S' : ES} {G : GMap} {M : MMap} {w : World} (a : Act) (w2 : World) (ch : _), ¬ XQ n gl S e S' G M w (.panic ch) a w2 := fun a w2 ch hq => by
      have := hq.1
      rename_i e0 _ _ _ _
      cases e0 <;> cases this
    have nogrow : ∀ {S : ES} {e : IExit} {S' : ES} {G : GMap} {M : MMap} {w : World} (a : Act) (w2 : World), ¬ XQ n gl S e S' G M w .outgrown a w2 := fun a w2 hq => by
      have := hq.1
      rename_i e0 _ _ _ _
      cases e0 <;> cases this
    cases c with
    | skip =>
      cases hx
      simp only [step, Option.some.injEq, Prod.mk.injEq] at he
      obtain ⟨rfl, rfl⟩ := he
      exact ⟨⟨Nat.le_refl _, fun G M a w fr hl hF hH hr _ => wp_skip (XQ.refl hF hH hr rfl)⟩, fun c0 h => by cases h⟩
    | label l =>
      cases hx
      simp only [step, Option.some.injEq, Prod.mk.injEq] at he
      obtain ⟨rfl, rfl⟩ := he
      exact ⟨⟨Nat.le_refl _, fun G M a w fr hl hF hH hr _ => wp_label (XQ.refl hF hH hr rfl)⟩, fun c0 h => by cases h⟩
    | exit id =>
      cases hx
      simp only [step, Option.some.injEq, Prod.mk.injEq] at he
      obtain ⟨rfl, rfl⟩ := he
      exact ⟨⟨Nat.le_refl _, fun G M a w fr hl hF hH hr _ => wp_exit (XQ.refl (e := .exit id) hF hH hr rfl)⟩, fun c0 h => by cases h⟩
    | goto l =>
      cases hx
      simp only [step, Option.some.injEq, Prod.mk.injEq] at he
      obtain ⟨rfl, rfl⟩ := he
      exact ⟨⟨Nat.le_refl _, fun G M a w fr hl hF hH hr _ => wp_goto (XQ.refl (e := .goto l) hF hH hr rfl)⟩, fun c0 h => by cases h⟩
    | ret =>
      cases hx
      simp only [step, Option.some.injEq, Prod.mk.injEq] at he
      obtain ⟨rfl, rfl⟩ := he
      exact ⟨⟨Nat.le_refl _, fun G M a w fr hl hF hH hr _ => wp_ret (XQ.refl hF hH hr rfl)⟩, fun c0 h => by cases h⟩
    | region id ops draw =>
      refine ⟨?_, fun c0 h => by cases h⟩
      simp only [compX] at hx
      cases draw with
      | false =>
        simp only [] at hx
        cases hall : compOps P n ops ops.toList with
        | none => rw [hall] at hx; cases hx
        | some l =>
          rw [hall] at hx
          cases hx
          simp only [step] at he
          obtain ⟨S1, h1, h2⟩ := eb_some he
          simp only [Option.some.injEq, Prod.mk.injEq] at h2
          obtain ⟨rfl, rfl⟩ := h2
          obtain ⟨i1, i2⟩ := xops_sound hcl hall l 0 rfl h1
          refine ⟨i1, fun G M a w fr hl hF hH hr hid => wp_region ?_⟩
          have hl' : l.length = ops.size := by have := (compOps_spec hall).1; simpa using this
          have := i2 (XQ n gl S .normal S1 G M w) G M a w fr hl hF hH hr hid (fun a' w' hq => hq)
          rw [Nat.sub_zero, hl', ← List.range_eq_range'] at this
          exact this
      | true =>
        simp only [] at hx
        obtain ⟨l, chk, rfl, hreg⟩ := reg_sound hcl (id := id) hx
        simp only [step] at he
        obtain ⟨z, h1, h2⟩ := eb_some he
        obtain ⟨h3, h4⟩ := gd_some h2
        simp only [Option.some.injEq, Prod.mk.injEq] at h4
        obtain ⟨rfl, rfl⟩ := h4
        exact hreg h1 h3
    | seq c1 c2 =>
      refine ⟨?_, fun c0 h => by cases h⟩
      simp only [compX] at hx
      split at hx
      · rename_i x1 x2 hx1 hx2
        cases hx
        simp only [step] at he
        split at he
        · rename_i S1 h1
          obtain ⟨i1, i2⟩ := ihA n c1 x1 S .normal S1 hx1 h1
          obtain ⟨j1, j2⟩ := ihA n c2 x2 S1 e S' hx2 he
          refine ⟨Nat.le_trans i1 j1, fun G M a w fr hl hF hH hr hid => ?_⟩
          refine wp_seq (wp_mono (i2 G M a w fr hl hF hH hr (fun b b1 b2 => hid b b1 (by omega))) ?_)
          rintro ex a1 w1 ⟨rfl, G1, M1, fr1, hl1, e1, e2, hr1, hx1', hf1⟩
          exact wp_mono (j2 G1 M1 a1 w1 fr1 hl1 e1 e2 hr1 (fun b b1 b2 => hf1 b (fun hc => by omega) (hid b (by omega) b2))) fun ex a2 w2 hq => XQ.trans i1 j1 hx1' hf1 hq
        · rename_i hne
          obtain ⟨i1, i2⟩ := ihA n c1 x1 S e S' hx1 he
          refine ⟨i1, fun G M a w fr hl hF hH hr hid => ?_⟩
          refine wp_seq (wp_mono (i2 G M a w fr hl hF hH hr hid) ?_)
          rintro ex a1 w1 hq
          cases e with
          | normal => exact absurd he (hne S')
          | exit id => obtain ⟨rfl, hq2⟩ := hq; exact ⟨rfl, hq2⟩
          | goto l => obtain ⟨rfl, hq2⟩ := hq; exact ⟨rfl, hq2⟩
          | ret => obtain ⟨rfl, hq2⟩ := hq; exact ⟨rfl, hq2⟩
      · cases hx
    | cond cd c1 c2 =>
      refine ⟨?_, fun c0 h => by cases h⟩
      simp only [compX] at hx
      split at hx
      · rename_i x1 x2 hx1 hx2
        cases hx
        simp only [step] at he
        split at he
        · rename_i t ht
          cases t with
          | true =>
            obtain ⟨i1, i2⟩ := ihA n c1 x1 S e S' hx1 he
            refine ⟨i1, fun G M a w fr hl hF hH hr hid => wp_cond_true ?_ (i2 G M a w fr hl hF hH hr hid)⟩
            rw [← hF, evF_lk] at ht
            exact relV_bool_inv (ev_co hr ht)
          | false =>
            obtain ⟨i1, i2⟩ := ihA n c2 x2 S e S' hx2 he
            refine ⟨i1, fun G M a w fr hl hF hH hr hid => wp_cond_false ?_ (i2 G M a w fr hl hF hH hr hid)⟩
            rw [← hF, evF_lk] at ht
            exact relV_bool_inv (ev_co hr ht)
        · cases he
      · cases hx
    | block id c1 =>
      refine ⟨?_, fun c0 h => by cases h⟩
      simp only [compX] at hx
      split at hx
      · rename_i x1 hx1
        cases hx
        simp only [step] at he
        split at he
        · rename_i id' S1 h1
          obtain ⟨i1, i2⟩ := ihA n c1 x1 S (.exit id') S1 hx1 h1
          cases hb : Nat.beq id' id with
          | true =>
            rw [hb] at he
            simp only [cond_true, Option.some.injEq, Prod.mk.injEq] at he
            obtain ⟨rfl, rfl⟩ := he
            refine ⟨i1, fun G M a w fr hl hF hH hr hid => wp_block (wp_mono (i2 G M a w fr hl hF hH hr hid) ?_)⟩
            rintro ex a1 w1 ⟨rfl, hq⟩
            simp only [IExit.out, Exit.inBlock]
            rw [if_pos (nbeq_eq hb)]
            exact ⟨rfl, hq⟩
          | false =>
            rw [hb] at he
            simp only [cond_false, Option.some.injEq, Prod.mk.injEq] at he
            obtain ⟨rfl, rfl⟩ := he
            refine ⟨i1, fun G M a w fr hl hF hH hr hid => wp_block (wp_mono (i2 G M a w fr hl hF hH hr hid) ?_)⟩
            rintro ex a1 w1 ⟨rfl, hq⟩
            simp only [IExit.out, Exit.inBlock]
            rw [if_neg (fun h => by subst h; rw [Nat.beq_refl] at hb; cases hb)]
            exact ⟨rfl, hq⟩
        · rename_i hne
          obtain ⟨i1, i2⟩ := ihA n c1 x1 S e S' hx1 he
          refine ⟨i1, fun G M a w fr hl hF hH hr hid => wp_block (wp_mono (i2 G M a w fr hl hF hH hr hid) ?_)⟩
          rintro ex a1 w1 ⟨rfl, hq⟩
          cases e with
          | exit id' => exact absurd he (hne id' S')
          | normal => exact ⟨rfl, hq⟩
          | goto l => exact ⟨rfl, hq⟩
          | ret => exact ⟨rfl, hq⟩
      · cases hx
    | scope c1 =>
      refine ⟨?_, fun c0 h => by cases h⟩
      simp only [compX] at hx
      split at hx
      · rename_i x1 hx1
        cases hx
        simp only [step] at he
        split at he
        · cases he
        · rename_i hne
          obtain ⟨i1, i2⟩ := ihA n c1 x1 S e S' hx1 he
          refine ⟨i1, fun G M a w fr hl hF hH hr hid => wp_scope_straight (wp_mono (i2 G M a w fr hl hF hH hr hid) ?_)⟩
          rintro ex a1 w1 ⟨rfl, hq⟩
          cases e with
          | goto l => exact absurd he (hne l S')
          | normal => exact ⟨rfl, hq⟩
          | exit id => exact ⟨rfl, hq⟩
          | ret => exact ⟨rfl, hq⟩
      · cases hx
    | loop c1 =>
      have peeled : IWXg (fun Q a w => wpL P c1 Q a w) n gl S e S' := by
        have hxl := hx
        simp only [compX] at hx
        split at hx
        · rename_i x1 hx1
          cases hx
          simp only [step] at he
          split at he
          · rename_i S1 h1
            obtain ⟨i1, i2⟩ := ihA n c1 x1 S .normal S1 hx1 h1
            obtain ⟨j1, j2⟩ := (ih n (.loop c1) (.loop x1) S1 e S' hxl he).2 c1 rfl
            refine ⟨Nat.le_trans i1 j1, fun G M a w fr hl hF hH hr hid => ?_⟩
            refine wpL_step nopanic nogrow (wp_mono (i2 G M a w fr hl hF hH hr (fun b b1 b2 => hid b b1 (by omega))) ?_)
            rintro ex a1 w1 ⟨rfl, G1, M1, fr1, hl1, e1, e2, hr1, hx1', hf1⟩
            exact wpL_mono (j2 G1 M1 a1 w1 fr1 hl1 e1 e2 hr1 (fun b b1 b2 => hf1 b (fun hc => by omega) (hid b (by omega) b2))) fun ex a2 w2 hq => XQ.trans i1 j1 hx1' hf1 hq
          · rename_i hne
            obtain ⟨i1, i2⟩ := ihA n c1 x1 S e S' hx1 he
            refine ⟨i1, fun G M a w fr hl hF hH hr hid => ?_⟩
            refine wpL_step nopanic nogrow (wp_mono (i2 G M a w fr hl hF hH hr hid) ?_)
            rintro ex a1 w1 ⟨rfl, hq⟩
            cases e with
            | normal => exact absurd he (hne S')
            | exit id => exact ⟨rfl, hq⟩
            | goto l => exact ⟨rfl, hq⟩
            | ret => exact ⟨rfl, hq⟩
        · cases hx
      refine ⟨⟨peeled.1, fun G M a w fr hl hF hH hr hid => wpL_wp (peeled.2 G M a w fr hl hF hH hr hid)⟩, fun c0 h => ?_⟩
      cases h
      exact peeled
    | rangeFunc f ps a b => cases hx
    | refuse s => cases hx

theorem call_ok {FT : Nat → Option FnI} (hFT : FTok P FT) (m : Nat) : CallOk P gl (callX FT (exec FT gl m)) := callX_ok hFT fun n c x S e S' h1 h2 => (exec_sound hFT m n c x S e S' h1 h2).1

/-- A function's contract by its run: from an empty heap, the result taken for what it leads to. -/
def runX (FT : Nat → Option FnI) (gl : Fr) (m d : Nat) (f : FuncId) (args : List V) : Option V :=
  eb (callX FT (exec FT gl m) f args .lf 0) fun z => some (frzF z.2.1.get d z.1)

theorem PureC.of_run {FT : Nat → Option FnI} (hFT : FTok P FT) {m d : Nat} {f : FuncId} {args : List V} {res : V} (h : runX FT gl m d f args = some res) : PureC P gl f args res := by
  unfold runX at h
  obtain ⟨z, h1, h2⟩ := eb_some h
  simp only [Option.some.injEq] at h2
  obtain ⟨hc, -, hi⟩ := call_ok hFT m f args .lf 0 z.1 z.2.1 z.2.2 h1
  refine ⟨hc, fun G w rargs hg hgl hsz hrel => ?_⟩
  have hl0 : lk ([] : Hp) = (T.lf : T Blk).get := by funext b; simp [lk, T.get]
  refine Calls.mono (hi G M0 w rargs [] hl0 ⟨hg, fun b k hk => (by simp [lk] at hk), fun b b' mb mb' rb h1 => (by cases h1), fun b mb rb h1 => (by cases h1)⟩ hgl hsz hrel (fun b _ _ => rfl)) ?_
  rintro e w' ⟨rv, rfl, hl', G', M', e1, e2, e3, hx, e5⟩
  let Gf : GMap := fun k => if k < w.heap.size then G k else match w'.heap[k]? with
    | some (.cells c _ _) => some c
    | _ => none
  have hkeep : ∀ k, k < w.heap.size → w'.heap[k]? = w.heap[k]? := fun k hk => hx.keep k hk (owned_M0 k)
  have hGf : G'.le Gf := by
    intro k c hk
    simp only [Gf]
    split
    · rename_i hlt
      rcases hx.gnew k c hk with h3 | h3 | h3
      · exact h3
      · omega
      · exact absurd h3 (owned_M0 _)
    · obtain ⟨ty, fz, he⟩ := e3.gw k c hk
      simp [he]
  have hin : GIn Gf w' := by
    intro k c hk
    simp only [Gf] at hk
    split at hk
    · rename_i hlt
      obtain ⟨ty, fz, he⟩ := hg k c hk
      exact ⟨ty, fz, by rw [hkeep k hlt]; exact he⟩
    · split at hk
      · rename_i c' ty fz he; cases hk; exact ⟨ty, fz, he⟩
      · cases hk
  have hext : Ext G M0 w Gf M0 w' := by
    refine ⟨GMap.le_trans hx.g hGf, fun k c hk => ?_, MMap.le_refl _, fun _ h => .inr h, hx.os, hx.tape, hx.output, hx.size, hx.keep⟩
    simp only [Gf] at hk
    split at hk
    · exact .inl hk
    · rename_i hge; exact .inr (.inl (by omega))
  have hfr := frz_rel e3 hGf (fun b mb rb arr ty fz h1 h2 he => by
    have : ¬ rb < w.heap.size := fun hlt => by
      rcases hx.mnew rb ⟨b, mb, h1, h2⟩ with h3 | h3
      · omega
      · exact absurd h3 (owned_M0 _)
    simp [Gf, this, he]) d
  refine ⟨rv, Gf, rfl, ?_, hin, hext⟩
  have := hfr _ _ e2
  rw [frz_eq, e1, h2] at this
  exact this
end
end Go.Proofs.YtcdfifbabhfknaaDoor
