/- Ideal code told for simp; the contract of a function from its code. No program stands in it. Conditions: none. -/
import Derived.Test.YtcdfifbabhfknaaDoorCoreH
namespace Go.Proofs.YtcdfifbabhfknaaDoor
open Go

def callW (P : Program) (gl : Fr) (K : V → Hp → Prop) (h : Hp) : V → List V → Prop
  | .fn g fst cap, vs => ICall P gl g (fst ++ vs ++ cap) h K
  | _, _ => False
def kS (K : V → Hp → Prop) (h : Hp) (v : V) (W : Hp) (_ : List Nat) : Prop := K v (W ++ h)
def opW (P : Program) (gl : Fr) (id : Nat) (fr : Fr) (h : Hp) (K : V → Hp → Prop) (op : IOp) : Prop :=
  match asCall op with
  | some (f, as) => w2l (ev gl fr f) (evs gl fr as) (callW P gl K h)
  | none => ∀ gf, optW (eop gl gf id (lk fr) (lk h) op) (kS K h)
def opT (P : Program) (gl : Fr) (id : Nat) (fr : Fr) (h : Hp) (K : V → Hp → Prop) (op : IOp) (_ : Unit) : Prop := opW P gl id fr h K op
def kF (I : Fr → Hp → (Fr → Hp → Prop) → Prop) (dst : Option Nat) (fr : Fr) (K : Fr → Hp → Prop) (v : V) (h : Hp) : Prop := I (putF fr dst v) h K
def kT (I : Fr → Hp → (Fr → Hp → Prop) → Prop) (dst : Option Nat) (fr : Fr) (h : Hp) (K : Fr → Hp → Prop) (_ : Unit) : Prop := I (putF fr dst .undef) h K

def xopsW (P : Program) (gl : Fr) : List IOper → Fr → Hp → (Fr → Hp → Prop) → Prop
  | [], fr, h, K => K fr h
  | o :: r, fr, h, K => gF fr (opT P gl (o.dst.getD 999999) fr h (kF (xopsW P gl r) o.dst fr K) o.op) (kT (xopsW P gl r) o.dst fr h K) o.guard

def condF (A B : Fr → Hp → Prop) (fr : Fr) (h : Hp) : Option V → Prop
  | some (.bool t) => if t = true then A fr h else B fr h
  | _ => False
def QN (Q : IQ) (fr : Fr) (h : Hp) : Prop := Q .normal fr h
def kReg (chk : List (Nat × Nat)) (K : Fr → Hp → Prop) (fr : Fr) (h : Hp) (fps : Fps) : Prop := indAll fps chk = true ∧ K fr h
def scopeQ (Q : IQ) : IQ
  | .goto _, _, _ => False
  | e, fr, h => Q e fr h

def XC.wpF (P : Program) (gl : Fr) : XC → IQ → Fr → Hp → Prop
  | .skip, Q, fr, h => Q .normal fr h
  | .ops l, Q, fr, h => xopsW P gl l fr h (QN Q)
  | .reg l chk, Q, fr, h => ∀ gm, dregW P gl gm l fr h [] (kReg chk (QN Q))
  | .seq a b, Q, fr, h => a.wpF P gl (seqQ (b.wpF P gl Q) Q) fr h
  | .cond c a b, Q, fr, h => condF (a.wpF P gl Q) (b.wpF P gl Q) fr h (ev gl fr c)
  | .block id a, Q, fr, h => a.wpF P gl (blockQ id Q) fr h
  | .loop a, Q, fr, h => LoopP (a.wpF P gl) Q fr h
  | .scope a, Q, fr, h => a.wpF P gl (scopeQ Q) fr h
  | .exit id, Q, fr, h => Q (.exit id) fr h
  | .goto l, Q, fr, h => Q (.goto l) fr h
  | .label _, Q, fr, h => Q .normal fr h
  | .ret, Q, fr, h => Q .ret fr h

section
variable {P : Program} {gl : Fr} {n : Nat} {fr : Fr} {h : Hp} {G : GMap} {M : MMap} {a : Act} {w : World} {ops : Array Oper}

theorem opW_sound (hops : ∀ d, (∃ o, o ∈ ops.toList ∧ o.dst = some d) → d < n) (hr : R n gl G M fr h a w) {i : Nat} {o : Oper} (ho : ops[i]? = some o) {x : IOper} (hx : compOp P n ops o = some x) {Q : Exit → Act → World → Prop} {K' : Act → World → Prop} {K : Fr → Hp → Prop} {I : Fr → Hp → (Fr → Hp → Prop) → Prop}
    (hw : gF fr (opT P gl (x.dst.getD 999999) fr h (kF I x.dst fr K) x.op) (kT I x.dst fr h K) x.guard)
    (hk : ∀ fr' h' G' M' a' w', I fr' h' K → R n gl G' M' fr' h' a' w' → Ext G M w G' M' w' → K' a' w') : wpOp P ops Q i K' a w := by
  obtain ⟨c1, c2, c3, c4⟩ := compOp_spec hx
  unfold wpOp
  simp only [ho]
  rcases gF_xgd hw with ⟨hg, hw⟩ | ⟨hg, hw⟩
  · rw [guard_wanted hops hr c2 (F := lk fr) (fun _ _ => rfl) hg, if_pos rfl]
    refine .inl ?_
    unfold opT opW at hw
    cases hac : asCall x.op with
    | some fa =>
      obtain ⟨f, as⟩ := fa
      rw [hac] at hw
      simp only [] at hw
      cases hf : ev gl fr f with
      | none => rw [hf] at hw; exact hw.elim
      | some fv =>
        cases hvs : evs gl fr as with
        | none => rw [hf, hvs] at hw; exact hw.elim
        | some vs =>
          rw [hf, hvs] at hw
          simp only [w2l] at hw
          cases fv <;> simp only [callW] at hw
          rename_i fid fst cap
          obtain ⟨hcal, hic⟩ := hw
          rw [asCall_some hac] at c1
          obtain ⟨c, g, e1, e2, rfl, rfl⟩ := comp1_call c1
          refine Oper.wp_mono ?_ (call_at hr e1 e2 hf hvs hcal (Post := fun rv w' => ∃ v h' G' M', kF I x.dst fr K v h' ∧ RelV G' M' v rv ∧ Sim G' M' h' w' ∧ Ext G M w G' M' w') fun rargs hsz hrel => ?_)
          · rintro a' w' ⟨rv, rfl, v, h', G', M', q1, q2, q3, q4⟩
            have := hr.put (dst := o.dst) c4 q2 q3 q4
            rw [c3] at q1
            exact hk _ _ G' M' _ _ q1 this q4
          · refine Calls.mono (hic G M w rargs hr.sim hr.gl hsz hrel) ?_
            rintro e w' ⟨rv, v, h', G', M', rfl, q1, q2, q3, q4, -⟩
            exact ⟨rv, rfl, v, h', G', M', q1, q2, q3, q4⟩
    | none =>
      rw [hac] at hw
      simp only [] at hw
      obtain ⟨y, h1, h2⟩ := optW_some (hw (freshGen M))
      refine Oper.wp_mono ?_ (eop_sound hr c1 h1)
      rintro a' w' ⟨v, h', rv, G', M', ⟨rfl, rfl⟩, rfl, q3, q4, q5, -⟩
      have := hr.put (dst := o.dst) c4 q3 q4 q5
      simp only [kS, kF] at h2
      rw [c3] at h2
      exact hk _ _ G' M' _ _ h2 this q5
  · rw [guard_wanted hops hr c2 (F := lk fr) (fun _ _ => rfl) hg, if_neg (by simp)]
    simp only [kT] at hw
    rw [c3] at hw
    exact hk _ _ G M _ _ hw (hr.put c4 (.undef _) hr.sim (.refl _ _ _)) (.refl _ _ _)

theorem xopsW_sound {all : List IOper} (hx : compOps P n ops ops.toList = some all) {Q : Exit → Act → World → Prop} {K : Fr → Hp → Prop} : ∀ (l : List IOper) (k : Nat), all.drop k = l → ∀ {fr h G M a w}, R n gl G M fr h a w → xopsW P gl l fr h K →
    (∀ fr' h' G' M' a' w', K fr' h' → R n gl G' M' fr' h' a' w' → Ext G M w G' M' w' → Q .normal a' w') → wpOps P ops Q (List.range' k (all.length - k)) a w
  | [], k, hk, fr, h, G, M, a, w, hr, hi, hq => by
    have : all.length - k = 0 := by have := congrArg List.length hk; simpa using this
    rw [this]
    exact hq fr h G M a w hi hr (.refl _ _ _)
  | x :: l, k, hk, fr, h, G, M, a, w, hr, hi, hq => by
    have hlen : all.length - k = l.length + 1 := by have := congrArg List.length hk; simpa using this
    rw [hlen, List.range'_succ, wpOps_cons]
    have hxk : all[k]? = some x := by
      have := congrArg (fun q : List IOper => q[0]?) hk
      simpa using this
    have hkl : k < ops.toList.length := by rw [← (compOps_spec hx).1]; exact (List.getElem?_eq_some_iff.1 hxk).1
    obtain ⟨x', hx1, hx2⟩ := (compOps_spec hx).2 k _ (List.getElem?_eq_getElem hkl)
    rw [hxk] at hx1; cases hx1
    have hok : ops[k]? = some ops.toList[k] := by simp at hkl; simp [hkl]
    have hdrop : all.drop (k + 1) = l := by rw [← List.tail_drop, hk]; rfl
    have hll : all.length - (k + 1) = l.length := by omega
    refine opW_sound (dsts_lt hx) hr hok hx2 hi fun fr' h' G' M' a' w' hK hr' hext => ?_
    have := xopsW_sound hx (Q := Q) l (k + 1) hdrop hr' hK (fun fr2 h2 G2 M2 a2 w2 q1 q2 q3 => hq fr2 h2 G2 M2 a2 w2 q1 q2 (hext.trans q3))
    rw [hll] at this; exact this

theorem wpF_sound : ∀ {c : Code} {x : XC}, compX P n c = some x → ∀ {Q : IQ} {fr : Fr} {h : Hp}, x.wpF P gl Q fr h → IW P n gl c Q fr h := by
  intro c
  induction c with
  | skip => intro x hx Q fr h hw; cases hx; exact IW.skip hw
  | region id ops draw =>
    intro x hx Q fr h hw
    simp only [compX] at hx
    cases draw with
    | false =>
      simp only [] at hx
      cases hl : compOps P n ops ops.toList with
      | none => rw [hl] at hx; cases hx
      | some l =>
        rw [hl] at hx; cases hx
        intro G M a w hr
        refine wp_region ?_
        have hll : l.length = ops.size := by have := (compOps_spec hl).1; simpa using this
        have := xopsW_sound hl (Q := Up n gl G M w Q) l 0 rfl hr hw (fun fr' h' G' M' a' w' q1 q2 q3 => ⟨.normal, G', M', fr', h', rfl, q1, q2, q3⟩)
        rw [Nat.sub_zero, hll, ← List.range_eq_range'] at this
        exact this
    | true =>
      simp only [] at hx
      obtain ⟨l, chk, rfl, hreg⟩ := IW.regG (gl := gl) (id := id) (fr := fr) (h := h) (Q := Q) hx
      refine hreg fun gm => ?_
      have := hw gm
      exact this
  | seq a b iha ihb =>
    intro x hx Q fr h hw
    simp only [compX] at hx
    split at hx
    · rename_i xa xb ha hb
      cases hx
      refine IW.seq (IW.mono (iha ha hw) fun e fr h hq => ?_)
      cases e with
      | normal => exact ihb hb hq
      | exit id => exact hq
      | goto l => exact hq
      | ret => exact hq
    · cases hx
  | cond c a b iha ihb =>
    intro x hx Q fr h hw
    simp only [compX] at hx
    split at hx
    · rename_i xa xb ha hb
      cases hx
      simp only [XC.wpF] at hw
      intro G M ac w hr
      cases hc0 : ev gl fr (co c) with
      | none => rw [hc0] at hw; exact hw.elim
      | some v =>
        rw [hc0] at hw
        cases v <;> simp only [condF] at hw
        rename_i t
        have hc := relV_bool_inv (ev_co hr hc0)
        cases t with
        | true => exact wp_cond_true hc (iha ha (by simpa using hw) G M ac w hr)
        | false => exact wp_cond_false hc (ihb hb (by simpa using hw) G M ac w hr)
    · cases hx
  | block id a iha =>
    intro x hx Q fr h hw
    simp only [compX] at hx
    split at hx
    · rename_i xa ha; cases hx; exact IW.block (iha ha hw)
    · cases hx
  | loop a iha =>
    intro x hx Q fr h hw
    simp only [compX] at hx
    split at hx
    · rename_i xa ha
      cases hx
      obtain ⟨X, F, H, Inv, mu, x0, h0, h1, h2, h3⟩ := hw
      refine IW.loop F H Inv mu x0 h0 h1.spec h2.spec fun x hI => IW.mono (iha ha (h3 x hI)) fun e fr h hq => ?_
      cases e with
      | normal => obtain ⟨x', q1, q2, q3, q4⟩ := hq; exact ⟨x', q1, q2.spec, q3.spec, q4⟩
      | exit id => exact hq
      | goto l => exact hq
      | ret => exact hq
    · cases hx
  | scope a iha =>
    intro x hx Q fr h hw
    simp only [compX] at hx
    split at hx
    · rename_i xa ha
      cases hx
      intro G M ac w hr
      refine wp_scope_straight (wp_mono (iha ha hw G M ac w hr) ?_)
      rintro e a' w' ⟨ie, G', M', fr', h', rfl, hq, hr', hx'⟩
      cases ie with
      | goto l => exact hq.elim
      | normal => exact ⟨.normal, G', M', fr', h', rfl, hq, hr', hx'⟩
      | exit id => exact ⟨.exit id, G', M', fr', h', rfl, hq, hr', hx'⟩
      | ret => exact ⟨.ret, G', M', fr', h', rfl, hq, hr', hx'⟩
    · cases hx
  | exit id => intro x hx Q fr h hw; cases hx; exact IW.exit hw
  | goto l => intro x hx Q fr h hw; cases hx; exact IW.goto hw
  | label l => intro x hx Q fr h hw; cases hx; exact IW.label hw
  | ret => intro x hx Q fr h hw; cases hx; exact IW.ret hw
  | _ => intro x hx; cases hx

/-- A function that only computes, by its code. -/
theorem PureC.of_W {f : FuncId} {fi : FnI} {args : List V} {res : V} (m : Nat) (hb : FiOk P f fi) (hk : Nat.ble args.length fi.n = true) (hw : fi.code.wpF P gl (retQ fi.rs m res) (argF 0 args) []) : PureC P gl f args res := by
  obtain ⟨fn, body, h1, h2, h3, h4, h5, h6⟩ := hb
  refine PureC.of_body m h1 h2 h3 (by have := Nat.le_of_ble_eq_true hk; omega) h5 ?_
  rw [h4]
  exact wpF_sound h6 hw
end

theorem LoopP.of {body : IQ → Fr → Hp → Prop} {Q : IQ} {fr : Fr} {h : Hp} {X : Type} (F : X → Fr) (H : X → Hp) (Inv : X → Prop) (mu : X → Nat) (x0 : X) (h0 : Inv x0) (hF : Sub (F x0) fr) (hH : Sub (H x0) h)
    (round : ∀ x, Inv x → body (seqQ (fun fr' h' => ∃ x', Inv x' ∧ Sub (F x') fr' ∧ Sub (H x') h' ∧ mu x' < mu x) Q) (F x) (H x)) : LoopP body Q fr h := ⟨X, F, H, Inv, mu, x0, h0, hF, hH, round⟩

/-! ### What stays closed until it is wholly applied; closed for the kernel too, which would else run the code. -/

theorem KC_ex : ∃ f : Program → Fr → XC → IQ → Fr → Hp → Prop, ∀ P gl c Q fr h, f P gl c Q fr h = c.wpF P gl Q fr h := ⟨fun P gl c Q fr h => c.wpF P gl Q fr h, fun _ _ _ _ _ _ => (rfl)⟩
noncomputable def KC : Program → Fr → XC → IQ → Fr → Hp → Prop := Classical.choose KC_ex
noncomputable def KB : Program → Fr → XC → IQ → Fr → Hp → Prop := Classical.choose KC_ex
theorem KO_ex : ∃ f : Program → Fr → List IOper → Fr → Hp → (Fr → Hp → Prop) → Prop, ∀ P gl l fr h K, f P gl l fr h K = xopsW P gl l fr h K := ⟨fun P gl l fr h K => xopsW P gl l fr h K, fun _ _ _ _ _ _ => (rfl)⟩
noncomputable def KO : Program → Fr → List IOper → Fr → Hp → (Fr → Hp → Prop) → Prop := Classical.choose KO_ex
theorem KD0_ex : ∃ f : Program → Fr → (Nat → Nat) → List IOper → Fr → Hp → Fps → (Fr → Hp → Fps → Prop) → Prop, ∀ P gl gm l fr h acc K, f P gl gm l fr h acc K = dregW P gl gm l fr h acc K := ⟨fun P gl gm l fr h acc K => dregW P gl gm l fr h acc K, fun _ _ _ _ _ _ _ _ => (rfl)⟩
noncomputable def KD0 : Program → Fr → (Nat → Nat) → List IOper → Fr → Hp → Fps → (Fr → Hp → Fps → Prop) → Prop := Classical.choose KD0_ex
theorem KC_fun (P : Program) (gl : Fr) (c : XC) (Q : IQ) : KC P gl c Q = c.wpF P gl Q := by funext fr h; exact Classical.choose_spec KC_ex P gl c Q fr h
theorem KB_fun (P : Program) (gl : Fr) (c : XC) : KB P gl c = c.wpF P gl := by funext Q fr h; exact Classical.choose_spec KC_ex P gl c Q fr h
theorem KO_fun (P : Program) (gl : Fr) (l : List IOper) : KO P gl l = xopsW P gl l := by funext fr h K; exact Classical.choose_spec KO_ex P gl l fr h K
theorem KD0_fun (P : Program) (gl : Fr) (gm : Nat → Nat) (l : List IOper) : KD0 P gl gm l = dregW P gl gm l := by funext fr h acc K; exact Classical.choose_spec KD0_ex P gl gm l fr h acc K

/-- A branch whose sides stay closed until its test is decided. -/
def BrB (c : Bool) (A B : Unit → Prop) : Prop := (c = true → A ()) ∧ (c = false → B ())
@[simp] theorem BrB_true {A B : Unit → Prop} : BrB true A B = A () := by simp [BrB]
@[simp] theorem BrB_false {A B : Unit → Prop} : BrB false A B = B () := by simp [BrB]
@[simp] theorem BrB_not {c : Bool} {A B : Unit → Prop} : BrB (!c) A B = BrB c B A := by cases c <;> simp
theorem BrB.of {c : Bool} {A B : Unit → Prop} (h1 : c = true → A ()) (h2 : c = false → B ()) : BrB c A B := ⟨h1, h2⟩
def uA (A : Fr → Hp → Prop) (fr : Fr) (h : Hp) (_ : Unit) : Prop := A fr h
@[simp] theorem uA_app {A : Fr → Hp → Prop} {fr : Fr} {h : Hp} {u : Unit} : uA A fr h u = A fr h := (rfl)

section
variable {P : Program} {gl : Fr} {Q : IQ} {fr : Fr} {h : Hp} {K : Fr → Hp → Prop} {gm : Nat → Nat} {acc : Fps} {KF : Fr → Hp → Fps → Prop}
@[simp] theorem KC_app {c : XC} : KC P gl c Q fr h = c.wpF P gl Q fr h := Classical.choose_spec KC_ex P gl c Q fr h
@[simp] theorem KB_app {c : XC} : KB P gl c Q fr h = c.wpF P gl Q fr h := Classical.choose_spec KC_ex P gl c Q fr h
@[simp] theorem KO_app {l : List IOper} : KO P gl l fr h K = xopsW P gl l fr h K := Classical.choose_spec KO_ex P gl l fr h K
@[simp] theorem KD0_app {l : List IOper} : KD0 P gl gm l fr h acc KF = dregW P gl gm l fr h acc KF := Classical.choose_spec KD0_ex P gl gm l fr h acc KF
@[simp] theorem QN_app : QN Q fr h = Q .normal fr h := (rfl)
@[simp] theorem kReg_app {chk : List (Nat × Nat)} {fps : Fps} : kReg chk K fr h fps = (indAll fps chk = true ∧ K fr h) := (rfl)
@[simp] theorem indAll_nil {fps : Fps} : indAll fps [] = true := (rfl)
@[simp] theorem wpF_skip : XC.wpF P gl .skip Q fr h = Q .normal fr h := (rfl)
@[simp] theorem wpF_ops {l : List IOper} : XC.wpF P gl (.ops l) Q fr h = xopsW P gl l fr h (QN Q) := (rfl)
@[simp] theorem wpF_reg {l : List IOper} {chk : List (Nat × Nat)} : XC.wpF P gl (.reg l chk) Q fr h = ∀ gm, dregW P gl gm l fr h [] (kReg chk (QN Q)) := (rfl)
@[simp] theorem wpF_seq {a b : XC} : XC.wpF P gl (.seq a b) Q fr h = a.wpF P gl (seqQ (KC P gl b Q) Q) fr h := by rw [KC_fun]; exact Eq.refl _
@[simp] theorem wpF_cond {c : IOpd} {a b : XC} : XC.wpF P gl (.cond c a b) Q fr h = condF (KC P gl a Q) (KC P gl b Q) fr h (ev gl fr c) := by rw [KC_fun, KC_fun]; exact Eq.refl _
@[simp] theorem wpF_block {id : Nat} {a : XC} : XC.wpF P gl (.block id a) Q fr h = a.wpF P gl (blockQ id Q) fr h := (rfl)
@[simp] theorem wpF_scope {a : XC} : XC.wpF P gl (.scope a) Q fr h = a.wpF P gl (scopeQ Q) fr h := (rfl)
@[simp] theorem wpF_loop {a : XC} : XC.wpF P gl (.loop a) Q fr h = LoopP (KB P gl a) Q fr h := by rw [KB_fun]; exact Eq.refl _
@[simp] theorem wpF_exit {id : Nat} : XC.wpF P gl (.exit id) Q fr h = Q (.exit id) fr h := (rfl)
@[simp] theorem wpF_goto {l : Nat} : XC.wpF P gl (.goto l) Q fr h = Q (.goto l) fr h := (rfl)
@[simp] theorem wpF_label {l : Nat} : XC.wpF P gl (.label l) Q fr h = Q .normal fr h := (rfl)
@[simp] theorem wpF_ret : XC.wpF P gl .ret Q fr h = Q .ret fr h := (rfl)
@[simp] theorem xopsW_nil : xopsW P gl [] fr h K = K fr h := (rfl)
@[simp] theorem xopsW_cons {o : IOper} {r : List IOper} : xopsW P gl (o :: r) fr h K = gF fr (opT P gl (o.dst.getD 999999) fr h (kF (KO P gl r) o.dst fr K) o.op) (kT (KO P gl r) o.dst fr h K) o.guard := by rw [KO_fun]; exact Eq.refl _
@[simp] theorem dregW_nil : dregW P gl gm [] fr h acc KF = KF fr h acc := (rfl)
@[simp] theorem dregW_cons {o : IOper} {r : List IOper} : dregW P gl gm (o :: r) fr h acc KF = gF fr (dopT P gl gm o.dst fr h (kD (KD0 P gl gm r) o.dst fr h acc KF) o.op) (kU (KD0 P gl gm r) o fr h acc KF) o.guard := by rw [KD0_fun]; exact Eq.refl _
@[simp] theorem kF_app {I : Fr → Hp → (Fr → Hp → Prop) → Prop} {d : Option Nat} {v : V} : kF I d fr K v h = I (putF fr d v) h K := (rfl)
@[simp] theorem kT_app {I : Fr → Hp → (Fr → Hp → Prop) → Prop} {d : Option Nat} {u : Unit} : kT I d fr h K u = I (putF fr d .undef) h K := (rfl)
@[simp] theorem kD_app {I : Fr → Hp → Fps → (Fr → Hp → Fps → Prop) → Prop} {d : Option Nat} {v : V} {W : Hp} {rd : List Nat} : kD I d fr h acc KF v W rd = I (putF fr d v) (W ++ h) (snocF acc (W.map (·.1)) rd) KF := (rfl)
@[simp] theorem kU_app {I : Fr → Hp → Fps → (Fr → Hp → Fps → Prop) → Prop} {o : IOper} {u : Unit} : kU I o fr h acc KF u = I (putF fr o.dst .undef) h (snocF acc [] (alOf o).toList) KF := (rfl)
@[simp] theorem kRd_app {pu : Bool} {id : Option Nat} {K2 : V → Hp → List Nat → Prop} {v : V} {W : Hp} {rd : List Nat} : kRd pu id K2 v W rd = K2 v W (bif pu then rd else id.toList ++ rd) := (rfl)
@[simp] theorem kCl_app {K2 : V → Hp → List Nat → Prop} {v : V} : kCl K2 h v = K2 v [] (h.map (·.1)) := (rfl)
@[simp] theorem kS_app {K2 : V → Hp → Prop} {v : V} {W : Hp} {rd : List Nat} : kS K2 h v W rd = K2 v (W ++ h) := (rfl)
theorem opW_c {id : Nat} {K2 : V → Hp → Prop} {f : IOpd} {as : List IOpd} : opW P gl id fr h K2 (.call f as) = w2l (ev gl fr f) (evs gl fr as) (callW P gl K2 h) := (rfl)
@[simp] theorem opT_c {id : Nat} {K2 : V → Hp → Prop} {f : IOpd} {as : List IOpd} {u : Unit} : opT P gl id fr h K2 (.call f as) u = w2l (ev gl fr f) (evs gl fr as) (callW P gl K2 h) := (rfl)
@[simp] theorem opT_mv {id : Nat} {K2 : V → Hp → Prop} {u : Unit} {y0 : IOpd} : opT P gl id fr h K2 (.mv y0) u = ∀ gf, optW (eop gl gf id (lk fr) (lk h) (.mv y0)) (kS K2 h) := (rfl)
@[simp] theorem dopT_mv {id : Option Nat} {K2 : V → Hp → List Nat → Prop} {u : Unit} {y0 : IOpd} : dopT P gl gm id fr h K2 (.mv y0) u = optW (eop gl (gfG gm (lk h)) (id.getD 999999) (lk fr) (lk h) (.mv y0)) (kRd (isPure (.mv y0)) id K2) := (rfl)
@[simp] theorem opT_pick {id : Nat} {K2 : V → Hp → Prop} {u : Unit} {y0 : IOpd} {y1 : IOpd} {y2 : IOpd} : opT P gl id fr h K2 (.pick y0 y1 y2) u = ∀ gf, optW (eop gl gf id (lk fr) (lk h) (.pick y0 y1 y2)) (kS K2 h) := (rfl)
@[simp] theorem dopT_pick {id : Option Nat} {K2 : V → Hp → List Nat → Prop} {u : Unit} {y0 : IOpd} {y1 : IOpd} {y2 : IOpd} : dopT P gl gm id fr h K2 (.pick y0 y1 y2) u = optW (eop gl (gfG gm (lk h)) (id.getD 999999) (lk fr) (lk h) (.pick y0 y1 y2)) (kRd (isPure (.pick y0 y1 y2)) id K2) := (rfl)
@[simp] theorem opT_box {id : Nat} {K2 : V → Hp → Prop} {u : Unit} {y0 : IOpd} : opT P gl id fr h K2 (.box y0) u = ∀ gf, optW (eop gl gf id (lk fr) (lk h) (.box y0)) (kS K2 h) := (rfl)
@[simp] theorem dopT_box {id : Option Nat} {K2 : V → Hp → List Nat → Prop} {u : Unit} {y0 : IOpd} : dopT P gl gm id fr h K2 (.box y0) u = optW (eop gl (gfG gm (lk h)) (id.getD 999999) (lk fr) (lk h) (.box y0)) (kRd (isPure (.box y0)) id K2) := (rfl)
@[simp] theorem opT_alloc {id : Nat} {K2 : V → Hp → Prop} {u : Unit} {y0 : V} : opT P gl id fr h K2 (.alloc y0) u = ∀ gf, optW (eop gl gf id (lk fr) (lk h) (.alloc y0)) (kS K2 h) := (rfl)
@[simp] theorem dopT_alloc {id : Option Nat} {K2 : V → Hp → List Nat → Prop} {u : Unit} {y0 : V} : dopT P gl gm id fr h K2 (.alloc y0) u = optW (eop gl (gfG gm (lk h)) (id.getD 999999) (lk fr) (lk h) (.alloc y0)) (kRd (isPure (.alloc y0)) id K2) := (rfl)
@[simp] theorem opT_build {id : Nat} {K2 : V → Hp → Prop} {u : Unit} {y0 : List V} {y1 : List (Nat × Nat × IOpd)} : opT P gl id fr h K2 (.build y0 y1) u = ∀ gf, optW (eop gl gf id (lk fr) (lk h) (.build y0 y1)) (kS K2 h) := (rfl)
@[simp] theorem dopT_build {id : Option Nat} {K2 : V → Hp → List Nat → Prop} {u : Unit} {y0 : List V} {y1 : List (Nat × Nat × IOpd)} : dopT P gl gm id fr h K2 (.build y0 y1) u = optW (eop gl (gfG gm (lk h)) (id.getD 999999) (lk fr) (lk h) (.build y0 y1)) (kRd (isPure (.build y0 y1)) id K2) := (rfl)
@[simp] theorem opT_buildSl {id : Nat} {K2 : V → Hp → Prop} {u : Unit} {y0 : Nat} {y1 : Nat} {y2 : List V} {y3 : List (Nat × Nat × IOpd)} : opT P gl id fr h K2 (.buildSl y0 y1 y2 y3) u = ∀ gf, optW (eop gl gf id (lk fr) (lk h) (.buildSl y0 y1 y2 y3)) (kS K2 h) := (rfl)
@[simp] theorem dopT_buildSl {id : Option Nat} {K2 : V → Hp → List Nat → Prop} {u : Unit} {y0 : Nat} {y1 : Nat} {y2 : List V} {y3 : List (Nat × Nat × IOpd)} : dopT P gl gm id fr h K2 (.buildSl y0 y1 y2 y3) u = optW (eop gl (gfG gm (lk h)) (id.getD 999999) (lk fr) (lk h) (.buildSl y0 y1 y2 y3)) (kRd (isPure (.buildSl y0 y1 y2 y3)) id K2) := (rfl)
@[simp] theorem opT_load {id : Nat} {K2 : V → Hp → Prop} {u : Unit} {y0 : Bool} {y1 : Nat} {y2 : IOpd} : opT P gl id fr h K2 (.load y0 y1 y2) u = ∀ gf, optW (eop gl gf id (lk fr) (lk h) (.load y0 y1 y2)) (kS K2 h) := (rfl)
@[simp] theorem dopT_load {id : Option Nat} {K2 : V → Hp → List Nat → Prop} {u : Unit} {y0 : Bool} {y1 : Nat} {y2 : IOpd} : dopT P gl gm id fr h K2 (.load y0 y1 y2) u = optW (eop gl (gfG gm (lk h)) (id.getD 999999) (lk fr) (lk h) (.load y0 y1 y2)) (kRd (isPure (.load y0 y1 y2)) id K2) := (rfl)
@[simp] theorem opT_store {id : Nat} {K2 : V → Hp → Prop} {u : Unit} {y0 : Nat} {y1 : IOpd} {y2 : IOpd} : opT P gl id fr h K2 (.store y0 y1 y2) u = ∀ gf, optW (eop gl gf id (lk fr) (lk h) (.store y0 y1 y2)) (kS K2 h) := (rfl)
@[simp] theorem dopT_store {id : Option Nat} {K2 : V → Hp → List Nat → Prop} {u : Unit} {y0 : Nat} {y1 : IOpd} {y2 : IOpd} : dopT P gl gm id fr h K2 (.store y0 y1 y2) u = optW (eop gl (gfG gm (lk h)) (id.getD 999999) (lk fr) (lk h) (.store y0 y1 y2)) (kRd (isPure (.store y0 y1 y2)) id K2) := (rfl)
@[simp] theorem opT_bin {id : Nat} {K2 : V → Hp → Prop} {u : Unit} {y0 : BinOp} {y1 : IOpd} {y2 : IOpd} : opT P gl id fr h K2 (.bin y0 y1 y2) u = ∀ gf, optW (eop gl gf id (lk fr) (lk h) (.bin y0 y1 y2)) (kS K2 h) := (rfl)
@[simp] theorem dopT_bin {id : Option Nat} {K2 : V → Hp → List Nat → Prop} {u : Unit} {y0 : BinOp} {y1 : IOpd} {y2 : IOpd} : dopT P gl gm id fr h K2 (.bin y0 y1 y2) u = optW (eop gl (gfG gm (lk h)) (id.getD 999999) (lk fr) (lk h) (.bin y0 y1 y2)) (kRd (isPure (.bin y0 y1 y2)) id K2) := (rfl)
@[simp] theorem opT_eqs {id : Nat} {K2 : V → Hp → Prop} {u : Unit} {y0 : Bool} {y1 : Nat} {y2 : IOpd} {y3 : IOpd} : opT P gl id fr h K2 (.eqs y0 y1 y2 y3) u = ∀ gf, optW (eop gl gf id (lk fr) (lk h) (.eqs y0 y1 y2 y3)) (kS K2 h) := (rfl)
@[simp] theorem dopT_eqs {id : Option Nat} {K2 : V → Hp → List Nat → Prop} {u : Unit} {y0 : Bool} {y1 : Nat} {y2 : IOpd} {y3 : IOpd} : dopT P gl gm id fr h K2 (.eqs y0 y1 y2 y3) u = optW (eop gl (gfG gm (lk h)) (id.getD 999999) (lk fr) (lk h) (.eqs y0 y1 y2 y3)) (kRd (isPure (.eqs y0 y1 y2 y3)) id K2) := (rfl)
@[simp] theorem opT_beq {id : Nat} {K2 : V → Hp → Prop} {u : Unit} {y0 : Bool} {y1 : IOpd} {y2 : IOpd} : opT P gl id fr h K2 (.beq y0 y1 y2) u = ∀ gf, optW (eop gl gf id (lk fr) (lk h) (.beq y0 y1 y2)) (kS K2 h) := (rfl)
@[simp] theorem dopT_beq {id : Option Nat} {K2 : V → Hp → List Nat → Prop} {u : Unit} {y0 : Bool} {y1 : IOpd} {y2 : IOpd} : dopT P gl gm id fr h K2 (.beq y0 y1 y2) u = optW (eop gl (gfG gm (lk h)) (id.getD 999999) (lk fr) (lk h) (.beq y0 y1 y2)) (kRd (isPure (.beq y0 y1 y2)) id K2) := (rfl)
@[simp] theorem opT_un {id : Nat} {K2 : V → Hp → Prop} {u : Unit} {y0 : UnOp} {y1 : IOpd} : opT P gl id fr h K2 (.un y0 y1) u = ∀ gf, optW (eop gl gf id (lk fr) (lk h) (.un y0 y1)) (kS K2 h) := (rfl)
@[simp] theorem dopT_un {id : Option Nat} {K2 : V → Hp → List Nat → Prop} {u : Unit} {y0 : UnOp} {y1 : IOpd} : dopT P gl gm id fr h K2 (.un y0 y1) u = optW (eop gl (gfG gm (lk h)) (id.getD 999999) (lk fr) (lk h) (.un y0 y1)) (kRd (isPure (.un y0 y1)) id K2) := (rfl)
@[simp] theorem opT_conv {id : Nat} {K2 : V → Hp → Prop} {u : Unit} {y0 : IntKind} {y1 : IOpd} : opT P gl id fr h K2 (.conv y0 y1) u = ∀ gf, optW (eop gl gf id (lk fr) (lk h) (.conv y0 y1)) (kS K2 h) := (rfl)
@[simp] theorem dopT_conv {id : Option Nat} {K2 : V → Hp → List Nat → Prop} {u : Unit} {y0 : IntKind} {y1 : IOpd} : dopT P gl gm id fr h K2 (.conv y0 y1) u = optW (eop gl (gfG gm (lk h)) (id.getD 999999) (lk fr) (lk h) (.conv y0 y1)) (kRd (isPure (.conv y0 y1)) id K2) := (rfl)
@[simp] theorem opT_mkfn {id : Nat} {K2 : V → Hp → Prop} {u : Unit} {y0 : FuncId} {y1 : List IOpd} {y2 : List IOpd} : opT P gl id fr h K2 (.mkfn y0 y1 y2) u = ∀ gf, optW (eop gl gf id (lk fr) (lk h) (.mkfn y0 y1 y2)) (kS K2 h) := (rfl)
@[simp] theorem dopT_mkfn {id : Option Nat} {K2 : V → Hp → List Nat → Prop} {u : Unit} {y0 : FuncId} {y1 : List IOpd} {y2 : List IOpd} : dopT P gl gm id fr h K2 (.mkfn y0 y1 y2) u = optW (eop gl (gfG gm (lk h)) (id.getD 999999) (lk fr) (lk h) (.mkfn y0 y1 y2)) (kRd (isPure (.mkfn y0 y1 y2)) id K2) := (rfl)
@[simp] theorem opT_mksl {id : Nat} {K2 : V → Hp → Prop} {u : Unit} {y0 : List V} {y1 : Nat} {y2 : Nat} {y3 : IOpd} {y4 : IOpd} : opT P gl id fr h K2 (.mksl y0 y1 y2 y3 y4) u = ∀ gf, optW (eop gl gf id (lk fr) (lk h) (.mksl y0 y1 y2 y3 y4)) (kS K2 h) := (rfl)
@[simp] theorem dopT_mksl {id : Option Nat} {K2 : V → Hp → List Nat → Prop} {u : Unit} {y0 : List V} {y1 : Nat} {y2 : Nat} {y3 : IOpd} {y4 : IOpd} : dopT P gl gm id fr h K2 (.mksl y0 y1 y2 y3 y4) u = optW (eop gl (gfG gm (lk h)) (id.getD 999999) (lk fr) (lk h) (.mksl y0 y1 y2 y3 y4)) (kRd (isPure (.mksl y0 y1 y2 y3 y4)) id K2) := (rfl)
@[simp] theorem opT_slice {id : Nat} {K2 : V → Hp → Prop} {u : Unit} {y0 : Nat} {y1 : IOpd} {y2 : Option IOpd} {y3 : Option IOpd} {y4 : Option IOpd} : opT P gl id fr h K2 (.slice y0 y1 y2 y3 y4) u = ∀ gf, optW (eop gl gf id (lk fr) (lk h) (.slice y0 y1 y2 y3 y4)) (kS K2 h) := (rfl)
@[simp] theorem dopT_slice {id : Option Nat} {K2 : V → Hp → List Nat → Prop} {u : Unit} {y0 : Nat} {y1 : IOpd} {y2 : Option IOpd} {y3 : Option IOpd} {y4 : Option IOpd} : dopT P gl gm id fr h K2 (.slice y0 y1 y2 y3 y4) u = optW (eop gl (gfG gm (lk h)) (id.getD 999999) (lk fr) (lk h) (.slice y0 y1 y2 y3 y4)) (kRd (isPure (.slice y0 y1 y2 y3 y4)) id K2) := (rfl)
@[simp] theorem opT_sliceS {id : Nat} {K2 : V → Hp → Prop} {u : Unit} {y0 : IOpd} {y1 : Option IOpd} {y2 : Option IOpd} : opT P gl id fr h K2 (.sliceS y0 y1 y2) u = ∀ gf, optW (eop gl gf id (lk fr) (lk h) (.sliceS y0 y1 y2)) (kS K2 h) := (rfl)
@[simp] theorem dopT_sliceS {id : Option Nat} {K2 : V → Hp → List Nat → Prop} {u : Unit} {y0 : IOpd} {y1 : Option IOpd} {y2 : Option IOpd} : dopT P gl gm id fr h K2 (.sliceS y0 y1 y2) u = optW (eop gl (gfG gm (lk h)) (id.getD 999999) (lk fr) (lk h) (.sliceS y0 y1 y2)) (kRd (isPure (.sliceS y0 y1 y2)) id K2) := (rfl)
@[simp] theorem opT_fieldA {id : Nat} {K2 : V → Hp → Prop} {u : Unit} {y0 : Nat} {y1 : IOpd} : opT P gl id fr h K2 (.fieldA y0 y1) u = ∀ gf, optW (eop gl gf id (lk fr) (lk h) (.fieldA y0 y1)) (kS K2 h) := (rfl)
@[simp] theorem dopT_fieldA {id : Option Nat} {K2 : V → Hp → List Nat → Prop} {u : Unit} {y0 : Nat} {y1 : IOpd} : dopT P gl gm id fr h K2 (.fieldA y0 y1) u = optW (eop gl (gfG gm (lk h)) (id.getD 999999) (lk fr) (lk h) (.fieldA y0 y1)) (kRd (isPure (.fieldA y0 y1)) id K2) := (rfl)
@[simp] theorem opT_field {id : Nat} {K2 : V → Hp → Prop} {u : Unit} {y0 : Bool} {y1 : Nat} {y2 : Nat} {y3 : IOpd} : opT P gl id fr h K2 (.field y0 y1 y2 y3) u = ∀ gf, optW (eop gl gf id (lk fr) (lk h) (.field y0 y1 y2 y3)) (kS K2 h) := (rfl)
@[simp] theorem dopT_field {id : Option Nat} {K2 : V → Hp → List Nat → Prop} {u : Unit} {y0 : Bool} {y1 : Nat} {y2 : Nat} {y3 : IOpd} : dopT P gl gm id fr h K2 (.field y0 y1 y2 y3) u = optW (eop gl (gfG gm (lk h)) (id.getD 999999) (lk fr) (lk h) (.field y0 y1 y2 y3)) (kRd (isPure (.field y0 y1 y2 y3)) id K2) := (rfl)
@[simp] theorem opT_idxA {id : Nat} {K2 : V → Hp → Prop} {u : Unit} {y0 : Nat} {y1 : IOpd} {y2 : IOpd} : opT P gl id fr h K2 (.idxA y0 y1 y2) u = ∀ gf, optW (eop gl gf id (lk fr) (lk h) (.idxA y0 y1 y2)) (kS K2 h) := (rfl)
@[simp] theorem dopT_idxA {id : Option Nat} {K2 : V → Hp → List Nat → Prop} {u : Unit} {y0 : Nat} {y1 : IOpd} {y2 : IOpd} : dopT P gl gm id fr h K2 (.idxA y0 y1 y2) u = optW (eop gl (gfG gm (lk h)) (id.getD 999999) (lk fr) (lk h) (.idxA y0 y1 y2)) (kRd (isPure (.idxA y0 y1 y2)) id K2) := (rfl)
@[simp] theorem opT_idxP {id : Nat} {K2 : V → Hp → Prop} {u : Unit} {y0 : Nat} {y1 : Nat} {y2 : IOpd} {y3 : IOpd} : opT P gl id fr h K2 (.idxP y0 y1 y2 y3) u = ∀ gf, optW (eop gl gf id (lk fr) (lk h) (.idxP y0 y1 y2 y3)) (kS K2 h) := (rfl)
@[simp] theorem dopT_idxP {id : Option Nat} {K2 : V → Hp → List Nat → Prop} {u : Unit} {y0 : Nat} {y1 : Nat} {y2 : IOpd} {y3 : IOpd} : dopT P gl gm id fr h K2 (.idxP y0 y1 y2 y3) u = optW (eop gl (gfG gm (lk h)) (id.getD 999999) (lk fr) (lk h) (.idxP y0 y1 y2 y3)) (kRd (isPure (.idxP y0 y1 y2 y3)) id K2) := (rfl)
@[simp] theorem opT_idxV {id : Nat} {K2 : V → Hp → Prop} {u : Unit} {y0 : Bool} {y1 : Nat} {y2 : Nat} {y3 : IOpd} {y4 : IOpd} : opT P gl id fr h K2 (.idxV y0 y1 y2 y3 y4) u = ∀ gf, optW (eop gl gf id (lk fr) (lk h) (.idxV y0 y1 y2 y3 y4)) (kS K2 h) := (rfl)
@[simp] theorem dopT_idxV {id : Option Nat} {K2 : V → Hp → List Nat → Prop} {u : Unit} {y0 : Bool} {y1 : Nat} {y2 : Nat} {y3 : IOpd} {y4 : IOpd} : dopT P gl gm id fr h K2 (.idxV y0 y1 y2 y3 y4) u = optW (eop gl (gfG gm (lk h)) (id.getD 999999) (lk fr) (lk h) (.idxV y0 y1 y2 y3 y4)) (kRd (isPure (.idxV y0 y1 y2 y3 y4)) id K2) := (rfl)
@[simp] theorem opT_idxS {id : Nat} {K2 : V → Hp → Prop} {u : Unit} {y0 : IOpd} {y1 : IOpd} : opT P gl id fr h K2 (.idxS y0 y1) u = ∀ gf, optW (eop gl gf id (lk fr) (lk h) (.idxS y0 y1)) (kS K2 h) := (rfl)
@[simp] theorem dopT_idxS {id : Option Nat} {K2 : V → Hp → List Nat → Prop} {u : Unit} {y0 : IOpd} {y1 : IOpd} : dopT P gl gm id fr h K2 (.idxS y0 y1) u = optW (eop gl (gfG gm (lk h)) (id.getD 999999) (lk fr) (lk h) (.idxS y0 y1)) (kRd (isPure (.idxS y0 y1)) id K2) := (rfl)
@[simp] theorem opT_len {id : Nat} {K2 : V → Hp → Prop} {u : Unit} {y0 : IOpd} : opT P gl id fr h K2 (.len y0) u = ∀ gf, optW (eop gl gf id (lk fr) (lk h) (.len y0)) (kS K2 h) := (rfl)
@[simp] theorem dopT_len {id : Option Nat} {K2 : V → Hp → List Nat → Prop} {u : Unit} {y0 : IOpd} : dopT P gl gm id fr h K2 (.len y0) u = optW (eop gl (gfG gm (lk h)) (id.getD 999999) (lk fr) (lk h) (.len y0)) (kRd (isPure (.len y0)) id K2) := (rfl)
@[simp] theorem opT_lenS {id : Nat} {K2 : V → Hp → Prop} {u : Unit} {y0 : IOpd} : opT P gl id fr h K2 (.lenS y0) u = ∀ gf, optW (eop gl gf id (lk fr) (lk h) (.lenS y0)) (kS K2 h) := (rfl)
@[simp] theorem dopT_lenS {id : Option Nat} {K2 : V → Hp → List Nat → Prop} {u : Unit} {y0 : IOpd} : dopT P gl gm id fr h K2 (.lenS y0) u = optW (eop gl (gfG gm (lk h)) (id.getD 999999) (lk fr) (lk h) (.lenS y0)) (kRd (isPure (.lenS y0)) id K2) := (rfl)
@[simp] theorem opT_lenK {id : Nat} {K2 : V → Hp → Prop} {u : Unit} {y0 : Nat} : opT P gl id fr h K2 (.lenK y0) u = ∀ gf, optW (eop gl gf id (lk fr) (lk h) (.lenK y0)) (kS K2 h) := (rfl)
@[simp] theorem dopT_lenK {id : Option Nat} {K2 : V → Hp → List Nat → Prop} {u : Unit} {y0 : Nat} : dopT P gl gm id fr h K2 (.lenK y0) u = optW (eop gl (gfG gm (lk h)) (id.getD 999999) (lk fr) (lk h) (.lenK y0)) (kRd (isPure (.lenK y0)) id K2) := (rfl)
@[simp] theorem opT_cap {id : Nat} {K2 : V → Hp → Prop} {u : Unit} {y0 : IOpd} : opT P gl id fr h K2 (.cap y0) u = ∀ gf, optW (eop gl gf id (lk fr) (lk h) (.cap y0)) (kS K2 h) := (rfl)
@[simp] theorem dopT_cap {id : Option Nat} {K2 : V → Hp → List Nat → Prop} {u : Unit} {y0 : IOpd} : dopT P gl gm id fr h K2 (.cap y0) u = optW (eop gl (gfG gm (lk h)) (id.getD 999999) (lk fr) (lk h) (.cap y0)) (kRd (isPure (.cap y0)) id K2) := (rfl)
@[simp] theorem opT_app {id : Nat} {K2 : V → Hp → Prop} {u : Unit} {y0 : Nat} {y1 : Nat} {y2 : List V} {y3 : IOpd} {y4 : IOpd} : opT P gl id fr h K2 (.app y0 y1 y2 y3 y4) u = ∀ gf, optW (eop gl gf id (lk fr) (lk h) (.app y0 y1 y2 y3 y4)) (kS K2 h) := (rfl)
@[simp] theorem dopT_app {id : Option Nat} {K2 : V → Hp → List Nat → Prop} {u : Unit} {y0 : Nat} {y1 : Nat} {y2 : List V} {y3 : IOpd} {y4 : IOpd} : dopT P gl gm id fr h K2 (.app y0 y1 y2 y3 y4) u = optW (eop gl (gfG gm (lk h)) (id.getD 999999) (lk fr) (lk h) (.app y0 y1 y2 y3 y4)) (kRd (isPure (.app y0 y1 y2 y3 y4)) id K2) := (rfl)
@[simp] theorem opT_copy {id : Nat} {K2 : V → Hp → Prop} {u : Unit} {y0 : Nat} {y1 : IOpd} {y2 : IOpd} : opT P gl id fr h K2 (.copy y0 y1 y2) u = ∀ gf, optW (eop gl gf id (lk fr) (lk h) (.copy y0 y1 y2)) (kS K2 h) := (rfl)
@[simp] theorem dopT_copy {id : Option Nat} {K2 : V → Hp → List Nat → Prop} {u : Unit} {y0 : Nat} {y1 : IOpd} {y2 : IOpd} : dopT P gl gm id fr h K2 (.copy y0 y1 y2) u = optW (eop gl (gfG gm (lk h)) (id.getD 999999) (lk fr) (lk h) (.copy y0 y1 y2)) (kRd (isPure (.copy y0 y1 y2)) id K2) := (rfl)
@[simp] theorem opT_mm {id : Nat} {K2 : V → Hp → Prop} {u : Unit} {y0 : Bool} {y1 : IOpd} {y2 : IOpd} : opT P gl id fr h K2 (.mm y0 y1 y2) u = ∀ gf, optW (eop gl gf id (lk fr) (lk h) (.mm y0 y1 y2)) (kS K2 h) := (rfl)
@[simp] theorem dopT_mm {id : Option Nat} {K2 : V → Hp → List Nat → Prop} {u : Unit} {y0 : Bool} {y1 : IOpd} {y2 : IOpd} : dopT P gl gm id fr h K2 (.mm y0 y1 y2) u = optW (eop gl (gfG gm (lk h)) (id.getD 999999) (lk fr) (lk h) (.mm y0 y1 y2)) (kRd (isPure (.mm y0 y1 y2)) id K2) := (rfl)
@[simp] theorem opT_extract {id : Nat} {K2 : V → Hp → Prop} {u : Unit} {y0 : IOpd} {y1 : Nat} : opT P gl id fr h K2 (.extract y0 y1) u = ∀ gf, optW (eop gl gf id (lk fr) (lk h) (.extract y0 y1)) (kS K2 h) := (rfl)
@[simp] theorem dopT_extract {id : Option Nat} {K2 : V → Hp → List Nat → Prop} {u : Unit} {y0 : IOpd} {y1 : Nat} : dopT P gl gm id fr h K2 (.extract y0 y1) u = optW (eop gl (gfG gm (lk h)) (id.getD 999999) (lk fr) (lk h) (.extract y0 y1)) (kRd (isPure (.extract y0 y1)) id K2) := (rfl)
@[simp] theorem opT_b2s {id : Nat} {K2 : V → Hp → Prop} {u : Unit} {y0 : IOpd} : opT P gl id fr h K2 (.b2s y0) u = ∀ gf, optW (eop gl gf id (lk fr) (lk h) (.b2s y0)) (kS K2 h) := (rfl)
@[simp] theorem dopT_b2s {id : Option Nat} {K2 : V → Hp → List Nat → Prop} {u : Unit} {y0 : IOpd} : dopT P gl gm id fr h K2 (.b2s y0) u = optW (eop gl (gfG gm (lk h)) (id.getD 999999) (lk fr) (lk h) (.b2s y0)) (kRd (isPure (.b2s y0)) id K2) := (rfl)
@[simp] theorem opT_cvs {id : Nat} {K2 : V → Hp → Prop} {u : Unit} {y0 : IOpd} : opT P gl id fr h K2 (.cvs y0) u = ∀ gf, optW (eop gl gf id (lk fr) (lk h) (.cvs y0)) (kS K2 h) := (rfl)
@[simp] theorem dopT_cvs {id : Option Nat} {K2 : V → Hp → List Nat → Prop} {u : Unit} {y0 : IOpd} : dopT P gl gm id fr h K2 (.cvs y0) u = optW (eop gl (gfG gm (lk h)) (id.getD 999999) (lk fr) (lk h) (.cvs y0)) (kRd (isPure (.cvs y0)) id K2) := (rfl)
@[simp] theorem opT_n {id : Nat} {K2 : V → Hp → Prop} {u : Unit} {y0 : NOp} : opT P gl id fr h K2 (.n y0) u = ∀ gf, optW (eop gl gf id (lk fr) (lk h) (.n y0)) (kS K2 h) := (rfl)
@[simp] theorem dopT_n {id : Option Nat} {K2 : V → Hp → List Nat → Prop} {u : Unit} {y0 : NOp} : dopT P gl gm id fr h K2 (.n y0) u = optW (eop gl (gfG gm (lk h)) (id.getD 999999) (lk fr) (lk h) (.n y0)) (kRd (isPure (.n y0)) id K2) := (rfl)
@[simp] theorem dopT_c {id : Option Nat} {K2 : V → Hp → List Nat → Prop} {f : IOpd} {as : List IOpd} {u : Unit} : dopT P gl gm id fr h K2 (.call f as) u = w2l (ev gl fr f) (evs gl fr as) (dcallW P gl h (kCl K2 h)) := (rfl)
@[simp] theorem condF_b {A B : Fr → Hp → Prop} {t : Bool} : condF A B fr h (some (.bool t)) = BrB t (uA A fr h) (uA B fr h) := by
  cases t <;> simp [condF]
@[simp] theorem gF_n {A B : Unit → Prop} : gF fr A B none = A () := (rfl)
@[simp] theorem gF_s {A B : Unit → Prop} {t : Nat} {w : Bool} : gF fr A B (some (t, w)) = gB w A B (lk fr t) := (rfl)
@[simp] theorem gB_t {A B : Unit → Prop} {b : Bool} : gB true A B (some (.bool b)) = BrB b A B := by
  cases b <;> simp [gB]
@[simp] theorem gB_f {A B : Unit → Prop} {b : Bool} : gB false A B (some (.bool b)) = BrB b B A := by
  cases b <;> simp [gB]
@[simp] theorem w2l_s {v : V} {u : List V} {K2 : V → List V → Prop} : w2l (some v) (some u) K2 = K2 v u := (rfl)
@[simp] theorem callW_f {K2 : V → Hp → Prop} {g : FuncId} {fst cap vs : List V} : callW P gl K2 h (.fn g fst cap) vs = ICall P gl g (fst ++ vs ++ cap) h K2 := (rfl)
@[simp] theorem dcallW_f {K2 : V → Prop} {g : FuncId} {fst cap vs : List V} : dcallW P gl h K2 (.fn g fst cap) vs = ∃ res, PureW P gl g (fst ++ vs ++ cap) h res ∧ K2 res := (rfl)
@[simp] theorem optW_s {y : Y} {K2 : V → Hp → List Nat → Prop} : optW (some y) K2 = K2 y.1 y.2.1 y.2.2 := (rfl)
@[simp] theorem optW_gd {c : Bool} {o : Option Y} {K2 : V → Hp → List Nat → Prop} : optW (gd c o) K2 = (c = true ∧ optW o K2) := by
  cases c <;> simp [gd, optW]
@[simp] theorem eb_s {α β : Type} {v : α} {f : α → Option β} : eb (some v) f = f v := (rfl)
@[simp] theorem gd_t {α : Type} {x : Option α} : gd true x = x := (rfl)
end

attribute [simp] asCall isPure NOp.pure eop evF evsF evpsF evNF V.norm fillO binO unO eqOkB elemsO boundO boundMO maxOkB oneCells V.partOkB V.putOkB gfG
attribute [simp] V.cells V.isCell V.cellsOk V.partOk V.partV V.putOk V.putV seqQ blockQ scopeQ retQ resW oneW maxCap groups eqCells frz V.mapR V.mapRL Sub lk ev evs putF argF V.pure V.pureL V.scalar V.scalarL bytesOf
attribute [simp] wrap_i64 Int.natCast_inj
@[simp] theorem natLeLit (n m : Nat) : ((n : Int) ≤ (no_index (OfNat.ofNat m : Int))) = (n ≤ m) := by
  have : ((OfNat.ofNat m : Int)) = (m : Int) := rfl
  rw [this, Int.ofNat_le]
@[simp] theorem natLtLit (n m : Nat) : ((n : Int) < (no_index (OfNat.ofNat m : Int))) = (n < m) := by
  have : ((OfNat.ofNat m : Int)) = (m : Int) := rfl
  rw [this, Int.ofNat_lt]
@[simp] theorem litLeNat (n m : Nat) : ((no_index (OfNat.ofNat m : Int)) ≤ (n : Int)) = (m ≤ n) := by
  have : ((OfNat.ofNat m : Int)) = (m : Int) := rfl
  rw [this, Int.ofNat_le]
@[simp] theorem litLtNat (n m : Nat) : ((no_index (OfNat.ofNat m : Int)) < (n : Int)) = (m < n) := by
  have : ((OfNat.ofNat m : Int)) = (m : Int) := rfl
  rw [this, Int.ofNat_lt]
@[simp] theorem natEqLit (n m : Nat) : ((n : Int) = (no_index (OfNat.ofNat m : Int))) = (n = m) := by
  have : ((OfNat.ofNat m : Int)) = (m : Int) := rfl
  rw [this]; simp
end Go.Proofs.YtcdfifbabhfknaaDoor
