/- New memory taken for data: contracts, and runs that show them. No program stands in it. Conditions: none. -/
import Derived.Test.YtekbgkainigfnaaGreatDoorBase14
namespace Go.Proofs.YtekbgkainigfnaaGreatDoor
open Go
/-- New memory that holds nothing of the old, and leads to these data. -/
def DatK (m : Nat) (res : V) (v : V) (h : Hp) : Prop := v.noG = true ∧ (∀ b k, lk h b = some k → k.noG = true) ∧ VLe (frz h m v) res
section
variable {P : Program} {gl : Fr} {f : FuncId} {args args' : List V} {h : Hp} {res : V} {K : V → Hp → Prop}
theorem PureC.of_dat {m : Nat} (hc : OwnC P gl f args (DatK m res)) : PureC P gl f args res := PureC.of_ownLe m hc fun _ _ k => k.2.2
theorem CallO.dat {m2 : Nat} (m : Nat) (hc : OwnC P gl f args' (DatK m2 res)) (ha : args.map (frz h m) = args') (hk : K res h) : ICallO P gl f args h K :=
  CallO.borrowP m m2 hc ha (fun _ _ k => ⟨k.1, k.2.1, k.2.2⟩) hk
theorem DCallW.dat {gm : Nat → Nat} {d : Option Nat} {m2 : Nat} (m : Nat) (hc : OwnC P gl f args' (DatK m2 res)) (ha : args.map (frz h m) = args') : DCallW P gl gm d f args h res [] (d.toList ++ h.map (·.1)) :=
  .frzn m m2 hc ha fun _ _ k => ⟨k.1, k.2.1, k.2.2⟩
theorem OwnC.dat1 {sz : Nat} {xs : List V} {cap : Option Nat} (hc : OwnC P gl f args (OneB sz xs cap)) (hp : V.pureL xs = true) (hn : V.noGL xs = true) : OwnC P gl f args (DatK 1 (.sl xs cap)) :=
  hc.mono fun v h' ⟨g, h1, h2⟩ => by
    subst h1 h2
    refine ⟨rfl, fun b k hb => ?_, ?_⟩
    · simp only [lk] at hb
      split at hb
      · cases hb; exact hn
      · cases hb
    · rw [frz_ref (es := xs) (sz := sz) (by simp) (by simp), List.drop_zero, List.take_of_length_le (by simp), frz_all _ _ hp]
      exact .refl _
theorem DatK.wide {m : Nat} {res' : V} (hc : OwnC P gl f args (DatK m res)) (hw : VLe res res') : OwnC P gl f args (DatK m res') :=
  hc.mono fun _ _ k => ⟨k.1, k.2.1, k.2.2.trans hw⟩
end
theorem mem_of_lk {α : Type} : ∀ {l : List (Nat × α)} {b : Nat} {k : α}, lk l b = some k → (b, k) ∈ l
  | [], b, k, h => by simp [lk] at h
  | (a, x) :: r, b, k, h => by
    simp only [lk] at h
    split at h
    · rename_i e; cases h; subst e; exact List.mem_cons_self
    · exact List.mem_cons_of_mem _ (mem_of_lk h)
/-- Some blocks of a state. -/
def pickT (H : HH) (S : List Nat) : Hp := S.filterMap fun b => (H b).map fun k => (b, k)
theorem pickT_get (H : HH) : ∀ (S : List Nat) {b : Nat} {k : Blk}, lk (pickT H S) b = some k → H b = some k
  | [], b, k, h => by simp [pickT, lk] at h
  | a :: S, b, k, h => by
    unfold pickT at h
    rw [List.filterMap_cons] at h
    cases ha : H a with
    | none => rw [ha] at h; exact pickT_get H S h
    | some x =>
      rw [ha] at h
      simp only [Option.map_some, lk] at h
      split at h
      · rename_i e; subst e; rw [ha, h]
      · exact pickT_get H S h
def runD (FT : Nat → Option FnI) (gl : Fr) (m d : Nat) (f : FuncId) (args : List V) : Option V :=
  eb (callX FT (exec FT gl m) f args .lf 0) fun z => eb (some (pickT z.2.1.get (reach z.2.1.get 100000 (V.idsL [z.1] []) []))) fun h => gd (z.1.noG && h.all fun p => p.2.noG) (some (frz h d z.1))
theorem OwnC.of_runD {P : Program} {gl : Fr} {FT : Nat → Option FnI} (hFT : FTok P FT) {m d : Nat} {f : FuncId} {args : List V} {res : V} (h : runD FT gl m d f args = some res) : OwnC P gl f args (DatK d res) := by
  unfold runD at h
  obtain ⟨z, h1, h2⟩ := eb_some h
  obtain ⟨hp, h5, h2⟩ := eb_some h2
  cases h5
  obtain ⟨h3, h4⟩ := gd_some h2
  simp only [Option.some.injEq] at h4
  simp only [Bool.and_eq_true, List.all_eq_true] at h3
  obtain ⟨hc, -, hi⟩ := call_ok hFT m f args .lf 0 z.1 z.2.1 z.2.2 h1
  refine ⟨hc, fun G w rargs hg hgl hsz hrel => ?_⟩
  have hl0 : lk ([] : Hp) = (T.lf : T Blk).get := by funext b; simp [lk, T.get]
  refine Calls.mono (hi G M0 w rargs [] hl0 ⟨hg, fun b k hk => (by simp [lk] at hk), fun b b' mb mb' rb h1 => (by cases h1), fun b mb rb h1 => (by cases h1)⟩ hgl hsz hrel (fun b _ _ => rfl)) ?_
  rintro e w' ⟨rv, rfl, hl', G', M', e1, e2, e3, hx, e5⟩
  refine ⟨rv, z.1, _, G', M', rfl, ⟨h3.1, fun b k hb => h3.2 _ (mem_of_lk hb), by rw [h4]; exact .refl _⟩, e2, ⟨e3.gw, fun b k hb => e3.hb b k ?_, e3.inj, e3.mlt⟩, hx⟩
  have := pickT_get _ _ hb
  rw [e1]
  exact this
section
variable {P : Program} {gl : Fr} {n : Nat} {fr : Fr} {h : Hp}
/-- As wpF, but between the first parts of the code blocks may take other numbers, or be taken for data. -/
def XC.wpM (P : Program) (gl : Fr) : Nat → XC → IQ → Fr → Hp → Prop
  | k + 1, .seq a b, Q, fr, h => a.wpF P gl (seqQ (MvP (b.wpM P gl k Q)) Q) fr h
  | _, x, Q, fr, h => x.wpF P gl Q fr h
theorem wpM_zero (x : XC) (Q : IQ) (fr : Fr) (h : Hp) : XC.wpM P gl 0 x Q fr h = x.wpF P gl Q fr h := by cases x <;> rfl
theorem wpM_sound : ∀ (k : Nat) {c : Code} {x : XC}, compX P n c = some x → ∀ {Q : IQ} {fr : Fr} {h : Hp}, x.wpM P gl k Q fr h → IW P n gl c Q fr h
  | 0, c, x, hx, Q, fr, h, hw => wpF_sound hx (by rw [wpM_zero] at hw; exact hw)
  | k + 1, c, x, hx, Q, fr, h, hw => by
    by_cases hs : ∃ a b, c = .seq a b
    · obtain ⟨a, b, rfl⟩ := hs
      simp only [compX] at hx
      split at hx
      · rename_i xa xb ha hb
        cases hx
        simp only [XC.wpM] at hw
        refine IW.seq (IW.mono (wpF_sound ha hw) fun e fr h hq => ?_)
        cases e with
        | normal => exact IW.moved (MvP.mono (fun _ _ q => wpM_sound k hb q) hq)
        | exit id => exact hq
        | goto l => exact hq
        | ret => exact hq
      · cases hx
    · have hx2 : x.wpF P gl Q fr h := by
        cases x with
        | seq xa xb =>
          exfalso
          cases c <;> simp only [compX] at hx
          case seq a b => exact hs ⟨a, b, rfl⟩
          all_goals first | (cases hx; done) | (split at hx <;> cases hx; done) | skip
          case region id ops draw =>
            cases draw
            · simp only [Option.map_eq_some_iff] at hx; obtain ⟨l, -, h2⟩ := hx; cases h2
            · simp only [] at hx; obtain ⟨l, chk, h2, -⟩ := IW.regG (P := P) (gl := gl) (id := id) (fr := fr) (h := h) (Q := Q) hx; cases h2
        | _ => exact hw
      exact wpF_sound hx hx2
theorem PureC.of_WM {f : FuncId} {fi : FnI} {args : List V} {res : V} (k m : Nat) (hb : FiOk P f fi) (hk : Nat.ble args.length fi.n = true) (hw : fi.code.wpM P gl k (retQ fi.rs m res) (argF 0 args) []) : PureC P gl f args res := by
  obtain ⟨fn, body, h1, h2, h3, h4, h5, h6⟩ := hb
  refine PureC.of_body m h1 h2 h3 (by have := Nat.le_of_ble_eq_true hk; omega) h5 ?_
  rw [h4]
  exact wpM_sound k h6 hw
theorem CallO.of_WM {f : FuncId} {fi : FnI} {args : List V} {K : V → Hp → Prop} (k : Nat) (hb : FiOk P f fi) (hk : Nat.ble args.length fi.n = true) (hw : fi.code.wpM P gl k (retO fi.rs K) (argF 0 args) h) : ICallO P gl f args h K := by
  obtain ⟨fn, body, h1, h2, h3, h4, h5, h6⟩ := hb
  refine ICallO.of_body h1 h2 h3 (by have := Nat.le_of_ble_eq_true hk; omega) h5 ?_
  rw [h4]
  exact wpM_sound k h6 hw
theorem OwnC.of_WM {f : FuncId} {fi : FnI} {args : List V} {K : V → Hp → Prop} (k : Nat) (hb : FiOk P f fi) (hk : Nat.ble args.length fi.n = true) (hw : fi.code.wpM P gl k (retO fi.rs K) (argF 0 args) []) : OwnC P gl f args K :=
  OwnC.of_call (CallO.of_WM k hb hk hw)
theorem KM_ex : ∃ f : Program → Fr → Nat → XC → IQ → Fr → Hp → Prop, ∀ P gl k c Q fr h, f P gl k c Q fr h = MvP (c.wpM P gl k Q) fr h := ⟨fun P gl k c Q fr h => MvP (c.wpM P gl k Q) fr h, fun _ _ _ _ _ _ _ => (rfl)⟩
noncomputable def KM : Program → Fr → Nat → XC → IQ → Fr → Hp → Prop := Classical.choose KM_ex
theorem KM_fun (P : Program) (gl : Fr) (k : Nat) (c : XC) (Q : IQ) : KM P gl k c Q = MvP (c.wpM P gl k Q) := by funext fr h; exact Classical.choose_spec KM_ex P gl k c Q fr h
theorem KM.mk {k : Nat} {c : XC} {Q : IQ} (h' : MvP (c.wpM P gl k Q) fr h) : KM P gl k c Q fr h := by rw [KM_fun]; exact h'
@[simp] theorem wpM_seq {k : Nat} {a b : XC} {Q : IQ} : XC.wpM P gl (k + 1) (.seq a b) Q fr h = a.wpF P gl (seqQ (KM P gl k b Q) Q) fr h := by rw [KM_fun]; rfl
@[simp] theorem wpM_1 {a b : XC} {Q : IQ} : XC.wpM P gl 1 (.seq a b) Q fr h = a.wpF P gl (seqQ (KM P gl 0 b Q) Q) fr h := wpM_seq
@[simp] theorem wpM_2 {a b : XC} {Q : IQ} : XC.wpM P gl 2 (.seq a b) Q fr h = a.wpF P gl (seqQ (KM P gl 1 b Q) Q) fr h := wpM_seq
@[simp] theorem wpM_3 {a b : XC} {Q : IQ} : XC.wpM P gl 3 (.seq a b) Q fr h = a.wpF P gl (seqQ (KM P gl 2 b Q) Q) fr h := wpM_seq
@[simp] theorem wpM_0 {x : XC} {Q : IQ} : XC.wpM P gl 0 x Q fr h = KC P gl x Q fr h := by rw [KC_fun, wpM_zero]
end
end Go.Proofs.YtekbgkainigfnaaGreatDoor
