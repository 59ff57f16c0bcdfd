/- New memory taken for data: contracts, and runs that show them. No program stands in it. Conditions: none. -/
import Derived.Test.YtcmapbecfpcnfaaDoorBase14
namespace Go.Proofs.YtcmapbecfpcnfaaDoor
open Go
def DatK (m : Nat) (res : V) (v : V) (h : Hp) : Prop:=v.noG = true∧(∀ b k,lk h b = some k→k.noG = true)∧VLe (frz h m v) res
section
variable {P : Program} {gl : Fr} {f : FuncId} {args args' : List V} {h : Hp} {res : V} {K : V→Hp→Prop}
theorem CallO.dat {m2 : Nat} (m : Nat) (hc : OwnC P gl f args' (DatK m2 res)) (ha : args.map (frz h m) = args') (hk : K res h) : ICallO P gl f args h K:=
  CallO.borrowP m m2 hc ha (fun _ _ k=>⟨k.1,k.2.1,k.2.2⟩) hk
theorem DCallW.dat {gm : Nat→Nat} {d : Option Nat} {m2 : Nat} (m : Nat) (hc : OwnC P gl f args' (DatK m2 res)) (ha : args.map (frz h m) = args') : DCallW P gl gm d f args h res [] (d.toList ++ h.map (·.1)):=
  .frzn m m2 hc ha fun _ _ k=>⟨k.1,k.2.1,k.2.2⟩
theorem DatK.wide {m : Nat} {res' : V} (hc : OwnC P gl f args (DatK m res)) (hw : VLe res res') : OwnC P gl f args (DatK m res'):=
  hc.mono fun _ _ k=>⟨k.1,k.2.1,k.2.2.trans hw⟩
end
theorem mem_of_lk {α : Type} : ∀ {l : List (Nat × α)} {b : Nat} {k : α},lk l b = some k→(b,k) ∈ l
  | [],b,k,h=>by simp [lk] at h
  | (a,x) :: r,b,k,h=>by
    simp only [lk] at h
    split at h
    · rename_i e; cases h; subst e; exact List.mem_cons_self
    · exact List.mem_cons_of_mem _ (mem_of_lk h)
def pickT (H : HH) (S : List Nat) : Hp:=S.filterMap fun b=>(H b).map fun k=>(b,k)
theorem pickT_get (H : HH) : ∀ (S : List Nat) {b : Nat} {k : Blk},lk (pickT H S) b = some k→H b = some k
  | [],b,k,h=>by simp [pickT,lk] at h
  | a :: S,b,k,h=>by
    unfold pickT at h
    rw [List.filterMap_cons] at h
    cases ha : H a with
    | none=>rw [ha] at h; exact pickT_get H S h
    | some x=>
      rw [ha] at h
      simp only [Option.map_some,lk] at h
      split at h
      · rename_i e; subst e; rw [ha,h]
      · exact pickT_get H S h
def runD (FT : Nat→Option FnI) (gl : Fr) (m d : Nat) (f : FuncId) (args : List V) : Option V:=
  eb (callX FT (exec FT gl m) f args .lf 0) fun z=>eb (some (pickT z.2.1.get (reach z.2.1.get 100000 (V.idsL [z.1] []) []))) fun h=>gd (z.1.noG && h.all fun p=>p.2.noG) (some (frz h d z.1))
theorem OwnC.of_runD {P : Program} {gl : Fr} {FT : Nat→Option FnI} (hFT : FTok P FT) {m d : Nat} {f : FuncId} {args : List V} {res : V} (h : runD FT gl m d f args = some res) : OwnC P gl f args (DatK d res):=by
  unfold runD at h
  obtain ⟨z,h1,h2⟩:=eb_some h
  obtain ⟨hp,h5,h2⟩:=eb_some h2
  cases h5
  obtain ⟨h3,h4⟩:=gd_some h2
  simp only [Option.some.injEq] at h4
  simp only [Bool.and_eq_true,List.all_eq_true] at h3
  obtain ⟨hc,-,hi⟩:=call_ok hFT m f args .lf 0 z.1 z.2.1 z.2.2 h1
  refine ⟨hc,fun G w rargs hg hgl hsz hrel=>?_⟩
  have hl0 : lk ([] : Hp) = (T.lf : T Blk).get:=by funext b; simp [lk,T.get]
  refine Calls.mono (hi G M0 w rargs [] hl0 ⟨hg,fun b k hk=>(by simp [lk] at hk),fun b b' mb mb' rb h1=>(by cases h1),fun b mb rb h1=>(by cases h1)⟩ hgl hsz hrel (fun b _ _=>rfl)) ?_
  rintro e w' ⟨rv,rfl,hl',G',M',e1,e2,e3,hx,e5⟩
  refine ⟨rv,z.1,_,G',M',rfl,⟨h3.1,fun b k hb=>h3.2 _ (mem_of_lk hb),by rw [h4]; exact .refl _⟩,e2,⟨e3.gw,fun b k hb=>e3.hb b k ?_,e3.inj,e3.mlt⟩,hx⟩
  have:=pickT_get _ _ hb
  rw [e1]
  exact this
section
variable {P : Program} {gl : Fr} {n : Nat} {fr : Fr} {h : Hp}
def XC.wpM (P : Program) (gl : Fr) : Nat→XC→IQ→Fr→Hp→Prop
  | k + 1,.seq a b,Q,fr,h=>a.wpF P gl (seqQ (MvP (b.wpM P gl k Q)) Q) fr h
  | _,x,Q,fr,h=>x.wpF P gl Q fr h
theorem wpM_zero (x : XC) (Q : IQ) (fr : Fr) (h : Hp) : XC.wpM P gl 0 x Q fr h = x.wpF P gl Q fr h:=by cases x <;> rfl
theorem KM_ex : ∃ f : Program→Fr→Nat→XC→IQ→Fr→Hp→Prop,∀ P gl k c Q fr h,f P gl k c Q fr h = MvP (c.wpM P gl k Q) fr h:=⟨fun P gl k c Q fr h=>MvP (c.wpM P gl k Q) fr h,fun _ _ _ _ _ _ _=>(rfl)⟩
noncomputable def KM : Program→Fr→Nat→XC→IQ→Fr→Hp→Prop:=Classical.choose KM_ex
theorem KM_fun (P : Program) (gl : Fr) (k : Nat) (c : XC) (Q : IQ) : KM P gl k c Q = MvP (c.wpM P gl k Q):=by funext fr h; exact Classical.choose_spec KM_ex P gl k c Q fr h
theorem KM.mk {k : Nat} {c : XC} {Q : IQ} (h' : MvP (c.wpM P gl k Q) fr h) : KM P gl k c Q fr h:=by rw [KM_fun]; exact h'
@[simp] theorem wpM_seq {k : Nat} {a b : XC} {Q : IQ} : XC.wpM P gl (k + 1) (.seq a b) Q fr h = a.wpF P gl (seqQ (KM P gl k b Q) Q) fr h:=by rw [KM_fun]; rfl
@[simp] theorem wpM_1 {a b : XC} {Q : IQ} : XC.wpM P gl 1 (.seq a b) Q fr h = a.wpF P gl (seqQ (KM P gl 0 b Q) Q) fr h:=wpM_seq
@[simp] theorem wpM_2 {a b : XC} {Q : IQ} : XC.wpM P gl 2 (.seq a b) Q fr h = a.wpF P gl (seqQ (KM P gl 1 b Q) Q) fr h:=wpM_seq
@[simp] theorem wpM_3 {a b : XC} {Q : IQ} : XC.wpM P gl 3 (.seq a b) Q fr h = a.wpF P gl (seqQ (KM P gl 2 b Q) Q) fr h:=wpM_seq
@[simp] theorem wpM_0 {x : XC} {Q : IQ} : XC.wpM P gl 0 x Q fr h = KC P gl x Q fr h:=by rw [KC_fun,wpM_zero]
end
end Go.Proofs.YtcmapbecfpcnfaaDoor
