/- Costs: Gate and Pin are what the definition says. Conditions: none. -/
import Derived.Test.YtcmblmkbdenakaaGreatDoorC7
set_option linter.unusedSimpArgs false
set_option linter.unusedVariables false
namespace Go.Proofs.YtcmblmkbdenakaaGreatDoor
open Go
theorem not_01 (x : Nat) : (notN x = 0↔x = 1)∧(notN x = 1↔x = 0):=by
 unfold notN; split <;> omega
theorem logE_fit {k : Nat} {ts : List (Nat × Nat)} (h : widB k ts.length = true) {a : List Nat} (ha : a.length = ts.length) : logE k a = gateN k a:=by
 unfold logE
 rw [if_neg]
 simp only [widB,Bool.and_eq_true,decide_eq_true_eq] at h
 rw [ha]
 omega
theorem gate_eq (k : Nat) (ts : List (Nat × Nat)) (hk : k < 16) (hw : widB k ts.length = true) : gateP k ts = gateD k ts:=by
 have hfit : (decide (k ≤ 15) && widB k ts.length) = true:=by rw [hw]; simp; omega
 rw [gateP_fit hfit]
 unfold gateD
 have key : ∀ (v : Nat) (p : List Nat→Bool),(∀ a,a.length = ts.length→(∀ x ∈ a,x < 3)→decide (logE k a = v) = p a)→(bst ts fun a=>decide (logE k a = v)) = bst ts p:=fun v p h=>bst_congr h
 have hx:=xor_b ts
 have ka0 : (bst ts fun a=>decide (dec 0 1 1 a = 0)) = mnV false ts:=and_0 ts 1 (by omega)
 have ka1 : (bst ts fun a=>decide (dec 0 1 1 a = 1)) = smV true ts:=and_1 ts
 have ko0 : (bst ts fun a=>decide (dec 1 0 0 a = 0)) = smV false ts:=or_0 ts
 have ko1 : (bst ts fun a=>decide (dec 1 0 0 a = 1)) = mnV true ts:=or_1 ts 0 (by omega)
 have tw : ∀ v (f : List Nat→Nat),(∀ a,a.length = ts.length→logE k a = f a)→(bst ts fun a=>decide (logE k a = v)) = bst ts fun a=>decide (f a = v):=fun v f h=>bst_congr fun a h1 _=>by rw [h a h1]
 have tn : ∀ v w (f : List Nat→Nat),(∀ a,a.length = ts.length→logE k a = notN (f a))→(v = 0∧w = 1∨v = 1∧w = 0)→(bst ts fun a=>decide (logE k a = v)) = bst ts fun a=>decide (f a = w):=fun v w f h hv=>bst_congr fun a h1 _=>by
  rw [h a h1]
  obtain ⟨n1,n2⟩:=not_01 (f a)
  rcases hv with ⟨rfl,rfl⟩ | ⟨rfl,rfl⟩
  ·exact decide_eq_decide.2 n1
  ·exact decide_eq_decide.2 n2
 have hE:=fun (a : List Nat) (ha : a.length = ts.length)=>logE_fit hw ha
 have hc : k = 0∨k = 1∨k = 2∨k = 3∨k = 4∨k = 5∨k = 6∨k = 7∨k = 8∨k = 9∨k = 10∨k = 11∨k = 12∨k = 13∨k = 14∨k = 15:=by omega
 rcases hc with rfl | rfl | rfl | rfl | rfl | rfl | rfl | rfl | rfl | rfl | rfl | rfl | rfl | rfl | rfl | rfl
 ·rfl
 ·rfl
 ·rfl
 ·rfl
 ·rfl
 ·rw [tw 0 (dec 0 1 1) (fun a h=>(hE a h).trans rfl),tw 1 (dec 0 1 1) (fun a h=>(hE a h).trans rfl),ka0,ka1]; rfl
 ·rw [tn 0 1 (dec 0 1 1) (fun a h=>(hE a h).trans rfl) (.inl ⟨rfl,rfl⟩),tn 1 0 (dec 0 1 1) (fun a h=>(hE a h).trans rfl) (.inr ⟨rfl,rfl⟩),ka0,ka1]; rfl
 ·rw [tw 0 (dec 1 0 0) (fun a h=>(hE a h).trans rfl),tw 1 (dec 1 0 0) (fun a h=>(hE a h).trans rfl),ko0,ko1]; rfl
 ·rw [tn 0 1 (dec 1 0 0) (fun a h=>(hE a h).trans rfl) (.inl ⟨rfl,rfl⟩),tn 1 0 (dec 1 0 0) (fun a h=>(hE a h).trans rfl) (.inr ⟨rfl,rfl⟩),ko0,ko1]; rfl
 ·rw [tw 0 (xorN 0) (fun a h=>(hE a h).trans rfl),tw 1 (xorN 0) (fun a h=>(hE a h).trans rfl),hx]; rfl
 ·rw [tn 0 1 (xorN 0) (fun a h=>(hE a h).trans rfl) (.inl ⟨rfl,rfl⟩),tn 1 0 (xorN 0) (fun a h=>(hE a h).trans rfl) (.inr ⟨rfl,rfl⟩),hx]; rfl
 ·rfl
 ·rfl
 ·rfl
 ·rfl
 ·rfl
theorem mnV_mono (b : Bool) : ∀ {ts us : List (Nat × Nat)},leT ts us→mnV b ts ≤ mnV b us
 | [],[],_=>Nat.le_refl _
 | [],_ :: _,h=>h.elim
 | _ :: _,[],h=>h.elim
 | t :: ts,u :: us,⟨h1,h2,h3⟩=>by
  have:=mnV_mono b h3
  have hb : tv b t ≤ tv b u:=by cases b; exact h1; exact h2
  unfold mnV; omega
theorem gateD_mono (k : Nat) {ts us : List (Nat × Nat)} (h : leT ts us) : (gateD k ts).1 ≤ (gateD k us).1∧(gateD k ts).2 ≤ (gateD k us).2:=by
 unfold gateD
 (repeat' split) <;> first | exact ⟨Nat.le_refl _,Nat.le_refl _⟩ | exact ⟨pls_mono (mnV_mono _ h) (Nat.le_refl _),pls_mono (mnV_mono _ h) (Nat.le_refl _)⟩ | exact ⟨pls_mono (bst_mono h _) (Nat.le_refl _),pls_mono (bst_mono h _) (Nat.le_refl _)⟩
end Go.Proofs.YtcmblmkbdenakaaGreatDoor
