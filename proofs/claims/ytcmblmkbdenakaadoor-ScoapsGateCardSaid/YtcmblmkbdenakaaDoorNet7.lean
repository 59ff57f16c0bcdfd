/- Netlists: contracts, the shape of a circuit, by the reference. Conditions: none. Levels by rounds that raise them. No program stands in it. Conditions: none. -/
import Derived.Test.YtcmblmkbdenakaaDoorNet4
import Derived.Test.YtcmblmkbdenakaaDoorNet3
set_option linter.unusedSimpArgs false
set_option linter.unusedVariables false
namespace Go.Proofs.YtcmblmkbdenakaaDoor
open Go
end Go.Proofs.YtcmblmkbdenakaaDoor
namespace Go.Proofs.YtcmblmkbdenakaaDoor
open Go
theorem mx_mono {f f' : Nat→Nat} : ∀ {l : List Nat},(∀ x ∈ l,f x ≤ f' x)→mx f l ≤ mx f' l
 | [],_=>Nat.le_refl _
 | y :: l,h=>by
  have h1:=mx_mono (f:=f) (f':=f') (l:=l) fun x hx=>h x (List.mem_cons_of_mem _ hx)
  have h2:=h y List.mem_cons_self
  simp; omega
structure RS (n : Nat) (g : Nat→List Nat) (r : Nat) (o : Nat→Nat) : Prop where
 up : ∀ f,IsLv n g f→∀ j,j < n→o j ≤ f j
 lo : ∀ f,IsLv n g f→∀ j,j < n→min (f j) r ≤ o j
 at' : ∀ j,j < n→o j ≤ mx o (g j)
 rn : ∀ f,IsLv n g f→r ≤ n
structure RR (n : Nat) (g : Nat→List Nat) (r : Nat) (o0 o : Nat→Nat) (a : Bool) (i k : Nat) : Prop where
 p0 : RS n g r o0
 mono : ∀ j,j < n→o0 j ≤ o j
 up : ∀ f,IsLv n g f→∀ j,j < n→o j ≤ f j
 at' : ∀ j,j < n→o j ≤ mx o (g j)
 e : ∀ j,j < i→∀ x ∈ g j,o0 x + 1 ≤ o j
 ek : ∀ x ∈ (g i).take k,o0 x + 1 ≤ o i
 ch : a = true→∃ j,j < n∧o0 j < o j
 un : a = false→∀ j,j < n→o j = o0 j
variable {n r i k : Nat} {g : Nat→List Nat} {o0 o : Nat→Nat} {a : Bool}
theorem RS.start : RS n g 0 (fun _=>0):=⟨fun _ _ _ _=>Nat.zero_le _,fun _ _ _ _=>by simp,fun _ _=>Nat.zero_le _,fun _ _=>Nat.zero_le _⟩
theorem RS.round (h : RS n g r o) : RR n g r o o false 0 0:=⟨h,fun _ _=>Nat.le_refl _,h.up,h.at',fun j hj=>by omega,by simp,fun h=>by simp at h,fun _ _ _=>rfl⟩
theorem RR.keep (hg : ∀ i,i < n→∀ x ∈ g i,x < n) (h : RR n g r o0 o a i k) (hi : i < n) (hk : k < (g i).length) (hle : ¬ o i < o (g i)[k] + 1) : RR n g r o0 o a i (k + 1):=by
 refine ⟨h.p0,h.mono,h.up,h.at',h.e,fun x hx=>?_,h.ch,h.un⟩
 rw [List.take_succ_eq_append_getElem hk,List.mem_append] at hx
 rcases hx with hx | hx
 ·exact h.ek x hx
 ·simp at hx; subst hx
  have:=h.mono _ (hg i hi _ (List.getElem_mem hk))
  omega
theorem RR.raise (hg : ∀ i,i < n→∀ x ∈ g i,x < n) (h : RR n g r o0 o a i k) (hi : i < n) (hk : k < (g i).length) (hlt : o i < o (g i)[k] + 1) : RR n g r o0 (upd1 o i (o (g i)[k] + 1)) true i (k + 1):=by
 have hxg : (g i)[k] ∈ g i:=List.getElem_mem hk
 have hxn:=hg i hi _ hxg
 generalize hx : (g i)[k] = x at *
 have hup : ∀ j,o j ≤ upd1 o i (o x + 1) j:=fun j=>by
  by_cases e : j = i
  ·subst e; simp; omega
  ·rw [upd1_ne _ _ e]; exact Nat.le_refl _
 refine ⟨h.p0,fun j hj=>Nat.le_trans (h.mono j hj) (hup j),fun f hf j hj=>?_,fun j hj=>?_,fun j hj y hy=>?_,fun y hy=>?_,fun _=>⟨i,hi,?_⟩,fun q=>by simp at q⟩
 ·by_cases e : j = i
  ·subst e
   rw [upd1_same,hf j hj]
   have h1:=le_mx (f:=f) hxg
   have h2:=h.up f hf x hxn
   omega
  ·rw [upd1_ne _ _ e]; exact h.up f hf j hj
 ·have hm:=mx_mono (f:=o) (f':=upd1 o i (o x + 1)) (l:=g j) fun y _=>hup y
  by_cases e : j = i
  ·subst e
   rw [upd1_same]
   have h1:=le_mx (f:=o) hxg
   omega
  ·rw [upd1_ne _ _ e]; exact Nat.le_trans (h.at' j hj) hm
 ·exact Nat.le_trans (h.e j hj y hy) (hup j)
 ·rw [List.take_succ_eq_append_getElem hk,List.mem_append] at hy
  rcases hy with hy | hy
  ·exact Nat.le_trans (h.ek y hy) (hup i)
  ·simp at hy
   rw [hx] at hy
   subst hy
   rw [upd1_same]
   have:=h.mono y hxn
   omega
 ·rw [upd1_same]
  have:=h.mono i hi
  omega
theorem RR.node (h : RR n g r o0 o a i k) (hk : (g i).length ≤ k) : RR n g r o0 o a (i + 1) 0:=by
 refine ⟨h.p0,h.mono,h.up,h.at',fun j hj x hx=>?_,by simp,h.ch,h.un⟩
 by_cases e : j = i
 ·subst e; exact h.ek x (by rw [List.take_of_length_le hk]; exact hx)
 ·exact h.e j (by omega) x hx
theorem RR.stable (hg : ∀ i,i < n→∀ x ∈ g i,x < n) (h : RR n g r o0 o false n 0) : IsLv n g o:=by
 intro i hi
 refine Nat.le_antisymm (h.at' i hi) (mx_le fun x hx=>?_)
 rw [h.un rfl x (hg i hi x hx)]
 exact h.e i hi x hx
end Go.Proofs.YtcmblmkbdenakaaDoor
namespace Go.Proofs.YtcmblmkbdenakaaDoor
open Go
structure LR where
 r : Nat
 o : Nat→Nat
structure LI where
 i : Nat
 a : Bool
 o : Nat→Nat
end Go.Proofs.YtcmblmkbdenakaaDoor
namespace Go.Proofs.YtcmblmkbdenakaaDoor
open Go
structure InR (n : Nat) (L : List Nat) : Prop where
 len : L.length = n
 lt : ∀ x ∈ L,x < n
variable {g19 g4 n : Nat} {lv : Nat→Nat} {L : List Nat}
theorem CallO.mono {P : Program} {gl : Fr} {f : FuncId} {args : List V} {h : Hp} {K K' : V→Hp→Prop} (hc : ICallO P gl f args h K) (hk : ∀ v h,K v h→K' v h) : ICallO P gl f args h K':=
 ⟨hc.1,fun G M w rargs h1 h2 h3 h4=>Calls.mono (hc.2 G M w rargs h1 h2 h3 h4) fun _ _ ⟨rv,v,h',G',M',q1,q2,q3⟩=>⟨rv,v,h',G',M',q1,hk _ _ q2,q3⟩⟩
theorem InR.set (h : InR n L) {i x : Nat} (hx : x < n) : InR n (L.set i x):=⟨by simpa using h.len,fun y hy=>by
 rcases List.mem_or_eq_of_mem_set hy with q | q
 ·exact h.lt y q
 ·rw [q]; exact hx⟩
theorem InR.get (h : InR n L) {i : Nat} (hi : i < L.length) : L[i] < n:=h.lt _ (List.getElem_mem hi)
end Go.Proofs.YtcmblmkbdenakaaDoor
