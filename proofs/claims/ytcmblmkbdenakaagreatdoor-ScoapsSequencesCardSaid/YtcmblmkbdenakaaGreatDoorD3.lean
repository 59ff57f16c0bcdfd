/- Observability: the least cost over pins, in an order and by rounds; control evaluated in an order. No program stands in it. Conditions: none. -/
import Derived.Test.YtcmblmkbdenakaaGreatDoorD2
import Derived.Test.YtcmblmkbdenakaaGreatDoorI1
set_option linter.unusedSimpArgs false
set_option linter.unusedVariables false
namespace Go.Proofs.YtcmblmkbdenakaaGreatDoor
open Go
def keeps (c : Ci) (P : Nat→Nat→Nat) (m k : Nat) : Prop:=∀ i,i < (c.nd m).i.length→((c.nd m).i.getD i 0).toNat = k→nev ≤ P m i
end Go.Proofs.YtcmblmkbdenakaaGreatDoor
namespace Go.Proofs.YtcmblmkbdenakaaGreatDoor
open Go
def dnN (c : Ci) (n : Nat) : Nat:=((c.nd n).i.getD 0 0).toNat
theorem nd_wid {c : Ci} (h : shE c = 0) {n : Nat} (hn : n < c.n.length) : (c.nd n).k ≤ 15∧widB (c.nd n).k (c.nd n).i.length = true:=by
 have h1:=(sh_zero h).2.2.1 (c.nd n) (by rw [c.nd_get hn]; exact List.getElem_mem hn)
 exact ⟨(nd_zero h1).1,(nd_zero h1).2.1⟩
theorem wid_src {k : Int} {n : Nat} (h0 : 0 ≤ k) (h9 : k ≤ 15) (hk : combB k = false) (h : widB k n = true) : (k = 14∧n = 1)∨(n = 0∧k ≠ 14):=by
 have hc : k = 0∨k = 14∨k = 15:=by
  simp [combB] at hk; omega
 have e1 : kLo 0 = 0∧kHi 0 = 0∧kLo 14 = 1∧kHi 14 = 1∧kLo 15 = 0∧kHi 15 = 0:=by decide
 obtain ⟨a1,a2,a3,a4,a5,a6⟩:=e1
 unfold widB at h
 rcases hc with rfl | rfl | rfl
 ·rw [a1,a2] at h; simp at h; exact .inr ⟨by omega,by decide⟩
 ·rw [a3,a4] at h; simp at h; exact .inl ⟨rfl,by omega⟩
 ·rw [a5,a6] at h; simp at h; exact .inr ⟨by omega,by decide⟩
theorem nd_src {c : Ci} (hwf : c.wf) (h : shE c = 0) {n : Nat} (hn : n < c.n.length) (hk : combB (c.nd n).k = false) : ((c.nd n).k = 14∧(c.nd n).i.length = 1)∨((c.nd n).i.length = 0∧(c.nd n).k ≠ 14):=
 wid_src (hwf.k _ (by rw [c.nd_get hn]; exact List.getElem_mem hn)).1 (nd_wid h hn).1 hk (nd_wid h hn).2
theorem lv_read {c : Ci} (hac : acyc c) {m k : Nat} (hm : m < c.n.length) (h : k ∈ c.g m) : lvOf c k < lvOf c m:=by
 have:=hac.lv m hm
 rw [this]; exact le_mx h
theorem Ord.mem {c : Ci} {L : List Nat} (h : Ord c L) {x : Nat} : x ∈ L↔x < c.n.length:=
 ⟨h.r.lt x,nodup_full (lex_nodup h.p) h.r.lt (by have:=h.r.len; omega) x⟩
theorem insC_len (f : Nat→Nat × Nat) (y : Nd) : (insC f y).length = y.i.length:=by simp [insC]
end Go.Proofs.YtcmblmkbdenakaaGreatDoor
namespace Go.Proofs.YtcmblmkbdenakaaGreatDoor
open Go
noncomputable def ctl (c : Ci) : Nat→Nat × Nat:=ctL c (fun _=>none) (ordL c)
theorem chk_sh {c : Ci} (h : chkE c = 0) : shE c = 0∧acyc c:=by
 unfold chkE at h
 split at h
 ·rename_i q; exact absurd h q
 ·rename_i q
  split at h
  ·rename_i q2; exact ⟨Classical.not_not.1 q,q2⟩
  ·cases h
theorem val_mem {c : Ci} (hv : c.val) {y : Nd} (hy : y ∈ c.n) : y.i.length ≤ 16∧∀ j ∈ y.i,0 ≤ j∧j < c.n.length:=by
 obtain ⟨i,hi,rfl⟩:=List.getElem_of_mem hy
 have h1:=hv.l i hi
 have h2:=hv.i i hi
 rw [c.nd_get hi] at h1 h2
 exact ⟨h1,h2⟩
end Go.Proofs.YtcmblmkbdenakaaGreatDoor
