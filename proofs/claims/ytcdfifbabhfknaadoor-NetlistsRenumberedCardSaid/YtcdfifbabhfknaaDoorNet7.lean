/- Netlists: contracts, the shape of a circuit, by the reference. Conditions: none. Levels by rounds that raise them. No program stands in it. Conditions: none. -/
import Derived.Test.YtcdfifbabhfknaaDoorNet4
import Derived.Test.YtcdfifbabhfknaaDoorNet3
set_option linter.unusedSimpArgs false
set_option linter.unusedVariables false
namespace Go.Proofs.YtcdfifbabhfknaaDoor
open Go
end Go.Proofs.YtcdfifbabhfknaaDoor
namespace Go.Proofs.YtcdfifbabhfknaaDoor
open Go
theorem mx_mono {f f' : Nat→Nat} : ∀ {l : List Nat},(∀ x ∈ l,f x ≤ f' x)→mx f l ≤ mx f' l
 | [],_=>Nat.le_refl _
 | y :: l,h=>by
  have h1:=mx_mono (f:=f) (f':=f') (l:=l) fun x hx=>h x (List.mem_cons_of_mem _ hx)
  have h2:=h y List.mem_cons_self
  simp; omega
structure RS (n : Nat) (g : Nat→List Nat) (r : Nat) (o : Nat→Nat) : Prop where
 up : ∀ f,IsLv n g f→∀ j,j < n→o j ≤ f j
 lo : ∀ f,IsLv n g f→∀ j,j < n→min (f j) r ≤ o j
 at' : ∀ j,j < n→o j ≤ mx o (g j)
 rn : ∀ f,IsLv n g f→r ≤ n
structure RR (n : Nat) (g : Nat→List Nat) (r : Nat) (o0 o : Nat→Nat) (a : Bool) (i k : Nat) : Prop where
 p0 : RS n g r o0
 mono : ∀ j,j < n→o0 j ≤ o j
 up : ∀ f,IsLv n g f→∀ j,j < n→o j ≤ f j
 at' : ∀ j,j < n→o j ≤ mx o (g j)
 e : ∀ j,j < i→∀ x ∈ g j,o0 x + 1 ≤ o j
 ek : ∀ x ∈ (g i).take k,o0 x + 1 ≤ o i
 ch : a = true→∃ j,j < n∧o0 j < o j
 un : a = false→∀ j,j < n→o j = o0 j
variable {n r i k : Nat} {g : Nat→List Nat} {o0 o : Nat→Nat} {a : Bool}
theorem RS.start : RS n g 0 (fun _=>0):=⟨fun _ _ _ _=>Nat.zero_le _,fun _ _ _ _=>by simp,fun _ _=>Nat.zero_le _,fun _ _=>Nat.zero_le _⟩
theorem RS.round (h : RS n g r o) : RR n g r o o false 0 0:=⟨h,fun _ _=>Nat.le_refl _,h.up,h.at',fun j hj=>by omega,by simp,fun h=>by simp at h,fun _ _ _=>rfl⟩
theorem RR.keep (hg : ∀ i,i < n→∀ x ∈ g i,x < n) (h : RR n g r o0 o a i k) (hi : i < n) (hk : k < (g i).length) (hle : ¬ o i < o (g i)[k] + 1) : RR n g r o0 o a i (k + 1):=by
 refine ⟨h.p0,h.mono,h.up,h.at',h.e,fun x hx=>?_,h.ch,h.un⟩
 rw [List.take_succ_eq_append_getElem hk,List.mem_append] at hx
 rcases hx with hx | hx
 ·exact h.ek x hx
 ·simp at hx; subst hx
  have:=h.mono _ (hg i hi _ (List.getElem_mem hk))
  omega
theorem RR.raise (hg : ∀ i,i < n→∀ x ∈ g i,x < n) (h : RR n g r o0 o a i k) (hi : i < n) (hk : k < (g i).length) (hlt : o i < o (g i)[k] + 1) : RR n g r o0 (upd1 o i (o (g i)[k] + 1)) true i (k + 1):=by
 have hxg : (g i)[k] ∈ g i:=List.getElem_mem hk
 have hxn:=hg i hi _ hxg
 generalize hx : (g i)[k] = x at *
 have hup : ∀ j,o j ≤ upd1 o i (o x + 1) j:=fun j=>by
  by_cases e : j = i
  ·subst e; simp; omega
  ·rw [upd1_ne _ _ e]; exact Nat.le_refl _
 refine ⟨h.p0,fun j hj=>Nat.le_trans (h.mono j hj) (hup j),fun f hf j hj=>?_,fun j hj=>?_,fun j hj y hy=>?_,fun y hy=>?_,fun _=>⟨i,hi,?_⟩,fun q=>by simp at q⟩
 ·by_cases e : j = i
  ·subst e
   rw [upd1_same,hf j hj]
   have h1:=le_mx (f:=f) hxg
   have h2:=h.up f hf x hxn
   omega
  ·rw [upd1_ne _ _ e]; exact h.up f hf j hj
 ·have hm:=mx_mono (f:=o) (f':=upd1 o i (o x + 1)) (l:=g j) fun y _=>hup y
  by_cases e : j = i
  ·subst e
   rw [upd1_same]
   have h1:=le_mx (f:=o) hxg
   omega
  ·rw [upd1_ne _ _ e]; exact Nat.le_trans (h.at' j hj) hm
 ·exact Nat.le_trans (h.e j hj y hy) (hup j)
 ·rw [List.take_succ_eq_append_getElem hk,List.mem_append] at hy
  rcases hy with hy | hy
  ·exact Nat.le_trans (h.ek y hy) (hup i)
  ·simp at hy
   rw [hx] at hy
   subst hy
   rw [upd1_same]
   have:=h.mono y hxn
   omega
 ·rw [upd1_same]
  have:=h.mono i hi
  omega
theorem RR.node (h : RR n g r o0 o a i k) (hk : (g i).length ≤ k) : RR n g r o0 o a (i + 1) 0:=by
 refine ⟨h.p0,h.mono,h.up,h.at',fun j hj x hx=>?_,by simp,h.ch,h.un⟩
 by_cases e : j = i
 ·subst e; exact h.ek x (by rw [List.take_of_length_le hk]; exact hx)
 ·exact h.e j (by omega) x hx
theorem RR.stable (hg : ∀ i,i < n→∀ x ∈ g i,x < n) (h : RR n g r o0 o false n 0) : IsLv n g o:=by
 intro i hi
 refine Nat.le_antisymm (h.at' i hi) (mx_le fun x hx=>?_)
 rw [h.un rfl x (hg i hi x hx)]
 exact h.e i hi x hx
end Go.Proofs.YtcdfifbabhfknaaDoor
namespace Go.Proofs.YtcdfifbabhfknaaDoor
open Go
structure LR where
 r : Nat
 o : Nat→Nat
structure LI where
 i : Nat
 a : Bool
 o : Nat→Nat
theorem errs_zero : ∀ {l : List Int} {t : Int},errs l t = 0→(∀ x ∈ l,x = 0)∧t = 0
 | [],t,h=>⟨by simp,h⟩
 | x :: l,t,h=>by
  simp only [errs] at h
  split at h
  ·rename_i hx; exact absurd h hx
  ·rename_i hx
   have hx0 : x = 0:=Classical.not_not.1 hx
   obtain ⟨h1,h2⟩:=errs_zero h
   exact ⟨fun y hy=>by rcases List.mem_cons.1 hy with rfl | hy; exact hx0; exact h1 y hy,h2⟩
theorem sh_zero {c : Ci} (h : shE c = 0) : shBig c = false∧c.s.length = c.n.length∧(∀ x ∈ c.n,ndE c x = 0)∧nmBad [] c.s = false∧(∀ m ∈ c.m,mdE c m = 0)∧c.o.any (outB c.n.length) = false:=by
 unfold shE at h
 split at h
 ·cases h
 ·rename_i h1
  split at h
  ·cases h
  ·rename_i h2
   obtain ⟨h3,h4⟩:=errs_zero h
   unfold shS at h4
   split at h4
   ·cases h4
   ·rename_i h5
    obtain ⟨h6,h7⟩:=errs_zero h4
    unfold shO at h7
    split at h7
    ·cases h7
    ·rename_i h8
     exact ⟨by simpa using h1,Classical.not_not.1 h2,fun x hx=>h3 _ (List.mem_map_of_mem hx),by simpa using h5,fun x hx=>h6 _ (List.mem_map_of_mem hx),by simpa using h8⟩
theorem nd_zero {c : Ci} {x : Nd} (h : ndE c x = 0) : x.k ≤ 15∧widB x.k x.i.length = true∧x.i.any (outB c.n.length) = false∧(x.k = 13→x.i.any (fun v=>!decide ((c.nd v.toNat).k = 12)) = false)∧bitB c x = true:=by
 unfold ndE at h
 split at h
 ·cases h
 ·rename_i h1
  split at h
  ·cases h
  ·rename_i h2
   split at h
   ·cases h
   ·rename_i h3
    split at h
    ·cases h
    ·rename_i h4
     split at h
     ·cases h
     ·rename_i h5
      exact ⟨by omega,by simpa using h2,by simpa using h3,fun hk=>by simpa [hk] using h4,by simpa using h5⟩
theorem sh_val {c : Ci} (hwf : c.wf) (h : shE c = 0) : c.val:=by
 obtain ⟨h1,h2,h3,h4,h5,h6⟩:=sh_zero h
 refine ⟨fun j hj x hx=>?_,fun j hj=>?_⟩
 ·rw [c.nd_get hj] at hx
  have:=(nd_zero (h3 _ (List.getElem_mem hj))).2.2.1
  have:=List.any_eq_false.1 this x hx
  simp [outB] at this
  omega
 ·rw [c.nd_get hj]
  obtain ⟨q1,q2,-⟩:=nd_zero (h3 _ (List.getElem_mem hj))
  exact widB_le (hwf.k _ (List.getElem_mem hj)).1 q1 q2
theorem sh_len {c : Ci} (h : shE c = 0) : c.n.length ≤ 16384∧c.s.length = c.n.length∧c.m.length ≤ 16∧c.o.length ≤ 16384:=by
 obtain ⟨h1,h2,-⟩:=sh_zero h
 simp [shBig] at h1
 omega
theorem levelsW_c (c : Ci) (hwf : c.wf) : PureC Tryd.prog gl0 15 [c.v] (lvRes c (shE c)):=
 levels_c c _ (shape_c c hwf) (sh_val hwf) (fun h=>by have:=sh_len h; omega)
end Go.Proofs.YtcdfifbabhfknaaDoor
namespace Go.Proofs.YtcdfifbabhfknaaDoor
open Go
structure InR (n : Nat) (L : List Nat) : Prop where
 len : L.length = n
 lt : ∀ x ∈ L,x < n
variable {g19 g4 n : Nat} {lv : Nat→Nat} {L : List Nat}
theorem CallO.mono {P : Program} {gl : Fr} {f : FuncId} {args : List V} {h : Hp} {K K' : V→Hp→Prop} (hc : ICallO P gl f args h K) (hk : ∀ v h,K v h→K' v h) : ICallO P gl f args h K':=
 ⟨hc.1,fun G M w rargs h1 h2 h3 h4=>Calls.mono (hc.2 G M w rargs h1 h2 h3 h4) fun _ _ ⟨rv,v,h',G',M',q1,q2,q3⟩=>⟨rv,v,h',G',M',q1,hk _ _ q2,q3⟩⟩
theorem natsV_get (L : List Nat) (i : Nat) (h : i < (natsV L).length) : (natsV L)[i] = .int .i64 ((L[i]'(by simpa using h) : Nat) : Int):=by simp [natsV,natV]
theorem InR.set (h : InR n L) {i x : Nat} (hx : x < n) : InR n (L.set i x):=⟨by simpa using h.len,fun y hy=>by
 rcases List.mem_or_eq_of_mem_set hy with q | q
 ·exact h.lt y q
 ·rw [q]; exact hx⟩
theorem InR.get (h : InR n L) {i : Nat} (hi : i < L.length) : L[i] < n:=h.lt _ (List.getElem_mem hi)
theorem addN {a b p : Nat} (h : a + b = p) (hp : p < 1000000000000000000) : IntKind.i64.wrap ((a : Int) + (b : Int)) = (p : Int):=by rw [wrap_i64] <;> omega
theorem subN {a b p : Nat} (h : a = b + p) (hp : a < 1000000000000000000) : IntKind.i64.wrap ((a : Int) - (b : Int)) = (p : Int):=by rw [wrap_i64] <;> omega
end Go.Proofs.YtcdfifbabhfknaaDoor
