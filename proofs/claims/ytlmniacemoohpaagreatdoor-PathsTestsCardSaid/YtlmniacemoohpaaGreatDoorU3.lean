/- Faults: dependence of nets; bridged nets. Conditions: none. -/
import Derived.Test.YtlmniacemoohpaaGreatDoorJ7
set_option linter.unusedSimpArgs false
set_option linter.unusedVariables false
namespace Go.Proofs.YtlmniacemoohpaaGreatDoor
open Go
def dep (c : Ci) : Nat→Nat→Nat→Bool
 | 0,a,b=>decide (a = b)
 | k + 1,a,b=>decide (a = b) || (c.g a).any fun x=>dep c k x b
theorem nd_kw {c : Ci} (hg : c.good) {n : Nat} (hn : n < c.n.length) : 0 ≤ (c.nd n).k∧(c.nd n).k ≤ 14∧widB (c.nd n).k (c.nd n).i.length = true:=by
 have hm:=List.getElem_mem hn
 have h1:=nd_zero ((sh_zero hg.sh).2.2.1 _ hm)
 have h2:=hg.wf.k _ hm
 have h3:=hg.k _ hm
 rw [c.nd_get hn]
 refine ⟨h2.1,?_,h1.2.1⟩
 have:=h1.1
 omega
theorem nd_in {c : Ci} (hg : c.good) {n : Nat} (hn : n < c.n.length) (hk : (c.nd n).k = 0) : (c.nd n).i = []:=by
 have hw:=(nd_kw hg hn).2.2
 rw [hk] at hw
 have e1 : kHi 0 = 0:=rfl
 simp only [widB,e1,Bool.and_eq_true,decide_eq_true_eq] at hw
 exact List.length_eq_zero_iff.1 (by omega)
theorem g_nd {c : Ci} (hg : c.good) {n : Nat} (hn : n < c.n.length) (hk : (c.nd n).k ≠ 14) : c.g n = (c.nd n).i.map Int.toNat:=by
 obtain ⟨h0,h1,-⟩:=nd_kw hg hn
 unfold Ci.g
 by_cases h : (c.nd n).k = 0
 ·rw [nd_in hg hn h]; simp
 ·rw [if_pos (by simp only [combB,decide_eq_true_eq]; omega)]
structure Ft.okB (c : Ci) (f : Ft) : Prop where
 m : f.m = 2∨f.m = 3
 n : f.n < c.n.length
 o : f.o < c.n.length
 q : f.q = 0
 ne : f.n ≠ f.o
 lt : f.m = 2→f.n ≤ f.o
 v : f.v ≤ 1
 v3 : f.m = 3→f.v = 0
 k1 : (c.nd f.n).k ≠ 12
 k2 : (c.nd f.o).k ≠ 12
 d1 : dep c (c.n.length + 1) f.n f.o = false
 d2 : dep c (c.n.length + 1) f.o f.n = false
end Go.Proofs.YtlmniacemoohpaaGreatDoor
namespace Go.Proofs.YtlmniacemoohpaaGreatDoor
open Go
def le2 (u v : Nat) : Prop:=u = v∨u = 2
def leL : List Nat→List Nat→Prop
 | [],[]=>True
 | a :: l,b :: r=>le2 a b∧leL l r
 | _,_=>False
def Pt.le (p q : Pt) : Prop:=leL p.i q.i∧leL p.s q.s
end Go.Proofs.YtlmniacemoohpaaGreatDoor
namespace Go.Proofs.YtlmniacemoohpaaGreatDoor
open Go
inductive Rch (g : Nat→List Nat) : Nat→Nat→Prop
 | rfl (a : Nat) : Rch g a a
 | head {a x b : Nat} (hx : x ∈ g a) (h : Rch g x b) : Rch g a b
theorem Rch.tail {g : Nat→List Nat} {a x b : Nat} (h : Rch g a x) (hb : b ∈ g x) : Rch g a b:=by
 induction h with
 | rfl a=>exact .head hb (.rfl _)
 | head hx _ ih=>exact .head hx (ih hb)
theorem Rch.closed {g : Nat→List Nat} {S : Nat→Prop} (hS : ∀ x,S x→∀ y ∈ g x,S y) {a b : Nat} (h : Rch g a b) : S a→S b:=by
 induction h with
 | rfl a=>exact id
 | head hx _ ih=>exact fun ha=>ih (hS _ ha _ hx)
theorem rch_of_dep {c : Ci} : ∀ (k : Nat) {a b : Nat},dep c k a b = true→Rch c.g a b
 | 0,a,b,h=>by simp only [dep,decide_eq_true_eq] at h; subst h; exact .rfl _
 | k + 1,a,b,h=>by
  simp only [dep,Bool.or_eq_true,decide_eq_true_eq,List.any_eq_true] at h
  rcases h with rfl | ⟨x,hx,h⟩
  ·exact .rfl _
  ·exact .head hx (rch_of_dep k h)
theorem dep_of_rch {c : Ci} (hg : c.good) {a b : Nat} (h : Rch c.g a b) : ∀ k,lvOf c a < k→a < c.n.length→dep c k a b = true:=by
 have hlv : IsLv c.n.length c.g (lvOf c):=hg.ac.lv
 induction h with
 | rfl a=>intro k _ _; cases k <;> simp [dep]
 | @head a x b hx _ ih=>
  intro k hk ha
  obtain ⟨k,rfl⟩ : ∃ j,k = j + 1:=⟨k - 1,by omega⟩
  have h1:=hlv a ha
  have h2:=le_mx (f:=lvOf c) hx
  rw [dep,Bool.or_eq_true,List.any_eq_true]
  exact .inr ⟨x,hx,ih k (by omega) (hg.val.g a ha x hx)⟩
theorem dep_iff {c : Ci} (hg : c.good) {a b : Nat} (ha : a < c.n.length) : dep c (c.n.length + 1) a b = true↔Rch c.g a b:=by
 have hlv : IsLv c.n.length c.g (lvOf c):=hg.ac.lv
 have:=hlv.lt hg.val.g a ha
 exact ⟨rch_of_dep _,fun h=>dep_of_rch hg h _ (by omega) ha⟩
def boolsV (n : Nat) (S : Nat→Bool) : List V:=tab n fun i=>.bool (S i)
@[simp] theorem boolsV_length (n : Nat) (S : Nat→Bool) : (boolsV n S).length = n:=by simp [boolsV]
theorem boolsV_get (n : Nat) (S : Nat→Bool) (i : Nat) (h : i < (boolsV n S).length) : (boolsV n S)[i] = .bool (S i):=by simp only [boolsV]; rw [tab_get]
theorem boolsV_set (n : Nat) (S : Nat→Bool) (i : Nat) (b : Bool) : (boolsV n S).set i (.bool b) = boolsV n (upd1 S i b):=by
 unfold boolsV
 rw [tab_set]
 congr 1
 funext j
 by_cases h : j = i
 ·subst h; simp
 ·rw [upd1_ne _ _ h,upd1_ne _ _ h]
theorem boolsV_pure (n : Nat) (S : Nat→Bool) : V.pureL (boolsV n S) = true:=by
 rw [V.pureL_iff]
 intro v hv
 unfold boolsV tab at hv
 obtain ⟨j,-,rfl⟩:=List.mem_map.1 hv
 rfl
structure ConeI (c : Ci) (a : Nat) (S : Nat→Bool) (td : List Nat) (n : Option Nat) (jn : List Nat) : Prop where
 m : S a = true
 r : ∀ x,S x = true→x < c.n.length∧Rch c.g a x
 t : ∀ x ∈ td,S x = true
 s : ∀ x,n = some x→S x = true
 c : ∀ x,S x = true→x ∉ td→n ≠ some x→∀ y ∈ c.g x,S y = true
 j : ∀ y ∈ jn,S y = true
theorem ConeI.skip {c : Ci} {a : Nat} {S : Nat→Bool} {td jn : List Nat} {n : Option Nat} {m : Nat} (h : ConeI c a S td n jn) (hm : S m = true) : ConeI c a S td n (jn ++ [m]) where
 m:=h.m
 r:=h.r
 t:=h.t
 s:=h.s
 c:=h.c
 j:=fun y hy=>by
  rcases List.mem_append.1 hy with hy | hy
  ·exact h.j y hy
  ·rw [List.mem_singleton.1 hy]; exact hm
theorem upd_true {S : Nat→Bool} {m x : Nat} (h : S x = true) : upd1 S m true x = true:=by
 by_cases e : x = m
 ·rw [e,upd1_same]
 ·rw [upd1_ne _ _ e]; exact h
theorem ConeI.push {c : Ci} (hg : c.good) {a : Nat} {S : Nat→Bool} {td jn : List Nat} {n m : Nat} (h : ConeI c a S td (some n) jn) (hm : m ∈ c.g n) : ConeI c a (upd1 S m true) (td ++ [m]) (some n) (jn ++ [m]) where
 m:=upd_true h.m
 r:=fun x hx=>by
  by_cases e : x = m
  ·rw [e]
   obtain ⟨h1,h2⟩:=h.r n (h.s n rfl)
   exact ⟨hg.val.g n h1 m hm,h2.tail hm⟩
  ·rw [upd1_ne _ _ e] at hx; exact h.r x hx
 t:=fun x hx=>by
  rcases List.mem_append.1 hx with hx | hx
  ·exact upd_true (h.t x hx)
  ·rw [List.mem_singleton.1 hx,upd1_same]
 s:=fun x hx=>upd_true (h.s x hx)
 c:=fun x hx h1 h2 y hy=>by
  simp only [List.mem_append,List.mem_singleton,not_or] at h1
  rw [upd1_ne _ _ h1.2] at hx
  exact upd_true (h.c x hx h1.1 h2 y hy)
 j:=fun y hy=>by
  rcases List.mem_append.1 hy with hy | hy
  ·exact upd_true (h.j y hy)
  ·rw [List.mem_singleton.1 hy,upd1_same]
theorem ConeI.next {c : Ci} {a : Nat} {S : Nat→Bool} {td jn : List Nat} {n : Nat} (h : ConeI c a S td (some n) jn) (hj : ∀ y ∈ c.g n,y ∈ jn) : ConeI c a S td none [] where
 m:=h.m
 r:=h.r
 t:=h.t
 s:=fun x hx=>by cases hx
 c:=fun x hx h1 _ y hy=>by
  by_cases e : x = n
  ·rw [e] at hy; exact h.j y (hj y hy)
  ·exact h.c x hx h1 (fun h=>e (by cases h; rfl)) y hy
 j:=by simp
theorem ConeI.all {c : Ci} (hg : c.good) {a : Nat} (ha : a < c.n.length) {S : Nat→Bool} (h : ConeI c a S [] none []) : boolsV c.n.length S = boolsV c.n.length (dep c (c.n.length + 1) a):=by
 have : S = dep c (c.n.length + 1) a:=by
  funext x
  have hd : dep c (c.n.length + 1) a x = true↔S x = true:=by
   rw [dep_iff hg ha]
   exact ⟨fun q=>q.closed (S:=fun z=>S z = true) (fun z hz y hy=>h.c z hz (by simp) (by simp) y hy) h.m,fun q=>(h.r x q).2⟩
  cases hs : S x <;> cases hd2 : dep c (c.n.length + 1) a x <;> simp_all
 rw [this]
structure CoSt where
 S : Nat→Bool
 es : List Nat
 l : Nat
 g : Nat
 cap : Option Nat
structure CoSt2 extends CoSt where
 k : Nat
end Go.Proofs.YtlmniacemoohpaaGreatDoor
