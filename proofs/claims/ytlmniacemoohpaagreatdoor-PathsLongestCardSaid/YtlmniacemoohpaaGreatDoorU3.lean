/- Lemmas. Conditions: none. -/
import Derived.Test.YtlmniacemoohpaaGreatDoorJ7
set_option linter.all false
namespace Go.Proofs.YtlmniacemoohpaaGreatDoor
section
open Go
def dep (c:Ci):Nat->Nat->Nat->Bool
 | 0,a,b=>decide (a = b)
 | k + 1,a,b=>decide (a = b) || (c.g a).any fun x=>dep c k x b
theorem qxq {c:Ci} (hg:c.good) {n:Nat} (hn:n < c.n.length):0≤(c.nd n).k/\(c.nd n).k≤14/\qlq (c.nd n).k (c.nd n).i.length = true:=by
 have hm:=ji3 hn;have h1:=qn7 ((qlh hg.sh).2.2.1 _ hm);have h2:=hg.wf.k _ hm;have h3:=hg.k _ hm;rw [c.nd_get hn];refine ⟨h2.1,?_,h1.2.1⟩;have:=h1.1;omega
theorem q75 {c:Ci} (hg:c.good) {n:Nat} (hn:n < c.n.length) (hk:(c.nd n).k = 0):(c.nd n).i = []:=by
 have hw:=(qxq hg hn).2.2;rw [hk] at hw;have e1:kHi 0 = 0:=rfl;simp only [qlq,e1,Bool.and_eq_true,decide_eq_true_eq] at hw;exact List.length_eq_zero_iff.1 (by omega)
theorem g_nd {c:Ci} (hg:c.good) {n:Nat} (hn:n < c.n.length) (hk:(c.nd n).k ≠ 14):c.g n = (c.nd n).i.map Int.toNat:=by
 obtain ⟨h0,h1,-⟩:=qxq hg hn;unfold Ci.g;by_cases h:(c.nd n).k = 0
 ·rw [q75 hg hn h]; simp
 ·rw [if_pos (by simp only [qjs,decide_eq_true_eq]; omega)]
structure Ft.okB (c:Ci) (f:Ft):Prop where
 m:f.m = 2∨f.m = 3
 n:f.n < c.n.length
 o:f.o < c.n.length
 q:f.q = 0
 ne:f.n ≠ f.o
 lt:f.m = 2->f.n≤f.o
 v:f.v≤1
 v3:f.m = 3->f.v = 0
 k1:(c.nd f.n).k ≠ 12
 k2:(c.nd f.o).k ≠ 12
 d1:dep c (c.n.length + 1) f.n f.o = false
 d2:dep c (c.n.length + 1) f.o f.n = false
end
section
open Go
end
section
open Go
inductive Rch (g:Nat->List Nat):Nat->Nat->Prop
 | rfl (a:Nat):Rch g a a
 | head {a x b:Nat} (hx:x ∈ g a) (h:Rch g x b):Rch g a b
def qbk (n:Nat) (S:Nat->Bool):List V:=tab n fun i=>.bool (S i)
@[simp] theorem qzb (n:Nat) (S:Nat->Bool):(qbk n S).length = n:=by simp [qbk]
theorem qbv (n:Nat) (S:Nat->Bool) (i:Nat) (h:i < (qbk n S).length):(qbk n S)[i] = .bool (S i):=by simp only [qbk]; rw [qa1]
theorem qcv (n:Nat) (S:Nat->Bool) (i:Nat) (b:Bool):(qbk n S).set i (.bool b) = qbk n (qfi S i b):=by
 unfold qbk;rw [qi4];congr 1;funext j;by_cases h:j = i
 ·subst h; simp
 ·rw [qa7 _ _ h,qa7 _ _ h]
theorem qc6 (n:Nat) (S:Nat->Bool):jgy (qbk n S) = true:=by
 rw [jg0];intro v hv;unfold qbk tab at hv;obtain ⟨j,-,rfl⟩:=List.mem_map.1 hv;rfl
structure ConeI (c:Ci) (a:Nat) (S:Nat->Bool) (td:List Nat) (n:Option Nat) (jn:List Nat):Prop where
 m:S a = true
 r:∀ x,S x = true->x < c.n.length/\Rch c.g a x
 t:∀ x ∈ td,S x = true
 s:∀ x,n = some x->S x = true
 c:∀ x,S x = true->x ∉ td->n ≠ some x->∀ y ∈ c.g x,S y = true
 j:∀ y ∈ jn,S y = true
structure CoSt where
 S:Nat->Bool
 es:List Nat
 l:Nat
 g:Nat
 cap:Option Nat
structure CoSt2 extends CoSt where
 k:Nat
end
end Go.Proofs.YtlmniacemoohpaaGreatDoor
