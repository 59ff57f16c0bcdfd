/- Lemmas. Conditions: none. -/
import Derived.Test.YtpaopccohkldlaaGreatDoorNet13
set_option linter.all false
namespace Go.Proofs.YtpaopccohkldlaaGreatDoor
section
open Go
def lvF (c:Ci):Nat->Nat->Nat
 | 0,_=>0
 | k + 1,i=>mx (lvF c k) (c.g i)
theorem qxr {c:Ci} {n:Nat} (h:∀ i,i < n->∀ x ∈ c.g i,x < i):∀ k i,i < n->i < k->lvF c k i = lvF c (i + 1) i:=by
 intro k
 induction k using Nat.strongRecOn with
 | ind k ih=>
  intro i hn hk
  cases k with
  | zero=>omega
  | succ k=>
   simp only [lvF];refine qgo fun x hx=>?_;have hlt:=h i hn x hx;rw [ih k (by omega) x (by omega) (by omega)];by_cases hik:i = k
   ·subst hik; rw [ih i (by omega) x (by omega) hlt]
   ·rw [ih i (by omega) x (by omega) hlt]
theorem qq8 {c:Ci} (h:∀ i,i < c.n.length->∀ x ∈ c.g i,x < i):qwl c:=
 ⟨fun i=>lvF c (i + 1) i,fun i hi=>by
  show lvF c (i + 1) i = mx (fun j=>lvF c (j + 1) j) (c.g i);simp only [lvF];refine qgo fun x hx=>?_;have hlt:=h i hi x hx;rw [qxr h i x (by omega) hlt];rfl⟩
end
section
open Go
variable {n k:Nat} {lv:Nat->Nat} {L A B:List Nat}
theorem qo4 (x:Nat):¬ qc4 lv x x:=by rintro (h | ⟨-,h⟩) <;> omega
theorem qxq {x y:Nat} (h:qc4 lv x y):¬ qc4 lv y x:=by
 rintro (k | ⟨k,k2⟩) <;> rcases h with h | ⟨h,h2⟩ <;> omega
theorem qkv:∀ {A B:List Nat},A.Pairwise (qc4 lv)->B.Pairwise (qc4 lv)->(∀ x,x ∈ A↔x ∈ B)->A = B
 | [],[],_,_,_=>rfl
 | [],b :: B,_,_,h=>absurd ((h b).2 List.mem_cons_self) (by simp)
 | a :: A,[],_,_,h=>absurd ((h a).1 List.mem_cons_self) (by simp)
 | a :: A,b :: B,hA,hB,h=>by
  obtain ⟨a1,a2⟩:=List.pairwise_cons.1 hA;obtain ⟨b1,b2⟩:=List.pairwise_cons.1 hB
  have hab:a = b:=by
   rcases List.mem_cons.1 ((h a).1 List.mem_cons_self) with q | q
   ·exact q
   ·rcases List.mem_cons.1 ((h b).2 List.mem_cons_self) with r | r
    ·exact r.symm
    ·exact absurd (b1 a q) (qxq (a1 b r))
  subst hab;rw [qkv a2 b2 fun x=>⟨fun hx=>?_,fun hx=>?_⟩]
  ·rcases List.mem_cons.1 ((h x).1 (List.mem_cons_of_mem _ hx)) with rfl | q
   ·exact absurd (a1 x hx) (qo4 x)
   ·exact q
  ·rcases List.mem_cons.1 ((h x).2 (List.mem_cons_of_mem _ hx)) with rfl | q
   ·exact absurd (b1 x hx) (qo4 x)
   ·exact q
theorem qdo (h:A.Pairwise (qc4 lv)):A.Nodup:=h.imp fun h e=>by subst e; exact qo4 _ h
def lvL (n:Nat) (lv:Nat->Nat):Nat->List Nat
 | 0=>[]
 | k + 1=>lvL n lv k ++ (List.range n).filter fun i=>lv i == k
theorem qi3 (k x:Nat):x ∈ lvL n lv k↔x < n/\lv x < k:=by
 induction k with
 | zero=>simp [lvL]
 | succ k ih=>simp [lvL,ih]; omega
theorem qui (k:Nat):(lvL n lv k).Pairwise (qc4 lv):=by
 induction k with
 | zero=>simp [lvL]
 | succ k ih=>
  simp only [lvL];refine List.pairwise_append.2 ⟨ih,?_,fun a ha b hb=>?_⟩
  ·refine ((List.pairwise_lt_range (n:=n)).filter _).imp_of_mem ?_;intro a b ha hb hab;simp at ha hb;exact .inr ⟨by omega,hab⟩
  ·have:=(qi3 (n:=n) (lv:=lv) k a).1 ha;simp at hb;exact .inl (by omega)
theorem q1e (k:Nat):(lvL n lv k).length≤n:=qi5 (qdo (qui k)) fun x hx=>((qi3 k x).1 hx).1
theorem q1d (h:∀ x,x < n->lv x < n):n≤(lvL n lv n).length:=by
 have hs:=qei (n:=n) (R:=lvL n lv n) (qdo (qui n)) fun x hx=>((qi3 n x).1 hx).1;have h1:qd5 (fun _=>1) n≤qd5 (fun i=>if i ∈ lvL n lv n then 1 else 0) n:=qeh fun j hj=>by rw [if_pos ((qi3 n j).2 ⟨hj,h j hj⟩)]; exact jf5 _
 rw [qcz,hs] at h1;omega
end
end Go.Proofs.YtpaopccohkldlaaGreatDoor
