/- Netlists: the circuit of plain data is valid. Conditions: none. -/
import Derived.Test.YtcmblmkbdenakaaGreatDoorNet13
set_option linter.unusedSimpArgs false
set_option linter.unusedVariables false
namespace Go.Proofs.YtcmblmkbdenakaaGreatDoor
open Go
def NdOk (x : Cx) (l : List Nd) (i : Nat) (y : Nd) : Prop:=
 (y.k = 0∧y.i = []∧y.a = 0∧y.b = 0)∨
 (y.k = 14∧(∃ d : Nat,y.i = [(d : Int)]∧d < l.length)∧y.a = 0∧y.b = 0)∨
 (x.mem = true∧y.k = 15∧y.i = []∧y.a = 0∧(y.b = 0∨y.b = 1))∨
 (1 ≤ y.k∧y.k ≤ 13∧widB y.k y.i.length = true∧(∀ v ∈ y.i,0 ≤ v∧v < (i : Int))∧(y.k = 13→∀ v ∈ y.i,(l.getD v.toNat default).k = 12)∧y.a = 0∧y.b = 0)
def AllOk (x : Cx) (l : List Nd) : Prop:=∀ i (h : i < l.length),NdOk x l i l[i]
theorem NdOk.app {x : Cx} {l : List Nd} {i : Nat} {y : Nd} (h : NdOk x l i y) (hi : i < l.length) (r : List Nd) : NdOk x (l ++ r) i y:=by
 rcases h with h | ⟨h1,⟨d,h2,h3⟩,h4⟩ | h | ⟨h1,h2,h3,h4,h5,h6⟩
 ·exact .inl h
 ·exact .inr (.inl ⟨h1,⟨d,h2,by simp; omega⟩,h4⟩)
 ·exact .inr (.inr (.inl h))
 ·refine .inr (.inr (.inr ⟨h1,h2,h3,h4,fun hk v hv=>?_,h6⟩))
  have:=h4 v hv
  have:=h5 hk v hv
  rw [List.getD_eq_getElem?_getD,List.getElem?_append_left (by omega),← List.getD_eq_getElem?_getD]
  exact this
theorem AllOk.app {x : Cx} {l : List Nd} {z : Nd} (h : AllOk x l) (hz : NdOk x (l ++ [z]) l.length z) : AllOk x (l ++ [z]):=by
 intro i hi
 by_cases h1 : i < l.length
 ·rw [List.getElem_append_left h1]
  exact (h i h1).app h1 _
 ·have : i = l.length:=by simp at hi; omega
  subst this
  simpa using hz
theorem AllOk.set {x : Cx} {l : List Nd} {p D : Nat} (h : AllOk x l) (hp : p < l.length) (hk : l[p].k = 14) (hD : D < l.length) : AllOk x (l.set p ⟨l[p].k,[(D : Int)],0,l[p].b⟩):=by
 have hkk : ∀ j : Nat,((l.set p ⟨l[p].k,[(D : Int)],0,l[p].b⟩).getD j default).k = (l.getD j default).k:=fun j=>by
  by_cases hj : p = j
  ·subst hj
   simp [List.getD_eq_getElem?_getD,hp]
  ·simp [List.getD_eq_getElem?_getD,List.getElem?_set_ne hj]
 intro i hi
 rw [List.length_set] at hi
 by_cases hj : p = i
 ·subst hj
  rw [List.getElem_set_self]
  have hb : l[p].b = 0:=by
   rcases h p hp with q | ⟨-,-,-,q⟩ | ⟨-,q,-⟩ | ⟨-,q,-⟩
   ·omega
   ·exact q
   ·omega
   ·omega
  exact .inr (.inl ⟨hk,⟨D,rfl,by simpa using hD⟩,rfl,hb⟩)
 ·rw [List.getElem_set_ne hj]
  rcases h i hi with q | ⟨h1,⟨d,h2,h3⟩,h4⟩ | q | ⟨h1,h2,h3,h4,h5,h6⟩
  ·exact .inl q
  ·exact .inr (.inl ⟨h1,⟨d,h2,by simpa using h3⟩,h4⟩)
  ·exact .inr (.inr (.inl q))
  ·exact .inr (.inr (.inr ⟨h1,h2,h3,h4,fun hk v hv=>by rw [hkk]; exact h5 hk v hv,h6⟩))
end Go.Proofs.YtcmblmkbdenakaaGreatDoor
namespace Go.Proofs.YtcmblmkbdenakaaGreatDoor
open Go
variable {n k : Nat} {lv : Nat→Nat} {L A B : List Nat}
theorem lex_irr (x : Nat) : ¬ lexlt lv x x:=by rintro (h | ⟨-,h⟩) <;> omega
theorem lex_asym {x y : Nat} (h : lexlt lv x y) : ¬ lexlt lv y x:=by
 rintro (k | ⟨k,k2⟩) <;> rcases h with h | ⟨h,h2⟩ <;> omega
theorem lex_unique : ∀ {A B : List Nat},A.Pairwise (lexlt lv)→B.Pairwise (lexlt lv)→(∀ x,x ∈ A↔x ∈ B)→A = B
 | [],[],_,_,_=>rfl
 | [],b :: B,_,_,h=>absurd ((h b).2 List.mem_cons_self) (by simp)
 | a :: A,[],_,_,h=>absurd ((h a).1 List.mem_cons_self) (by simp)
 | a :: A,b :: B,hA,hB,h=>by
  obtain ⟨a1,a2⟩:=List.pairwise_cons.1 hA
  obtain ⟨b1,b2⟩:=List.pairwise_cons.1 hB
  have hab : a = b:=by
   rcases List.mem_cons.1 ((h a).1 List.mem_cons_self) with q | q
   ·exact q
   ·rcases List.mem_cons.1 ((h b).2 List.mem_cons_self) with r | r
    ·exact r.symm
    ·exact absurd (b1 a q) (lex_asym (a1 b r))
  subst hab
  rw [lex_unique a2 b2 fun x=>⟨fun hx=>?_,fun hx=>?_⟩]
  ·rcases List.mem_cons.1 ((h x).1 (List.mem_cons_of_mem _ hx)) with rfl | q
   ·exact absurd (a1 x hx) (lex_irr x)
   ·exact q
  ·rcases List.mem_cons.1 ((h x).2 (List.mem_cons_of_mem _ hx)) with rfl | q
   ·exact absurd (b1 x hx) (lex_irr x)
   ·exact q
theorem lex_nodup (h : A.Pairwise (lexlt lv)) : A.Nodup:=h.imp fun h e=>by subst e; exact lex_irr _ h
end Go.Proofs.YtcmblmkbdenakaaGreatDoor
