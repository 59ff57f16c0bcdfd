/- Paths: a line that is tested hands a change on. No program stands in it. Conditions: none. -/
import Derived.Test.YtlmniacemoohpaaGreatDoorPA
set_option linter.unusedSimpArgs false
set_option linter.unusedVariables false
namespace Go.Proofs.YtlmniacemoohpaaGreatDoor
open Go
theorem ok_58 {B : Nat→Nat} {k q : Nat} {o : List Nat} (h : k = 5∨k = 6∨k = 7∨k = 8) (hk : okT B k q o = true) : ∀ m ∈ o,B m = notN (ctlV k):=by
 unfold okT at hk
 rw [if_neg (by omega),if_pos h,List.all_eq_true] at hk
 exact fun m hm=>of_decide_eq_true (hk m hm)
theorem ok_9 {B : Nat→Nat} {k q : Nat} {o : List Nat} (h : k = 9∨k = 10) (hk : okT B k q o = true) : ∀ m ∈ o,B m ≤ 1:=by
 unfold okT at hk
 rw [if_neg (by omega),if_neg (by omega),if_neg (by omega),if_pos h,List.all_eq_true] at hk
 exact fun m hm=>of_decide_eq_true (hk m hm)
theorem sideN_mem_of {l : List Nat} {q p : Nat} (hp : p < l.length) (hpq : p ≠ q) : l.getD p 0 ∈ sideN l q:=by
 rw [List.getD_eq_getElem?_getD,List.getElem?_eq_getElem hp,Option.getD_some]
 unfold sideN
 by_cases hlt : p < q
 ·exact List.mem_append.2 (.inl (List.mem_take_iff_getElem.2 ⟨p,by omega,rfl⟩))
 ·refine List.mem_append.2 (.inr (List.mem_drop_iff_getElem.2 ⟨p - (q + 1),by omega,?_⟩))
  congr 1
  omega
def turn (k : Nat) (X U : List Nat) : Prop:=logE k U = notN (logE k X)∧logE k X ≤ 1
instance (k : Nat) (X U : List Nat) : Decidable (turn k X U):=by unfold turn; infer_instance
theorem turn_b2 : ∀ (k : Fin 4) (x u : Fin 2),(u.1 = notN (ctlV (k + 5))∨x.1 ≠ ctlV (k + 5))→turn (k + 5) [x.1,notN (ctlV (k + 5))] [1 - x.1,u.1]∧turn (k + 5) [notN (ctlV (k + 5)),x.1] [u.1,1 - x.1]:=by decide
theorem turn_y2 : ∀ (k : Fin 2) (x y : Fin 2),turn (k + 9) [x.1,y.1] [1 - x.1,y.1]∧turn (k + 9) [x.1,y.1] [x.1,1 - y.1]:=by decide
set_option maxRecDepth 100000 in
theorem turn_a3 : ∀ (k : Fin 4) (x : Fin 2) (u1 u2 : Fin 2),(u1.1 = notN (ctlV (k + 5))∧u2.1 = notN (ctlV (k + 5))∨x.1 ≠ ctlV (k + 5))→
  turn (k + 5) [x.1,notN (ctlV (k + 5)),notN (ctlV (k + 5))] [1 - x.1,u1.1,u2.1]∧turn (k + 5) [notN (ctlV (k + 5)),x.1,notN (ctlV (k + 5))] [u1.1,1 - x.1,u2.1]∧turn (k + 5) [notN (ctlV (k + 5)),notN (ctlV (k + 5)),x.1] [u1.1,u2.1,1 - x.1]:=by decide
theorem turn_x3 : ∀ (k : Fin 2) (x y z : Fin 2),turn (k + 9) [x.1,y.1,z.1] [1 - x.1,y.1,z.1]∧turn (k + 9) [x.1,y.1,z.1] [x.1,1 - y.1,z.1]∧turn (k + 9) [x.1,y.1,z.1] [x.1,y.1,1 - z.1]:=by decide
theorem turn_m : ∀ (x : Fin 2) (y z : Fin 4),turn 11 [0,x.1,y.1] [0,1 - x.1,z.1]∧turn 11 [1,y.1,x.1] [1,z.1,1 - x.1]:=by decide
theorem turn_s : ∀ (x y z : Fin 2),y ≠ z→turn 11 [x.1,y.1,z.1] [1 - x.1,y.1,z.1]:=by decide
theorem turn_1 : ∀ (k : Fin 2) (x : Fin 2),turn (k + 3) [x.1] [1 - x.1]:=by decide
theorem late_plain (k q : Nat) (l : List Nat) (B U : Nat→Nat) (F : Nat→Bool) (al : Bool) (hk : 3 ≤ k∧k ≤ 13) (hq : q < l.length) (hl3 : l.length ≤ 3) (h34 : k = 3∨k = 4→l.length = 1) (h5 : 5 ≤ k∧k ≤ 10→2 ≤ l.length) (h11 : k = 11→l.length = 3)
  (hv : B (l.getD q 0) ≤ 1) (hB : ∀ m,B m ≤ 3) (hh : (if al = true then 2 else 1) ≤ lnT B F k q (sideN l q) (B (l.getD q 0))) (hUq : U q = notN (B (l.getD q 0)))
  (hU : ∀ p,p < l.length→p ≠ q→U p = B (l.getD p 0)∨(al = true∧F (l.getD p 0) = false∧U p ≤ 1)) : turn k (l.map B) ((List.range l.length).map U):=by
 have hok : okT B k q (sideN l q) = true:=by
  cases h : okT B k q (sideN l q) with
  | true=>rfl
  | false=>
   unfold lnT at hh
   rw [h] at hh
   cases al <;> simp at hh
 have hqu : al = true→quT F k q (sideN l q) (B (l.getD q 0)) = true:=by
  intro ha
  cases h : quT F k q (sideN l q) (B (l.getD q 0)) with
  | true=>rfl
  | false=>
   unfold lnT at hh
   rw [hok,h,ha] at hh
   simp at hh
 clear hh
 obtain ⟨v,hvv⟩ : ∃ v,B (l.getD q 0) = v:=⟨_,rfl⟩
 rw [hvv] at hv hqu hUq
 have hUq1 : U q = 1 - v:=by rw [hUq]; unfold notN; rw [if_pos hv]
 have hmem:=fun p hp hpq=>sideN_mem_of (l:=l) (q:=q) (p:=p) hp hpq
 have hFa : al = true→¬ (k = 3∨k = 4)→¬ (k = 5∨k = 6∨k = 7∨k = 8)→¬ (k = 11∧0 < q)→∀ p,p < l.length→p ≠ q→F (l.getD p 0) = true:=by
  intro ha h1 h2 h3 p hp hpq
  have:=hqu ha
  unfold quT at this
  rw [if_neg h1,if_neg h2,if_neg h3,List.all_eq_true] at this
  exact this _ (hmem p hp hpq)
 by_cases k34 : k = 3∨k = 4
 ·have hl:=h34 k34
  obtain ⟨a,rfl⟩ : ∃ a,l = [a]:=by
   match l,hl with
   | [a],_=>exact ⟨a,rfl⟩
  have hq0 : q = 0:=by simp at hq; exact hq
  subst hq0
  have hx : B a = v:=hvv
  have h:=turn_1 ⟨k - 3,by omega⟩ ⟨v,by omega⟩
  simp only [show k - 3 + 3 = k by omega] at h
  show turn k [B a] [U 0]
  rw [hx,hUq1]
  exact h
 by_cases k58 : k = 5∨k = 6∨k = 7∨k = 8
 ·have hBo:=ok_58 k58 hok
  obtain ⟨nc,hnc⟩ : ∃ nc,notN (ctlV k) = nc:=⟨_,rfl⟩
  have hnc1 : nc ≤ 1:=by
   rw [← hnc]
   rcases k58 with rfl | rfl | rfl | rfl <;> decide
  rw [hnc] at hBo
  have hBp : ∀ p,p < l.length→p ≠ q→B (l.getD p 0) = nc:=fun p hp hpq=>hBo _ (hmem p hp hpq)
  have hU1 : ∀ p,p < l.length→p ≠ q→U p ≤ 1:=fun p hp hpq=>by
   rcases hU p hp hpq with h | ⟨-,-,h⟩
   ·rw [h,hBp p hp hpq]; exact hnc1
   ·exact h
  have hor : v ≠ ctlV k∨∀ p,p < l.length→p ≠ q→U p = nc:=by
   by_cases hvc : v = ctlV k
   ·refine .inr fun p hp hpq=>?_
    rcases hU p hp hpq with h | ⟨ha,hf,-⟩
    ·rw [h,hBp p hp hpq]
    ·have:=hqu ha
     unfold quT at this
     rw [if_neg k34,if_pos k58,decide_eq_true hvc] at this
     simp only [Bool.not_true,Bool.or_false,List.all_eq_true] at this
     rw [this _ (hmem p hp hpq)] at hf
     cases hf
   ·exact .inl hvc
  have h2:=h5 (by omega)
  have e5 : k - 5 + 5 = k:=by omega
  by_cases hl2 : l.length = 2
  ·obtain ⟨a,b,rfl⟩ : ∃ a b,l = [a,b]:=by
    match l,hl2 with
    | [a,b],_=>exact ⟨a,b,rfl⟩
   show turn k [B a,B b] [U 0,U 1]
   have hq2 : q = 0∨q = 1:=by simp at hq; omega
   rcases hq2 with rfl | rfl
   ·have h0 : B a = v:=hvv
    have h1 : B b = nc:=hBp 1 (by simp) (by omega)
    have hu:=hU1 1 (by simp) (by omega)
    have h:=(turn_b2 ⟨k - 5,by omega⟩ ⟨v,by omega⟩ ⟨U 1,by omega⟩ (by
     simp only [e5,hnc]
     exact hor.symm.imp_left fun h=>h 1 (by simp) (by omega))).1
    simp only [e5,hnc] at h
    rw [h0,h1,hUq1]; exact h
   ·have h0 : B b = v:=hvv
    have h1 : B a = nc:=hBp 0 (by simp) (by omega)
    have hu:=hU1 0 (by simp) (by omega)
    have h:=(turn_b2 ⟨k - 5,by omega⟩ ⟨v,by omega⟩ ⟨U 0,by omega⟩ (by
     simp only [e5,hnc]
     exact hor.symm.imp_left fun h=>h 0 (by simp) (by omega))).2
    simp only [e5,hnc] at h
    rw [h0,h1,hUq1]; exact h
  ·obtain ⟨a,b,d,rfl⟩ : ∃ a b d,l = [a,b,d]:=by
    match l,(show l.length = 3 by omega) with
    | [a,b,d],_=>exact ⟨a,b,d,rfl⟩
   show turn k [B a,B b,B d] [U 0,U 1,U 2]
   have hq2 : q = 0∨q = 1∨q = 2:=by simp at hq; omega
   rcases hq2 with rfl | rfl | rfl
   ·have h0 : B a = v:=hvv
    have h1 : B b = nc:=hBp 1 (by simp) (by omega)
    have h2 : B d = nc:=hBp 2 (by simp) (by omega)
    have hu1:=hU1 1 (by simp) (by omega)
    have hu2:=hU1 2 (by simp) (by omega)
    have h:=(turn_a3 ⟨k - 5,by omega⟩ ⟨v,by omega⟩ ⟨U 1,by omega⟩ ⟨U 2,by omega⟩ (by
     simp only [e5,hnc]
     exact hor.symm.imp_left fun h=>⟨h 1 (by simp) (by omega),h 2 (by simp) (by omega)⟩)).1
    simp only [e5,hnc] at h
    rw [h0,h1,h2,hUq1]; exact h
   ·have h0 : B b = v:=hvv
    have h1 : B a = nc:=hBp 0 (by simp) (by omega)
    have h2 : B d = nc:=hBp 2 (by simp) (by omega)
    have hu1:=hU1 0 (by simp) (by omega)
    have hu2:=hU1 2 (by simp) (by omega)
    have h:=(turn_a3 ⟨k - 5,by omega⟩ ⟨v,by omega⟩ ⟨U 0,by omega⟩ ⟨U 2,by omega⟩ (by
     simp only [e5,hnc]
     exact hor.symm.imp_left fun h=>⟨h 0 (by simp) (by omega),h 2 (by simp) (by omega)⟩)).2.1
    simp only [e5,hnc] at h
    rw [h0,h1,h2,hUq1]; exact h
   ·have h0 : B d = v:=hvv
    have h1 : B a = nc:=hBp 0 (by simp) (by omega)
    have h2 : B b = nc:=hBp 1 (by simp) (by omega)
    have hu1:=hU1 0 (by simp) (by omega)
    have hu2:=hU1 1 (by simp) (by omega)
    have h:=(turn_a3 ⟨k - 5,by omega⟩ ⟨v,by omega⟩ ⟨U 0,by omega⟩ ⟨U 1,by omega⟩ (by
     simp only [e5,hnc]
     exact hor.symm.imp_left fun h=>⟨h 0 (by simp) (by omega),h 1 (by simp) (by omega)⟩)).2.2
    simp only [e5,hnc] at h
    rw [h0,h1,h2,hUq1]; exact h
 have hUB : ¬ (k = 11∧0 < q)→∀ p,p < l.length→p ≠ q→U p = B (l.getD p 0):=by
  intro h3 p hp hpq
  rcases hU p hp hpq with h | ⟨ha,hf,-⟩
  ·exact h
  ·rw [hFa ha k34 k58 h3 p hp hpq] at hf
   cases hf
 by_cases k9 : k = 9∨k = 10
 ·have hBo:=ok_9 k9 hok
  have hBp : ∀ p,p < l.length→p ≠ q→B (l.getD p 0) ≤ 1:=fun p hp hpq=>hBo _ (hmem p hp hpq)
  have hUp:=hUB (by omega)
  have h2:=h5 (by omega)
  have e9 : k - 9 + 9 = k:=by omega
  by_cases hl2 : l.length = 2
  ·obtain ⟨a,b,rfl⟩ : ∃ a b,l = [a,b]:=by
    match l,hl2 with
    | [a,b],_=>exact ⟨a,b,rfl⟩
   show turn k [B a,B b] [U 0,U 1]
   have hq2 : q = 0∨q = 1:=by simp at hq; omega
   rcases hq2 with rfl | rfl
   ·have h0 : B a = v:=hvv
    have h1 : B b ≤ 1:=hBp 1 (by simp) (by omega)
    have hu : U 1 = B b:=hUp 1 (by simp) (by omega)
    have h:=(turn_y2 ⟨k - 9,by omega⟩ ⟨v,by omega⟩ ⟨B b,by omega⟩).1
    simp only [e9] at h
    rw [h0,hu,hUq1]; exact h
   ·have h0 : B b = v:=hvv
    have h1 : B a ≤ 1:=hBp 0 (by simp) (by omega)
    have hu : U 0 = B a:=hUp 0 (by simp) (by omega)
    have h:=(turn_y2 ⟨k - 9,by omega⟩ ⟨B a,by omega⟩ ⟨v,by omega⟩).2
    simp only [e9] at h
    rw [h0,hu,hUq1]; exact h
  ·obtain ⟨a,b,d,rfl⟩ : ∃ a b d,l = [a,b,d]:=by
    match l,(show l.length = 3 by omega) with
    | [a,b,d],_=>exact ⟨a,b,d,rfl⟩
   show turn k [B a,B b,B d] [U 0,U 1,U 2]
   have hq2 : q = 0∨q = 1∨q = 2:=by simp at hq; omega
   rcases hq2 with rfl | rfl | rfl
   ·have h0 : B a = v:=hvv
    have h1 : B b ≤ 1:=hBp 1 (by simp) (by omega)
    have h2 : B d ≤ 1:=hBp 2 (by simp) (by omega)
    have hu1 : U 1 = B b:=hUp 1 (by simp) (by omega)
    have hu2 : U 2 = B d:=hUp 2 (by simp) (by omega)
    have h:=(turn_x3 ⟨k - 9,by omega⟩ ⟨v,by omega⟩ ⟨B b,by omega⟩ ⟨B d,by omega⟩).1
    simp only [e9] at h
    rw [h0,hu1,hu2,hUq1]; exact h
   ·have h0 : B b = v:=hvv
    have h1 : B a ≤ 1:=hBp 0 (by simp) (by omega)
    have h2 : B d ≤ 1:=hBp 2 (by simp) (by omega)
    have hu1 : U 0 = B a:=hUp 0 (by simp) (by omega)
    have hu2 : U 2 = B d:=hUp 2 (by simp) (by omega)
    have h:=(turn_x3 ⟨k - 9,by omega⟩ ⟨B a,by omega⟩ ⟨v,by omega⟩ ⟨B d,by omega⟩).2.1
    simp only [e9] at h
    rw [h0,hu1,hu2,hUq1]; exact h
   ·have h0 : B d = v:=hvv
    have h1 : B a ≤ 1:=hBp 0 (by simp) (by omega)
    have h2 : B b ≤ 1:=hBp 1 (by simp) (by omega)
    have hu1 : U 0 = B a:=hUp 0 (by simp) (by omega)
    have hu2 : U 1 = B b:=hUp 1 (by simp) (by omega)
    have h:=(turn_x3 ⟨k - 9,by omega⟩ ⟨B a,by omega⟩ ⟨B b,by omega⟩ ⟨v,by omega⟩).2.2
    simp only [e9] at h
    rw [h0,hu1,hu2,hUq1]; exact h
 by_cases k11 : k = 11
 ·subst k11
  obtain ⟨a,b,d,rfl⟩ : ∃ a b d,l = [a,b,d]:=by
   match l,h11 rfl with
   | [a,b,d],_=>exact ⟨a,b,d,rfl⟩
  show turn 11 [B a,B b,B d] [U 0,U 1,U 2]
  have hq2 : q = 0∨q = 1∨q = 2:=by simp at hq; omega
  rcases hq2 with rfl | rfl | rfl
  ·have h0 : B a = v:=hvv
   have hUp:=hUB (by omega)
   have hu1 : U 1 = B b:=hUp 1 (by simp) (by omega)
   have hu2 : U 2 = B d:=hUp 2 (by simp) (by omega)
   simp [okT,sideN] at hok
   have h:=turn_s ⟨v,by omega⟩ ⟨B b,by omega⟩ ⟨B d,by omega⟩ (fun h=>hok.1 (congrArg Fin.val h))
   rw [h0,hu1,hu2,hUq1]; exact h
  ·have h0 : B b = v:=hvv
   simp [okT,sideN] at hok
   have hu0 : U 0 = 0:=by
    rcases hU 0 (by simp) (by omega) with h | ⟨ha,hf,-⟩
    ·rw [h]; exact hok
    ·have:=hqu ha
     simp [quT,sideN] at this
     simp [this] at hf
   have hud : U 2 ≤ 3:=by
    rcases hU 2 (by simp) (by omega) with h | ⟨-,-,h⟩
    ·rw [h]; exact hB _
    ·omega
   have hbd:=hB d
   have h:=(turn_m ⟨v,by omega⟩ ⟨B d,by omega⟩ ⟨U 2,by omega⟩).1
   rw [h0,hok,hu0,hUq1]; exact h
  ·have h0 : B d = v:=hvv
   simp [okT,sideN] at hok
   have hu0 : U 0 = 1:=by
    rcases hU 0 (by simp) (by omega) with h | ⟨ha,hf,-⟩
    ·rw [h]; exact hok
    ·have:=hqu ha
     simp [quT,sideN] at this
     simp [this] at hf
   have hud : U 1 ≤ 3:=by
    rcases hU 1 (by simp) (by omega) with h | ⟨-,-,h⟩
    ·rw [h]; exact hB _
    ·omega
   have hbd:=hB b
   have h:=(turn_m ⟨v,by omega⟩ ⟨B b,by omega⟩ ⟨U 1,by omega⟩).2
   rw [h0,hok,hu0,hUq1]; exact h
 ·unfold okT at hok
  rw [if_neg k34,if_neg k58,if_neg k11,if_neg k9] at hok
  cases hok
end Go.Proofs.YtlmniacemoohpaaGreatDoor
