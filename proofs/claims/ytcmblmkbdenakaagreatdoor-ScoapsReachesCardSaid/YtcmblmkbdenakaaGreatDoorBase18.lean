/- Rounds of a loop over a function whose blocks take other numbers between the parts of the code. Conditions: none. -/
import Derived.Test.YtcmblmkbdenakaaGreatDoorBase15
set_option linter.unusedSimpArgs false
set_option linter.unusedVariables false
namespace Go.Proofs.YtcmblmkbdenakaaGreatDoor
open Go
section
variable {P : Program} {gl : Fr} {n : Nat} {fr : Fr} {h : Hp}
def rndM (P : Program) (gl : Fr) (k b g id : Nat) (xs : XC) (K : V→Hp→Prop) : IQ
 | .normal,fr,h=>∃ m frl ps asg bd,lk h b = some (.loop g m frl ps asg bd false)∧xs.wpM P gl k (blockQ id (rndB b g K)) fr ((b,.loop g m frl ps asg bd true) :: h)
 | _,_,_=>False
@[simp] theorem rndM_n {k b g id : Nat} {xs : XC} {K2 : V→Hp→Prop} : rndM P gl k b g id xs K2 .normal fr h = ∃ m frl ps asg bd,lk h b = some (.loop g m frl ps asg bd false)∧xs.wpM P gl k (blockQ id (rndB b g K2)) fr ((b,.loop g m frl ps asg bd true) :: h):=(rfl)
@[simp] theorem wpM_4 {a b : XC} {Q : IQ} : XC.wpM P gl 4 (.seq a b) Q fr h = a.wpF P gl (seqQ (KM P gl 3 b Q) Q) fr h:=wpM_seq
@[simp] theorem wpM_5 {a b : XC} {Q : IQ} : XC.wpM P gl 5 (.seq a b) Q fr h = a.wpF P gl (seqQ (KM P gl 4 b Q) Q) fr h:=wpM_seq
@[simp] theorem wpM_6 {a b : XC} {Q : IQ} : XC.wpM P gl 6 (.seq a b) Q fr h = a.wpF P gl (seqQ (KM P gl 5 b Q) Q) fr h:=wpM_seq
end
def ddup : Hp→Hp
 | []=>[]
 | (k,v) :: r=>(k,v) :: (ddup r).filter fun p=>decide (p.1 ≠ k)
theorem ddup_mem : ∀ {L : Hp} {k : Nat} {v : Blk},(k,v) ∈ ddup L→lk L k = some v
 | [],_,_,h=>by simp [ddup] at h
 | (a,b) :: r,k,v,h=>by
  simp only [ddup,List.mem_cons,List.mem_filter] at h
  rcases h with h | ⟨h,hk⟩
  ·cases h; simp [lk]
  ·have hne : ¬ k = a:=by simpa using hk
   simp only [lk]
   rw [if_neg hne]
   exact ddup_mem h
theorem Sub_of_mem {α : Type} : ∀ {a h : List (Nat × α)},(∀ k v,(k,v) ∈ a→lk h k = some v)→Sub a h
 | [],_,_=>trivial
 | (k,v) :: r,h,q=>⟨q k v List.mem_cons_self,Sub_of_mem fun k v hm=>q k v (List.mem_cons_of_mem _ hm)⟩
theorem Sub_ddup (L : Hp) : Sub (ddup L) L:=Sub_of_mem fun _ _ h=>ddup_mem h
theorem lk_filter (k : Nat) : ∀ (l : Hp) (t : Nat),t ≠ k→lk (l.filter fun p=>decide (p.1 ≠ k)) t = lk l t
 | [],_,_=>rfl
 | (a,b) :: r,t,h=>by
  by_cases e : a = k
  ·rw [List.filter_cons_of_neg (by simp [e]),lk_filter k r t h]
   simp only [lk]
   rw [if_neg (by rw [e]; exact h)]
  ·rw [List.filter_cons_of_pos (by simp [e])]
   simp only [lk]
   split
   ·rfl
   ·exact lk_filter k r t h
theorem lk_ddup : ∀ (L : Hp) (t : Nat),lk (ddup L) t = lk L t
 | [],_=>rfl
 | (a,b) :: r,t=>by
  simp only [ddup,lk]
  split
  ·rfl
  ·rename_i h
   rw [lk_filter a _ t h,lk_ddup r t]
end Go.Proofs.YtcmblmkbdenakaaGreatDoor
