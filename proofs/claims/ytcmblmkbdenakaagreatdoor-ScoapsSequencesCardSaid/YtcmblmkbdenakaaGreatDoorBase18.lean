/- Rounds of a loop over a function whose blocks take other numbers between the parts of the code. Conditions: none. -/
import Derived.Test.YtcmblmkbdenakaaGreatDoorBase15
set_option linter.unusedSimpArgs false
set_option linter.unusedVariables false
namespace Go.Proofs.YtcmblmkbdenakaaGreatDoor
open Go
section
variable {P : Program} {gl : Fr} {n : Nat} {fr : Fr} {h : Hp}
theorem compX_block {c : Code} {id : Nat} {x : XC} (hc : compX P n c = some (.block id x)) : ∃ d,c = .block id d∧compX P n d = some x:=by
 cases c <;> simp only [compX] at hc
 case block i d=>
  split at hc
  ·rename_i y hy
   cases hc
   exact ⟨d,rfl,hy⟩
  ·cases hc
 case region i ops draw=>
  cases draw
  ·simp only [Option.map_eq_some_iff] at hc; obtain ⟨l,-,h2⟩:=hc; cases h2
  ·simp only [] at hc; obtain ⟨l,chk,h2,-⟩:=IW.regG (P:=P) (gl:=[]) (id:=i) (fr:=[]) (h:=[]) (Q:=fun _ _ _=>True) hc; cases h2
 all_goals first | (cases hc; done) | (split at hc <;> cases hc; done)
def rndM (P : Program) (gl : Fr) (k b g id : Nat) (xs : XC) (K : V→Hp→Prop) : IQ
 | .normal,fr,h=>∃ m frl ps asg bd,lk h b = some (.loop g m frl ps asg bd false)∧xs.wpM P gl k (blockQ id (rndB b g K)) fr ((b,.loop g m frl ps asg bd true) :: h)
 | _,_,_=>False
@[simp] theorem rndM_n {k b g id : Nat} {xs : XC} {K2 : V→Hp→Prop} : rndM P gl k b g id xs K2 .normal fr h = ∃ m frl ps asg bd,lk h b = some (.loop g m frl ps asg bd false)∧xs.wpM P gl k (blockQ id (rndB b g K2)) fr ((b,.loop g m frl ps asg bd true) :: h):=(rfl)
theorem IYield.of_WM {b g m : Nat} {frl : Fr} {ps : List Nat} {asg body : Code} {xa xs : XC} {id : Nat} {args : List V} {K : V→Hp→Prop} (k : Nat) (hb : BodyOk P m ps asg body xa (.block id xs)) (hlk : lk h b = some (.loop g m frl ps asg body false)) (hlen : ps.length = args.length)
  (hw : xa.wpF P gl (rndM P gl k b g id xs K) (putsF frl ps args) h) : IYield P gl b g args h K:=by
 obtain ⟨h1,h2,h3,h4,h5⟩:=hb
 refine ⟨m,frl,ps,asg,body,hlk,hlen,h1,h2,fun t ht=>by simpa using List.all_eq_true.1 h3 t ht,IW.mono (wpF_sound h4 hw) fun e fr h hq=>?_⟩
 cases e with
 | exit id=>exact hq.elim
 | goto l=>exact hq.elim
 | ret=>exact hq.elim
 | normal=>
  obtain ⟨m',frl',ps',asg',bd',q1,q2⟩:=hq
  obtain ⟨d,rfl,hd⟩:=compX_block h5
  exact ⟨m',frl',ps',asg',bd',q1,IW.block (wpM_sound k hd q2)⟩
@[simp] theorem wpM_4 {a b : XC} {Q : IQ} : XC.wpM P gl 4 (.seq a b) Q fr h = a.wpF P gl (seqQ (KM P gl 3 b Q) Q) fr h:=wpM_seq
@[simp] theorem wpM_5 {a b : XC} {Q : IQ} : XC.wpM P gl 5 (.seq a b) Q fr h = a.wpF P gl (seqQ (KM P gl 4 b Q) Q) fr h:=wpM_seq
@[simp] theorem wpM_6 {a b : XC} {Q : IQ} : XC.wpM P gl 6 (.seq a b) Q fr h = a.wpF P gl (seqQ (KM P gl 5 b Q) Q) fr h:=wpM_seq
end
theorem IYield.sub {P : Program} {gl : Fr} {b g : Nat} {args : List V} {h h' : Hp} {K : V→Hp→Prop} (hs : Sub h' h) (hy : IYield P gl b g args h' K) : IYield P gl b g args h K:=by
 obtain ⟨m,frl,ps,asg,body,h1,h2,h3,h4,h5,h6⟩:=hy
 exact ⟨m,frl,ps,asg,body,hs.spec _ _ h1,h2,h3,h4,h5,fun rd bs hn G M a w hr=>h6 rd bs hn G M a w (hr.weaken (fun _ _ q=>q) hs.spec)⟩
def ddup : Hp→Hp
 | []=>[]
 | (k,v) :: r=>(k,v) :: (ddup r).filter fun p=>decide (p.1 ≠ k)
theorem ddup_mem : ∀ {L : Hp} {k : Nat} {v : Blk},(k,v) ∈ ddup L→lk L k = some v
 | [],_,_,h=>by simp [ddup] at h
 | (a,b) :: r,k,v,h=>by
  simp only [ddup,List.mem_cons,List.mem_filter] at h
  rcases h with h | ⟨h,hk⟩
  ·cases h; simp [lk]
  ·have hne : ¬ k = a:=by simpa using hk
   simp only [lk]
   rw [if_neg hne]
   exact ddup_mem h
theorem Sub_of_mem {α : Type} : ∀ {a h : List (Nat × α)},(∀ k v,(k,v) ∈ a→lk h k = some v)→Sub a h
 | [],_,_=>trivial
 | (k,v) :: r,h,q=>⟨q k v List.mem_cons_self,Sub_of_mem fun k v hm=>q k v (List.mem_cons_of_mem _ hm)⟩
theorem Sub_ddup (L : Hp) : Sub (ddup L) L:=Sub_of_mem fun _ _ h=>ddup_mem h
theorem lk_filter (k : Nat) : ∀ (l : Hp) (t : Nat),t ≠ k→lk (l.filter fun p=>decide (p.1 ≠ k)) t = lk l t
 | [],_,_=>rfl
 | (a,b) :: r,t,h=>by
  by_cases e : a = k
  ·rw [List.filter_cons_of_neg (by simp [e]),lk_filter k r t h]
   simp only [lk]
   rw [if_neg (by rw [e]; exact h)]
  ·rw [List.filter_cons_of_pos (by simp [e])]
   simp only [lk]
   split
   ·rfl
   ·exact lk_filter k r t h
theorem lk_ddup : ∀ (L : Hp) (t : Nat),lk (ddup L) t = lk L t
 | [],_=>rfl
 | (a,b) :: r,t=>by
  simp only [ddup,lk]
  split
  ·rfl
  ·rename_i h
   rw [lk_filter a _ t h,lk_ddup r t]
end Go.Proofs.YtcmblmkbdenakaaGreatDoor
