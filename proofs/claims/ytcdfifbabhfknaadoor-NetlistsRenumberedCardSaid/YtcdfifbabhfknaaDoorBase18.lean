/- Rounds of a loop over a function whose blocks take other numbers between the parts of the code. Conditions: none. -/
import Derived.Test.YtcdfifbabhfknaaDoorBase15
set_option linter.unusedSimpArgs false
set_option linter.unusedVariables false
namespace Go.Proofs.YtcdfifbabhfknaaDoor
open Go
section
variable {P : Program} {gl : Fr} {n : Nat} {fr : Fr} {h : Hp}
theorem compX_block {c : Code} {id : Nat} {x : XC} (hc : compX P n c = some (.block id x)) : ∃ d,c = .block id d∧compX P n d = some x:=by
 cases c <;> simp only [compX] at hc
 case block i d=>
  split at hc
  ·rename_i y hy
   cases hc
   exact ⟨d,rfl,hy⟩
  ·cases hc
 case region i ops draw=>
  cases draw
  ·simp only [Option.map_eq_some_iff] at hc; obtain ⟨l,-,h2⟩:=hc; cases h2
  ·simp only [] at hc; obtain ⟨l,chk,h2,-⟩:=IW.regG (P:=P) (gl:=[]) (id:=i) (fr:=[]) (h:=[]) (Q:=fun _ _ _=>True) hc; cases h2
 all_goals first | (cases hc; done) | (split at hc <;> cases hc; done)
def rndM (P : Program) (gl : Fr) (k b g id : Nat) (xs : XC) (K : V→Hp→Prop) : IQ
 | .normal,fr,h=>∃ m frl ps asg bd,lk h b = some (.loop g m frl ps asg bd false)∧xs.wpM P gl k (blockQ id (rndB b g K)) fr ((b,.loop g m frl ps asg bd true) :: h)
 | _,_,_=>False
@[simp] theorem rndM_n {k b g id : Nat} {xs : XC} {K2 : V→Hp→Prop} : rndM P gl k b g id xs K2 .normal fr h = ∃ m frl ps asg bd,lk h b = some (.loop g m frl ps asg bd false)∧xs.wpM P gl k (blockQ id (rndB b g K2)) fr ((b,.loop g m frl ps asg bd true) :: h):=(rfl)
theorem IYield.of_WM {b g m : Nat} {frl : Fr} {ps : List Nat} {asg body : Code} {xa xs : XC} {id : Nat} {args : List V} {K : V→Hp→Prop} (k : Nat) (hb : BodyOk P m ps asg body xa (.block id xs)) (hlk : lk h b = some (.loop g m frl ps asg body false)) (hlen : ps.length = args.length)
  (hw : xa.wpF P gl (rndM P gl k b g id xs K) (putsF frl ps args) h) : IYield P gl b g args h K:=by
 obtain ⟨h1,h2,h3,h4,h5⟩:=hb
 refine ⟨m,frl,ps,asg,body,hlk,hlen,h1,h2,fun t ht=>by simpa using List.all_eq_true.1 h3 t ht,IW.mono (wpF_sound h4 hw) fun e fr h hq=>?_⟩
 cases e with
 | exit id=>exact hq.elim
 | goto l=>exact hq.elim
 | ret=>exact hq.elim
 | normal=>
  obtain ⟨m',frl',ps',asg',bd',q1,q2⟩:=hq
  obtain ⟨d,rfl,hd⟩:=compX_block h5
  exact ⟨m',frl',ps',asg',bd',q1,IW.block (wpM_sound k hd q2)⟩
@[simp] theorem wpM_4 {a b : XC} {Q : IQ} : XC.wpM P gl 4 (.seq a b) Q fr h = a.wpF P gl (seqQ (KM P gl 3 b Q) Q) fr h:=wpM_seq
@[simp] theorem wpM_5 {a b : XC} {Q : IQ} : XC.wpM P gl 5 (.seq a b) Q fr h = a.wpF P gl (seqQ (KM P gl 4 b Q) Q) fr h:=wpM_seq
@[simp] theorem wpM_6 {a b : XC} {Q : IQ} : XC.wpM P gl 6 (.seq a b) Q fr h = a.wpF P gl (seqQ (KM P gl 5 b Q) Q) fr h:=wpM_seq
end
theorem IYield.sub {P : Program} {gl : Fr} {b g : Nat} {args : List V} {h h' : Hp} {K : V→Hp→Prop} (hs : Sub h' h) (hy : IYield P gl b g args h' K) : IYield P gl b g args h K:=by
 obtain ⟨m,frl,ps,asg,body,h1,h2,h3,h4,h5,h6⟩:=hy
 exact ⟨m,frl,ps,asg,body,hs.spec _ _ h1,h2,h3,h4,h5,fun rd bs hn G M a w hr=>h6 rd bs hn G M a w (hr.weaken (fun _ _ q=>q) hs.spec)⟩
end Go.Proofs.YtcdfifbabhfknaaDoor
