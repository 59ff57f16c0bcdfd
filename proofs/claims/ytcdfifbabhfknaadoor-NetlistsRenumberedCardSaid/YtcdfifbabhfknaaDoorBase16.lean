/- Loops over functions, for a walk. No program stands in it. Conditions: none. -/
import Derived.Test.YtcdfifbabhfknaaDoorBase12
import Derived.Test.YtcdfifbabhfknaaDoorBase17
namespace Go.Proofs.YtcdfifbabhfknaaDoor
open Go
section
variable {P : Program} {gl : Fr} {bs n : Nat} {fr : Fr} {h : Hp} {G : GMap} {M : MMap} {a : Act} {w : World}
def rndB (b g : Nat) (K : V→Hp→Prop) : IQ
 | .normal,fr,h=>MvP (fun _ h2=>∃ m frl ps asg body h3,lk h2 b = some (.loop g m frl ps asg body true)∧Sub h3 ((b,.loop g m frl ps asg body false) :: h2)∧K (.bool true) h3) fr h
 | _,_,_=>False
def rndA (P : Program) (gl : Fr) (n b g : Nat) (body : Code) (K : V→Hp→Prop) : IQ
 | .normal,fr,h=>∃ m frl ps asg bd,lk h b = some (.loop g m frl ps asg bd false)∧IW P n gl body (rndB b g K) fr ((b,.loop g m frl ps asg bd true) :: h)
 | _,_,_=>False
def IYield (P : Program) (gl : Fr) (b g : Nat) (args : List V) (h : Hp) (K : V→Hp→Prop) : Prop:=
 ∃ m frl ps asg body,lk h b = some (.loop g m frl ps asg body false)∧ps.length = args.length∧noR asg = true∧noR body = true∧(∀ t ∈ ps,t < m)∧
  IW P m gl asg (rndA P gl m b g body K) (putsF frl ps args) h
theorem round_sound {rd : Option Nat} (hs : Sim G M h w) (hgl : GlRel G gl) {b g : Nat} {vs : List V} {K : V→Hp→Prop} (hy : IYield P gl b g vs h K) {r0 : Value} (hr0 : RelV G M (.own b g) r0) {ra : Array Value} (h1 : ra.size = vs.length) (h2 : ∀ i,i < vs.length→RelV G M (vs.getD i .undef) (ra.getD i undef)) :
  ∃ l fn tmps asg body,r0 = .func (.yield l) #[] #[]∧(Instr.yield l ra).run P w = .ok (.round l fn tmps asg body) w∧
   RoundIn (FW rd) 0 P l fn tmps asg body w fun e w'=>∃ rv v h' G' M',e = .returned rv∧K v h'∧RelV G' M' v rv∧Sim G' M' h' w'∧Ext G M w G' M' w':=by
 obtain ⟨m,frl,ps,asg,body,hlk,hlen,hnA,hnB,hps,hw⟩:=hy
 have key:=round_core (P:=P) (rd:=rd) (KK:=fun _ _ h'=>∃ h3,Sub h3 h'∧K (.bool true) h3) (asg:=asg) (body:=body) hs hgl hlk hr0 h1 h2 hlen hps (fun l a hr=>by
  refine wpIn_mono (hw (some l) w.heap.size (fun _=>hnA) G M a w hr) ?_
  rintro e a1 w1 ⟨ie,G1,M1,fr1,hp1,rfl,hq,hr1,hx1⟩
  cases ie with
  | exit id=>exact hq.elim
  | goto l=>exact hq.elim
  | ret=>exact hq.elim
  | normal=>
   obtain ⟨mm,frm,psm,asm,bdm,k1,k2⟩:=hq
   refine ⟨rfl,G1,M1,fr1,hp1,mm,frm,psm,asm,bdm,hr1,hx1,k1,fun w2 hr2 hx2=>?_⟩
   refine wpIn_mono (k2 (some l) w.heap.size (fun _=>hnB) G1 M1 a1 _ hr2) ?_
   rintro e a2 w3 ⟨ie,G2,M2,fr2,hp2,rfl,hq2,hr3,hx3⟩
   cases ie with
   | exit id=>exact hq2.elim
   | goto l=>exact hq2.elim
   | ret=>exact hq2.elim
   | normal=>
    obtain ⟨fr3,hp3,G3,M3,⟨mn,frn,psn,asn,bdn,h3,j1,j2,j3⟩,hr4,hx4⟩:=MvP.sound hq2 hr3
    exact ⟨rfl,G3,M3,hp3,mn,frn,psn,asn,bdn,hr4.sim,(hx2.trans hx3).trans hx4,j1,h3,j2,j3⟩)
 obtain ⟨l,fn,tmps,asg,body,e1,e2,e3⟩:=key
 refine ⟨l,fn,tmps,asg,body,e1,e2,RoundIn.mono e3 ?_⟩
 rintro e w' ⟨rfl,G',M',h',⟨h3,j2,j3⟩,q3,q4⟩
 exact ⟨.bool true,.bool true,h3,G',M',rfl,j3,.bool _,⟨q3.gw,fun b k hk=>q3.hb b k (j2.spec b k hk),q3.inj,q3.mlt⟩,q4⟩
theorem own_call {rd : Option Nat} (hr : R bs n gl G M fr h a w) {o : Oper} {c : Call} {f : Operand} {Q : Exit→Act→World→Prop} (ho : o.op = .call c) (hc : c.callee = .value f) {b g : Nat} {vs : List V}
  (hf : ev gl fr (co f) = some (.own b g)) (hvs : evs gl fr (c.args.toList.map co) = some vs) {K : V→Hp→Prop} (hy : IYield P gl b g vs h K) :
  o.wpIn (FW rd) 0 P a w (fun a' w'=>∃ rv v h' G' M',a' = a.put o.dst rv∧K v h'∧RelV G' M' v rv∧Sim G' M' h' w'∧Ext G M w G' M' w') Q:=by
 obtain ⟨v1,v2⟩:=evs_co hr hvs
 have rf:=ev_co hr hf
 obtain ⟨l,fn,tmps,asg,body,e1,e2,e3⟩:=round_sound (rd:=rd) hr.sim hr.gl hy rf (ra:=c.args.map a.eval) (by simp [v1]) (fun i hi=>by
  have:=v2 i hi
  rw [← getD_map_toList] at this
  simpa only [Array.getD_eq_getD_getElem?,List.getD_eq_getElem?_getD] using this)
 have hs : Oper.semAt (FW rd).round a.eval o = execOp a.eval o:=Oper.semAt_eq _ _ _ fun c' hc'=>by rw [ho] at hc'; cases hc'
 have hrun : (execOp a.eval o).run P w = .ok (.round l fn tmps asg body) w:=by
  simp [execOp,ho,resolve,hc,e1,Deferred.ofValue,invoke]
  exact e2
 refine ⟨fun _ _=>trivial,?_⟩
 rw [hs,hrun,Oper.uponIn_round]
 refine ⟨(fun h=>nomatch h),RoundIn.mono e3 ?_⟩
 rintro e w' ⟨rv,v,h',G',M',rfl,q1,q2,q3,q4⟩
 exact ⟨rv,v,h',G',M',rfl,q1,q2,q3,q4⟩
theorem IW.sub {c : Code} {Q : IQ} {fr' : Fr} {h' : Hp} (hf : Sub fr' fr) (hh : Sub h' h) (hc : IW P n gl c Q fr' h') : IW P n gl c Q fr h:=
 fun rd bs hn G M a w hr=>hc rd bs hn G M a w (hr.weaken hf.spec hh.spec)
theorem ICallO.sub {f : FuncId} {args : List V} {K : V→Hp→Prop} {h' : Hp} (hh : Sub h' h) (hc : ICallO P gl f args h' K) : ICallO P gl f args h K:=
 ⟨hc.1,fun G M w rargs hs=>hc.2 G M w rargs ⟨hs.gw,fun b k hk=>hs.hb b k (hh.spec b k hk),hs.inj,hs.mlt⟩⟩
theorem ICallO.mono {f : FuncId} {args : List V} {K K' : V→Hp→Prop} (hc : ICallO P gl f args h K) (hk : ∀ v h',K v h'→K' v h') : ICallO P gl f args h K':=
 ⟨hc.1,fun G M w rargs h1 h2 h3 h4=>Calls.mono (hc.2 G M w rargs h1 h2 h3 h4) fun _ _ ⟨rv,v,h',G',M',q1,q2,q3,q4,q5⟩=>⟨rv,v,h',G',M',q1,hk _ _ q2,q3,q4,q5⟩⟩
theorem IW.rng' {f : Operand} {ps : Array Tmp} {asg body : Code} {Q : IQ} {fid : FuncId} {fst cap : List V} {frs : Fr} {hs : Hp} (b : Nat) (hf : ev gl fr (co f) = some (.fn fid fst cap)) (h1 : Sub frs fr) (h2 : Sub hs h)
  (hc : ∀ g,ICallO P gl fid (fst ++ [.own b g] ++ cap) ((b,.loop g n frs ps.toList asg body false) :: hs) (fun _ h'=>∃ m frl psl asl bdl,lk h' b = some (.loop g m frl psl asl bdl false)∧Q .normal fr ((b,.dead g) :: h'))) :
  IW P n gl (.rangeFunc f ps asg body) Q fr h:=by
 intro rd bs hn G M a w hr
 cases rd with
 | some l=>exact absurd (hn rfl) (by simp [noR])
 | none=>
 refine wpIn_mono (rng_core (KK:=fun _ _ h'=>Q .normal fr h') (hr.weaken (fun _ _ q=>q) h2.spec) b frs h1.spec hf (hc 0).1 fun mb w1 rargs _ hs1 hgl hsz hrel=>?_) ?_
 ·refine Calls.mono ((hc (freshGen M b)).2 G _ w1 rargs hs1 hgl hsz hrel) ?_
  rintro e w' ⟨rv,v,h',G',M',rfl,⟨m,frl,psl,asl,bdl,k1,k2⟩,-,q3,q4⟩
  exact ⟨rv,G',M',h',m,frl,psl,asl,bdl,rfl,k1,k2,q3,q4⟩
 ·rintro e a' w' ⟨rfl,G',M',h',q1,q2,q3⟩
  exact ⟨.normal,G',M',fr,h',rfl,q1,q2,q3⟩
end
end Go.Proofs.YtcdfifbabhfknaaDoor
