/- Lemmas. Conditions: none. -/
import Derived.Test.YtpaopccohkldlaaGreatDoorA2
import Derived.Test.YtpaopccohkldlaaGreatDoorXP
import Derived.Test.YtpaopccohkldlaaGreatDoorBase23
import Derived.Test.YtpaopccohkldlaaGreatDoorNet2
import Derived.Test.YtpaopccohkldlaaGreatDoorNet9
set_option linter.all false
namespace Go.Proofs.YtpaopccohkldlaaGreatDoor
section
open Go
theorem q58 (O S:List Nat):VLe (qf4 O S) (.agg [.undef,.undef]):=fun G M r h=>by
 cases h with
 | agg _ arr hs q ho=>
  refine .agg _ arr hs (fun i hi=>?_) ho
  match i,hi with
  | 0,_=>exact .undef _
  | 1,_=>exact .undef _
theorem qtu (h:Hp) (n:Nat) (cs:List V):frz h n (.tup cs) = .tup (cs.map (frz h n)):=by
 cases n <;> simp [frz,qcj]
theorem q0u (N:Nat) (F:Nat->Nat):jnl (tU N F) = true:=by
 rw [jnt];intro v hv;obtain ⟨i,-,rfl⟩:=List.mem_map.1 (show v ∈ (List.range N).map (fun i=>u8V (F i)) by simpa [tU,tab] using hv);rfl
def qw3 (pre:List V) (N:Nat) (F:Nat->Nat) (v:V) (h:Hp):Prop:=∃ g,v = .tup (pre ++ [.ref 0 g 0 N (some N),.int .i64 0])/\h = [(0,.row g 1 (tU N F))]
theorem qw3.dat {pre:List V} {N:Nat} {F:Nat->Nat} {v:V} {h:Hp} (hk:qw3 pre N F v h) (hp:jne pre = true) (hn:jnl pre = true):qwh 1 (.tup (pre ++ [.sl (tU N F) (some N),.int .i64 0])) v h:=by
 obtain ⟨g,rfl,rfl⟩:=hk;refine ⟨?_,fun x k hk=>?_,?_⟩
 ·show jnl _ = true;rw [jnt] at hn ⊢;intro v hv;rcases List.mem_append.1 hv with h | h
  ·exact hn v h
  ·simp at h; rcases h with rfl | rfl <;> rfl
 ·simp only [lk] at hk;split at hk
  ·cases hk; exact q0u N F
  ·cases hk
 ·have e:frz [(0,.row g 1 (tU N F))] 1 (.tup (pre ++ [.ref 0 g 0 N (some N),.int .i64 0])) = .tup (pre ++ [.sl (tU N F) (some N),.int .i64 0]):=by
   rw [qtu,List.map_append,qbw _ _ hp];simp only [List.map_cons,List.map_nil];rw [qbx (es:=tU N F) (sz:=1) (by simp) (by simp),List.drop_zero,jpj (by simp),qbw _ _ (qbd N F),qcs _ _ rfl]
  rw [e];exact .refl _
theorem q59 (c:Ci) (hg:c.good) (p:Pt) (hp:p.fit c):qbi Tryz.prog gl0 38 [c.v,p.v] (qw3 [.agg [.undef,.undef]] c.n.length (qbj c p)):=by
 have hob:=(qmu c hg (qbj c p) (some c.n.length)).wide (res':=.agg [.undef,.undef]) (qf6.refl _) (q58 _ _);unfold qgw at hob;refine jpd ok38 rfl (je1 c hg p hp _ fun gr gn g4=>?_)
 have hfr:∀ h:Hp,lk h 34 = some (.row gn 1 (tab c.n.length fun j=>u8V (qbj c p j)))->frz h 2 (qgw c (.ref 34 gn 0 c.n.length (some c.n.length))) = qgw c (.sl (tab c.n.length fun j=>u8V (qbj c p j)) (some c.n.length)):=fun h e=>by
  have e1:∀ v:V,v.pure = true->frz h 2 v = v:=fun v hv=>qcs h 2 hv;unfold qgw;rw [qib];simp only [List.map_cons,List.map_nil];rw [e1 _ (by simp),e1 _ (by simp),e1 _ (by simp),e1 _ (by simp),qbx e (by simp),List.drop_zero,jpj (by simp),qbw _ _ (qdr _ _)]
 generalize qbj c p = F at hob hfr ⊢;generalize c.n.length = N at hob hfr ⊢;refine .done ?_;simp [jhl,i38,qgw];intro gm2;refine ⟨_,_,_,.borrow 2 hob ?_ rfl,?_⟩
 ·exact congrArg (· :: []) (hfr _ (by simp))
 simp;refine ⟨rfl,.move 34 0 _ (by simp) (by simp; rfl) fun g=>.done ?_⟩;simp;exact ⟨[(0,.row g 1 (tU N F))],by simp [tU,qaf (qdr N F)],g,rfl,rfl⟩
theorem joj {P:Program} {gl:Fr} {f:FuncId} {args:List V} {h:Hp} {K K':V->Hp->Prop} (hc:qat P gl f args h K) (hk:∀ v h',K v h'->∃ v',VLe v v'/\K' v' h'):qat P gl f args h K':=
 ⟨hc.1,fun G M w rargs h1 h2 h3 h4=>Calls.mono (hc.2 G M w rargs h1 h2 h3 h4) fun _ _ ⟨rv,v,h',G',M',q1,q2,q3,q4,q5⟩=>let ⟨v',r1,r2⟩:=hk v h' q2; ⟨rv,v',h',G',M',q1,r2,r1 _ _ _ q3,q4,q5⟩⟩
theorem q6n (c:Ci) (hg:c.good) (f:Ft) (hf:f.ok c) (hm:f.m = 0) (p:Pt) (hp:p.fit c) :
  qbi Tryz.prog gl0 77 [c.v,f.w,p.v] (qw3 [.agg [.undef,.undef],.agg [.undef,.undef]] c.n.length (f.M c p)):=by
 have hfc:=qha c hg f hf;have hNW:FnW (nfV f (.fn 155 [] [.iptr f.w 0])) f.sW:=jfk f _ _ (q4j f);have hPQ:FnQ (pfV f (.fn 155 [] [.iptr f.w 0])) f.sQ:=jfl f _ _ (q4j f);have hv:=hf.v;have hfa:=qki c f hm (tU c.n.length (qbj c p)) (some c.n.length) (qbd _ _);have r1:=(q59 c hg p hp).mono fun _ _ k=>k.dat rfl rfl;have hle:jac f.sW:=qs8 f _ fun _=>by omega
 generalize hNF:nfV f (.fn 155 [] [.iptr f.w 0]) = NX at hNW hfa;generalize hPF:pfV f (.fn 155 [] [.iptr f.w 0]) = PX at hPQ hfa;have hrun:=fun g=>joj (q5e c hg p hp _ _ _ _ hNW hPQ hle g) (K':=fun v h=>v = .agg [.undef,.undef]/\∃ g2,h = [(900,.row g 7 [cyV c (.ref 29 g2 0 c.n.length (some c.n.length)) NX PX]),(29,.row g2 1 (tU c.n.length (f.M c p)))]) fun v h ⟨e1,e2⟩=>⟨_,by rw [e1]; exact q58 _ _,rfl,e2⟩;have hnp:=qnr hNW;have hpp:=qnq hPQ;clear hNW hPQ;generalize f.M c p = M at hrun ⊢;generalize qbj c p = A at r1 hfa;have hcyp:=qni (c:=c) hnp hpp;have hin1:V.inB [900,29] (cyV c .nil NX PX) = true:=jnq _ _ hcyp
 have hin2:∀ g2 N,V.inB [900,29] (cyV c (.ref 29 g2 0 N (some N)) NX PX) = true:=fun g2 N=>by
  simp [cyV,V.inB,jni,jnq _ _ hnp,jnq _ _ hpp,jnf _ _ (qek _),jnf _ _ (qec _),jnf _ _ (qfc _),jnf _ _ (qdp _)]
 have hm':¬ ((f.m:Int) = 1):=by omega
 have hAp:jne (tU c.n.length A) = true:=qbd _ _;have hMp:jne (tU c.n.length M) = true:=qbd _ _;simp only [Pt.v,u8V] at r1 hrun ⊢;simp only [Ft.w,u8V,qaa] at hfc hfa;refine jpd ok77 rfl ?_;simp [i77,x77,u8V,qaa];intro gf1 gf2 gf3 gf4 gf5;refine jo7 hfc (by simp) ?_;simp [u8V,hm'];refine CallO.dat 2 r1 (qbw _ _ (by simp)) ?_;simp;refine CallO.own 900 hfa (by simp [jne,V.pure,u8V,qaa,hAp]) (by simp) ?_;rintro v h ⟨g0,rfl,rfl⟩ gf8;simp [upH,upS,Blk.rn,qea _ hcyp];generalize gf8 900 + g0 = gx
 refine CallO.lend [900,29] [(900,.row gx 7 [cyV c .nil NX PX])] [(6,.row (gf4 6) 2 [.agg [.undef,.undef]]),(7,.row (gf5 7) 2 [.agg [.nil,.nil]])]
  (hrun gx) (by simp [jnf]) (by simp) (by simp [qb4,Blk.inB,hin1,jni]) (by simp) (by simp) ?_
 rintro v h ⟨rfl,g2,rfl⟩;refine ⟨by simp [V.inB,jni,jnf _ _ (qar _)],by simp [qb4,Blk.inB,jni,hin2,jnf _ _ hMp],?_⟩;simp;intro gm3;simp [nop];refine ⟨rfl,.move 29 0 _ (by simp) (by simp; rfl) fun g=>.done ?_⟩;simp;exact ⟨[(0,.row g 1 (tU c.n.length M))],by simp [qaf hMp],g,rfl,rfl⟩
end
section
open Go
theorem q9f (c:Ci) (hg:c.good) (f:Ft) (hf:f.ok c) (hm:f.m = 0) (p:Pt) (hp:p.fit c) :
  qbi Tryz.prog gl0 39 [c.v,f.w,p.v] (qw3 [.agg [.undef,.undef]] c.n.length (f.M c p)):=by
 have hb:=q6n c hg f hf hm p hp;have hMp:jne (tU c.n.length (f.M c p)) = true:=qbd _ _;generalize f.M c p = M at hb hMp ⊢;simp only [Pt.v,Ft.w] at hb ⊢;refine jpd ok39 rfl ?_;simp [i39,x39,Ft.w];intro gf1 gf2 gf3 gf4;refine CallO.own 900 hb (by simp [jne,V.pure,u8V,qaa]) (by simp) ?_;rintro v h ⟨g0,rfl,rfl⟩ gf8;simp [upH,upS,Blk.rn,qaf hMp];generalize gf8 900 + g0 = gx;intro gf9 gf10;refine .move 900 0 _ (by simp) (by simp; rfl) fun g=>.done ?_;simp;exact ⟨[(0,.row g 1 (tU c.n.length M))],by simp [qaf hMp],g,rfl,rfl⟩
def ja8 (post:List V) (N:Nat) (A M:Nat->Nat) (v:V) (h:Hp):Prop:=∃ g0 g1,v = .tup ([.ref 0 g0 0 N (some N),.ref 1 g1 0 N (some N)] ++ post)/\h = [(0,.row g0 1 (tU N A)),(1,.row g1 1 (tU N M))]
theorem q4p (c:Ci) (hg:c.good) (f:Ft) (hf:f.ok c) (hm:f.m = 0) (p:Pt) (hp:p.fit c) :
  qbi Tryz.prog gl0 79 [c.v,f.w,p.v] (ja8 [] c.n.length (qbj c p) (f.M c p)):=by
 have h1:=q59 c hg p hp;have h2:=q9f c hg f hf hm p hp;have hMp:jne (tU c.n.length (f.M c p)) = true:=qbd _ _;have hAp:jne (tU c.n.length (qbj c p)) = true:=qbd _ _;generalize f.M c p = M at h2 hMp ⊢;generalize qbj c p = A at h1 hAp ⊢;simp only [Pt.v,Ft.w] at h1 h2 ⊢;refine jpd ok79 rfl ?_;simp [i79,x79,Ft.w];intro gf1 gf2 gf3;refine CallO.own 900 h1 (by simp [jne,V.pure,u8V,qaa]) (by simp) ?_;rintro v h ⟨g0,rfl,rfl⟩ gf8;simp [upH,upS,Blk.rn,qaf hAp];generalize gf8 900 + g0 = gx;refine CallO.own 1000 h2 (by simp [jne,V.pure,u8V,qaa]) (by simp) ?_;rintro v h ⟨g1,rfl,rfl⟩ gf9;simp [upH,upS,Blk.rn,qaf hMp];generalize gf9 1000 + g1 = gy;refine .move 900 0 _ (by simp) (by simp; rfl) fun g=>.move 1000 1 _ (by simp) (by simp; rfl) fun g'=>.done ?_;simp [-List.map_map,qaf hMp,qaf hAp];exact ⟨[(0,.row g 1 (tU c.n.length A)),(1,.row g' 1 (tU c.n.length M))],by simp [-List.map_map,qaf hMp,qaf hAp],g,g',rfl,rfl⟩
theorem q8u (c:Ci) (hg:c.good) (hk:c.plain) (f:Ft) (hf:f.ok c) (hm:f.m = 0) (p:Pt) (hp:p.fit c) (hc:p.cu) :
  qbi Tryz.prog gl0 37 [c.v,f.w,p.v] (ja8 [.int .i64 0] c.n.length (qbj c p) (f.M c p)):=by
 have h1:=qj6 c hg hk f hf hm p hp hc;have h2:=q4p c hg f hf hm p hp;have hMp:jne (tU c.n.length (f.M c p)) = true:=qbd _ _;have hAp:jne (tU c.n.length (qbj c p)) = true:=qbd _ _;generalize f.M c p = M at h2 hMp ⊢;generalize qbj c p = A at h2 hAp ⊢;simp only [Pt.v,Ft.w] at h1 h2 ⊢;refine jpd ok37 rfl ?_;simp [i37,x37,Ft.w];intro gf1 gf2 gf3;refine jo7 h1 (by simp [jne,V.pure,u8V,qaa]) ?_;simp;refine CallO.own 900 h2 (by simp [jne,V.pure,u8V,qaa]) (by simp) ?_;rintro v h ⟨g0,g1,rfl,rfl⟩ gf8;simp [upH,upS,Blk.rn,qaf hAp,qaf hMp];generalize gf8 900 + g0 = gx;generalize gf8 901 + g1 = gy;refine .move 900 0 _ (by simp) (by simp; rfl) fun g=>.move 901 1 _ (by simp) (by simp; rfl) fun g'=>.done ?_;simp [-List.map_map,qaf hMp,qaf hAp];exact ⟨[(0,.row g 1 (tU c.n.length A)),(1,.row g' 1 (tU c.n.length M))],by simp [-List.map_map,qaf hMp,qaf hAp],g,g',rfl,rfl⟩
end
section
open Go
def sq1:Code->Code
 | .seq a _=>a
 | c=>c
def sq2:Code->Code
 | .seq _ b=>b
 | c=>c
def cd1:Code->Code
 | .cond _ a _=>a
 | c=>c
def rgo:Code->Nat->Oper
 | .region _ ops _,i=>ops.getD i default
 | _,_=>default
def rgi:Code->Nat
 | .region i _ _=>i
 | _=>0
def bdy (f:Func):Code:=match f.body with
 | some c=>c
 | none=>.skip
def xs1:XC->XC
 | .seq a _=>a
 | c=>c
def xs2:XC->XC
 | .seq _ b=>b
 | c=>c
def spT:TypeId:=222
def qqx (ch:List PanicEntry):Prop:=ch = [{ v:=.iface spT (.agg #[]),recovered:=false }]
noncomputable def sp0:Code:=sq1 (sq1 (bdy Tryz.f168))
noncomputable def sp1:Code:=cd1 (sq2 (sq1 (bdy Tryz.f168)))
noncomputable def sp2:Code:=sq2 (bdy Tryz.f168)
theorem q4d:Tryz.f168.body = some (.seq (.seq sp0 (.cond (.tmp 10) sp1 .skip)) sp2):=by kernel_rfl
theorem jmk:qcm Tryz.prog 20 sp0 = some (xs1 (xs1 jhi)):=by kernel_rfl
theorem jml:qcm Tryz.prog 20 sp2 = some (xs2 jhi):=by kernel_rfl
theorem q0p:sp1 = .region (rgi sp1) #[rgo sp1 0,rgo sp1 1,rgo sp1 2] false:=by kernel_rfl
theorem jmm:Tryz.prog.underlying spT = some (.struct #[]):=by kernel_rfl
theorem jmn (w:World):(Instr.build spT #[]).run Tryz.prog w = .ok (.agg #[]) w:=by kernel_rfl
theorem q9m (b g l u:Nat) (hl:l < 1000000000) (hu:u < 1000000000):qby Tryz.prog gl0 168 [.ptr b g 0 0] [(b,.row g 2 [.agg [.int .i64 (l:Int),.int .i64 (u:Int)]])]
  (fun v h=>u ≠ l/\v = .tup []/\h = [(b,.row g 2 [.agg [.int .i64 (l:Int),.int .i64 ((u + 1:Nat):Int)]])])
  fun ch h=>u = l/\qqx ch/\h = [(b,.row g 2 [.agg [.int .i64 (l:Int),.int .i64 (u:Int)]])]:=by
 have hw:=qa1 u (by omega);refine qby.of_body Tryz.func168 q4d (by decide) (show 1≤_ by decide) (rs:=[]) (by kernel_rfl) (IWP.seq (IWP.seq (.of (qcq jmk ?_))));simp [xs1,jhi,nop];refine IWP.cond (t:=decide (u = l)) (by simp [co,ev]) ?_;by_cases e:u = l
 ·rw [decide_eq_true e,if_pos rfl,q0p];refine jox (T:=spT) (T0:=spT) (z:=.agg #[]) (d0:=11) (t:=12) (u:=.struct #[]) (by kernel_rfl) (by kernel_rfl) (by kernel_rfl) (by kernel_rfl) (by kernel_rfl) (by kernel_rfl) (by kernel_rfl) (by kernel_rfl) (by decide) (by decide) jmn jmm (fun _ h=>by cases h) fun fr'=>?_;simp [qoo,q89];exact ⟨[(b,.row g 2 [.agg [.int .i64 (l:Int),.int .i64 (u:Int)]])],by simp,e,rfl,rfl⟩
 ·rw [decide_eq_false e,if_neg (by simp)];refine .of (IW.skip ?_);simp [qoo,q89];refine .of (qcq jml ?_);simp [xs2,jhi,nop,hw,q89];exact .done ⟨by simp,e⟩
end
end Go.Proofs.YtpaopccohkldlaaGreatDoor
