/- Lemmas. Conditions: none. -/
import Derived.Test.YtpaopccohkldlaaGreatDoorA2
import Derived.Test.YtpaopccohkldlaaGreatDoorXP
import Derived.Test.YtpaopccohkldlaaGreatDoorBase23
import Derived.Test.YtpaopccohkldlaaGreatDoorNet2
import Derived.Test.YtpaopccohkldlaaGreatDoorNet9
set_option linter.all false
namespace Go.Proofs.YtpaopccohkldlaaGreatDoor
section
open Go
theorem q6f (O S:List Nat):VLe (qgq O S) (.agg [.undef,.undef]):=fun G M r h=>by
 cases h with
 | agg _ arr hs q ho=>
  refine .agg _ arr hs (fun i hi=>?_) ho
  match i,hi with
  | 0,_=>exact .undef _
  | 1,_=>exact .undef _
theorem qub (h:Hp) (n:Nat) (cs:List V):frz h n (.tup cs) = .tup (cs.map (frz h n)):=by
 cases n <;> simp [frz,qco]
theorem q0z (N:Nat) (F:Nat->Nat):jne (tU N F) = true:=by
 rw [jnm];intro v hv;obtain ⟨i,-,rfl⟩:=List.mem_map.1 (show v ∈ (List.range N).map (fun i=>u8V (F i)) by simpa [tU,tab] using hv);rfl
def qxb (pre:List V) (N:Nat) (F:Nat->Nat) (v:V) (h:Hp):Prop:=∃ g,v = .tup (pre ++ [.ref 0 g 0 N (some N),.int .i64 0])/\h = [(0,.row g 1 (tU N F))]
theorem qxb.dat {pre:List V} {N:Nat} {F:Nat->Nat} {v:V} {h:Hp} (hk:qxb pre N F v h) (hp:jm8 pre = true) (hn:jne pre = true):q1l 1 (.tup (pre ++ [.sl (tU N F) (some N),.int .i64 0])) v h:=by
 obtain ⟨g,rfl,rfl⟩:=hk;refine ⟨?_,fun x k hk=>?_,?_⟩
 ·show jne _ = true;rw [jnm] at hn ⊢;intro v hv;rcases List.mem_append.1 hv with h | h
  ·exact hn v h
  ·simp at h; rcases h with rfl | rfl <;> rfl
 ·simp only [lk] at hk;split at hk
  ·cases hk; exact q0z N F
  ·cases hk
 ·have e:frz [(0,.row g 1 (tU N F))] 1 (.tup (pre ++ [.ref 0 g 0 N (some N),.int .i64 0])) = .tup (pre ++ [.sl (tU N F) (some N),.int .i64 0]):=by
   rw [qub,List.map_append,qbj _ _ hp];simp only [List.map_cons,List.map_nil];rw [qbb (es:=tU N F) (sz:=1) (by simp) (by simp),List.drop_zero,jpb (by simp),qbj _ _ (qbg N F),qcb _ _ rfl]
  rw [e];exact .refl _
theorem q6g (c:Ci) (hg:c.good) (p:Pt) (hp:p.fit c):qbl Tryz.prog gl0 38 [c.v,p.v] (qxb [.agg [.undef,.undef]] c.n.length (qbm c p)):=by
 have hob:=(qnh c hg (qbm c p) (some c.n.length)).wide (res':=.agg [.undef,.undef]) (qf1.refl _) (q6f _ _);unfold qhi at hob;refine jo5 ok38 rfl (jes c hg p hp _ fun gr gn g4=>?_)
 have hfr:∀ h:Hp,lk h 34 = some (.row gn 1 (tab c.n.length fun j=>u8V (qbm c p j)))->frz h 2 (qhi c (.ref 34 gn 0 c.n.length (some c.n.length))) = qhi c (.sl (tab c.n.length fun j=>u8V (qbm c p j)) (some c.n.length)):=fun h e=>by
  have e1:∀ v:V,v.pure = true->frz h 2 v = v:=fun v hv=>qcb h 2 hv;unfold qhi;rw [qfi];simp only [List.map_cons,List.map_nil];rw [e1 _ (by simp),e1 _ (by simp),e1 _ (by simp),e1 _ (by simp),qbb e (by simp),List.drop_zero,jpb (by simp),qbj _ _ (qdu _ _)]
 generalize qbm c p = F at hob hfr ⊢;generalize c.n.length = N at hob hfr ⊢;refine .done ?_;simp [jhc,i38,qhi];intro gm2;refine ⟨_,_,_,.borrow 2 hob ?_ rfl,?_⟩
 ·exact congrArg (· :: []) (hfr _ (by simp))
 simp;refine ⟨rfl,.move 34 0 _ (by simp) (by simp; rfl) fun g=>.done ?_⟩;simp;exact ⟨[(0,.row g 1 (tU N F))],by simp [tU,qae (qdu N F)],g,rfl,rfl⟩
theorem joe {P:Program} {gl:Fr} {f:FuncId} {args:List V} {h:Hp} {K K':V->Hp->Prop} (hc:qau P gl f args h K) (hk:∀ v h',K v h'->∃ v',VLe v v'/\K' v' h'):qau P gl f args h K':=
 ⟨hc.1,fun G M w rargs h1 h2 h3 h4=>Calls.mono (hc.2 G M w rargs h1 h2 h3 h4) fun _ _ ⟨rv,v,h',G',M',q1,q2,q3,q4,q5⟩=>let ⟨v',r1,r2⟩:=hk v h' q2; ⟨rv,v',h',G',M',q1,r2,r1 _ _ _ q3,q4,q5⟩⟩
theorem q6y (c:Ci) (hg:c.good) (f:Ft) (hf:f.ok c) (hm:f.m = 0) (p:Pt) (hp:p.fit c) :
  qbl Tryz.prog gl0 77 [c.v,f.w,p.v] (qxb [.agg [.undef,.undef],.agg [.undef,.undef]] c.n.length (f.M c p)):=by
 have hfc:=qhu c hg f hf;have hNW:FnW (nfV f (.fn 155 [] [.iptr f.w 0])) f.sW:=jfa f _ _ (q4q f);have hPQ:FnQ (pfV f (.fn 155 [] [.iptr f.w 0])) f.sQ:=jfb f _ _ (q4q f);have hv:=hf.v;have hfa:=qk1 c f hm (tU c.n.length (qbm c p)) (some c.n.length) (qbg _ _);have r1:=(q6g c hg p hp).mono fun _ _ k=>k.dat rfl rfl;have hle:jag f.sW:=qtr f _ fun _=>by omega
 generalize hNF:nfV f (.fn 155 [] [.iptr f.w 0]) = NX at hNW hfa;generalize hPF:pfV f (.fn 155 [] [.iptr f.w 0]) = PX at hPQ hfa;have hrun:=fun g=>joe (q5m c hg p hp _ _ _ _ hNW hPQ hle g) (K':=fun v h=>v = .agg [.undef,.undef]/\∃ g2,h = [(900,.row g 7 [cyV c (.ref 29 g2 0 c.n.length (some c.n.length)) NX PX]),(29,.row g2 1 (tU c.n.length (f.M c p)))]) fun v h ⟨e1,e2⟩=>⟨_,by rw [e1]; exact q6f _ _,rfl,e2⟩;have hnp:=qoe hNW;have hpp:=qod hPQ;clear hNW hPQ;generalize f.M c p = M at hrun ⊢;generalize qbm c p = A at r1 hfa;have hcyp:=qn3 (c:=c) hnp hpp;have hin1:V.inB [900,29] (cyV c .nil NX PX) = true:=jnk _ _ hcyp
 have hin2:∀ g2 N,V.inB [900,29] (cyV c (.ref 29 g2 0 N (some N)) NX PX) = true:=fun g2 N=>by
  simp [cyV,V.inB,jnb,jnk _ _ hnp,jnk _ _ hpp,jm9 _ _ (qeo _),jm9 _ _ (qdt _),jm9 _ _ (qfp _),jm9 _ _ (qdr _)]
 have hm':¬ ((f.m:Int) = 1):=by omega
 have hAp:jm8 (tU c.n.length A) = true:=qbg _ _;have hMp:jm8 (tU c.n.length M) = true:=qbg _ _;simp only [Pt.v,u8V] at r1 hrun ⊢;simp only [Ft.w,u8V,qaa] at hfc hfa;refine jo5 ok77 rfl ?_;simp [i77,x77,u8V,qaa];intro gf1 gf2 gf3 gf4 gf5;refine joz hfc (by simp) ?_;simp [u8V,hm'];refine CallO.dat 2 r1 (qbj _ _ (by simp)) ?_;simp;refine CallO.own 900 hfa (by simp [jm8,V.pure,u8V,qaa,hAp]) (by simp) ?_;rintro v h ⟨g0,rfl,rfl⟩ gf8;simp [upH,upS,Blk.rn,qet _ hcyp];generalize gf8 900 + g0 = gx
 refine CallO.lend [900,29] [(900,.row gx 7 [cyV c .nil NX PX])] [(6,.row (gf4 6) 2 [.agg [.undef,.undef]]),(7,.row (gf5 7) 2 [.agg [.nil,.nil]])]
  (hrun gx) (by simp [jm9]) (by simp) (by simp [qb4,Blk.inB,hin1,jnb]) (by simp) (by simp) ?_
 rintro v h ⟨rfl,g2,rfl⟩;refine ⟨by simp [V.inB,jnb,jm9 _ _ (qav _)],by simp [qb4,Blk.inB,jnb,hin2,jm9 _ _ hMp],?_⟩;simp;intro gm3;simp [nop];refine ⟨rfl,.move 29 0 _ (by simp) (by simp; rfl) fun g=>.done ?_⟩;simp;exact ⟨[(0,.row g 1 (tU c.n.length M))],by simp [qae hMp],g,rfl,rfl⟩
end
section
open Go
theorem q9m (c:Ci) (hg:c.good) (f:Ft) (hf:f.ok c) (hm:f.m = 0) (p:Pt) (hp:p.fit c) :
  qbl Tryz.prog gl0 39 [c.v,f.w,p.v] (qxb [.agg [.undef,.undef]] c.n.length (f.M c p)):=by
 have hb:=q6y c hg f hf hm p hp;have hMp:jm8 (tU c.n.length (f.M c p)) = true:=qbg _ _;generalize f.M c p = M at hb hMp ⊢;simp only [Pt.v,Ft.w] at hb ⊢;refine jo5 ok39 rfl ?_;simp [i39,x39,Ft.w];intro gf1 gf2 gf3 gf4;refine CallO.own 900 hb (by simp [jm8,V.pure,u8V,qaa]) (by simp) ?_;rintro v h ⟨g0,rfl,rfl⟩ gf8;simp [upH,upS,Blk.rn,qae hMp];generalize gf8 900 + g0 = gx;intro gf9 gf10;refine .move 900 0 _ (by simp) (by simp; rfl) fun g=>.done ?_;simp;exact ⟨[(0,.row g 1 (tU c.n.length M))],by simp [qae hMp],g,rfl,rfl⟩
def jba (post:List V) (N:Nat) (A M:Nat->Nat) (v:V) (h:Hp):Prop:=∃ g0 g1,v = .tup ([.ref 0 g0 0 N (some N),.ref 1 g1 0 N (some N)] ++ post)/\h = [(0,.row g0 1 (tU N A)),(1,.row g1 1 (tU N M))]
theorem q4v (c:Ci) (hg:c.good) (f:Ft) (hf:f.ok c) (hm:f.m = 0) (p:Pt) (hp:p.fit c) :
  qbl Tryz.prog gl0 79 [c.v,f.w,p.v] (jba [] c.n.length (qbm c p) (f.M c p)):=by
 have h1:=q6g c hg p hp;have h2:=q9m c hg f hf hm p hp;have hMp:jm8 (tU c.n.length (f.M c p)) = true:=qbg _ _;have hAp:jm8 (tU c.n.length (qbm c p)) = true:=qbg _ _;generalize f.M c p = M at h2 hMp ⊢;generalize qbm c p = A at h1 hAp ⊢;simp only [Pt.v,Ft.w] at h1 h2 ⊢;refine jo5 ok79 rfl ?_;simp [i79,x79,Ft.w];intro gf1 gf2 gf3;refine CallO.own 900 h1 (by simp [jm8,V.pure,u8V,qaa]) (by simp) ?_;rintro v h ⟨g0,rfl,rfl⟩ gf8;simp [upH,upS,Blk.rn,qae hAp];generalize gf8 900 + g0 = gx;refine CallO.own 1000 h2 (by simp [jm8,V.pure,u8V,qaa]) (by simp) ?_;rintro v h ⟨g1,rfl,rfl⟩ gf9;simp [upH,upS,Blk.rn,qae hMp];generalize gf9 1000 + g1 = gy;refine .move 900 0 _ (by simp) (by simp; rfl) fun g=>.move 1000 1 _ (by simp) (by simp; rfl) fun g'=>.done ?_;simp [-List.map_map,qae hMp,qae hAp];exact ⟨[(0,.row g 1 (tU c.n.length A)),(1,.row g' 1 (tU c.n.length M))],by simp [-List.map_map,qae hMp,qae hAp],g,g',rfl,rfl⟩
theorem q85 (c:Ci) (hg:c.good) (hk:c.plain) (f:Ft) (hf:f.ok c) (hm:f.m = 0) (p:Pt) (hp:p.fit c) (hc:p.cu) :
  qbl Tryz.prog gl0 37 [c.v,f.w,p.v] (jba [.int .i64 0] c.n.length (qbm c p) (f.M c p)):=by
 have h1:=qkn c hg hk f hf hm p hp hc;have h2:=q4v c hg f hf hm p hp;have hMp:jm8 (tU c.n.length (f.M c p)) = true:=qbg _ _;have hAp:jm8 (tU c.n.length (qbm c p)) = true:=qbg _ _;generalize f.M c p = M at h2 hMp ⊢;generalize qbm c p = A at h2 hAp ⊢;simp only [Pt.v,Ft.w] at h1 h2 ⊢;refine jo5 ok37 rfl ?_;simp [i37,x37,Ft.w];intro gf1 gf2 gf3;refine joz h1 (by simp [jm8,V.pure,u8V,qaa]) ?_;simp;refine CallO.own 900 h2 (by simp [jm8,V.pure,u8V,qaa]) (by simp) ?_;rintro v h ⟨g0,g1,rfl,rfl⟩ gf8;simp [upH,upS,Blk.rn,qae hAp,qae hMp];generalize gf8 900 + g0 = gx;generalize gf8 901 + g1 = gy;refine .move 900 0 _ (by simp) (by simp; rfl) fun g=>.move 901 1 _ (by simp) (by simp; rfl) fun g'=>.done ?_;simp [-List.map_map,qae hMp,qae hAp];exact ⟨[(0,.row g 1 (tU c.n.length A)),(1,.row g' 1 (tU c.n.length M))],by simp [-List.map_map,qae hMp,qae hAp],g,g',rfl,rfl⟩
end
section
open Go
def sq1:Code->Code
 | .seq a _=>a
 | c=>c
def sq2:Code->Code
 | .seq _ b=>b
 | c=>c
def cd1:Code->Code
 | .cond _ a _=>a
 | c=>c
def rgo:Code->Nat->Oper
 | .region _ ops _,i=>ops.getD i default
 | _,_=>default
def rgi:Code->Nat
 | .region i _ _=>i
 | _=>0
def bdy (f:Func):Code:=match f.body with
 | some c=>c
 | none=>.skip
def xs1:XC->XC
 | .seq a _=>a
 | c=>c
def xs2:XC->XC
 | .seq _ b=>b
 | c=>c
def spT:TypeId:=222
def qrk (ch:List PanicEntry):Prop:=ch = [{ v:=.iface spT (.agg #[]),recovered:=false }]
noncomputable def sp0:Code:=sq1 (sq1 (bdy Tryz.f168))
noncomputable def sp1:Code:=cd1 (sq2 (sq1 (bdy Tryz.f168)))
noncomputable def sp2:Code:=sq2 (bdy Tryz.f168)
theorem q4l:Tryz.f168.body = some (.seq (.seq sp0 (.cond (.tmp 10) sp1 .skip)) sp2):=by kernel_rfl
theorem jmd:qcr Tryz.prog 20 sp0 = some (xs1 (xs1 jg9)):=by kernel_rfl
theorem jme:qcr Tryz.prog 20 sp2 = some (xs2 jg9):=by kernel_rfl
theorem q0t:sp1 = .region (rgi sp1) #[rgo sp1 0,rgo sp1 1,rgo sp1 2] false:=by kernel_rfl
theorem jmf:Tryz.prog.underlying spT = some (.struct #[]):=by kernel_rfl
theorem jmg (w:World):(Instr.build spT #[]).run Tryz.prog w = .ok (.agg #[]) w:=by kernel_rfl
theorem q9s (b g l u:Nat) (hl:l < 1000000000) (hu:u < 1000000000):qby Tryz.prog gl0 168 [.ptr b g 0 0] [(b,.row g 2 [.agg [.int .i64 (l:Int),.int .i64 (u:Int)]])]
  (fun v h=>u ≠ l/\v = .tup []/\h = [(b,.row g 2 [.agg [.int .i64 (l:Int),.int .i64 ((u + 1:Nat):Int)]])])
  fun ch h=>u = l/\qrk ch/\h = [(b,.row g 2 [.agg [.int .i64 (l:Int),.int .i64 (u:Int)]])]:=by
 have hw:=qa5 u (by omega);refine qby.of_body Tryz.func168 q4l (by decide) (show 1≤_ by decide) (rs:=[]) (by kernel_rfl) (IWP.seq (IWP.seq (.of (qcx jmd ?_))));simp [xs1,jg9,nop];refine IWP.cond (t:=decide (u = l)) (by simp [co,ev]) ?_;by_cases e:u = l
 ·rw [decide_eq_true e,if_pos rfl,q0t];refine joq (T:=spT) (T0:=spT) (z:=.agg #[]) (d0:=11) (t:=12) (u:=.struct #[]) (by kernel_rfl) (by kernel_rfl) (by kernel_rfl) (by kernel_rfl) (by kernel_rfl) (by kernel_rfl) (by kernel_rfl) (by kernel_rfl) (by decide) (by decide) jmg jmf (fun _ h=>by cases h) fun fr'=>?_;simp [qpa,q9h];exact ⟨[(b,.row g 2 [.agg [.int .i64 (l:Int),.int .i64 (u:Int)]])],by simp,e,rfl,rfl⟩
 ·rw [decide_eq_false e,if_neg (by simp)];refine .of (IW.skip ?_);simp [qpa,q9h];refine .of (qcx jme ?_);simp [xs2,jg9,nop,hw,q9h];exact .done ⟨by simp,e⟩
end
end Go.Proofs.YtpaopccohkldlaaGreatDoor
