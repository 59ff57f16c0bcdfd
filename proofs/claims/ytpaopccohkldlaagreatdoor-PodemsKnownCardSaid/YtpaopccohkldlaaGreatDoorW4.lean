/- Podems: the search, walked. Conditions: none. -/
import Derived.Test.YtpaopccohkldlaaGreatDoorW2
set_option linter.all false
namespace Go.Proofs.YtpaopccohkldlaaGreatDoor
section
open Go
theorem qts:∀ (d:DT) (a:Nat),∀ n ∈ d.fl a,0≤n.z/\n.z≤((a + d.sz:Nat):Int)/\0≤n.o/\n.o≤((a + d.sz:Nat):Int)
 | .lf,a,n,h=>by
  simp [DT.fl] at h;subst h;simp [lfN];omega
 | .nd i z o,a,n,h=>by
  simp only [DT.fl,List.mem_cons,List.mem_append] at h;have hz:=z.sz_pos;have ho:=o.sz_pos;simp only [DT.sz];rcases h with rfl | h | h
  ·simp only []; omega
  ·have:=qts z (a + 1) n h; omega
  ·have:=qts o (a + 1 + z.sz) n h; omega
theorem qjz (S:Sea) (hS:S.ok) (hk:S.c.plain) (hw:S.w.length = cnt 0 S.c.n + cnt 14 S.c.n) (l:Nat):∀ (k:Nat) (p:Pt) (u:Nat) (t:DT) (w:Nat),p.fit S.c->p.cu->qbh S l k p u = .proof t w->t.sz + 1≤2 ^ (p.opens + 1)/\u≤w
 | 0,p,u,t,w,_,_,h=>by simp [qbh] at h
 | k + 1,p,u,t,w,hp,hc,h=>by
  unfold qbh at h;split at h
  ·cases h
  rename_i hd;split at h
  ·cases h;refine ⟨?_,jpm _⟩;have:=Nat.one_le_two_pow (n:=p.opens);simp only [DT.sz,Nat.pow_succ]; omega
  rename_i hb;split at h
  ·cases h
  obtain ⟨j,hj,hj2⟩:=qsg hS.g hk hS.f hp hc hd hb;obtain ⟨c1,c2,c3⟩:=qj7 S hS p (by rw [hw]; unfold Pt.many; rw [hp.i,hp.s]) (qbj S.c p) (S.f.M S.c p) hj hj2;generalize qb9 S p (qbj S.c p) (S.f.M S.c p) = x at h c1 c2 c3;have o1:=qez c1 c2 c3;have o2:=qez c1 c2 (show 1 - x.2≤1 by omega);split at h
  ·cases h
  ·cases h
  ·rename_i t1 w1 h1;have q1:=qjz S hS hk hw l k _ _ _ _ (jnn hp _ _ (by omega)) (qgg hc c1 (by omega)) h1;split at h
   ·cases h
   ·cases h
   ·rename_i t2 w2 h2;have q2:=qjz S hS hk hw l k _ _ _ _ (jnn hp _ _ (by omega)) (qgg hc c1 (by omega)) h2;cases h;have e1:(p.set x.1 x.2).opens + 1 = p.opens:=o1.symm;have e2:(p.set x.1 (1 - x.2)).opens + 1 = p.opens:=o2.symm;rw [e1] at q1;rw [e2] at q2;refine ⟨?_,by omega⟩;split <;> simp only [DT.sz,Nat.pow_succ] <;> omega
def VR.top:VR->Nat
 | .found _ w=>w
 | .proof _ w=>w
 | .spent _=>0
theorem qhw (S:Sea) (l:Nat):∀ (k:Nat) (p:Pt) (u:Nat),u≤l->(qbh S l k p u).top≤l
 | 0,p,u,_=>Nat.zero_le _
 | k + 1,p,u,hu=>by
  unfold qbh;split
  ·exact hu
  split
  ·exact hu
  split
  ·exact Nat.zero_le _
  split
  ·rename_i q w h1;rw [<- h1];exact qhw S l k _ _ (by omega)
  ·exact Nat.zero_le _
  ·rename_i t w h1
   have hw:(VR.proof t w).top≤l:=by
    rw [<- h1];exact qhw S l k _ _ (by omega)
   split
   ·rename_i q w h2;rw [<- h2];exact qhw S l k _ _ hw
   ·exact Nat.zero_le _
   ·rename_i t2 w2 h2;show (VR.proof t2 w2).top≤l;rw [<- h2];exact qhw S l k _ _ hw
theorem qho (p:Pt):p.opens≤p.many:=by
 unfold Pt.opens;have:=List.countP_le_length (p:=fun j=>decide (p.bit j = 2)) (l:=List.range p.many);simpa using this
theorem qnf:∀ l:List Nd,cnt 0 l + cnt 14 l≤l.length
 | []=>by simp [cnt,ids]
 | x :: l=>by
  have:=qnf l;rw [qf1,qf1];simp only [List.length_cons];by_cases h0:x.k = 0
  ·rw [if_pos h0,if_neg (by omega)]; omega
  ·rw [if_neg h0]; split <;> omega
theorem q95:qox = .seq (xs1 qox) (.seq (xs1 (xs2 qox)) (.seq (xs1 (xs2 (xs2 qox))) (.seq (xs1 (xs2 (xs2 (xs2 qox)))) (.seq (xs1 (xs2 (xs2 (xs2 (xs2 qox))))) (.seq (xs1 (xs2 (xs2 (xs2 (xs2 (xs2 qox)))))) qje))))):=rfl
theorem q4g:qje = .seq (.seq (xs1 (xs1 qje)) (.block 0 (.loop qja))) (xs2 qje):=rfl
def qnw (n v:Nat) (R:VR) (R2:Nat->VR):VR:=match R with
 | .found q w=>.found q w
 | .spent q=>.spent q
 | .proof t w=>match R2 w with
  | .found q w=>.found q w
  | .spent q=>.spent q
  | .proof t2 w2=>.proof (if v = 0 then .nd n t t2 else .nd n t2 t) w2
def trV (t:DT) (cap:Option Nat):V:=.sl ((t.fl 0).map Tn.v) cap
def dInv (S:Sea) (l k:Nat) (p:Pt) (n v u1:Nat):Nat->Nat->V->V->Prop
 | 0,u',P0,P1=>u' = u1/\P0 = .nil/\P1 = .nil
 | 1,u',P0,P1=>∃ t c1,qbh S l k (p.set n v) u1 = .proof t u'/\(v = 0->P0 = trV t c1)/\(v ≠ 0->P1 = trV t c1)
 | 2,u',P0,P1=>∃ t w t2 c1 c2,qbh S l k (p.set n v) u1 = .proof t w/\qbh S l k (p.set n (1 - v)) w = .proof t2 u'/\(v = 0->P0 = trV t c1/\P1 = trV t2 c2)/\(v ≠ 0->P1 = trV t c1/\P0 = trV t2 c2)
 | _,_,_,_=>False
def dQ (p:Pt) (n v:Nat):Nat->Pt
 | 0=>p
 | 1=>p.set n v
 | _=>p.set n (1 - v)
theorem qys (n:Nat) (z o:DT) (cz co:Option Nat) (hs:z.sz + o.sz < 10000000):qab Tryz.prog gl0 171 [qaa n,trV z cz,trV o co] (trV (.nd n z o) none):=by
 have h:=q21 n (z.fl 0) (o.fl 0) cz co (by simpa using hs) (fun x hx=>by have:=qts z 0 x hx; omega) (fun x hx=>by have:=qts o 0 x hx; omega);unfold trV;rw [jig];rw [jn4] at h;exact h
set_option maxRecDepth 10000 in
theorem q9n (S:Sea) (hS:S.ok) (hk:S.c.plain) (hw:S.w.length = cnt 0 S.c.n + cnt 14 S.c.n) (g:SG) (l k:Nat)
  (ih:∀ (p:Pt) (u:Nat),p.fit S.c->p.cu->p.opens < k->u≤l->qby Tryz.prog gl0 135 [.ptr 9002 g.s 0 0] (S.H g p l u) (KV S g l (qbh S l k p u) p) (KPV S g l (qbh S l k p u)))
  (p:Pt) (u n v g10:Nat) (hp:p.fit S.c) (hc:p.cu) (hok:p.opens≤k) (hu:u≤l) (hn:n < p.many) (hn2:p.bit n = 2) (hv:v≤1) (hul:∀ b w q t,qbh S l k q b = .proof t w->q.fit S.c->q.cu->b≤l->w≤l) (fr:Fr) (h:Hp)
  (h0:lk fr 0 = some (.ptr 9002 g.s 0 0)) (h8:lk fr 8 = some (qaa n)) (h9:lk fr 9 = some (u8V v)) (h10:lk fr 10 = some (.ptr 10 g10 0 0)) (hsb:Sub (HX S g p l u g10 [.nil,.nil]) h) :
  qje.wpP Tryz.prog gl0 (q89 q5q.rs (KV S g l (qnw n v (qbh S l k (p.set n v) u) fun w=>qbh S l k (p.set n (1 - v)) w) p) (KPV S g l (qnw n v (qbh S l k (p.set n v) u) fun w=>qbh S l k (p.set n (1 - v)) w))) fr h:=by
 have hm40:p.many≤20:=by
  have h1:=qnf S.c.n;have h2:=hS.g.n1;unfold Pt.many; rw [hp.i,hp.s]; omega
 have hsub:IntKind.u8.wrap (1 - (v:Int)) = ((1 - v:Nat):Int):=by rw [qiq] <;> omega
 obtain ⟨R,hR⟩:∃ R,qnw n v (qbh S l k (p.set n v) u) (fun w=>qbh S l k (p.set n (1 - v)) w) = R:=⟨_,rfl⟩;rw [hR,q4g];simp [qje,xs1,xs2,qox,h9,u8V,hsub]
 refine qo2.of (X:=Nat × Nat × V × V) (fun x=>[(65,qaa x.1),(64,.agg [u8V v,u8V (1 - v)]),(10,.ptr 10 g10 0 0),(8,qaa n),(0,.ptr 9002 g.s 0 0)])
  (fun x=>HX S g (dQ p n v x.1) l x.2.1 g10 [x.2.2.1,x.2.2.2]) (fun x=>x.2.1≤l/\dInv S l k p n v u x.1 x.2.1 x.2.2.1 x.2.2.2) (fun x=>2 - x.1) (.done ⟨(0,u,.nil,.nil),⟨hu,rfl,rfl,rfl⟩,by simp [qaa,u8V,h0,h8,h10],hsb⟩) ?_
 rintro ⟨j,u',P0,P1⟩ ⟨q1,q2⟩;dsimp only at q1 q2 ⊢;have os1:=qez hn hn2 hv;have os2:=qez hn hn2 (show 1 - v≤1 by omega);rw [q3a]
 match j,q2 with
 | 0,⟨e1,e2,e3⟩=>
  subst e1 e2 e3;simp [qja,qje,xs1,xs2,xbk,xlp,qox,qaa,u8V];refine qz7 S g (p) l u' n (v) g10 .nil .nil (qbh S l k (p.set n (v)) u') (by simpa using hn) (by rw [show (p).many = p.many by simp]; omega) (by omega) (ih _ _ (jnn hp _ _ (by omega)) (qgg hc hn (by omega)) (by omega) q1) _ _ (.agg [u8V v,u8V (1 - v)]) (qaa 0) (by simp) (by simp [qaa]) (by simp [u8V]) (by simp) (by simp [u8V]) (by simp [qaa]) (fun q w fr' e k2 k3=>?_) (fun q fr' ch e hch=>?_) (fun t' w fr' cap e k0 k8 k10 k64 k65=>?_)
  ·have hR2:R = .found q w:=by rw [<- hR]; simp [qnw,e]
   subst hR2;simp;refine .done ?_;simp [q5q,k2,k3];exact ⟨S.H g q l w,by simp [HX,Sea.H],rfl,rfl⟩
  ·have hR2:R = .spent q:=by rw [<- hR]; simp [qnw,e]
   subst hR2;simp;exact ⟨S.H g q l l,by simp [HX,Sea.H],hch,rfl⟩
  ·have hwl:=hul _ _ _ _ e (jnn hp _ _ (by omega)) (qgg hc hn (by omega)) q1;simp [k0,k8,k10,k64,k65,qaa,u8V];refine .done ?_;rcases (show v = 0∨v = 1 by omega) with rfl | rfl
   ·refine ⟨1,w,trV t' cap,.nil,⟨hwl,t',cap,e,fun _=>rfl,fun h=>absurd rfl h⟩,by simp [k0,k8,k10,k64,u8V,qaa],?_,by omega⟩;simp [HX,dQ,Sea.H,trV]
   ·refine ⟨1,w,.nil,trV t' cap,⟨hwl,t',cap,e,fun h=>absurd h (by omega),fun _=>rfl⟩,by simp [k0,k8,k10,k64,u8V,qaa],?_,by omega⟩;simp [HX,dQ,Sea.H,trV]
 | 1,⟨t,c1,e1,e2,e3⟩=>
  simp [qja,qje,xs1,xs2,xbk,xlp,qox,qaa,u8V];have hss:=jn7 hn v (1 - v);refine qz7 S g (p.set n v) l u' n (1 - v) g10 P0 P1 (qbh S l k (p.set n (1 - v)) u') (by simpa using hn) (by rw [show (p.set n v).many = p.many by simp]; omega) (by omega) (by rw [hss]; exact ih _ _ (jnn hp _ _ (by omega)) (qgg hc hn (by omega)) (by omega) q1) _ _ (.agg [u8V v,u8V (1 - v)]) (qaa 1) (by simp) (by simp [qaa]) (by simp [u8V]) (by simp) (by simp [u8V]) (by simp [qaa]) (fun q w fr' e k2 k3=>?_) (fun q fr' ch e hch=>?_) (fun t' w fr' cap e k0 k8 k10 k64 k65=>?_)
  ·have hR2:R = .found q w:=by rw [<- hR]; simp [qnw,e1,e]
   subst hR2;simp;refine .done ?_;simp [q5q,k2,k3];exact ⟨S.H g q l w,by simp [HX,Sea.H],rfl,rfl⟩
  ·have hR2:R = .spent q:=by rw [<- hR]; simp [qnw,e1,e]
   subst hR2;simp;exact ⟨S.H g q l l,by simp [HX,Sea.H],hch,rfl⟩
  ·have hwl:=hul _ _ _ _ e (jnn hp _ _ (by omega)) (qgg hc hn (by omega)) q1;simp [k0,k8,k10,k64,k65,qaa,u8V];refine .done ?_;rw [hss];rcases (show v = 0∨v = 1 by omega) with rfl | rfl
   ·refine ⟨2,w,trV t c1,trV t' cap,⟨hwl,t,u',t',c1,cap,e1,e,fun _=>⟨rfl,rfl⟩,fun h=>absurd rfl h⟩,by simp [k0,k8,k10,k64,u8V,qaa],?_,by omega⟩;simp [HX,dQ,Sea.H,trV,e2]
   ·refine ⟨2,w,trV t' cap,trV t c1,⟨hwl,t,u',t',c1,cap,e1,e,fun h=>absurd h (by omega),fun _=>⟨rfl,rfl⟩⟩,by simp [k0,k8,k10,k64,u8V,qaa],?_,by omega⟩;simp [HX,dQ,Sea.H,trV,e3]
 | 2,⟨t,w,t2,c1,c2,e1,e2,e3,e4⟩=>
  simp [qja,qje,xs1,xs2,xbk,xlp,qox,qaa,u8V];have hbit:=qtc S g (p.set n (1 - v)) l u' n (by unfold Pt.many at hn; simpa using hn) (by unfold Pt.many at hm40; simp; omega);have hpp:(p.set n (1 - v)).set n 2 = p:=by rw [jn7 hn,jol hn 2 hn2]
  have z1:=(qjz S hS hk hw l k _ _ _ _ (jnn hp _ _ (by omega)) (qgg hc hn (by omega)) e1).1;have z2:=(qjz S hS hk hw l k _ _ _ _ (jnn hp _ _ (by omega)) (qgg hc hn (by omega)) e2).1;have zb:∀ m:Nat,m≤21->2 ^ m≤2 ^ 21:=fun m hm=>Nat.pow_le_pow_right (by decide) hm;have y1:=zb ((p.set n v).opens + 1) (by have:=qho (p.set n v); rw [jnx] at this; omega);have y2:=zb ((p.set n (1 - v)).opens + 1) (by have:=qho (p.set n (1 - v)); rw [jnx] at this; omega);have hsz:t.sz + t2.sz < 10000000:=by omega
  obtain ⟨T0,T1,d0,d1,hP0,hP1,hT,hTs⟩:∃ T0 T1 d0 d1,P0 = trV T0 d0/\P1 = trV T1 d1/\R = .proof (.nd n T0 T1) u'/\T0.sz + T1.sz < 10000000:=by
   rcases (show v = 0∨v = 1 by omega) with rfl | rfl
   ·exact ⟨t,t2,c1,c2,(e3 rfl).1,(e3 rfl).2,by rw [<- hR]; simp [qnw,e1,e2],hsz⟩
   ·exact ⟨t2,t,c2,c1,(e4 (by omega)).2,(e4 (by omega)).1,by rw [<- hR]; simp [qnw,e1,e2],by omega⟩
  have hjo:=qys n T0 T1 d0 d1 hTs;subst hP0 hP1 hT;refine CallP.lend (KP0:=fun _ _=>False) [9002,9003,9004,9001,9000] (S.H g (p.set n (1 - v)) l u') [(10,.row g10 2 [.agg [trV T0 d0,trV T1 d1]])] (qby.of hbit) (by simp [jni,V.inB]) (by simp [Sea.H,HX,dQ]) (qcg S g _ l u') (by simp [Sea.H,HX]) (by simp) ?_ (fun _ _ h=>h.elim);rintro v' h ⟨rfl,rfl⟩;refine ⟨qrm g _ n,qcg S g _ l u',?_⟩;have hjp:jne [qaa n,trV T0 d0,trV T1 d1] = true:=by simp [jne,V.pure,trV,qaa,qck]
  by_cases hl:n < p.i.length
  ·simp [qu6,hl,nop,Sea.H,u8V];refine qby.of (jo7 hjo hjp ?_);simp;refine .done ?_;simp [q5q];refine ⟨S.H g p l u',?_,⟨none,rfl⟩,rfl⟩;rw [<- hpp];simp [Sea.H,Pt.set,hl,u8V];simp [Sea.cells]
   done
  ·have hl2:n - p.i.length < p.s.length:=by unfold Pt.many at hn; omega
   simp [qu6,hl,hl2,nop,Sea.H,u8V];refine qby.of (jo7 hjo hjp ?_);simp;refine .done ?_;simp [q5q];refine ⟨S.H g p l u',?_,⟨none,rfl⟩,rfl⟩;rw [<- hpp];simp [Sea.H,Pt.set,hl,u8V];simp [Sea.cells]
   done
theorem quq (S:Sea) (hS:S.ok) (hW:S.okW) (hk:S.c.plain) (hw:S.w.length = cnt 0 S.c.n + cnt 14 S.c.n) (g:SG) (l:Nat) (hl:l < 1000000000):∀ (k:Nat) (p:Pt) (u:Nat),p.fit S.c->p.cu->p.opens < k->u≤l->
  qby Tryz.prog gl0 135 [.ptr 9002 g.s 0 0] (S.H g p l u) (KV S g l (qbh S l k p u) p) (KPV S g l (qbh S l k p u))
 | 0,p,u,hp,hc,hk,hu=>by omega
 | k + 1,p,u,hp,hc,hok,hu=>by
  have ih:=quq S hS hW hk hw g l hl k;have hpm:S.w.length = p.many:=by rw [hw]; unfold Pt.many; rw [hp.i,hp.s]
  have hs:=q9j S.c hS.g hk S.f hS.f hS.m p hp hc;have hb:=q1u S.c hS.g hk S.f hS.f hS.m p hp hc;have hs2:=qab.wide hs (args:=[S.c.v,S.f.w,.agg [.sl (p.i.map u8V) (some p.i.length),.sl (p.s.map u8V) (some p.s.length)]]) ⟨.refl _,.refl _,q3x p _ _,trivial⟩ (.refl _);have hb2:=qab.wide hb (args:=[S.c.v,S.f.w,.agg [.sl (p.i.map u8V) (some p.i.length),.sl (p.s.map u8V) (some p.s.length)]]) ⟨.refl _,.refl _,q3x p _ _,trivial⟩ (.refl _)
  have hfz:∀ h:Hp,lk h 9003 = some (.row g.i 1 (p.i.map u8V))->lk h 9004 = some (.row g.t 1 (p.s.map u8V))->[S.c.v,S.f.w,V.agg [.ref 9003 g.i 0 p.i.length (some p.i.length),.ref 9004 g.t 0 p.s.length (some p.s.length)]].map (frz h 2) = [S.c.v,S.f.w,V.agg [.sl (p.i.map u8V) (some p.i.length),.sl (p.s.map u8V) (some p.s.length)]]:=fun h e3 e4=>by
   simp only [List.map_cons,List.map_nil];rw [qcs _ _ (qcr S.c),qcs _ _ (show S.f.w.pure = true from rfl),qib];simp only [List.map_cons,List.map_nil];rw [qbx e3 (by simp),qbx e4 (by simp),List.drop_zero,List.drop_zero,jpj (by simp),jpj (by simp),qbw _ _ (qar _),qbw _ _ (qar _)]
  refine jor jjq rfl ?_;show qox.wpP _ _ _ _ _;rw [q95];unfold qbh;by_cases hd:S.f.det S.c p = true
  ·rw [if_pos hd];rw [hd] at hs2;simp [xs1,xs2,qox,Sea.H,Sea.cells,nop];intro gm;refine ⟨_,_,_,.borrow 2 hs2 (hfz _ (by simp) (by simp)) rfl,?_⟩;simp;refine .done ?_;simp [q5q,KV,Sea.H,Sea.cells,qaa]
   done
  ·rw [if_neg hd];rw [Bool.eq_false_iff.2 hd] at hs2;have hws:∀ b w q t,qbh S l k q b = .proof t w->q.fit S.c->q.cu->b≤l->w≤l:=fun b w q t h _ _ hb=>by have:=qhw S l k q b hb; rw [h] at this; exact this
   by_cases hbk:qlr S.c S.f p = true
   ·rw [if_pos hbk];rw [hbk] at hb2;simp [xs1,xs2,qox,Sea.H,Sea.cells,nop];intro gm;refine ⟨_,_,_,.borrow 2 hs2 (hfz _ (by simp) (by simp)) rfl,?_⟩;simp;intro gm2;simp [nop];refine ⟨_,_,_,.borrow 2 hb2 (hfz _ (by simp) (by simp)) rfl,?_⟩;simp;intro gf;refine .frzT (g:=gf 50) (sz:=3) (es:=[lfN.v]) (off:=0) (len:=1) (cap:=some 1) 50 3 (by simp [lfN,Tn.v]) (by simp [jne,V.pure,lfN,Tn.v]) (by simp) (by simp) (.done ?_);simp [q5q,KV,Sea.H,Sea.cells,DT.fl,lfN,Tn.v,qaa,List.filter_cons]
   ·rw [if_neg hbk];rw [Bool.eq_false_iff.2 hbk] at hb2;have hsp:=q9m 9000 g.b l u hl (by omega);simp [xs1,xs2,qox,Sea.H,Sea.cells,nop];intro gm;refine ⟨_,_,_,.borrow 2 hs2 (hfz _ (by simp) (by simp)) rfl,?_⟩;simp;intro gm2;simp [nop];refine ⟨_,_,_,.borrow 2 hb2 (hfz _ (by simp) (by simp)) rfl,?_⟩;simp [nop];refine CallP.lend [9000] [(9000,.row g.b 2 [.agg [qaa l,qaa u]])] [(9002,.row g.s 15 [.agg (S.cells g p)]),(9003,.row g.i 1 (p.i.map u8V)),(9004,.row g.t 1 (p.s.map u8V)),(9001,.map g.w (qif S.w))] hsp (by simp) (by simp) (by simp [qaa]) (by simp [Sea.cells]) (by simp) ?_ ?_
    ·rintro v h ⟨hul,rfl,rfl⟩;rw [if_neg hul];refine ⟨rfl,by simp,?_⟩;obtain ⟨j,hj,hj2⟩:=qsg hS.g hk hS.f hp hc hd hbk;have hch:=q14 S hS hW hk g p hp hc (by rw [hpm]; rfl) l (u + 1) j hj hj2;obtain ⟨c1,c2,c3⟩:=qj7 S hS p hpm (qbj S.c p) (S.f.M S.c p) hj hj2;simp;refine CallP.lend (KP0:=fun _ _=>False) [9002,9003,9004,9001,9000] (S.H g p l (u + 1)) [] (qby.of hch) (by simp) (by simp [Sea.H,qaa]) (qcg S g p l (u + 1)) (by simp) (by simp) ?_ (fun _ _ h=>h.elim);rintro v h ⟨rfl,rfl⟩;refine ⟨by simp [qaa,u8V],qcg S g p l (u + 1),?_⟩;simp;intro gf;refine q9n S hS hk hw g l k ih p (u + 1) _ _ (gf 10) hp hc (by omega) (by omega) c1 c2 c3 hws _ _ (by simp) (by simp) (by simp) (by simp) ?_;simp [HX,Sea.H]
    ·rintro ch h ⟨hul,hsp2,rfl⟩;rw [if_pos hul];subst hul;refine ⟨by simp,?_⟩;simp;exact ⟨S.H g p u u,by simp [Sea.H,qaa],hsp2,rfl⟩
end
section
open Go
theorem jof {bs:Nat} {G:qa6} {M:qaz} {h:Hp} (ds:List Deferred):∀ {l:List Deferred} {w:World}, Sim G M h w -> qdw bs M w l -> ∃ w', Sim G M h w' /\ (∀ k, k < bs -> w'.heap[k]? = w.heap[k]?) /\ w'.heap.size = w.heap.size /\ w'.os = w.os /\ w'.tape = w.tape /\ w'.output = w.output /\
      ∀ (P:Program) (F:Fence) (m:Nat) (fn:Func) (tmps:Array Value) (Rr:Ending->World->Prop) (u:FrameMode),u ≠ .run->LeavesInM F m P fn tmps Rr ds u w'->LeavesInM F m P fn tmps Rr (l ++ ds) u w
  | [],w,hs,_=>⟨w,hs,fun _ _=>rfl,rfl,rfl,rfl,rfl,fun _ _ _ _ _ _ _ _ h=>h⟩
  | d :: r,w,hs,⟨⟨k,h1,h2,h3,h4,h5⟩,h6⟩=>by
    have hk:k < w.heap.size:=(Array.getElem?_eq_some_iff.1 h3).1
    have hm:∀ {l:List Deferred},{ target:=.collected k,args:=#[] } ∉ l->qdw bs M w l->qdw bs M (w.putObj k (.deferred none)) l:=by
      intro l
      induction l with
      | nil=>exact fun _ _=>trivial
      | cons e l ih=>
        rintro hn ⟨⟨j,q1,q2,q3,q4,q5⟩,q6⟩;refine ⟨⟨j,q1,q2,?_,q4,q5⟩,ih (fun hc=>hn (List.mem_cons_of_mem _ hc)) q6⟩;rw [qb5 fun e'=>hn (by subst e'; rw [q1]; exact List.mem_cons_self)];exact q3
    obtain ⟨w',s1,s2,s3,s4,s5,s6,s7⟩:=jof ds (hs.putFree (o':=.deferred none) h3 (fun _ _ _ e=>by cases e) h4) (hm h5 h6);refine ⟨w',s1,fun j hj=>?_,by rw [s3,World.putObj_size],s4,s5,s6,fun P F m fn tmps Rr u hu hv=>⟨hu,.inl ⟨k,_,by rw [h1],run_takeDeferred h3,s7 P F m fn tmps Rr u hu hv⟩⟩⟩;rw [s2 j hj,qb5 (by omega)]
noncomputable def rn:Code:=bdy Tryz.f94
noncomputable def rn1:Code:=sq1 (sq2 rn)
noncomputable def rn2:Code:=sq2 (sq2 rn)
theorem q32:Tryz.f94.body = some (.seq (sq1 rn) (.seq rn1 rn2)):=by kernel_rfl
theorem qz5:sq1 rn = .region (rgi (sq1 rn)) (qom (sq1 rn)) false:=by kernel_rfl
theorem jmd:qbv Tryz.prog 33 (qom (sq1 rn)) (qom (sq1 rn)).toList = some (xol (xs1 x94)):=by kernel_rfl
theorem jmc:jav (qom (sq1 rn)) = true:=by kernel_rfl
theorem jme:qdt (rgo rn1 0).op = false:=by kernel_rfl
theorem jmf:qcm Tryz.prog 33 rn2 = some (xs2 (xs2 x94)):=by kernel_rfl
theorem qz6:rn1 = .region (rgi rn1) #[rgo rn1 0,rgo rn1 1] false:=by kernel_rfl
theorem jev:(rgo rn1 0).guard = none/\(rgo rn1 1).guard = none:=⟨by kernel_rfl,by kernel_rfl⟩
theorem jeu:(rgo rn1 0).dst = some 5/\(rgo rn1 1).dst = none:=⟨by kernel_rfl,by kernel_rfl⟩
theorem jew (ev:Operand->Value) (w:World):(execOp ev (rgo rn1 0)).run Tryz.prog w = .ok (.value (.func (.func 134) #[] #[ev (.tmp 1),ev (.tmp 2)])) w:=by kernel_rfl
theorem q9b (ev:Operand->Value):execOp ev (rgo rn1 1) = execOp (fun _=>ev (.tmp 5)) (rgo rn1 1):=by kernel_rfl
theorem q9c (p1 p2:Value) (w:World):(execOp (fun _=>.func (.func 134) #[] #[p1,p2]) (rgo rn1 1)).run Tryz.prog w = .ok (.defer { target:=.fn (.func 134) #[p1,p2],args:=#[] }) w:=by kernel_rfl
theorem q9a (p1 p2:Value) (w:World):(invoke (.fn (.func 134) #[p1,p2]) #[]).run Tryz.prog w = .ok (.enter 134 #[p1,p2]) w:=by kernel_rfl
theorem q9d:qbq Tryz.prog 94 = true:=by kernel_rfl
theorem q57:qc0 Tryz.prog Tryz.f94.results.toList = some [.cell 2 true 5]:=by kernel_rfl
def qui (g:SG) (l:Nat) (R:VR) (v:V) (h:Hp):Prop:=match R with
 | .found q w=>v = .agg [.int .u8 1,.ref 9003 g.i 0 q.i.length (some q.i.length),.ref 9004 g.t 0 q.s.length (some q.s.length),.nil,qaa w]/\h = [(9003,.row g.i 1 (q.i.map u8V)),(9004,.row g.t 1 (q.s.map u8V))]
 | .proof t w=>(∃ cap,v = .agg [.int .u8 2,.nil,.nil,trV t cap,qaa w])/\h = []
 | .spent _=>v = .agg [.int .u8 3,.nil,.nil,.nil,qaa l]/\h = []
def jmh (S:Sea) (g:SG) (l:Nat) (R:VR) (g1 g2:Nat):PQ
 | .n e,fr,h=>qz4 [.cell 2 true 5] (qui g l R) e fr h
 | .p ch,fr,h=>qqx ch/\lk fr 2 = some (.ptr 2 g2 0 0)/\∃ q,R = .spent q/\h = S.H g q l l ++ [(2,.row g2 5 [.agg [.int .u8 0,.nil,.nil,.nil,.int .i64 0]]),(1,.row g1 1 [.ptr 9002 g.s 0 0])]
set_option maxRecDepth 10000 in
theorem jes (S:Sea) (g:SG) (p:Pt) (l:Nat) (R:VR) (hv:qby Tryz.prog gl0 135 [.ptr 9002 g.s 0 0] (S.H g p l 0) (KV S g l R p) (KPV S g l R)) (g1 g2:Nat) (fr:Fr)
  (h1:lk fr 1 = some (.ptr 1 g1 0 0)) (h2:lk fr 2 = some (.ptr 2 g2 0 0)) :
  (xs2 (xs2 x94)).wpP Tryz.prog gl0 (jmh S g l R g1 g2) fr ((2,.row g2 5 [.agg [.int .u8 0,.nil,.nil,.nil,.int .i64 0]]) :: (1,.row g1 1 [.ptr 9002 g.s 0 0]) :: S.H g p l 0):=by
 simp [xs2,x94,h1];refine CallP.lend [9002,9003,9004,9001,9000] (S.H g p l 0) [(2,.row g2 5 [.agg [.int .u8 0,.nil,.nil,.nil,.int .i64 0]]),(1,.row g1 1 [.ptr 9002 g.s 0 0])] hv (by simp) (by simp [Sea.H]) (qcg S g p l 0) (by simp) (by simp) ?_ ?_
 ·intro v h hk;unfold KV at hk
  cases R with
  | found q w=>
   obtain ⟨rfl,rfl⟩:=hk;refine ⟨rfl,qcg S g _ l w,?_⟩;simp [Sea.H,h1];intro gm;simp [nop,h1,h2,Sea.cells,qaa];refine .done ?_;simp [h2,qui,qaa]
  | proof t w=>
   obtain ⟨⟨cap,rfl⟩,rfl⟩:=hk;refine ⟨by simp [jnf _ _ (qck _)],qcg S g _ l w,?_⟩;simp [Sea.H,h1,nop,h2,Sea.cells,qaa];refine .done ?_;simp [h2,qui,qaa];exact ⟨cap,rfl⟩
  | spent q=>exact hk.elim
 ·intro ch h hk;unfold KPV at hk
  cases R with
  | found q w=>exact hk.elim
  | proof t w=>exact hk.elim
  | spent q=>
   obtain ⟨k1,rfl⟩:=hk;refine ⟨qcg S g _ l l,?_⟩;exact ⟨k1,by simp [h2],q,rfl,rfl⟩
theorem qyz {n:Nat} {G G1:qa6} {M M1:qaz} {w0 w1:World} {fr:Fr} {h:Hp} {tm:Array Value} {p1 p2:Value} {df:List Deferred} {D:Deferred} (hD:D = { target:=.fn (.func 134) #[p1,p2],args:=#[] }) {fn:Func} {Rr:Ending->World->Prop} {u:FrameMode} (hu:u ≠ .run)
  (hr:R ⟨w0.heap.size,[D]⟩ n gl0 G1 M1 fr h ⟨tm,df⟩ w1) (hx:Ext G M w0 G1 M1 w1)
  (hc:∀ w',Sim G1 M1 h w'->Ext G M w0 G1 M1 w'->R (w0.heap.size:BS) n gl0 G1 M1 fr h ⟨tm,[]⟩ w'->CallsDIn (FW none) 0 Tryz.prog 134 #[p1,p2] u w' fun e u' w2=>e = .returned (.tuple #[])/\LeavesInM (FW none) 0 Tryz.prog fn tm Rr [] (settle u') w2) :
  LeavesInM (FW none) 0 Tryz.prog fn tm Rr df u w1:=by
 obtain ⟨l',e0,hmk,-⟩:=hr.df;simp only at e0;subst e0;obtain ⟨w',s1,s2,s3,s4,s5,s6,s7⟩:=jof [D] hr.sim hmk;have hx':Ext G M w0 G1 M1 w':=⟨hx.g,hx.gnew,hx.m,hx.mnew,s4.trans hx.os,s5.trans hx.tape,s6.trans hx.output,by rw [s3]; exact hx.size,fun k hk hn=>(s2 k hk).trans (hx.keep k hk hn)⟩;refine s7 Tryz.prog (FW none) 0 fn tm Rr u hu ⟨hu,.inr ⟨(fun h=>nomatch h),.func 134,#[p1,p2],134,#[p1,p2],by rw [hD],by rw [hD]; exact q9a p1 p2 w',fun _ _=>trivial,?_⟩⟩;refine (hc w' s1 hx' ⟨s1,hr.frr,hr.sz,.nil _ _ _,hr.gl,by rw [s3]; exact hr.bs⟩).mono ?_;rintro e u' w2 ⟨rfl,hl⟩;exact hl
theorem je5 (S:Sea) (hS:S.ok) (hW:S.okW) (hk:S.c.plain) (hw:S.w.length = cnt 0 S.c.n + cnt 14 S.c.n) (g:SG) (l:Nat) (hl:l < 1000000000) (p:Pt) (hp:p.fit S.c) (hc:p.cu) :
  qat Tryz.prog gl0 94 [.ptr 9002 g.s 0 0] (S.H g p l 0) (qui g l (qbh S l (p.many + 1) p 0)):=by
 have hv:=quq S hS hW hk hw g l hl (p.many + 1) p 0 hp hc (by have:=qho p; omega) (Nat.zero_le _);generalize qbh S l (p.many + 1) p 0 = Z at hv ⊢;refine ⟨q9d,fun G M w rargs hs hgl hsz hrel=>?_⟩;refine qd0.1 (callsIn_of_wp_marks (F:=FW none) (n:=0) Tryz.func94 q32 trivial ?_)
 have hR0:R (w.heap.size:BS) 33 gl0 G M (qri 0 [.ptr 9002 g.s 0 0]) (S.H g p l 0) { tmps:=rargs ++ Array.replicate (Tryz.f94.ntmps - rargs.size) undef,defers:=[] } w:=by
  have hn:Tryz.f94.ntmps = 33:=by kernel_rfl
  simp only [List.length_cons,List.length_nil] at hsz;refine ⟨hs,fun t v ht=>?_,by rw [hn]; simp; omega,.nil _ _ _,hgl,jpm _⟩;obtain ⟨-,h2,h3⟩:=qkv [.ptr 9002 g.s 0 0] 0 t v ht;rw [Nat.sub_zero] at h2 h3
  have:(rargs ++ Array.replicate (Tryz.f94.ntmps - rargs.size) undef).getD t undef = rargs.getD t undef:=by
   simp only [jpi,Array.getElem?_append];rw [if_pos (by simp at h2; omega)]
  rw [this,<- h3]; exact hrel t h2
 have hd0:({ tmps:=rargs ++ Array.replicate (Tryz.f94.ntmps - rargs.size) undef,defers:=[] }:Act).defers = []:=rfl;generalize ({ tmps:=rargs ++ Array.replicate (Tryz.f94.ntmps - rargs.size) undef,defers:=[] }:Act) = a0 at hR0 hd0 ⊢;refine wpIn_seq ?_;rw [qz5]
 refine wpIn_mono (qla jmd (qk8 jmc) (K:=fun fr h=>∃ g1 g2,lk fr 1 = some (.ptr 1 g1 0 0)/\lk fr 2 = some (.ptr 2 g2 0 0)/\h = (2,.row g2 5 [.agg [.int .u8 0,.nil,.nil,.nil,.int .i64 0]]) :: (1,.row g1 1 [.ptr 9002 g.s 0 0]) :: S.H g p l 0) hR0 (by
  simp [xol,xs1,x94]
  done)) ?_
 rintro e a1 w1 ⟨⟨rfl,fr1,h1,G1,M1,⟨g1,g2,k1,k2,rfl⟩,hr1,hx1⟩,hd1⟩;rw [hd0] at hd1;refine wpIn_seq ?_;rw [qz6];refine wpIn_region ?_;show wpOpsIn (FW none) 0 _ _ _ [0,1] a1 w1;rw [wpOpsIn_cons];refine qd2 (o:=rgo rn1 0) rfl jev.1 jme ?_;unfold Oper.wp;rw [jew,Oper.upon_value,jeu.1];have hp1:=hr1.frr 1 _ k1;have hp2:=hr1.frr 2 _ k2;change qam G1 M1 _ (a1.eval (.tmp 1)) at hp1;change qam G1 M1 _ (a1.eval (.tmp 2)) at hp2;generalize a1.eval (.tmp 1) = p1 at hp1 ⊢;generalize a1.eval (.tmp 2) = p2 at hp2 ⊢;have hr2:=hr1.putU (d:=5) (by decide) (.func (.func 134) #[] #[p1,p2]);have ev5:(a1.put (some 5) (.func (.func 134) #[] #[p1,p2])).eval (.tmp 5) = .func (.func 134) #[] #[p1,p2]:=by simp [Act.eval,Act.put,hr1.sz]
 have hd2:(a1.put (some 5) (.func (.func 134) #[] #[p1,p2])).defers = []:=hd1;generalize a1.put (some 5) (.func (.func 134) #[] #[p1,p2]) = a2 at hr2 ev5 hd2 ⊢;rw [wpOpsIn_cons]
 have hgd:∀ K:Act->World->Prop,(rgo rn1 1).wp Tryz.prog a2 w1 K (Exit.then (rn2.wpIn (FW none) 0 Tryz.prog (bodyPostM (FW none) 0 Tryz.prog Tryz.f94 fun e w'=>∃ rv v h' G' M',e = .returned rv/\qui g l Z v h'/\qam G' M' v rv/\Sim G' M' h' w'/\Ext G M w G' M' w')) (bodyPostM (FW none) 0 Tryz.prog Tryz.f94 fun e w'=>∃ rv v h' G' M',e = .returned rv/\qui g l Z v h'/\qam G' M' v rv/\Sim G' M' h' w'/\Ext G M w G' M' w'))->wpOpIn (FW none) 0 Tryz.prog #[rgo rn1 0,rgo rn1 1] (Exit.then (rn2.wpIn (FW none) 0 Tryz.prog (bodyPostM (FW none) 0 Tryz.prog Tryz.f94 fun e w'=>∃ rv v h' G' M',e = .returned rv/\qui g l Z v h'/\qam G' M' v rv/\Sim G' M' h' w'/\Ext G M w G' M' w')) (bodyPostM (FW none) 0 Tryz.prog Tryz.f94 fun e w'=>∃ rv v h' G' M',e = .returned rv/\qui g l Z v h'/\qam G' M' v rv/\Sim G' M' h' w'/\Ext G M w G' M' w')) 1 K a2 w1:=fun K hK=>by
  unfold wpOpIn;show if Region.wanted (rgo rn1 1) _ then _ else _
  rw [if_pos (by simp [Region.wanted,jev.2])];exact jnr (fun h=>nomatch h) hK
 refine hgd _ ?_;unfold Oper.wp;rw [q9b,ev5,q9c,Oper.upon_defer,jeu.2];show rn2.wpIn _ _ _ _ _ _
 have hr3:R ⟨w.heap.size,[{ target:=.fn (.func 134) #[p1,p2],args:=#[] }]⟩ 33 gl0 G1 M1 (qmz fr1 (some 5) .undef) ((2,.row g2 5 [.agg [.int .u8 0,.nil,.nil,.nil,.int .i64 0]]) :: (1,.row g1 1 [.ptr 9002 g.s 0 0]) :: S.H g p l 0) (({ a2 with defers:={ target:=.fn (.func 134) #[p1,p2],args:=#[] } :: a2.defers }:Act).put none undef) w1:=
  ⟨hr2.sim,hr2.frr,hr2.sz,⟨[],by show _ :: a2.defers = _; rw [hd2]; rfl,trivial,fun d hd=>by simp at hd; subst hd; exact ⟨_,_,rfl⟩⟩,hr2.gl,hr2.bs⟩
 refine wpIn_mono (qq6 jmf (jes S g p l Z hv g1 g2 _ (by simp [qmz,k1]) (by simp [qmz,k2])) _ G1 M1 _ w1 hr3) ?_;rintro e ⟨tm,df⟩ w2 ⟨x,G2,M2,fr3,h3,rfl,hq,hr4,hx4⟩
 cases x with
 | p ch=>
  obtain ⟨hch,k3,q,rfl,rfl⟩:=hq;unfold qqx at hch;subst hch;refine qyz rfl (by simp) hr4 (hx1.trans hx4) fun w' s hx' hr'=>?_;refine (q11 (b1:=1) (g1:=g1) (b2:=2) (g2:=g2) (sb:=9002) (sg:=g.s) (bb:=9000) (bg:=g.b) (l:=l) (u:=l) (sc:=(S.cells g q).tail) (r0:=[.int .u8 0,.nil,.nil,.nil,.int .i64 0]) s hr'.gl rfl (hp1.mono hx4.g hx4.m) (hp2.mono hx4.g hx4.m) (by simp [Sea.H]) (by simp [Sea.H,Sea.cells]) (by simp [Sea.H,qaa]) (by simp [Sea.H]) (by decide)).mono ?_;rintro e u' w3 ⟨rfl,rfl,G',M',z,s3,x3⟩;refine ⟨rfl,?_⟩
  have hr5:R (w.heap.size:BS) 33 gl0 G' M' [(2,.ptr 2 g2 0 0)] ((2,.row g2 5 [.agg [.int .u8 3,.nil,.nil,.nil,.int .i64 (l:Int)]]) :: (3,z) :: (3,z) :: (S.H g q l l ++ [(2,.row g2 5 [.agg [.int .u8 0,.nil,.nil,.nil,.int .i64 0]]),(1,.row g1 1 [.ptr 9002 g.s 0 0])])) ⟨tm,[]⟩ w3:=
   ⟨s3,(fun t v ht=>by
    simp only [lk] at ht;split at ht
    ·rename_i e; cases ht; subst e; exact (hr'.frr 2 _ k3).mono x3.g x3.m
    ·cases ht),hr'.sz,.nil _ _ _,hr'.gl.mono x3.g,Nat.le_trans hr'.bs x3.size⟩
  exact qhs q57 (ie:=.normal) (K:=qui g l (.spent q)) (.done (by simp [qui,qaa])) hr5 (hx'.trans x3) fun rv v h0 G3 M3 w4 q1 q2 q3 q4=>⟨rv,v,h0,G3,M3,rfl,q1,q2,q3,q4⟩
 | n ie=>
  have key:qz4 [.cell 2 true 5] (qui g l Z) .normal fr3 h3->LeavesInM (FW none) 0 Tryz.prog Tryz.f94 tm (fun e w'=>∃ rv v h' G' M',e = .returned rv/\qui g l Z v h'/\qam G' M' v rv/\Sim G' M' h' w'/\Ext G M w G' M' w') df .returning w2:=fun hq=>by
   refine qyz rfl (by simp) hr4 (hx1.trans hx4) fun w' s hx' hr'=>?_;refine (jcv p1 p2 w').mono ?_;rintro e u' w3 ⟨rfl,rfl,rfl⟩;exact ⟨rfl,qhs q57 (ie:=.normal) hq hr' hx' fun rv v h0 G3 M3 w4 q1 q2 q3 q4=>⟨rv,v,h0,G3,M3,rfl,q1,q2,q3,q4⟩⟩
  cases ie with
  | normal=>exact key hq
  | ret=>exact key hq
  | exit id=>exact hq.elim
  | goto l=>exact hq.elim
end
end Go.Proofs.YtpaopccohkldlaaGreatDoor
