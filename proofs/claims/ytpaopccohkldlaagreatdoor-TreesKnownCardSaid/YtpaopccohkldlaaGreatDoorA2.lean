/- Lemmas. Conditions: none. -/
import Derived.Test.YtpaopccohkldlaaGreatDoorY3
import Derived.Test.YtpaopccohkldlaaGreatDoorXT
set_option linter.all false
namespace Go.Proofs.YtpaopccohkldlaaGreatDoor
section
open Go
theorem qx6 (c:Ci) (hg:c.good):qac Tryz.prog gl0 76 [c.v] (.tup [.sl (qak (qqv c)) (some c.n.length),.int .i64 0]):=by
 refine je5 2 (qpe c hg.wf) ?_;rintro v h (⟨h1,-⟩ | ⟨-,g,L,rfl,rfl,hR,hpw⟩)
 ·exact absurd hg.chk h1
 have hn1:=hg.n1;rw [Ord.eq ⟨hR,hpw (by omega)⟩];have hl:(qak L).length = c.n.length:=by simp [hR.len]
 have ht:List.take c.n.length (qak L) = qak L:=jf2 (by omega);simp [frz,V.mapR,jd8,hl,qar (qa8 _)];exact ht
theorem qnq {ks:List Int}:∀ (l:List Nd) (i:Nat),(∀ y ∈ l,y.k ∉ ks)->qmh ks l i = []
 | [],_,_=>rfl
 | y :: l,i,h=>by
  rw [qmh,if_neg (h y List.mem_cons_self)];exact qnq l (i + 1) fun x hx=>h x (List.mem_cons_of_mem _ hx)
theorem q1l (c:Ci) (hg:c.good) (hk:c.plain):qb5 Tryz.prog gl0 88 [c.v,.sl [.int .u8 12,.int .u8 13,.int .u8 15] (some 3)] (q2m 1 (.sl [] (some 0))):=by
 have h1:=je8 (q5u c [12,13,15] (some 3) (by have:=hg.n1; omega) (by simp)) (qdf [12,13,15] c.n 0).2 (qdf [12,13,15] c.n 0).1;rw [qnq c.n 0 fun y hy=>?_] at h1
 ·simpa using h1
 ·obtain ⟨i,hi,rfl⟩:=List.getElem_of_mem hy;have h2:=hg.k _ (jf3 hi);have h3:=hk i hi;unfold qdc qgc at h3;rw [c.nd_get hi] at h3;simp only [List.mem_cons,List.not_mem_nil,or_false,not_or];refine ⟨fun e=>?_,fun e=>?_,h2⟩
  ·have:=(h3 (by rw [e]; rfl)).2.1; omega
  ·have:=(h3 (by rw [e]; rfl)).2.1; omega
theorem qyc (c:Ci) (hg:c.good) (hk:c.plain):qac Tryz.prog gl0 42 [c.v] (.int .i64 0):=by
 have h1:=qor c hg.wf;rw [hg.chk] at h1;have hm:=hg.m;have h2:=q1l c hg hk;refine jfu 2 ok42 rfl ?_;simp [i42,x42];intro gf;refine jfq h1 (by simp) ?_;simp [hm];intro gf2;refine je1 1 h2 (by simp) ?_;simp
theorem qq4 (c:Ci) (hg:c.good) (hk:c.plain) (f:Ft) (hf:f.ok c) (hm:f.m = 0):qac Tryz.prog gl0 60 [c.v,f.w] (.int .i64 0):=by
 have h1:=qyc c hg hk;have h2:=qli c hg f hf;simp only [Ft.w,u8V,qab] at h2;refine jfu 2 ok60 rfl ?_;simp [i60,x60,Ft.w,u8V,qab];intro gf gf2;refine jfq h1 (by simp) ?_;simp;refine jfq h2 (by simp) ?_;simp [hm]
theorem qr5 (c:Ci) (hg:c.good) (p:Pt) (hp:p.fit c):qac Tryz.prog gl0 109 [c.v,p.v] (.int .i64 0):=by
 have h1:=qor c hg.wf;rw [hg.chk] at h1;have h2:=qzf c hg p hp;simp only [Pt.v] at h2;refine jfu 2 jau rfl ?_;simp [i109,x109,Pt.v];intro gf gf2;refine jfq h1 (by simp) ?_;simp;refine jfq h2 (by simp) ?_;simp
def Pt.cu (p:Pt):Prop:=(∀ x ∈ p.i,x≤2)/\∀ x ∈ p.s,x≤2
theorem qmy (c:Ci) (hg:c.good) (hk:c.plain) (f:Ft) (hf:f.ok c) (hm:f.m = 0) (p:Pt) (hp:p.fit c) (hc:p.cu):qac Tryz.prog gl0 75 [c.v,f.w,p.v] (.int .i64 0):=by
 have h1:=qq4 c hg hk f hf hm;have h2:=qr5 c hg p hp;have hn1:=hg.n1;have hil:p.i.length≤20:=by rw [hp.i]; have:=qcd 0 c.n; omega
 have hsl:p.s.length≤20:=by rw [hp.s]; have:=qcd 14 c.n; omega
 simp only [Ft.w,Pt.v,u8V,qab] at h1 h2;refine jfu 2 ok75 rfl ?_;simp [i75,x75,Ft.w,Pt.v,u8V,qab];intro gf1 gf2 gf3;refine jfq h1 (by simp) ?_;simp;refine jfq h2 (by simp) ?_;simp;intro gf4;generalize gf4 29 = g29
 refine jft (X:=Nat) (fun i=>[(31,qab i),(30,qab 2),(29,.ref 29 g29 0 2 (some 2))]) (fun _=>[(29,.row g29 1 [.sl (p.i.map u8V) none,.sl (p.s.map u8V) none])])
  (fun i=>i≤2) (fun i=>2 - i) 0 (by omega) (by simp [qab]) (by simp [u8V]) ?_
 intro i hi;have key:∀ (l:List Nat),l.length≤20->(∀ x ∈ l,x≤2)->∀ (R:Nat->Nat->Prop),True:=fun _ _ _ _=>trivial;simp [qab];refine jfr (fun hb=>?_) (fun hb=>?_)
 ·have hi2:i < 2:=jfy hb;have hc2:i = 0∨i = 1:=by omega
  obtain ⟨l,hl,hl2,hget⟩:∃ l:List Nat,l.length≤20/\(∀ x ∈ l,x≤2)/\∀ h,([V.sl (p.i.map u8V) none,.sl (p.s.map u8V) none])[i]'h = .sl (l.map u8V) none:=by
   rcases hc2 with rfl | rfl
   ·exact ⟨p.i,hil,hc.1,fun _=>rfl⟩
   ·exact ⟨p.s,hsl,hc.2,fun _=>rfl⟩
  have hw:=qbi i (by omega);simp [hi2,hget]
  refine jft (X:=Nat) (fun j=>[(37,qab j),(36,qab l.length),(35,.sl (l.map u8V) none),(31,qab i),(30,qab 2),(29,.ref 29 g29 0 2 (some 2))]) (fun _=>[(29,.row g29 1 [.sl (p.i.map u8V) none,.sl (p.s.map u8V) none])])
   (fun j=>j≤l.length) (fun j=>l.length - j) 0 (Nat.zero_le _) (by simp [qab]) (by simp) ?_
  intro j hj;simp [qab];refine jfr (fun hb2=>?_) (fun hb2=>?_)
  ·have hj2:j < l.length:=jfy hb2;have hwj:=qbi j (by omega);obtain ⟨x,hx⟩:∃ x,l[j] = x:=⟨_,rfl⟩;have hx2:=hl2 x (by rw [<- hx]; exact jf3 hj2);simp [hj2,hx,u8V,hwj,show ¬ 2 < x by omega];exact ⟨j + 1,hj2,by simp,by omega⟩
  ·simp [hw];exact ⟨i + 1,hi2,by simp,by omega⟩
 ·simp
theorem q0a (c:Ci) (hg:c.good) (f:Ft) (hf:f.ok c) (hm:f.m = 0) (p:Pt) (hp:p.fit c) :
  qac Tryz.prog gl0 77 [c.v,f.w,p.v] (.tup [qfq (qqs c (qgz c p)) (qqt c (qgz c p)),qfq (qj4 c (f.M c p)) (qj5 c f.sQ (f.M c p)),.sl (tU c.n.length (f.M c p)) (some c.n.length),.int .i64 0]):=by
 have hv:=hf.v;exact qy5 c hg f (qli c hg f hf) (by omega) p hp _ _ _ _ (q9p f _ _ (q16 f)) (q9q f _ _ (q16 f)) (qy4 f _ fun _=>by omega) (qm7 c f hm _ _ (qcf _ _))
theorem q6y (c:Ci) (hg:c.good) (f:Ft) (hf:f.ok c) (hm:f.m = 0) (p:Pt) (hp:p.fit c) :
  qac Tryz.prog gl0 39 [c.v,f.w,p.v] (.tup [qfq (qj4 c (f.M c p)) (qj5 c f.sQ (f.M c p)),.sl (tU c.n.length (f.M c p)) (some c.n.length),.int .i64 0]):=by
 have hb:=q0a c hg f hf hm p hp;generalize qj4 c (f.M c p) = O at hb ⊢;generalize qj5 c f.sQ (f.M c p) = S at hb ⊢;generalize f.M c p = M at hb ⊢;simp only [qfq,Pt.v] at hb ⊢;refine jfu 2 ok39 rfl ?_;simp [i39,x39];intro gf1 gf2 gf3 gf4;refine jfq hb (by simp [qab,u8V]) ?_;simp [qae,qar (qcf _ _)]
theorem q4k (c:Ci) (hg:c.good) (f:Ft) (hf:f.ok c) (hm:f.m = 0) (p:Pt) (hp:p.fit c):qac Tryz.prog gl0 35 [c.v,f.w,p.v] (.tup [.bool (f.det c p),.int .i64 0]):=q4j c hg f hf hm p hp
theorem q2a (c:Ci) (hg:c.good) (f:Ft) (hf:f.ok c) (hm:f.m = 0) (p:Pt) (hp:p.fit c) :
  qac Tryz.prog gl0 79 [c.v,f.w,p.v] (.tup [.sl (tU c.n.length (qgz c p)) (some c.n.length),.sl (tU c.n.length (f.M c p)) (some c.n.length)]):=by
 have h1:=q6z c hg p hp;have h2:=q6y c hg f hf hm p hp;generalize f.M c p = M at h2 ⊢;generalize qgz c p = A at h1 ⊢;have hA:jd6 (tU c.n.length A) = true:=qcf _ _;have hM:jd6 (tU c.n.length M) = true:=qcf _ _;have e1:(tab c.n.length fun i=>u8V (A i)) = tU c.n.length A:=rfl;rw [e1] at h1;generalize tU c.n.length A = TA at *;generalize tU c.n.length M = TM at *;simp only [Ft.w,Pt.v,u8V,qab,qfq] at h1 h2;refine jfu 2 ok79 rfl ?_;simp [i79,x79,Ft.w,Pt.v,u8V,qab];intro gf1 gf2 gf3;refine jfq h1 (by simp) ?_;simp;refine jfq h2 (by simp) ?_;simp [qae,hA,hM]
end
section
open Go
def bT (n:Nat) (F:Nat->Bool):List V:=tab n fun i=>.bool (F i)
@[simp] theorem bT_len (n:Nat) (F:Nat->Bool):(bT n F).length = n:=by simp [bT]
theorem qfs (n:Nat) (F:Nat->Bool) (i:Nat) (h:i < (bT n F).length):(bT n F)[i] = .bool (F i):=by simp only [bT]; rw [qda]
theorem qp2 (n:Nat) (F:Nat->Bool) (i:Nat) (v:Bool):(bT n F).set i (.bool v) = bT n (qbs F i v):=by
 unfold bT;rw [qhe];refine qca fun j _=>?_;by_cases e:j = i
 ·subst e; simp
 ·rw [qaw _ _ e,qaw _ _ e]
theorem qop (n:Nat) (F:Nat->Bool):jd6 (bT n F) = true:=qid fun _=>rfl
theorem q3u (n:Nat):List.replicate n (V.bool false) = bT n fun _=>false:=by unfold bT; rw [qel]
theorem qjn {α:Type} (f:Nat->α) (i:Nat) (v w:α):qbs (qbs f i v) i w = qbs f i w:=by
 funext j;by_cases e:j = i
 ·subst e; simp
 ·rw [qaw _ _ e,qaw _ _ e,qaw _ _ e]
theorem qv7 {α:Type} (f:Nat->α) (i:Nat):qbs f i (f i) = f:=by
 funext j;by_cases e:j = i
 ·subst e; simp
 ·rw [qaw _ _ e]
def orK (g v:Bool) (F:Nat->Bool) (l:List Int):Bool:=v || (g && l.any fun k=>F k.toNat)
theorem qx4 (g v:Bool) (F:Nat->Bool) (l:List Int) (x:Int):orK g v F (l ++ [x]) = (orK g v F l || (g && F x.toNat)):=by
 unfold orK;cases g <;> cases v <;> simp
set_option maxRecDepth 100000 in
set_option maxHeartbeats 4000000 in
theorem qth (c:Ci) (hg:c.good) (f:Ft) (hf:f.ok c) (p:Pt) (ca cb:Option Nat) :
  qac Tryz.prog gl0 101 [c.v,f.w,.sl (tU c.n.length (qgz c p)) ca,.sl (tU c.n.length (f.M c p)) cb] (.sl (bT c.n.length (qzn c f p)) (some c.n.length)):=by
 have hn1:=hg.n1;have hord:=qx6 c hg;have hO:=hg.ord;have hO1:=hO.r.lt;have hO2:=hO.r.len;have hnd:=qdo hO.p;have htp:=hO.topo hg;have hm:qzn c f p = evl (quk c f (qgz c p) (f.M c p)) (fun _=>true) (qqv c) fun _=>false:=rfl;rw [hm];generalize qgz c p = A;generalize f.M c p = B;obtain ⟨L,hL⟩:∃ L,qqv c = L:=⟨_,rfl⟩;rw [hL] at hord hO1 hO2 hnd htp ⊢;have hAp:jd6 (tU c.n.length A) = true:=qcf _ _;have hBp:jd6 (tU c.n.length B) = true:=qcf _ _;obtain ⟨N,hN⟩:∃ N,c.n.length = N:=⟨_,rfl⟩;rw [hN] at hord hO1 hO2 hAp hBp ⊢;have hmk:∀ (f:Nat->Nat->Nat->Nat->Option Nat->V) (q:Nat->Nat->Nat->Nat->V) F,jd8 f q (bT N F) = bT N F:=fun _ _ _=>qae _ (qop _ _);refine jfu 2 jaq rfl ?_;simp [i101,x101,Ft.w,u8V,qab];intro gf1 gf2;generalize gf1 4 = g4;generalize gf2 5 = g5;refine jfq hord (by simp) ?_;simp [hN];intro gf3;refine ⟨by omega,?_⟩;generalize gf3 25 = g25;rw [q3u]
 refine jft (X:=Nat) (fun i=>[(28,qab i),(27,qab N),(26,.sl (qak L) (some N)),(11,.ref 25 g25 0 N (some N)),(5,.ptr 5 g5 0 0),(4,.ptr 4 g4 0 0),(3,.sl (tU N B) cb),(2,.sl (tU N A) ca)])
  (fun i=>[(25,.row g25 1 (bT N (evl (quk c f A B) (fun _=>true) (L.take i) fun _=>false))),(5,.row g5 5 [f.w]),(4,.row g4 4 [c.v])])
  (fun i=>i≤N) (fun i=>N - i) 0 (Nat.zero_le _) (by simp [qab,hO2]) (by simp [evl,Ft.w,u8V,qab]) ?_
 intro i hi;simp [qab];refine jfr (fun hb=>?_) (fun hb=>?_)
 ·have hi':=jfy hb;have hw:=qbi i (by omega);have hiL:i < L.length:=by omega
  obtain ⟨n,hn⟩:∃ n,L[i] = n:=⟨_,rfl⟩;have hnN:n < N:=hO1 n (by rw [<- hn]; exact jf3 hiL);have hnc:n < c.n.length:=by omega
  obtain ⟨y,hy⟩:∃ y,c.n[n] = y:=⟨_,rfl⟩;have hyn:c.nd n = y:=by rw [c.nd_get hnc,hy]
  have hyi:=hg.val.i n hnc;have hyl:=hg.val.l n hnc;rw [hyn] at hyi hyl;have hyk:=hg.k y (by rw [<- hy]; exact jf3 hnc);have hyz:=qi4 ((qhd hg.sh).2.2.1 y (by rw [<- hy]; exact jf3 hnc));have hy0:=(hg.wf.k y (by rw [<- hy]; exact jf3 hnc)).1;obtain ⟨F,hF⟩:∃ F,evl (quk c f A B) (fun _=>true) (L.take i) (fun _=>false) = F:=⟨_,rfl⟩
  have hst:evl (quk c f A B) (fun _=>true) (L.take (i + 1)) (fun _=>false) = qbs F n (quk c f A B n F):=by
   rw [List.take_succ_eq_append_getElem hiL,hn,qh1,hF,if_pos rfl]
  have hFn:F n = false:=by
   rw [<- hF,qqc];intro h;obtain ⟨j,hj,hj2⟩:=List.getElem_of_mem h;simp only [List.length_take] at hj;rw [List.getElem_take] at hj2;have:=(List.pairwise_iff_getElem.1 (List.nodup_iff_pairwise_ne.1 hnd)) j i (by omega) hiL (by omega);rw [hj2,hn] at this;exact this rfl
  rw [hF];have hAg:∀ h,(tU N A)[n]'h = u8V (A n):=fun _=>qej _ _ _ _;have hBg:∀ h,(tU N B)[n]'h = u8V (B n):=fun _=>qej _ _ _ _;obtain ⟨a,ha⟩:∃ a,A n = a:=⟨_,rfl⟩;obtain ⟨b,hb2⟩:∃ b,B n = b:=⟨_,rfl⟩;rw [ha] at hAg;rw [hb2] at hBg;obtain ⟨Tl,hTl⟩:∃ T,tU N A = T:=⟨_,rfl⟩;obtain ⟨Ul,hUl⟩:∃ T,tU N B = T:=⟨_,rfl⟩;have hTn:Tl.length = N:=by rw [<- hTl]; simp
  have hUn:Ul.length = N:=by rw [<- hUl]; simp
  rw [hTl] at hAg ⊢;rw [hUl] at hBg ⊢;have hpin:f.pin = (f.q:Int) - 1:=rfl
  have hgt:(c.g n).any F = (qdc c n && y.i.any fun k=>F k.toNat):=by
   unfold Ci.g
   cases hc:qdc c n with
   | false=>rw [if_neg (show ¬ qgc (c.nd n).k = true from by rw [show qgc (c.nd n).k = qdc c n from rfl,hc]; simp)]; rfl
   | true=>rw [if_pos (show qgc (c.nd n).k = true from hc),hyn,List.any_map]; rfl
  have hcb:qdc c n = decide (1≤y.k/\y.k≤13):=by unfold qdc qgc; rw [hyn]
  have hself:∀ x ∈ y.i,qdc c n = true->x.toNat ≠ n:=fun x hx hc e=>by
   have:x.toNat ∈ c.g n:=by rw [q44 hc,hyn]; exact List.mem_map_of_mem hx
   have:=g_ne hg hnc this;rw [e] at this; omega
  have hin0:y.k = 0->y.i = []:=fun e=>by
   have hw2:=hyz.2.1;rw [e] at hw2;have e2:kHi 0 = 0:=rfl;simp only [qwp,e2,Bool.and_eq_true,decide_eq_true_eq] at hw2;exact List.length_eq_zero_iff.1 (by omega)
  have hq:=hf.q
  -- what the loop over the inputs makes
  have key:∀ v0:Bool,¬ (a≤1/\a = b)->v0 = (decide (n = f.n) && (decide (y.k ≠ 14) || decide (f.q = 0)))->quk c f A B n F = orK (decide (y.k ≠ 14)) v0 F y.i:=by
   intro v0 hd hv0;unfold quk orK;rw [ha,hb2,hgt,hcb]
   have hd':(decide (a≤1) && decide (a = b)) = false:=by
    cases e1:decide (a≤1) <;> cases e2:decide (a = b) <;> simp_all
   rw [hd',hv0];have hk3:y.k = 0∨y.k = 14∨(1≤y.k/\y.k≤13):=by have:=hyz.1; omega
   rcases hk3 with e | e | e
   ·have:=hin0 e;have hq2:n = f.n->f.q = 0:=fun e2=>by rw [<- e2,hyn,this] at hq; simpa using hq
    by_cases e2:n = f.n
    ·simp [e,this,hq2 e2,e2]
    ·simp [e,this,e2]
   ·simp [e]
   ·have e3:¬ y.k = 14:=by omega
    simp [e,e3]
  have hpq:((f.q:Int) - 1 < 0) = (f.q = 0):=propext ⟨fun h=>by omega,fun h=>by omega⟩
  have hcase:(a≤1/\a = b)∨(a≤1/\¬ a = b)∨(¬ a≤1/\True):=by
   by_cases e1:a≤1
   ·by_cases e2:a = b
    ·exact .inl ⟨e1,e2⟩
    ·exact .inr (.inl ⟨e1,e2⟩)
   ·exact .inr (.inr ⟨e1,trivial⟩)
  have hsub:(¬ f.n = n/\¬ n = f.n/\True)∨(f.n = n/\¬ y.k = 14/\True)∨(f.n = n/\y.k = 14/\f.q = 0)∨(f.n = n/\y.k = 14/\¬ f.q = 0):=by
   by_cases e1:f.n = n
   ·by_cases e2:y.k = 14 <;> by_cases e3:f.q = 0 <;> simp [e1,e2,e3]
   ·exact .inl ⟨e1,fun e=>e1 e.symm,trivial⟩
  rcases hcase with ⟨h1,h2⟩ | hd
  ·have hmv:quk c f A B n F = F n:=by unfold quk; rw [ha,hb2,decide_eq_true h1,decide_eq_true h2,hFn]; rfl
   rw [hmv,qv7] at hst;subst h2;simp [hi',hO2,qav,hn,hnN,hTn,hUn,hAg,hBg,u8V,h1];exact ⟨i + 1,hi',hw,by rw [hst],by omega⟩
  ·have hd0:¬ (a≤1/\a = b):=hd.elim (fun h e=>h.2 e.2) fun h e=>h.1 e.1;obtain ⟨v0,hv0⟩:∃ v0,v0 = (decide (n = f.n) && (decide (y.k ≠ 14) || decide (f.q = 0))):=⟨_,rfl⟩;have hkey:=key v0 hd0 hv0;obtain ⟨W,hWd⟩:∃ W:Nat->Bool,∀ j,W j = orK (decide (y.k ≠ 14)) v0 F (y.i.take j):=⟨_,fun _=>rfl⟩;have hW0:W 0 = v0:=by rw [hWd]; simp [orK]
   have hWe:=hWd y.i.length;rw [List.take_length,<- hkey] at hWe;rw [<- hWe] at hst;clear hkey key hWe;rcases hd with ⟨h1,h2⟩ | ⟨h1,h2⟩
   all_goals rcases hsub with ⟨s1,s2,s3⟩ | ⟨s1,s2,s3⟩ | ⟨s1,s2,s3⟩ | ⟨s1,s2,s3⟩
   all_goals
    simp [hi',hO2,qav,hn,hnN,hTn,hUn,hAg,hBg,u8V,qab,Ft.w,hnc,hy,hpin,hpq,h1,h2,s1,s2,s3,qp2,qfs,hFn];simp [s1,s2,s3] at hv0
    refine jft (X:=Nat) (fun j=>[(79,qab j),(78,qab y.i.length),(77,.sl (qde y.i) none),(28,qab i),(27,qab N),(26,.sl (qak L) (some N)),(14,.bool (!decide (y.k = 14))),(13,qab n),(11,.ref 25 g25 0 N (some N)),(5,.ptr 5 g5 0 0),(4,.ptr 4 g4 0 0),(3,.sl Ul cb),(2,.sl Tl ca)])
     (fun j=>[(25,.row g25 1 (bT N (qbs F n (W j)))),(5,.row g5 5 [f.w]),(4,.row g4 4 [c.v])])
     (fun j=>j≤y.i.length) (fun j=>y.i.length - j) 0 (Nat.zero_le _) (by simp [qab,s2,Nd.v]) (by simp [hW0,hv0,Ft.w,u8V,qab,hpin,s1,s3]) ?_
    intro j hj;simp [qab];refine jfr (fun hb3=>?_) (fun hb3=>?_)
    ·have hj':j < y.i.length:=jfy hb3;have hwj:=qbi j (by omega);obtain ⟨x,hx⟩:∃ x,y.i[j] = x:=⟨_,rfl⟩;have hxm:x ∈ y.i:=by rw [<- hx]; exact jf3 hj'
     obtain ⟨x0,x1⟩:=hyi x hxm;obtain ⟨m,rfl⟩:=Int.eq_ofNat_of_zero_le x0;have hsn:=qx4 (decide (y.k ≠ 14)) v0 F (y.i.take j) (m:Int);rw [<- hx,<- List.take_succ_eq_append_getElem hj',hx,<- hWd,<- hWd] at hsn;have hmN:m < N:=by omega
     have hmn:¬ y.k = 14->¬ m = n:=fun e4 e5=>by
      have hne:y.k ≠ 0:=fun e6=>by rw [hin0 e6] at hj'; simp at hj'
      refine hself _ hxm ?_ (by simpa using e5);rw [hcb,decide_eq_true_eq];have:=hyz.1; omega
     generalize W j = w at hsn ⊢;have hlen:j < (qde y.i).length:=by simpa [qde] using hj'
     have hig:(qde y.i)[j]'hlen = .int .i64 (m:Int):=by rw [qbq]; rw [hx]
     cases w with
     | true=>
      simp only [Bool.true_or] at hsn;simp [hj',qbq,hx,qfs,qp2,qjn,hnN,s2,hwj];exact ⟨j + 1,hj',by simp,by simp [hsn,Ft.w,u8V,qab,hpin,s1,s3],by omega⟩
     | false=>
      rw [Bool.false_or,Int.toNat_natCast] at hsn;by_cases h14:y.k = 14
      ·simp [h14] at hsn;simp [hj',qbq,hx,qfs,qp2,qjn,hnN,h14,hwj];exact ⟨j + 1,hj',by simp [h14],by simp [hsn,h14,Ft.w,u8V,qab,hpin,s1,s3],by omega⟩
      ·simp [h14] at hsn;have hFm:qbs F n false m = F m:=qaw _ _ (hmn h14);simp [hj',qbq,hx,qfs,qp2,qjn,hnN,hmN,h14,hFm,hwj];exact ⟨j + 1,hj',by simp [h14],by simp [hsn,h14,Ft.w,u8V,qab,hpin,s1,s3],by omega⟩
    ·have hj':j = y.i.length:=by have:=jfz hb3; omega
     subst hj';simp [hw];exact ⟨i + 1,hi',by simp,by simp [hst,Ft.w,u8V,qab,hpin,s1,s3],by omega⟩
 ·have hi':i = N:=by have:=jfz hb; omega
  subst hi';rw [jf2 (by omega)];simp [frz,V.mapR,jd8,qar (qop _ _),jf2]
end
section
open Go
set_option maxRecDepth 100000 in
set_option maxHeartbeats 4000000 in
theorem qp5 (c:Ci) (hg:c.good) (f:Ft) (hf:f.ok c) (hm:f.m = 0) (p:Pt) (hp:p.fit c):qac Tryz.prog gl0 62 [c.v,f.w,p.v] (.bool (qht c f p)):=by
 have hn1:=hg.n1;have hno:c.o.length≤16384:=(qk2 hg.sh).2.2.2;have l1:=qcd 14 c.n;have h1:=q2a c hg f hf hm p hp;have h2:=qth c hg f hf p (some c.n.length) (some c.n.length);have h3:=qeg c (by omega);have hiff:=@qz9 c f p;have hin:=fun n hn=>@q48 c hg n hn;obtain ⟨A,hA⟩:∃ A,qgz c p = A:=⟨_,rfl⟩;obtain ⟨D,hD⟩:∃ D,qzn c f p = D:=⟨_,rfl⟩;obtain ⟨R,hR⟩:∃ R,qht c f p = R:=⟨_,rfl⟩;obtain ⟨S,hS⟩:∃ S,ids 14 c.n 0 = S:=⟨_,rfl⟩;have hSl:S.length = cnt 14 c.n:=by rw [<- hS]; rfl
 rw [hA] at h1 h2 hiff;rw [hD] at h2 hiff;rw [hS] at h3 hiff hin;rw [<- hSl] at h3 l1;rw [hR] at hiff ⊢;have hAp:jd6 (tU c.n.length A) = true:=qcf _ _;have hBp:jd6 (tU c.n.length (f.M c p)) = true:=qcf _ _;generalize tU c.n.length (f.M c p) = TB at *;obtain ⟨N,hN⟩:∃ N,c.n.length = N:=⟨_,rfl⟩;rw [hN] at h1 h2 hAp l1;have hAg:∀ n h,(tU N A)[n]'h = u8V (A n):=fun n _=>qej _ _ _ _;have hAl:(tU N A).length = N:=by simp
 obtain ⟨TA,hTA⟩:∃ T,tU N A = T:=⟨_,rfl⟩;rw [hTA] at h1 h2 hAp hAg hAl;have hDp:=qop N D;have hvf:f.w = .agg [u8V f.m,qab f.n,.int .i64 f.pin,u8V f.v,qab f.o]:=rfl;have hpin:f.pin = (f.q:Int) - 1:=rfl;obtain ⟨P1,hP1⟩:∃ P:Nat->Prop,∀ i,P i↔∀ j,j < i->∀ h:j < c.o.length,D (c.o[j]).toNat = false:=⟨_,fun _=>Iff.rfl⟩;obtain ⟨P2,hP2⟩:∃ P:Nat->Prop,∀ i,P i↔∀ j,j < i->∀ h:j < S.length,(f.n = S[j]/\f.q = 1->A (inD c S[j]) = f.v)/\(¬ (f.n = S[j]/\f.q = 1)->D (inD c S[j]) = false):=⟨_,fun _=>Iff.rfl⟩;refine jfu 2 ok62 rfl ?_;simp only [Ft.w,Pt.v,u8V,qab] at h1 h2;simp [i62,x62,Ft.w,Pt.v,u8V,qab];intro gf1 gf2 gf3;generalize gf1 3 = g3;generalize gf2 4 = g4;generalize gf3 5 = g5;refine jfq h1 (by simp) ?_;simp;refine jfq h2 (by simp [hAp,hBp]) ?_;simp
 refine jft (X:=Nat) (fun i=>[(30,qab i),(29,qab c.o.length),(28,.sl (qde c.o) none),(9,.sl (bT N D) (some N)),(7,.sl TA (some N)),(4,.ptr 4 g4 0 0),(3,.ptr 3 g3 0 0)])
  (fun _=>[(4,.row g4 5 [f.w]),(3,.row g3 4 [c.v])])
  (fun i=>i≤c.o.length/\P1 i) (fun i=>c.o.length - i) 0 ⟨Nat.zero_le _,(hP1 0).2 fun j h=>by omega⟩ (by simp [qab]) (by simp [Ft.w,u8V,qab]) ?_
 rintro i ⟨hi,hinv0⟩;have hinv:=(hP1 i).1 hinv0;simp [qab];refine jfr (fun hb=>?_) (fun hb=>?_)
 ·have hi':=jfy hb;have hw:=qbi i (by omega);obtain ⟨y,hy⟩:∃ y,c.o[i] = y:=⟨_,rfl⟩;obtain ⟨y0,y1⟩:=hg.o (x:=y) (by rw [<- hy]; exact jf3 hi');obtain ⟨m,rfl⟩:=Int.eq_ofNat_of_zero_le y0;have hmN:m < N:=by omega
  cases hd:D m with
  | true=>
   have hRf:R = false:=by
    cases R with
    | false=>rfl
    | true=>have:=(hiff.1 rfl).1 _ (jf3 hi'); rw [hy,Int.toNat_natCast,hd] at this; cases this
   simp [hi',qbq,hy,hmN,qfs,hd,hRf]
  | false=>
   simp [hi',qbq,hy,hmN,qfs,hd,hw];refine ⟨i + 1,⟨hi',(hP1 _).2 fun j hj h=>?_⟩,by simp,by omega⟩;by_cases e:j = i
   ·subst e; rw [hy,Int.toNat_natCast,hd]
   ·exact hinv j (by omega) h
 ·have hi':i = c.o.length:=by have:=jfz hb; omega
  have hall:∀ k ∈ c.o,D k.toNat = false:=fun k hk=>by
   obtain ⟨j,hj,rfl⟩:=List.getElem_of_mem hk;exact hinv j (by omega) hj
  simp;refine jfq h3 (by simp) ?_;simp
  refine jft (X:=Nat) (fun i=>[(42,qab i),(41,qab S.length),(40,.sl (qak S) (some S.length)),(9,.sl (bT N D) (some N)),(7,.sl TA (some N)),(4,.ptr 4 g4 0 0),(3,.ptr 3 g3 0 0)])
   (fun _=>[(4,.row g4 5 [f.w]),(3,.row g3 4 [c.v])])
   (fun i=>i≤S.length/\P2 i) (fun i=>S.length - i) 0 ⟨Nat.zero_le _,(hP2 0).2 fun j h=>by omega⟩ (by simp [qab]) (by simp) ?_
  rintro i ⟨hi2,hinv20⟩;have hinv2:=(hP2 i).1 hinv20;simp [qab];refine jfr (fun hb2=>?_) (fun hb2=>?_)
  ·have hi3:=jfy hb2;have hw:=qbi i (by omega);obtain ⟨n,hn⟩:∃ n,S[i] = n:=⟨_,rfl⟩;obtain ⟨z1,z2,z3,z4⟩:=hin n (by rw [<- hn]; exact jf3 hi3);obtain ⟨d,hd⟩:∃ d,inD c n = d:=⟨_,rfl⟩;rw [hd] at z2 z3;obtain ⟨y,hy⟩:∃ y,c.n[n] = y:=⟨_,rfl⟩;rw [c.nd_get z1,hy] at z2;have hid:qde [(d:Int)] = [.int .i64 (d:Int)]:=rfl;have hnN:n < N:=by omega
   have hdN:d < N:=by omega
   have hSm:S[i] ∈ S:=jf3 hi3
   have next:((f.n = n/\f.q = 1->A d = f.v)/\(¬ (f.n = n/\f.q = 1)->D d = false))->P2 (i + 1):=fun hh=>(hP2 _).2 fun j hj h=>by
    by_cases e:j = i
    ·subst e; rw [hn,hd]; exact hh
    ·exact hinv2 j (by omega) h
   have hbad:¬ ((f.n = n/\f.q = 1->A d = f.v)/\(¬ (f.n = n/\f.q = 1)->D d = false))->R = false:=fun hh=>by
    cases R with
    | false=>rfl
    | true=>have:=(hiff.1 rfl).2 _ hSm; rw [hn,hd] at this; exact absurd this hh
   have hq1:((f.q:Int) - 1 = 0) = (f.q = 1):=propext ⟨fun h=>by omega,fun h=>by omega⟩;by_cases e1:f.n = n/\f.q = 1
   ·have e2:((f.n:Int) = n/\(f.q:Int) - 1 = 0):=⟨by omega,by omega⟩;by_cases e3:A d = f.v
    ·have hx:=next ⟨fun _=>e3,fun h=>absurd e1 h⟩;simp [hi3,qav,hn,z1,hy,z2,hdN,hAl,hAg,u8V,qab,hpin,hid,qiq,qbb,e1,e3,hw];exact ⟨i + 1,⟨hi3,hx⟩,by simp,by omega⟩
    ·have hx:=hbad fun h=>e3 (h.1 e1);simp [hi3,qav,hn,z1,hy,z2,hdN,hAl,hAg,u8V,qab,hpin,hid,qiq,qbb,e1,e3,hx]
   ·cases e3:D d with
    | true=>
     have hx:=hbad fun h=>by have:=h.2 e1; rw [e3] at this; cases this
     by_cases e4:f.n = n
     ·have e5:¬ f.q = 1:=fun h=>e1 ⟨e4,h⟩;simp [hi3,qav,hn,z1,hy,z2,hdN,hAl,hAg,u8V,qab,hpin,hid,qiq,qbb,hq1,e4,e5,e3,hx,qfs]
     ·simp [hi3,qav,hn,z1,hy,z2,hdN,hAl,hAg,u8V,qab,hpin,hid,qiq,qbb,hq1,e4,e3,hx,qfs]
    | false=>
     have hx:=next ⟨fun h=>absurd h e1,fun _=>e3⟩;by_cases e4:f.n = n
     ·have e5:¬ f.q = 1:=fun h=>e1 ⟨e4,h⟩;simp [hi3,qav,hn,z1,hy,z2,hdN,hAl,hAg,u8V,qab,hpin,hid,qiq,qbb,hq1,e4,e5,e3,qfs,hw];exact ⟨i + 1,⟨hi3,hx⟩,by simp,by omega⟩
     ·simp [hi3,qav,hn,z1,hy,z2,hdN,hAl,hAg,u8V,qab,hpin,hid,qiq,qbb,hq1,e4,e3,qfs,hw];exact ⟨i + 1,⟨hi3,hx⟩,by simp,by omega⟩
  ·have hi3:i = S.length:=by have:=jfz hb2; omega
   have hRt:R = true:=hiff.2 ⟨hall,fun n hn=>by
    obtain ⟨j,hj,rfl⟩:=List.getElem_of_mem hn;exact hinv2 j (by omega) hj⟩
   simp [hRt]
end
end Go.Proofs.YtpaopccohkldlaaGreatDoor
