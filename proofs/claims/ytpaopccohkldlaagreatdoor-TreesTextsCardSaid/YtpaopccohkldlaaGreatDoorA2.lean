/- Lemmas. Conditions: none. -/
import Derived.Test.YtpaopccohkldlaaGreatDoorY3
import Derived.Test.YtpaopccohkldlaaGreatDoorXT
set_option linter.all false
namespace Go.Proofs.YtpaopccohkldlaaGreatDoor
section
open Go
theorem qr9 (c:Ci) (hg:c.good):qac Tryz.prog gl0 76 [c.v] (.tup [.sl (qae (qpl c)) (some c.n.length),.int .i64 0]):=by
 refine qac.of_own 2 (qqm c hg.wf) ?_;rintro v h (⟨h1,-⟩ | ⟨-,g,L,rfl,rfl,hR,hpw⟩)
 ·exact absurd hg.chk h1
 have hn1:=hg.n1;rw [Ord.eq ⟨hR,hpw (by omega)⟩];have hl:(qae L).length = c.n.length:=by simp [hR.len]
 have ht:List.take c.n.length (qae L) = qae L:=jh2 (by omega);simp [frz,V.mapR,jga,hl,qa0 (qa3 _)];exact ht
theorem qop {ks:List Int}:∀ (l:List Nd) (i:Nat),(∀ y ∈ l,y.k ∉ ks)->qnk ks l i = []
 | [],_,_=>rfl
 | y :: l,i,h=>by
  rw [qnk,if_neg (h y List.mem_cons_self)];exact qop l (i + 1) fun x hx=>h x (List.mem_cons_of_mem _ hx)
theorem q3i (c:Ci) (hg:c.good) (hk:c.plain):qbw Tryz.prog gl0 88 [c.v,.sl [.int .u8 12,.int .u8 13,.int .u8 15] (some 3)] (q4k 1 (.sl [] (some 0))):=by
 have h1:=jg9 (q7x c [12,13,15] (some 3) (by have:=hg.n1; omega) (by simp)) (qdr [12,13,15] c.n 0).2 (qdr [12,13,15] c.n 0).1;rw [qop c.n 0 fun y hy=>?_] at h1
 ·simpa using h1
 ·obtain ⟨i,hi,rfl⟩:=List.getElem_of_mem hy;have h2:=hg.k _ (jh3 hi);have h3:=hk i hi;unfold qcv qen at h3;rw [c.nd_get hi] at h3;simp only [List.mem_cons,List.not_mem_nil,or_false,not_or];refine ⟨fun e=>?_,fun e=>?_,h2⟩
  ·have:=(h3 (by rw [e]; rfl)).2.1; omega
  ·have:=(h3 (by rw [e]; rfl)).2.1; omega
theorem qz4 (c:Ci) (hg:c.good) (hk:c.plain):qac Tryz.prog gl0 42 [c.v] (.int .i64 0):=by
 have h1:=qps c hg.wf;rw [hg.chk] at h1;have hm:=hg.m;have h2:=q3i c hg hk;refine jhu 2 ok42 rfl ?_;simp [i42,x42];intro gf;refine jhq h1 (by simp) ?_;simp [hm];intro gf2;refine CallO.dat 1 h2 (by simp) ?_;simp
theorem qsi (c:Ci) (hg:c.good) (hk:c.plain) (f:Ft) (hf:f.ok c) (hm:f.m = 0):qac Tryz.prog gl0 60 [c.v,f.w] (.int .i64 0):=by
 have h1:=qz4 c hg hk;have h2:=qmn c hg f hf;simp only [Ft.w,u8V,qaa] at h2;refine jhu 2 ok60 rfl ?_;simp [i60,x60,Ft.w,u8V,qaa];intro gf gf2;refine jhq h1 (by simp) ?_;simp;refine jhq h2 (by simp) ?_;simp [hm]
theorem qth (c:Ci) (hg:c.good) (p:Pt) (hp:p.fit c):qac Tryz.prog gl0 109 [c.v,p.v] (.int .i64 0):=by
 have h1:=qps c hg.wf;rw [hg.chk] at h1;have h2:=q04 c hg p hp;simp only [Pt.v] at h2;refine jhu 2 jcx rfl ?_;simp [i109,x109,Pt.v];intro gf gf2;refine jhq h1 (by simp) ?_;simp;refine jhq h2 (by simp) ?_;simp
def Pt.cu (p:Pt):Prop:=(∀ x ∈ p.i,x≤2)/\∀ x ∈ p.s,x≤2
theorem qny (c:Ci) (hg:c.good) (hk:c.plain) (f:Ft) (hf:f.ok c) (hm:f.m = 0) (p:Pt) (hp:p.fit c) (hc:p.cu):qac Tryz.prog gl0 75 [c.v,f.w,p.v] (.int .i64 0):=by
 have h1:=qsi c hg hk f hf hm;have h2:=qth c hg p hp;have hn1:=hg.n1;have hil:p.i.length≤20:=by rw [hp.i]; have:=qb2 0 c.n; omega
 have hsl:p.s.length≤20:=by rw [hp.s]; have:=qb2 14 c.n; omega
 simp only [Ft.w,Pt.v,u8V,qaa] at h1 h2;refine jhu 2 ok75 rfl ?_;simp [i75,x75,Ft.w,Pt.v,u8V,qaa];intro gf1 gf2 gf3;refine jhq h1 (by simp) ?_;simp;refine jhq h2 (by simp) ?_;simp;intro gf4;generalize gf4 29 = g29
 refine jht (X:=Nat) (fun i=>[(31,qaa i),(30,qaa 2),(29,.ref 29 g29 0 2 (some 2))]) (fun _=>[(29,.row g29 1 [.sl (p.i.map u8V) none,.sl (p.s.map u8V) none])])
  (fun i=>i≤2) (fun i=>2 - i) 0 (by omega) (by simp [qaa]) (by simp [u8V]) ?_
 intro i hi;have key:∀ (l:List Nat),l.length≤20->(∀ x ∈ l,x≤2)->∀ (R:Nat->Nat->Prop),True:=fun _ _ _ _=>trivial;simp [qaa];refine jhr (fun hb=>?_) (fun hb=>?_)
 ·have hi2:i < 2:=jhy hb;have hc2:i = 0∨i = 1:=by omega
  obtain ⟨l,hl,hl2,hget⟩:∃ l:List Nat,l.length≤20/\(∀ x ∈ l,x≤2)/\∀ h,([V.sl (p.i.map u8V) none,.sl (p.s.map u8V) none])[i]'h = .sl (l.map u8V) none:=by
   rcases hc2 with rfl | rfl
   ·exact ⟨p.i,hil,hc.1,fun _=>rfl⟩
   ·exact ⟨p.s,hsl,hc.2,fun _=>rfl⟩
  have hw:=qbb i (by omega);simp [hi2,hget]
  refine jht (X:=Nat) (fun j=>[(37,qaa j),(36,qaa l.length),(35,.sl (l.map u8V) none),(31,qaa i),(30,qaa 2),(29,.ref 29 g29 0 2 (some 2))]) (fun _=>[(29,.row g29 1 [.sl (p.i.map u8V) none,.sl (p.s.map u8V) none])])
   (fun j=>j≤l.length) (fun j=>l.length - j) 0 (Nat.zero_le _) (by simp [qaa]) (by simp) ?_
  intro j hj;simp [qaa];refine jhr (fun hb2=>?_) (fun hb2=>?_)
  ·have hj2:j < l.length:=jhy hb2;have hwj:=qbb j (by omega);obtain ⟨x,hx⟩:∃ x,l[j] = x:=⟨_,rfl⟩;have hx2:=hl2 x (by rw [<- hx]; exact jh3 hj2);simp [hj2,hx,u8V,hwj,show ¬ 2 < x by omega];exact ⟨j + 1,hj2,by simp,by omega⟩
  ·simp [hw];exact ⟨i + 1,hi2,by simp,by omega⟩
 ·simp
theorem q12 (c:Ci) (hg:c.good) (f:Ft) (hf:f.ok c) (hm:f.m = 0) (p:Pt) (hp:p.fit c) :
  qac Tryz.prog gl0 77 [c.v,f.w,p.v] (.tup [qfl (qqk c (qgt c p)) (qql c (qgt c p)),qfl (qjz c (f.M c p)) (qj0 c f.sQ (f.M c p)),.sl (tU c.n.length (f.M c p)) (some c.n.length),.int .i64 0]):=by
 have hv:=hf.v;exact q0v c hg f (qmn c hg f hf) (by omega) p hp _ _ _ _ (jbo f _ _ (q35 f)) (jbp f _ _ (q35 f)) (q0t f _ fun _=>by omega) (qn7 c f hm _ _ (qb6 _ _))
theorem q1i (c:Ci) (hg:c.good) (f:Ft) (hf:f.ok c) (hm:f.m = 0) (p:Pt) (hp:p.fit c) :
  qac Tryz.prog gl0 39 [c.v,f.w,p.v] (.tup [qfl (qjz c (f.M c p)) (qj0 c f.sQ (f.M c p)),.sl (tU c.n.length (f.M c p)) (some c.n.length),.int .i64 0]):=by
 have hb:=q12 c hg f hf hm p hp;generalize qjz c (f.M c p) = O at hb ⊢;generalize qj0 c f.sQ (f.M c p) = S at hb ⊢;generalize f.M c p = M at hb ⊢;simp only [qfl,Pt.v] at hb ⊢;refine jhu 2 ok39 rfl ?_;simp [i39,x39];intro gf1 gf2 gf3 gf4;refine jhq hb (by simp [qaa,u8V]) ?_;simp [qag,qa0 (qb6 _ _)]
theorem q6i (c:Ci) (hg:c.good) (f:Ft) (hf:f.ok c) (hm:f.m = 0) (p:Pt) (hp:p.fit c):qac Tryz.prog gl0 35 [c.v,f.w,p.v] (.tup [.bool (f.det c p),.int .i64 0]):=q6h c hg f hf hm p hp
theorem q39 (c:Ci) (hg:c.good) (f:Ft) (hf:f.ok c) (hm:f.m = 0) (p:Pt) (hp:p.fit c) :
  qac Tryz.prog gl0 79 [c.v,f.w,p.v] (.tup [.sl (tU c.n.length (qgt c p)) (some c.n.length),.sl (tU c.n.length (f.M c p)) (some c.n.length)]):=by
 have h1:=q30 c hg p hp;have h2:=q1i c hg f hf hm p hp;generalize f.M c p = M at h2 ⊢;generalize qgt c p = A at h1 ⊢;have hA:jf8 (tU c.n.length A) = true:=qb6 _ _;have hM:jf8 (tU c.n.length M) = true:=qb6 _ _;have e1:(tab c.n.length fun i=>u8V (A i)) = tU c.n.length A:=rfl;rw [e1] at h1;generalize tU c.n.length A = TA at *;generalize tU c.n.length M = TM at *;simp only [Ft.w,Pt.v,u8V,qaa,qfl] at h1 h2;refine jhu 2 ok79 rfl ?_;simp [i79,x79,Ft.w,Pt.v,u8V,qaa];intro gf1 gf2 gf3;refine jhq h1 (by simp) ?_;simp;refine jhq h2 (by simp) ?_;simp [qag,hA,hM]
end
section
open Go
def bT (n:Nat) (F:Nat->Bool):List V:=tab n fun i=>.bool (F i)
@[simp] theorem bT_len (n:Nat) (F:Nat->Bool):(bT n F).length = n:=by simp [bT]
theorem qcc (n:Nat) (F:Nat->Bool) (i:Nat) (h:i < (bT n F).length):(bT n F)[i] = .bool (F i):=by simp only [bT]; rw [qdm]
theorem qge (n:Nat) (F:Nat->Bool) (i:Nat) (v:Bool):(bT n F).set i (.bool v) = bT n (qcn F i v):=by
 unfold bT;rw [qh7];refine qch fun j _=>?_;by_cases e:j = i
 ·subst e; simp
 ·rw [qa1 _ _ e,qa1 _ _ e]
theorem qpq (n:Nat) (F:Nat->Bool):jf8 (bT n F) = true:=qi3 fun _=>rfl
theorem q0u (n:Nat):List.replicate n (V.bool false) = bT n fun _=>false:=by unfold bT; rw [qe0]
theorem qkm {α:Type} (f:Nat->α) (i:Nat) (v w:α):qcn (qcn f i v) i w = qcn f i w:=by
 funext j;by_cases e:j = i
 ·subst e; simp
 ·rw [qa1 _ _ e,qa1 _ _ e,qa1 _ _ e]
theorem qxv {α:Type} (f:Nat->α) (i:Nat):qcn f i (f i) = f:=by
 funext j;by_cases e:j = i
 ·subst e; simp
 ·rw [qa1 _ _ e]
def orK (g v:Bool) (F:Nat->Bool) (l:List Int):Bool:=v || (g && l.any fun k=>F k.toNat)
theorem qr8 (g v:Bool) (F:Nat->Bool) (l:List Int) (x:Int):orK g v F (l ++ [x]) = (orK g v F l || (g && F x.toNat)):=by
 unfold orK;cases g <;> cases v <;> simp
set_option maxRecDepth 100000 in
set_option maxHeartbeats 4000000 in
theorem quv (c:Ci) (hg:c.good) (f:Ft) (hf:f.ok c) (p:Pt) (ca cb:Option Nat) :
  qac Tryz.prog gl0 101 [c.v,f.w,.sl (tU c.n.length (qgt c p)) ca,.sl (tU c.n.length (f.M c p)) cb] (.sl (bT c.n.length (qyf c f p)) (some c.n.length)):=by
 have hn1:=hg.n1;have hord:=qr9 c hg;have hO:=hg.ord;have hO1:=hO.r.lt;have hO2:=hO.r.len;have hnd:=qdf hO.p;have htp:=hO.topo hg;have hm:qyf c f p = evl (qni c f (qgt c p) (f.M c p)) (fun _=>true) (qpl c) fun _=>false:=rfl;rw [hm];generalize qgt c p = A;generalize f.M c p = B;obtain ⟨L,hL⟩:∃ L,qpl c = L:=⟨_,rfl⟩;rw [hL] at hord hO1 hO2 hnd htp ⊢;have hAp:jf8 (tU c.n.length A) = true:=qb6 _ _;have hBp:jf8 (tU c.n.length B) = true:=qb6 _ _;obtain ⟨N,hN⟩:∃ N,c.n.length = N:=⟨_,rfl⟩;rw [hN] at hord hO1 hO2 hAp hBp ⊢;have hmk:∀ (f:Nat->Nat->Nat->Nat->Option Nat->V) (q:Nat->Nat->Nat->Nat->V) F,jga f q (bT N F) = bT N F:=fun _ _ _=>qag _ (qpq _ _);refine jhu 2 jct rfl ?_;simp [i101,x101,Ft.w,u8V,qaa];intro gf1 gf2;generalize gf1 4 = g4;generalize gf2 5 = g5;refine jhq hord (by simp) ?_;simp [hN];intro gf3;refine ⟨by omega,?_⟩;generalize gf3 25 = g25;rw [q0u]
 refine jht (X:=Nat) (fun i=>[(28,qaa i),(27,qaa N),(26,.sl (qae L) (some N)),(11,.ref 25 g25 0 N (some N)),(5,.ptr 5 g5 0 0),(4,.ptr 4 g4 0 0),(3,.sl (tU N B) cb),(2,.sl (tU N A) ca)])
  (fun i=>[(25,.row g25 1 (bT N (evl (qni c f A B) (fun _=>true) (L.take i) fun _=>false))),(5,.row g5 5 [f.w]),(4,.row g4 4 [c.v])])
  (fun i=>i≤N) (fun i=>N - i) 0 (Nat.zero_le _) (by simp [qaa,hO2]) (by simp [evl,Ft.w,u8V,qaa]) ?_
 intro i hi;simp [qaa];refine jhr (fun hb=>?_) (fun hb=>?_)
 ·have hi':=jhy hb;have hw:=qbb i (by omega);have hiL:i < L.length:=by omega
  obtain ⟨n,hn⟩:∃ n,L[i] = n:=⟨_,rfl⟩;have hnN:n < N:=hO1 n (by rw [<- hn]; exact jh3 hiL);have hnc:n < c.n.length:=by omega
  obtain ⟨y,hy⟩:∃ y,c.n[n] = y:=⟨_,rfl⟩;have hyn:c.nd n = y:=by rw [c.nd_get hnc,hy]
  have hyi:=hg.val.i n hnc;have hyl:=hg.val.l n hnc;rw [hyn] at hyi hyl;have hyk:=hg.k y (by rw [<- hy]; exact jh3 hnc);have hyz:=qh3 ((qgw hg.sh).2.2.1 y (by rw [<- hy]; exact jh3 hnc));have hy0:=(hg.wf.k y (by rw [<- hy]; exact jh3 hnc)).1;obtain ⟨F,hF⟩:∃ F,evl (qni c f A B) (fun _=>true) (L.take i) (fun _=>false) = F:=⟨_,rfl⟩
  have hst:evl (qni c f A B) (fun _=>true) (L.take (i + 1)) (fun _=>false) = qcn F n (qni c f A B n F):=by
   rw [List.take_succ_eq_append_getElem hiL,hn,qg4,hF,if_pos rfl]
  have hFn:F n = false:=by
   rw [<- hF,qrq];intro h;obtain ⟨j,hj,hj2⟩:=List.getElem_of_mem h;simp only [List.length_take] at hj;rw [List.getElem_take] at hj2;have:=(List.pairwise_iff_getElem.1 (List.nodup_iff_pairwise_ne.1 hnd)) j i (by omega) hiL (by omega);rw [hj2,hn] at this;exact this rfl
  rw [hF];have hAg:∀ h,(tU N A)[n]'h = u8V (A n):=fun _=>qd3 _ _ _ _;have hBg:∀ h,(tU N B)[n]'h = u8V (B n):=fun _=>qd3 _ _ _ _;obtain ⟨a,ha⟩:∃ a,A n = a:=⟨_,rfl⟩;obtain ⟨b,hb2⟩:∃ b,B n = b:=⟨_,rfl⟩;rw [ha] at hAg;rw [hb2] at hBg;obtain ⟨Tl,hTl⟩:∃ T,tU N A = T:=⟨_,rfl⟩;obtain ⟨Ul,hUl⟩:∃ T,tU N B = T:=⟨_,rfl⟩;have hTn:Tl.length = N:=by rw [<- hTl]; simp
  have hUn:Ul.length = N:=by rw [<- hUl]; simp
  rw [hTl] at hAg ⊢;rw [hUl] at hBg ⊢;have hpin:f.pin = (f.q:Int) - 1:=rfl
  have hgt:(c.g n).any F = (qcv c n && y.i.any fun k=>F k.toNat):=by
   unfold Ci.g
   cases hc:qcv c n with
   | false=>rw [if_neg (show ¬ qen (c.nd n).k = true from by rw [show qen (c.nd n).k = qcv c n from rfl,hc]; simp)]; rfl
   | true=>rw [if_pos (show qen (c.nd n).k = true from hc),hyn,List.any_map]; rfl
  have hcb:qcv c n = decide (1≤y.k/\y.k≤13):=by unfold qcv qen; rw [hyn]
  have hself:∀ x ∈ y.i,qcv c n = true->x.toNat ≠ n:=fun x hx hc e=>by
   have:x.toNat ∈ c.g n:=by rw [q66 hc,hyn]; exact List.mem_map_of_mem hx
   have:=g_ne hg hnc this;rw [e] at this; omega
  have hin0:y.k = 0->y.i = []:=fun e=>by
   have hw2:=hyz.2.1;rw [e] at hw2;have e2:kHi 0 = 0:=rfl;simp only [qkn,e2,Bool.and_eq_true,decide_eq_true_eq] at hw2;exact List.length_eq_zero_iff.1 (by omega)
  have hq:=hf.q
  -- what the loop over the inputs makes
  have key:∀ v0:Bool,¬ (a≤1/\a = b)->v0 = (decide (n = f.n) && (decide (y.k ≠ 14) || decide (f.q = 0)))->qni c f A B n F = orK (decide (y.k ≠ 14)) v0 F y.i:=by
   intro v0 hd hv0;unfold qni orK;rw [ha,hb2,hgt,hcb]
   have hd':(decide (a≤1) && decide (a = b)) = false:=by
    cases e1:decide (a≤1) <;> cases e2:decide (a = b) <;> simp_all
   rw [hd',hv0];have hk3:y.k = 0∨y.k = 14∨(1≤y.k/\y.k≤13):=by have:=hyz.1; omega
   rcases hk3 with e | e | e
   ·have:=hin0 e;have hq2:n = f.n->f.q = 0:=fun e2=>by rw [<- e2,hyn,this] at hq; simpa using hq
    by_cases e2:n = f.n
    ·simp [e,this,hq2 e2,e2]
    ·simp [e,this,e2]
   ·simp [e]
   ·have e3:¬ y.k = 14:=by omega
    simp [e,e3]
  have hpq:((f.q:Int) - 1 < 0) = (f.q = 0):=propext ⟨fun h=>by omega,fun h=>by omega⟩
  have hcase:(a≤1/\a = b)∨(a≤1/\¬ a = b)∨(¬ a≤1/\True):=by
   by_cases e1:a≤1
   ·by_cases e2:a = b
    ·exact .inl ⟨e1,e2⟩
    ·exact .inr (.inl ⟨e1,e2⟩)
   ·exact .inr (.inr ⟨e1,trivial⟩)
  have hsub:(¬ f.n = n/\¬ n = f.n/\True)∨(f.n = n/\¬ y.k = 14/\True)∨(f.n = n/\y.k = 14/\f.q = 0)∨(f.n = n/\y.k = 14/\¬ f.q = 0):=by
   by_cases e1:f.n = n
   ·by_cases e2:y.k = 14 <;> by_cases e3:f.q = 0 <;> simp [e1,e2,e3]
   ·exact .inl ⟨e1,fun e=>e1 e.symm,trivial⟩
  rcases hcase with ⟨h1,h2⟩ | hd
  ·have hmv:qni c f A B n F = F n:=by unfold qni; rw [ha,hb2,decide_eq_true h1,decide_eq_true h2,hFn]; rfl
   rw [hmv,qxv] at hst;subst h2;simp [hi',hO2,qap,hn,hnN,hTn,hUn,hAg,hBg,u8V,h1];exact ⟨i + 1,hi',hw,by rw [hst],by omega⟩
  ·have hd0:¬ (a≤1/\a = b):=hd.elim (fun h e=>h.2 e.2) fun h e=>h.1 e.1;obtain ⟨v0,hv0⟩:∃ v0,v0 = (decide (n = f.n) && (decide (y.k ≠ 14) || decide (f.q = 0))):=⟨_,rfl⟩;have hkey:=key v0 hd0 hv0;obtain ⟨W,hWd⟩:∃ W:Nat->Bool,∀ j,W j = orK (decide (y.k ≠ 14)) v0 F (y.i.take j):=⟨_,fun _=>rfl⟩;have hW0:W 0 = v0:=by rw [hWd]; simp [orK]
   have hWe:=hWd y.i.length;rw [List.take_length,<- hkey] at hWe;rw [<- hWe] at hst;clear hkey key hWe;rcases hd with ⟨h1,h2⟩ | ⟨h1,h2⟩
   all_goals rcases hsub with ⟨s1,s2,s3⟩ | ⟨s1,s2,s3⟩ | ⟨s1,s2,s3⟩ | ⟨s1,s2,s3⟩
   all_goals
    simp [hi',hO2,qap,hn,hnN,hTn,hUn,hAg,hBg,u8V,qaa,Ft.w,hnc,hy,hpin,hpq,h1,h2,s1,s2,s3,qge,qcc,hFn];simp [s1,s2,s3] at hv0
    refine jht (X:=Nat) (fun j=>[(79,qaa j),(78,qaa y.i.length),(77,.sl (qda y.i) none),(28,qaa i),(27,qaa N),(26,.sl (qae L) (some N)),(14,.bool (!decide (y.k = 14))),(13,qaa n),(11,.ref 25 g25 0 N (some N)),(5,.ptr 5 g5 0 0),(4,.ptr 4 g4 0 0),(3,.sl Ul cb),(2,.sl Tl ca)])
     (fun j=>[(25,.row g25 1 (bT N (qcn F n (W j)))),(5,.row g5 5 [f.w]),(4,.row g4 4 [c.v])])
     (fun j=>j≤y.i.length) (fun j=>y.i.length - j) 0 (Nat.zero_le _) (by simp [qaa,s2,Nd.v]) (by simp [hW0,hv0,Ft.w,u8V,qaa,hpin,s1,s3]) ?_
    intro j hj;simp [qaa];refine jhr (fun hb3=>?_) (fun hb3=>?_)
    ·have hj':j < y.i.length:=jhy hb3;have hwj:=qbb j (by omega);obtain ⟨x,hx⟩:∃ x,y.i[j] = x:=⟨_,rfl⟩;have hxm:x ∈ y.i:=by rw [<- hx]; exact jh3 hj'
     obtain ⟨x0,x1⟩:=hyi x hxm;obtain ⟨m,rfl⟩:=Int.eq_ofNat_of_zero_le x0;have hsn:=qr8 (decide (y.k ≠ 14)) v0 F (y.i.take j) (m:Int);rw [<- hx,<- List.take_succ_eq_append_getElem hj',hx,<- hWd,<- hWd] at hsn;have hmN:m < N:=by omega
     have hmn:¬ y.k = 14->¬ m = n:=fun e4 e5=>by
      have hne:y.k ≠ 0:=fun e6=>by rw [hin0 e6] at hj'; simp at hj'
      refine hself _ hxm ?_ (by simpa using e5);rw [hcb,decide_eq_true_eq];have:=hyz.1; omega
     generalize W j = w at hsn ⊢;have hlen:j < (qda y.i).length:=by simpa [qda] using hj'
     have hig:(qda y.i)[j]'hlen = .int .i64 (m:Int):=by rw [qbi]; rw [hx]
     cases w with
     | true=>
      simp only [Bool.true_or] at hsn;simp [hj',qbi,hx,qcc,qge,qkm,hnN,s2,hwj];exact ⟨j + 1,hj',by simp,by simp [hsn,Ft.w,u8V,qaa,hpin,s1,s3],by omega⟩
     | false=>
      rw [Bool.false_or,Int.toNat_natCast] at hsn;by_cases h14:y.k = 14
      ·simp [h14] at hsn;simp [hj',qbi,hx,qcc,qge,qkm,hnN,h14,hwj];exact ⟨j + 1,hj',by simp [h14],by simp [hsn,h14,Ft.w,u8V,qaa,hpin,s1,s3],by omega⟩
      ·simp [h14] at hsn;have hFm:qcn F n false m = F m:=qa1 _ _ (hmn h14);simp [hj',qbi,hx,qcc,qge,qkm,hnN,hmN,h14,hFm,hwj];exact ⟨j + 1,hj',by simp [h14],by simp [hsn,h14,Ft.w,u8V,qaa,hpin,s1,s3],by omega⟩
    ·have hj':j = y.i.length:=by have:=jhz hb3; omega
     subst hj';simp [hw];exact ⟨i + 1,hi',by simp,by simp [hst,Ft.w,u8V,qaa,hpin,s1,s3],by omega⟩
 ·have hi':i = N:=by have:=jhz hb; omega
  subst hi';rw [jh2 (by omega)];simp [frz,V.mapR,jga,qa0 (qpq _ _),jh2]
end
section
open Go
set_option maxRecDepth 100000 in
set_option maxHeartbeats 4000000 in
theorem qrh (c:Ci) (hg:c.good) (f:Ft) (hf:f.ok c) (hm:f.m = 0) (p:Pt) (hp:p.fit c):qac Tryz.prog gl0 62 [c.v,f.w,p.v] (.bool (qgn c f p)):=by
 have hn1:=hg.n1;have hno:c.o.length≤16384:=(qkb hg.sh).2.2.2;have l1:=qb2 14 c.n;have h1:=q39 c hg f hf hm p hp;have h2:=quv c hg f hf p (some c.n.length) (some c.n.length);have h3:=qev c (by omega);have hiff:=@que c f p;have hin:=fun n hn=>@q08 c hg n hn;obtain ⟨A,hA⟩:∃ A,qgt c p = A:=⟨_,rfl⟩;obtain ⟨D,hD⟩:∃ D,qyf c f p = D:=⟨_,rfl⟩;obtain ⟨R,hR⟩:∃ R,qgn c f p = R:=⟨_,rfl⟩;obtain ⟨S,hS⟩:∃ S,ids 14 c.n 0 = S:=⟨_,rfl⟩;have hSl:S.length = cnt 14 c.n:=by rw [<- hS]; rfl
 rw [hA] at h1 h2 hiff;rw [hD] at h2 hiff;rw [hS] at h3 hiff hin;rw [<- hSl] at h3 l1;rw [hR] at hiff ⊢;have hAp:jf8 (tU c.n.length A) = true:=qb6 _ _;have hBp:jf8 (tU c.n.length (f.M c p)) = true:=qb6 _ _;generalize tU c.n.length (f.M c p) = TB at *;obtain ⟨N,hN⟩:∃ N,c.n.length = N:=⟨_,rfl⟩;rw [hN] at h1 h2 hAp l1;have hAg:∀ n h,(tU N A)[n]'h = u8V (A n):=fun n _=>qd3 _ _ _ _;have hAl:(tU N A).length = N:=by simp
 obtain ⟨TA,hTA⟩:∃ T,tU N A = T:=⟨_,rfl⟩;rw [hTA] at h1 h2 hAp hAg hAl;have hDp:=qpq N D;have hvf:f.w = .agg [u8V f.m,qaa f.n,.int .i64 f.pin,u8V f.v,qaa f.o]:=rfl;have hpin:f.pin = (f.q:Int) - 1:=rfl;obtain ⟨P1,hP1⟩:∃ P:Nat->Prop,∀ i,P i↔∀ j,j < i->∀ h:j < c.o.length,D (c.o[j]).toNat = false:=⟨_,fun _=>Iff.rfl⟩;obtain ⟨P2,hP2⟩:∃ P:Nat->Prop,∀ i,P i↔∀ j,j < i->∀ h:j < S.length,(f.n = S[j]/\f.q = 1->A (inD c S[j]) = f.v)/\(¬ (f.n = S[j]/\f.q = 1)->D (inD c S[j]) = false):=⟨_,fun _=>Iff.rfl⟩;refine jhu 2 ok62 rfl ?_;simp only [Ft.w,Pt.v,u8V,qaa] at h1 h2;simp [i62,x62,Ft.w,Pt.v,u8V,qaa];intro gf1 gf2 gf3;generalize gf1 3 = g3;generalize gf2 4 = g4;generalize gf3 5 = g5;refine jhq h1 (by simp) ?_;simp;refine jhq h2 (by simp [hAp,hBp]) ?_;simp
 refine jht (X:=Nat) (fun i=>[(30,qaa i),(29,qaa c.o.length),(28,.sl (qda c.o) none),(9,.sl (bT N D) (some N)),(7,.sl TA (some N)),(4,.ptr 4 g4 0 0),(3,.ptr 3 g3 0 0)])
  (fun _=>[(4,.row g4 5 [f.w]),(3,.row g3 4 [c.v])])
  (fun i=>i≤c.o.length/\P1 i) (fun i=>c.o.length - i) 0 ⟨Nat.zero_le _,(hP1 0).2 fun j h=>by omega⟩ (by simp [qaa]) (by simp [Ft.w,u8V,qaa]) ?_
 rintro i ⟨hi,hinv0⟩;have hinv:=(hP1 i).1 hinv0;simp [qaa];refine jhr (fun hb=>?_) (fun hb=>?_)
 ·have hi':=jhy hb;have hw:=qbb i (by omega);obtain ⟨y,hy⟩:∃ y,c.o[i] = y:=⟨_,rfl⟩;obtain ⟨y0,y1⟩:=hg.o (x:=y) (by rw [<- hy]; exact jh3 hi');obtain ⟨m,rfl⟩:=Int.eq_ofNat_of_zero_le y0;have hmN:m < N:=by omega
  cases hd:D m with
  | true=>
   have hRf:R = false:=by
    cases R with
    | false=>rfl
    | true=>have:=(hiff.1 rfl).1 _ (jh3 hi'); rw [hy,Int.toNat_natCast,hd] at this; cases this
   simp [hi',qbi,hy,hmN,qcc,hd,hRf]
  | false=>
   simp [hi',qbi,hy,hmN,qcc,hd,hw];refine ⟨i + 1,⟨hi',(hP1 _).2 fun j hj h=>?_⟩,by simp,by omega⟩;by_cases e:j = i
   ·subst e; rw [hy,Int.toNat_natCast,hd]
   ·exact hinv j (by omega) h
 ·have hi':i = c.o.length:=by have:=jhz hb; omega
  have hall:∀ k ∈ c.o,D k.toNat = false:=fun k hk=>by
   obtain ⟨j,hj,rfl⟩:=List.getElem_of_mem hk;exact hinv j (by omega) hj
  simp;refine jhq h3 (by simp) ?_;simp
  refine jht (X:=Nat) (fun i=>[(42,qaa i),(41,qaa S.length),(40,.sl (qae S) (some S.length)),(9,.sl (bT N D) (some N)),(7,.sl TA (some N)),(4,.ptr 4 g4 0 0),(3,.ptr 3 g3 0 0)])
   (fun _=>[(4,.row g4 5 [f.w]),(3,.row g3 4 [c.v])])
   (fun i=>i≤S.length/\P2 i) (fun i=>S.length - i) 0 ⟨Nat.zero_le _,(hP2 0).2 fun j h=>by omega⟩ (by simp [qaa]) (by simp) ?_
  rintro i ⟨hi2,hinv20⟩;have hinv2:=(hP2 i).1 hinv20;simp [qaa];refine jhr (fun hb2=>?_) (fun hb2=>?_)
  ·have hi3:=jhy hb2;have hw:=qbb i (by omega);obtain ⟨n,hn⟩:∃ n,S[i] = n:=⟨_,rfl⟩;obtain ⟨z1,z2,z3,z4⟩:=hin n (by rw [<- hn]; exact jh3 hi3);obtain ⟨d,hd⟩:∃ d,inD c n = d:=⟨_,rfl⟩;rw [hd] at z2 z3;obtain ⟨y,hy⟩:∃ y,c.n[n] = y:=⟨_,rfl⟩;rw [c.nd_get z1,hy] at z2;have hid:qda [(d:Int)] = [.int .i64 (d:Int)]:=rfl;have hnN:n < N:=by omega
   have hdN:d < N:=by omega
   have hSm:S[i] ∈ S:=jh3 hi3
   have next:((f.n = n/\f.q = 1->A d = f.v)/\(¬ (f.n = n/\f.q = 1)->D d = false))->P2 (i + 1):=fun hh=>(hP2 _).2 fun j hj h=>by
    by_cases e:j = i
    ·subst e; rw [hn,hd]; exact hh
    ·exact hinv2 j (by omega) h
   have hbad:¬ ((f.n = n/\f.q = 1->A d = f.v)/\(¬ (f.n = n/\f.q = 1)->D d = false))->R = false:=fun hh=>by
    cases R with
    | false=>rfl
    | true=>have:=(hiff.1 rfl).2 _ hSm; rw [hn,hd] at this; exact absurd this hh
   have hq1:((f.q:Int) - 1 = 0) = (f.q = 1):=propext ⟨fun h=>by omega,fun h=>by omega⟩;by_cases e1:f.n = n/\f.q = 1
   ·have e2:((f.n:Int) = n/\(f.q:Int) - 1 = 0):=⟨by omega,by omega⟩;by_cases e3:A d = f.v
    ·have hx:=next ⟨fun _=>e3,fun h=>absurd e1 h⟩;simp [hi3,qap,hn,z1,hy,z2,hdN,hAl,hAg,u8V,qaa,hpin,hid,qji,qbf,e1,e3,hw];exact ⟨i + 1,⟨hi3,hx⟩,by simp,by omega⟩
    ·have hx:=hbad fun h=>e3 (h.1 e1);simp [hi3,qap,hn,z1,hy,z2,hdN,hAl,hAg,u8V,qaa,hpin,hid,qji,qbf,e1,e3,hx]
   ·cases e3:D d with
    | true=>
     have hx:=hbad fun h=>by have:=h.2 e1; rw [e3] at this; cases this
     by_cases e4:f.n = n
     ·have e5:¬ f.q = 1:=fun h=>e1 ⟨e4,h⟩;simp [hi3,qap,hn,z1,hy,z2,hdN,hAl,hAg,u8V,qaa,hpin,hid,qji,qbf,hq1,e4,e5,e3,hx,qcc]
     ·simp [hi3,qap,hn,z1,hy,z2,hdN,hAl,hAg,u8V,qaa,hpin,hid,qji,qbf,hq1,e4,e3,hx,qcc]
    | false=>
     have hx:=next ⟨fun h=>absurd h e1,fun _=>e3⟩;by_cases e4:f.n = n
     ·have e5:¬ f.q = 1:=fun h=>e1 ⟨e4,h⟩;simp [hi3,qap,hn,z1,hy,z2,hdN,hAl,hAg,u8V,qaa,hpin,hid,qji,qbf,hq1,e4,e5,e3,qcc,hw];exact ⟨i + 1,⟨hi3,hx⟩,by simp,by omega⟩
     ·simp [hi3,qap,hn,z1,hy,z2,hdN,hAl,hAg,u8V,qaa,hpin,hid,qji,qbf,hq1,e4,e3,qcc,hw];exact ⟨i + 1,⟨hi3,hx⟩,by simp,by omega⟩
  ·have hi3:i = S.length:=by have:=jhz hb2; omega
   have hRt:R = true:=hiff.2 ⟨hall,fun n hn=>by
    obtain ⟨j,hj,rfl⟩:=List.getElem_of_mem hn;exact hinv2 j (by omega) hj⟩
   simp [hRt]
end
end Go.Proofs.YtpaopccohkldlaaGreatDoor
