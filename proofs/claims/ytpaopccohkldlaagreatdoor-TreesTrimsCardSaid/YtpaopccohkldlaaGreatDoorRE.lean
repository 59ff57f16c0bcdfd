/- Lemmas. Conditions: none. -/
import Derived.Test.YtpaopccohkldlaaGreatDoorRD
set_option linter.all false
namespace Go.Proofs.YtpaopccohkldlaaGreatDoor
open Go
set_option maxRecDepth 100000 in
set_option maxHeartbeats 4000000 in
theorem qlb (c:Ci) (hg:c.good) (f:Ft) (hf:f.ok c) (hm:f.m = 0) (p:Pt) (hp:p.fit c):qac Tryz.prog gl0 31 [c.v,f.w,p.v] (.bool (qgn c f p)):=by
 have hn1:=hg.n1;have hno:c.o.length≤16384:=(qkb hg.sh).2.2.2;have h1:=q30 c hg p hp;have h2:=q1i c hg f hf hm p hp;have h3:=qr9 c hg;have hO:=hg.ord;have hO1:=hO.r.lt;have hO2:=hO.r.len;have hnd:=qdf hO.p;have hiff:=@que c f p;have hin:=fun n hn=>@q08 c hg n hn;have hmm:qyf c f p = evl (qni c f (qgt c p) (f.M c p)) (fun _=>true) (qpl c) fun _=>false:=rfl;obtain ⟨A,hA⟩:∃ A,qgt c p = A:=⟨_,rfl⟩;obtain ⟨B,hB⟩:∃ B,f.M c p = B:=⟨_,rfl⟩;obtain ⟨D,hD⟩:∃ D,qyf c f p = D:=⟨_,rfl⟩;obtain ⟨R,hR⟩:∃ R,qgn c f p = R:=⟨_,rfl⟩;obtain ⟨S,hS⟩:∃ S,ids 14 c.n 0 = S:=⟨_,rfl⟩;obtain ⟨L,hL⟩:∃ L,qpl c = L:=⟨_,rfl⟩;rw [hL] at h3 hO1 hO2 hnd hmm;have e1:(tab c.n.length fun i=>u8V (qgt c p i)) = tU c.n.length A:=by rw [<- hA]; rfl
 rw [e1] at h1;rw [hA,hB,hD] at hmm;rw [hA] at h1 hiff;rw [hB] at h2;rw [hD] at hiff;rw [hS] at hiff hin;rw [hR] at hiff ⊢;obtain ⟨r1,hr1⟩:∃ r,qfl (qqk c A) (qql c A) = r:=⟨_,rfl⟩;obtain ⟨r2,hr2⟩:∃ r,qfl (qjz c B) (qj0 c f.sQ B) = r:=⟨_,rfl⟩;have hpin:f.pin = (f.q:Int) - 1:=rfl;obtain ⟨N,hN⟩:∃ N,c.n.length = N:=⟨_,rfl⟩;rw [hN] at h1 h2 h3 hO1 hO2;have hAg:∀ n h,(tU N A)[n]'h = u8V (A n):=fun n _=>qd3 _ _ _ _;have hAl:(tU N A).length = N:=by simp
 have hBg:∀ n h,(tU N B)[n]'h = u8V (B n):=fun n _=>qd3 _ _ _ _;have hBl:(tU N B).length = N:=by simp
 have hAp:jf8 (tU N A) = true:=qb6 _ _;have hBp:jf8 (tU N B) = true:=qb6 _ _;obtain ⟨TA,hTA⟩:∃ T,tU N A = T:=⟨_,rfl⟩;obtain ⟨TB,hTB⟩:∃ T,tU N B = T:=⟨_,rfl⟩;rw [hTA] at h1 hAg hAl hAp;rw [hTB] at h2 hBg hBl hBp;simp only [qfl,Pt.v,Ft.w,u8V,qaa] at h1 h2;refine jhu 2 ok31 rfl ?_;simp [i31,x31,Ft.w,u8V,qaa,Pt.v];intro gf1 gf2 gf3;generalize gf1 3 = g3;generalize gf2 4 = g4;generalize gf3 5 = g5;refine jhq h1 (by simp) ?_;simp;intro gf4;refine jhq h2 (by simp) ?_;simp;intro gf5;refine jhq h3 (by simp) ?_;simp [hAl,hBl,hN];intro gf6;refine ⟨by omega,?_⟩;generalize gf6 60 = g60;rw [q0u];clear h1 h2 h3
 refine jht (X:=Nat) (fun i=>[(16,qaa i),(15,.ref 60 g60 0 N (some N)),(13,.sl (qae L) (some N)),(11,.sl TB (some N)),(8,.sl TA (some N)),(4,.ptr 4 g4 0 0),(3,.ptr 3 g3 0 0)])
  (fun i=>[(60,.row g60 1 (bT N (evl (qni c f A B) (fun _=>true) (L.take i) fun _=>false))),(4,.row g4 5 [f.w]),(3,.row g3 4 [c.v])])
  (fun i=>i≤N) (fun i=>N - i) 0 (Nat.zero_le _) (by simp [qaa]) (by simp [evl,Ft.w,u8V,qaa]) ?_
 intro i hi;simp [qaa];refine jhr (fun hb=>?_) (fun hb=>?_)
 ·have hi':i < N:=by have:=jhy hb; omega
  have hw:=qbb i (by omega);have hiL:i < L.length:=by omega
  obtain ⟨n,hn⟩:∃ n,L[i] = n:=⟨_,rfl⟩;have hnN:n < N:=hO1 n (by rw [<- hn]; exact jh3 hiL);have hnc:n < c.n.length:=by omega
  obtain ⟨y,hy⟩:∃ y,c.n[n] = y:=⟨_,rfl⟩;have hyn:c.nd n = y:=by rw [c.nd_get hnc,hy]
  have hyi:=hg.val.i n hnc;have hyl:=hg.val.l n hnc;rw [hyn] at hyi hyl;have hyz:=qh3 ((qgw hg.sh).2.2.1 y (by rw [<- hy]; exact jh3 hnc));have hyk:=hg.k y (by rw [<- hy]; exact jh3 hnc);have hy0:=(hg.wf.k y (by rw [<- hy]; exact jh3 hnc)).1;obtain ⟨F,hF⟩:∃ F,evl (qni c f A B) (fun _=>true) (L.take i) (fun _=>false) = F:=⟨_,rfl⟩
  have hst:evl (qni c f A B) (fun _=>true) (L.take (i + 1)) (fun _=>false) = qcn F n (qni c f A B n F):=by
   rw [List.take_succ_eq_append_getElem hiL,hn,qg4,hF,if_pos rfl]
  rw [hF];have hAn:∀ h,TA[n]'h = u8V (A n):=fun h=>hAg n h;have hBn:∀ h,TB[n]'h = u8V (B n):=fun h=>hBg n h;obtain ⟨a,ha⟩:∃ a,A n = a:=⟨_,rfl⟩;obtain ⟨b,hb2⟩:∃ b,B n = b:=⟨_,rfl⟩;rw [ha] at hAn;rw [hb2] at hBn
  have hgt:(c.g n).any F = (qcv c n && y.i.any fun k=>F k.toNat):=by
   unfold Ci.g
   cases hc:qcv c n with
   | false=>rw [if_neg (show ¬ qen (c.nd n).k = true from by rw [show qen (c.nd n).k = qcv c n from rfl,hc]; simp)]; rfl
   | true=>rw [if_pos (show qen (c.nd n).k = true from hc),hyn,List.any_map]; rfl
  have hcb:qcv c n = decide (1≤y.k/\y.k≤13):=by unfold qcv qen; rw [hyn]
  have hin0:y.k = 0->y.i = []:=fun e=>by
   have hw2:=hyz.2.1;rw [e] at hw2;have e2:kHi 0 = 0:=rfl;simp only [qkn,e2,Bool.and_eq_true,decide_eq_true_eq] at hw2;exact List.length_eq_zero_iff.1 (by omega)
  have hq:=hf.q;have hpq:((f.q:Int) - 1 = -1) = (f.q = 0):=propext ⟨fun h=>by omega,fun h=>by omega⟩;have hnf:((n:Int) = (f.n:Int)) = (f.n = n):=propext ⟨fun h=>by omega,fun h=>by omega⟩;obtain ⟨d,hd⟩:∃ d:Bool,d = !(decide (a≤1) && decide (a = b)):=⟨_,rfl⟩
  -- what the loop over the inputs makes
  have key:∀ v0:Bool,v0 = (decide (f.n = n) && (decide (y.k ≠ 14) || decide (f.q = 0)))->qni c f A B n F = (d && orK (decide (y.k ≠ 14)) v0 F y.i):=by
   intro v0 hv0;unfold qni orK;rw [ha,hb2,hgt,hcb,hv0,hd,show decide (n = f.n) = decide (f.n = n) from decide_eq_decide.2 ⟨fun h=>h.symm,fun h=>h.symm⟩];have hk3:y.k = 0∨y.k = 14∨(1≤y.k/\y.k≤13):=by have:=hyz.1; omega
   rcases hk3 with e | e | e
   ·have:=hin0 e;have hq2:f.n = n->f.q = 0:=fun e2=>by rw [e2,hyn,this] at hq; simpa using hq
    by_cases e2:f.n = n
    ·simp [e,this,hq2 e2,e2]
    ·simp [e,this,e2]
   ·simp [e]
   ·have e3:¬ y.k = 14:=by omega
    simp [e,e3]
  have hfour:∀ w:Bool,(d && w) = false∨w = true:=fun w=>by cases w <;> simp
  have hab:(¬ 1 < a/\¬ 1 < b/\a = b/\d = false)∨(¬ 1 < a/\¬ 1 < b/\¬ a = b/\d = true)∨(¬ 1 < a/\1 < b/\True/\d = true)∨(1 < a/\True/\True/\d = true):=by
   by_cases q1:1 < a
   ·exact .inr (.inr (.inr ⟨q1,trivial,trivial,by rw [hd]; simp; omega⟩))
   ·by_cases q2:1 < b
    ·exact .inr (.inr (.inl ⟨q1,q2,trivial,by rw [hd]; simp; omega⟩))
    ·by_cases q3:a = b
     ·exact .inl ⟨q1,q2,q3,by rw [hd]; simp; omega⟩
     ·exact .inr (.inl ⟨q1,q2,q3,by rw [hd]; simp [q3]⟩)
  by_cases h14:y.k = 14
  ·have hk:=key _ rfl;rw [decide_eq_false (show ¬ y.k ≠ 14 from fun h=>h h14)] at hk;simp only [orK,Bool.false_or,Bool.false_and,Bool.or_false] at hk;by_cases s1:f.n = n
   ·by_cases s3:f.q = 0
    ·rw [decide_eq_true s1,decide_eq_true s3,Bool.true_and,Bool.and_true] at hk;rw [hk] at hst;rcases hab with ⟨t1,t2,t3,t4⟩ | ⟨t1,t2,t3,t4⟩ | ⟨t1,t2,t3,t4⟩ | ⟨t1,t2,t3,t4⟩
     all_goals
      rw [t4] at hst;simp [hi',hO2,qap,hn,hnc,hy,Ft.w,u8V,qaa,hpin,hpq,hnf,hAl,hBl,Nd.v,h14,s1,s3,hnN,hAn,hBn,t1,t2,t3,qge,qcc];exact ⟨i + 1,hi',hw,by simp [hst],by omega⟩
    ·rw [decide_eq_false s3,Bool.and_false,Bool.and_false] at hk;rw [hk] at hst;simp [hi',hO2,qap,hn,hnc,hy,Ft.w,u8V,qaa,hpin,hpq,hnf,hAl,hBl,Nd.v,h14,s1,s3,hnN,qge,qcc];exact ⟨i + 1,hi',hw,by simp [hst],by omega⟩
   ·rw [decide_eq_false s1,Bool.false_and,Bool.and_false] at hk;rw [hk] at hst;simp [hi',hO2,qap,hn,hnc,hy,Ft.w,u8V,qaa,hpin,hpq,hnf,hAl,hBl,Nd.v,h14,s1,hnN,qge,qcc];exact ⟨i + 1,hi',hw,by simp [hst],by omega⟩
  ·have hk:=key _ rfl;rw [decide_eq_true (show y.k ≠ 14 from h14),Bool.true_or,Bool.and_true] at hk;obtain ⟨v0,hv0⟩:∃ v0,decide (f.n = n) = v0:=⟨_,rfl⟩;rw [hv0] at hk;obtain ⟨W,hWd⟩:∃ W:Nat->Bool,∀ j,W j = orK true v0 F (y.i.take j):=⟨_,fun _=>rfl⟩;have hW0:W 0 = v0:=by rw [hWd]; simp [orK]
   have hWe:=hWd y.i.length;rw [List.take_length] at hWe;rw [<- hWe] at hk;rw [hk] at hst;clear hk key hWe
   have hsub:(f.n = n/\f.q = 0/\v0 = true)∨(f.n = n/\¬ f.q = 0/\v0 = true)∨(¬ f.n = n/\True/\v0 = false):=by
    by_cases s1:f.n = n
    ·by_cases s3:f.q = 0
     ·exact .inl ⟨s1,s3,by rw [<- hv0,decide_eq_true s1]⟩
     ·exact .inr (.inl ⟨s1,s3,by rw [<- hv0,decide_eq_true s1]⟩)
    ·exact .inr (.inr ⟨s1,trivial,by rw [<- hv0,decide_eq_false s1]⟩)
   clear hv0;rcases hsub with ⟨s1,s3,s4⟩ | ⟨s1,s3,s4⟩ | ⟨s1,s3,s4⟩
   all_goals
    subst s4;simp [hi',hO2,qap,hn,hnc,hy,Ft.w,u8V,qaa,hpin,hpq,hnf,hAl,hBl,Nd.v,h14,s1,s3,hnN,qge,qcc];intro gf7;generalize gf7 18 = g18
    refine jht (X:=Nat) (fun j=>[(20,qaa j),(19,.bool (W j)),(18,.ptr 18 g18 0 0),(17,qaa n),(16,qaa i),(15,.ref 60 g60 0 N (some N)),(13,.sl (qae L) (some N)),(11,.sl TB (some N)),(8,.sl TA (some N)),(4,.ptr 4 g4 0 0),(3,.ptr 3 g3 0 0)])
     (fun j=>[(60,.row g60 1 (bT N F)),(18,.row g18 4 [y.v]),(4,.row g4 5 [f.w]),(3,.row g3 4 [c.v])])
     (fun j=>j≤y.i.length) (fun j=>y.i.length - j) 0 (Nat.zero_le _) (by simp [qaa,hW0]) (by simp [Ft.w,u8V,qaa,hpin,s1,s3,Nd.v]) ?_
    intro j hj;simp [qaa,Nd.v];refine jhr (fun hb3=>?_) (fun hb3=>?_)
    ·have hj':j < y.i.length:=jhy hb3;have hwj:=qbb j (by omega);obtain ⟨x,hx⟩:∃ x,y.i[j] = x:=⟨_,rfl⟩;have hxm:x ∈ y.i:=by rw [<- hx]; exact jh3 hj'
     obtain ⟨x0,x1⟩:=hyi x hxm;obtain ⟨m,rfl⟩:=Int.eq_ofNat_of_zero_le x0
     have hsn:W (j + 1) = (W j || F m):=by
      rw [hWd,hWd,List.take_succ_eq_append_getElem hj',hx,qr8,Bool.true_and,Int.toNat_natCast]
     have hmN:m < N:=by omega
     cases hw0:W j with
     | true=>
      rw [hw0,Bool.true_or] at hsn;simp [hj',qbi,hx,hwj];exact ⟨j + 1,hj',by simp [hsn],by omega⟩
     | false=>
      rw [hw0,Bool.false_or] at hsn;simp [hj',qbi,hx,hwj,qcc,hmN];exact ⟨j + 1,hj',by simp [hsn],by omega⟩
    ·have hj':j = y.i.length:=by have:=jhz hb3; omega
     subst hj'
     cases hw0:W y.i.length with
     | false=>
      rw [hw0,Bool.and_false] at hst;simp [hnN,qge,qcc];exact ⟨i + 1,hi',hw,by simp [hst,Ft.w,u8V,qaa,hpin,s1,s3],by omega⟩
     | true=>
      rw [hw0,Bool.and_true] at hst;rcases hab with ⟨t1,t2,t3,t4⟩ | ⟨t1,t2,t3,t4⟩ | ⟨t1,t2,t3,t4⟩ | ⟨t1,t2,t3,t4⟩
      all_goals
       rw [t4] at hst;simp [hnN,qge,qcc,hAl,hBl,hAn,hBn,u8V,t1,t2,t3];exact ⟨i + 1,hi',hw,by simp [hst,Ft.w,u8V,qaa,hpin,s1,s3],by omega⟩
 ·have hi':i = N:=by have:=jhz hb; omega
  subst hi';rw [jh2 (by omega),<- hmm];simp;obtain ⟨P1,hP1⟩:∃ P:Nat->Prop,∀ i,P i↔∀ j,j < i->∀ h:j < c.o.length,D (c.o[j]).toNat = false:=⟨_,fun _=>Iff.rfl⟩;obtain ⟨P2,hP2⟩:∃ P:Nat->Prop,∀ i,P i↔∀ j,j < i->j ∈ S->(f.n = j/\f.q = 1->A (inD c j) = f.v)/\(¬ (f.n = j/\f.q = 1)->D (inD c j) = false):=⟨_,fun _=>Iff.rfl⟩
  refine jht (X:=Nat) (fun j=>[(21,qaa j),(15,.ref 60 g60 0 i (some i)),(8,.sl TA (some i)),(4,.ptr 4 g4 0 0),(3,.ptr 3 g3 0 0)])
   (fun _=>[(60,.row g60 1 (bT i D)),(4,.row g4 5 [f.w]),(3,.row g3 4 [c.v])])
   (fun j=>j≤c.o.length/\P1 j) (fun j=>c.o.length - j) 0 ⟨Nat.zero_le _,(hP1 0).2 fun j h=>by omega⟩ (by simp [qaa]) (by simp [Ft.w,u8V,qaa]) ?_
  rintro j ⟨hj,hinv0⟩;have hinv:=(hP1 j).1 hinv0;simp [qaa];refine jhr (fun hb4=>?_) (fun hb4=>?_)
  ·have hj':=jhy hb4;have hw:=qbb j (by omega);obtain ⟨y,hy⟩:∃ y,c.o[j] = y:=⟨_,rfl⟩;obtain ⟨y0,y1⟩:=hg.o (x:=y) (by rw [<- hy]; exact jh3 hj');obtain ⟨m,rfl⟩:=Int.eq_ofNat_of_zero_le y0;have hmN:m < i:=by omega
   cases hd:D m with
   | true=>
    have hRf:R = false:=by
     cases R with
     | false=>rfl
     | true=>have:=(hiff.1 rfl).1 _ (jh3 hj'); rw [hy,Int.toNat_natCast,hd] at this; cases this
    simp [hj',qbi,hy,hmN,qcc,hd,hRf]
   | false=>
    simp [hj',qbi,hy,hmN,qcc,hd,hw];refine ⟨j + 1,⟨hj',(hP1 _).2 fun k hk h=>?_⟩,by simp,by omega⟩;by_cases e:k = j
    ·subst e; rw [hy,Int.toNat_natCast,hd]
    ·exact hinv k (by omega) h
  ·have hj':j = c.o.length:=by have:=jhz hb4; omega
   have hall:∀ k ∈ c.o,D k.toNat = false:=fun k hk=>by
    obtain ⟨q,hq,rfl⟩:=List.getElem_of_mem hk;exact hinv q (by omega) hq
   simp
   refine jht (X:=Nat) (fun j=>[(22,qaa j),(15,.ref 60 g60 0 i (some i)),(8,.sl TA (some i)),(4,.ptr 4 g4 0 0),(3,.ptr 3 g3 0 0)])
    (fun _=>[(60,.row g60 1 (bT i D)),(4,.row g4 5 [f.w]),(3,.row g3 4 [c.v])])
    (fun j=>j≤i/\P2 j) (fun j=>i - j) 0 ⟨Nat.zero_le _,(hP2 0).2 fun j h=>by omega⟩ (by simp [qaa]) (by simp [Ft.w,u8V,qaa]) ?_
   rintro n ⟨hn,hinv20⟩;have hinv2:=(hP2 n).1 hinv20;simp [qaa,hN];refine jhr (fun hb5=>?_) (fun hb5=>?_)
   ·have hn':n < i:=jhy hb5;have hnc:n < c.n.length:=by omega
    have hw:=qbb n (by omega);obtain ⟨y,hy⟩:∃ y,c.n[n] = y:=⟨_,rfl⟩
    have hmem:n ∈ S↔y.k = 14:=by
     rw [<- hS,qp6];refine ⟨fun h=>?_,fun h=>⟨n,hnc,by omega,by rw [hy]; exact h⟩⟩;obtain ⟨q,hq,e,h⟩:=h;have e2:n = q:=by omega
     subst e2;rw [<- hy]; exact h
    have next:(n ∈ S->(f.n = n/\f.q = 1->A (inD c n) = f.v)/\(¬ (f.n = n/\f.q = 1)->D (inD c n) = false))->P2 (n + 1):=fun hh=>(hP2 _).2 fun k hk h=>by
     by_cases e:k = n
     ·subst e; exact hh h
     ·exact hinv2 k (by omega) h
    have hbad:n ∈ S->¬ ((f.n = n/\f.q = 1->A (inD c n) = f.v)/\(¬ (f.n = n/\f.q = 1)->D (inD c n) = false))->R = false:=fun hm hh=>by
     cases R with
     | false=>rfl
     | true=>exact absurd ((hiff.1 rfl).2 _ hm) hh
    by_cases h14:y.k = 14
    ·have hmS:=hmem.2 h14;obtain ⟨z1,z2,z3,z4⟩:=hin n hmS;obtain ⟨d,hd⟩:∃ d,inD c n = d:=⟨_,rfl⟩;rw [hd] at z2 z3 next hbad;rw [c.nd_get hnc,hy] at z2;have hid:qda [(d:Int)] = [.int .i64 (d:Int)]:=rfl;have hdN:d < i:=by omega
     have hq1:((f.q:Int) - 1 = 0) = (f.q = 1):=propext ⟨fun h=>by omega,fun h=>by omega⟩;have hAd:∀ h,TA[d]'h = u8V (A d):=fun h=>hAg d h;have hfv:((A d:Int) = (f.v:Int)) = (A d = f.v):=propext ⟨fun h=>by omega,fun h=>by omega⟩;by_cases e4:f.n = n
     ·by_cases e5:f.q = 1
      ·by_cases e3:A d = f.v
       ·have hx:=next fun _=>⟨fun _=>e3,fun h=>absurd ⟨e4,e5⟩ h⟩;simp [hn',hnc,hy,Nd.v,h14,z2,hid,Ft.w,u8V,qaa,hpin,hq1,e4,e5,hdN,hAl,hAd,hfv,e3,hw];exact ⟨n + 1,⟨hn',hx⟩,by simp,by omega⟩
       ·have hx:=hbad hmS fun h=>e3 (h.1 ⟨e4,e5⟩);simp [hn',hnc,hy,Nd.v,h14,z2,hid,Ft.w,u8V,qaa,hpin,hq1,e4,e5,hdN,hAl,hAd,hfv,e3,hx]
      ·cases e3:D d with
       | true=>
        have hx:=hbad hmS fun h=>by have:=h.2 fun h=>e5 h.2; rw [e3] at this; cases this
        simp [hn',hnc,hy,Nd.v,h14,z2,hid,Ft.w,u8V,qaa,hpin,hq1,e4,e5,hdN,qcc,e3,hx]
       | false=>
        have hx:=next fun _=>⟨fun h=>absurd h.2 e5,fun _=>e3⟩;simp [hn',hnc,hy,Nd.v,h14,z2,hid,Ft.w,u8V,qaa,hpin,hq1,e4,e5,hdN,qcc,e3,hw];exact ⟨n + 1,⟨hn',hx⟩,by simp,by omega⟩
     ·cases e3:D d with
      | true=>
       have hx:=hbad hmS fun h=>by have:=h.2 fun h=>e4 h.1; rw [e3] at this; cases this
       simp [hn',hnc,hy,Nd.v,h14,z2,hid,Ft.w,u8V,qaa,hpin,hq1,e4,hdN,qcc,e3,hx]
      | false=>
       have hx:=next fun _=>⟨fun h=>absurd h.1 e4,fun _=>e3⟩;simp [hn',hnc,hy,Nd.v,h14,z2,hid,Ft.w,u8V,qaa,hpin,hq1,e4,hdN,qcc,e3,hw];exact ⟨n + 1,⟨hn',hx⟩,by simp,by omega⟩
    ·have hx:=next fun h=>absurd (hmem.1 h) h14;simp [hn',hnc,hy,Nd.v,h14,hw];exact ⟨n + 1,⟨hn',hx⟩,by simp,by omega⟩
   ·have hn':n = i:=by have:=jhz hb5; omega
    have hRt:R = true:=hiff.2 ⟨hall,fun k hk=>by
     have:=(hin k hk).1;exact hinv2 k (by omega) hk⟩
    simp [hRt]
end Go.Proofs.YtpaopccohkldlaaGreatDoor
