/- Lemmas. Conditions: none. -/
import Derived.Test.YtlmniacemoohpaaGreatDoorU3
import Derived.Test.YtlmniacemoohpaaGreatDoorBase19
import Derived.Test.YtlmniacemoohpaaGreatDoorXG
import Derived.Test.YtlmniacemoohpaaGreatDoorT10
set_option linter.all false
namespace Go.Proofs.YtlmniacemoohpaaGreatDoor
section
open Go
def ja5 (k v:Nat):Bool:=(decide (k = 5) || decide (k = 6)) && decide (v = 0) || (decide (k = 7) || decide (k = 8)) && decide (v = 1)
def stE (c:Ci) (A B:Nat->Nat) (n:Nat) (f:Nat->Bool):Bool:=
 bif qdf c n then ((c.g n).all f || (c.g n).any fun m=>f m && ja5 (c.nd n).k.toNat (B m)) && decide (B n≤1) else decide (A n≤1) && decide (A n = B n)
noncomputable def qkt (c:Ci) (A B:Nat->Nat):Nat->Bool:=evl (stE c A B) (fun _=>true) (quv c) (fun _=>false)
theorem ql5 {α:Type} {p q:α->Bool}:∀ {l:List α},(∀ x ∈ l,p x = q x)->l.all p = l.all q
 | [],_=>rfl
 | a :: l,h=>by rw [List.all_cons,List.all_cons,h a List.mem_cons_self,ql5 fun x hx=>h x (List.mem_cons_of_mem _ hx)]
theorem ql6 {α:Type} {p q:α->Bool}:∀ {l:List α},(∀ x ∈ l,p x = q x)->l.any p = l.any q
 | [],_=>rfl
 | a :: l,h=>by rw [List.any_cons,List.any_cons,h a List.mem_cons_self,ql6 fun x hx=>h x (List.mem_cons_of_mem _ hx)]
theorem qqm {c:Ci} {A B:Nat->Nat} {n:Nat} {f f':Nat->Bool} (h:∀ x ∈ c.g n,f x = f' x):stE c A B n f = stE c A B n f':=by
 unfold stE;rw [ql5 h,ql6 (q:=fun m=>f' m && ja5 (c.nd n).k.toNat (B m)) fun x hx=>by rw [h x hx]]
theorem q3d {c:Ci} (hg:c.good) (ho:Ord c (quv c)) (A B:Nat->Nat) {n:Nat} (hn:n < c.n.length):qkt c A B n = stE c A B n (qkt c A B):=by
 have h:=qwl (g:=c.g) (ev:=stE c A B) (fun n f f' h _=>qqm h) (quv c) [] (fun _=>false) (ho.topo hg) (qda ho.p) (by simp) n (ho.all hn);unfold qkt;rw [h];refine qqm fun x hx=>qa7 _ _ fun e=>?_;subst e;have hlv:qjz c.n.length c.g (qos c):=hg.ac.lv;have:=hlv x hn;have:=qpq (f:=qos c) hx;omega
theorem qtm {c:Ci} (hg:c.good) (ho:Ord c (quv c)) {p:Pt} {n:Nat} (hn:n < c.n.length) (hc:qdf c n = false):qel c p n = ini c p n:=by
 have h:=q0f (p:=p) hg ho n hn;unfold idW at h;rw [if_neg (by rw [hc]; exact Bool.false_ne_true)] at h;exact h
end
section
open Go Go.Shelf
def renD:Ren:=⟨fun n=>if n = 23 then 146 else n,fun n=>if n = 22 then 37 else n,fun n=>n⟩
theorem q7q:Lays2.n23 Tryz.prog renD where
 mixed:=by kernel_rfl
 f23:=by kernel_rfl
 t0:=by kernel_rfl
 a0:=fun w=>by kernel_rfl
 z0:=fun w=>by kernel_rfl
 v0:=fun w=>by kernel_rfl
 t3:=by kernel_rfl
 a3:=fun w=>by kernel_rfl
 z3:=fun w=>by kernel_rfl
 v3:=fun w=>by kernel_rfl
 t4:=by kernel_rfl
 a4:=fun w=>by kernel_rfl
 z4:=fun w=>by kernel_rfl
 v4:=fun w=>by kernel_rfl
 t22:=by kernel_rfl
 a22:=fun w=>by kernel_rfl
 z22:=fun w=>by kernel_rfl
 v22:=fun w=>by kernel_rfl
 i3:=by kernel_rfl
end
section
open Go
theorem qii (y:Nd):qac Tryz.prog gl0 69 [y.v] (.bool (decide (y.k = 0) || decide (y.k = 14))):=by
 refine jiu 2 ok69 rfl ?_;simp [i69,x69,Nd.v];intro gf1;by_cases h:y.k = 0
 ·simp [h]
 ·simp [h]
def qop (k:Nat):Nat:=if k = 5∨k = 6 then 0 else if k = 7∨k = 8 then 1 else 2
def qv7 (k:Nat):Bool:=decide (k = 5∨k = 6∨k = 7∨k = 8)
theorem q24 (k v:Nat):ja5 k v = (qv7 k && decide (v = qop k)):=by
 unfold ja5 qv7 qop;by_cases h1:k = 5∨k = 6
 ·rcases h1 with rfl | rfl <;> simp
 ·by_cases h2:k = 7∨k = 8
  ·rcases h2 with rfl | rfl <;> simp
  ·have e1:¬ k = 5:=fun h=>h1 (.inl h);have e2:¬ k = 6:=fun h=>h1 (.inr h);have e3:¬ k = 7:=fun h=>h2 (.inl h);have e4:¬ k = 8:=fun h=>h2 (.inr h);simp [e1,e2,e3,e4]
theorem qo6 (k:Nat) (hk:k < 256):qac Tryz.prog gl0 114 [u8V k] (.tup [u8V (qop k),.bool (qv7 k)]):=by
 refine jiu 2 q8i rfl ?_;simp only [u8V];by_cases h1:k = 5
 ·subst h1; simp [q3i,q50,qop,qv7]
 ·by_cases h2:k = 6
  ·subst h2; simp [q3i,q50,qop,qv7]
  ·by_cases h3:k = 7
   ·subst h3; simp [q3i,q50,qop,qv7]
   ·by_cases h4:k = 8
    ·subst h4; simp [q3i,q50,qop,qv7]
    ·have e1:¬ (k:Int) = 5:=by omega
     have e2:¬ (k:Int) = 6:=by omega
     have e3:¬ (k:Int) = 7:=by omega
     have e4:¬ (k:Int) = 8:=by omega
     simp [q3i,q50,qop,qv7,e1,e2,e3,e4,h1,h2,h3,h4]
set_option maxRecDepth 100000 in
set_option maxHeartbeats 4000000 in
theorem q0y (c:Ci) (hg:c.good) (A B:Nat->Nat) (ca cb:Option Nat):qac Tryz.prog gl0 79 [c.v,.sl (tab c.n.length fun j=>u8V (A j)) ca,.sl (tab c.n.length fun j=>u8V (B j)) cb] (.sl (qbk c.n.length (qkt c A B)) (some c.n.length)):=by
 have hn1:=hg.n1;have hval:=hg.val;refine jiu 2 ok79 rfl ?_;simp [i79,x79];intro gf1 gf2;generalize gf1 3 = g3;generalize gf2 22 = g22;refine ⟨by omega,CallO.own 1000 (qrx c hg.wf) (by simp) (by simp) ?_⟩;rintro v h (⟨h1,-⟩ | ⟨-,g,L,rfl,rfl,hR,hpw⟩) gf4
 ·exact absurd hg.chk h1
 have hord:Ord c L:=⟨hR,hpw (by omega)⟩;have hLl:L.length = c.n.length:=hR.len;simp [upH,upS,Blk.rn,qap (qav L)];generalize gf4 1000 + g = g9;obtain ⟨N,hN⟩:∃ N,c.n.length = N:=⟨_,rfl⟩;rw [hN] at hLl hn1 ⊢;have hLN:∀ x ∈ L,x < N:=fun x hx=>by rw [<- hN]; exact hR.lt x hx
 refine jit (X:=Nat) (fun i=>[(30,qab i),(29,qab N),(28,.ref 1000 g9 0 N (some N)),(7,.ref 22 g22 0 N (some N)),(3,.ptr 3 g3 0 0),(1,.sl (tab N fun j=>u8V (A j)) ca),(2,.sl (tab N fun j=>u8V (B j)) cb)])
  (fun i=>[(3,.row g3 4 [c.v]),(1000,.row g9 1 (qah L)),(22,.row g22 1 (qbk N (evl (stE c A B) (fun _=>true) (L.take i) (fun _=>false))))])
  (fun i=>i≤N) (fun i=>N - i) 0 (by simp) (by simp [qab]) (by simp [qbk,evl,qeh]) ?_
 rintro i q1;obtain ⟨F,hF⟩:∃ F,evl (stE c A B) (fun _=>true) (L.take i) (fun _=>false) = F:=⟨_,rfl⟩;rw [hF];simp [qab];refine jis (fun hb=>?_) (fun hb=>?_)
 ·have hi:i < N:=jiy hb;have hw:=qbg i (by omega);have hiL:i < L.length:=by omega
  obtain ⟨n,hn⟩:∃ n,L[i] = n:=⟨_,rfl⟩;have hnN:n < N:=hLN n (by rw [<- hn]; exact ji3 hiL);have hnc:n < c.n.length:=by omega
  obtain ⟨y,hy⟩:∃ y,c.n[n] = y:=⟨_,rfl⟩
  have hst:evl (stE c A B) (fun _=>true) (L.take (i + 1)) (fun _=>false) = qfi F n (stE c A B n F):=by
   rw [List.take_succ_eq_append_getElem hiL,hn,qnk,hF]; rfl
  have hcb:qdf c n = decide (1≤y.k/\y.k≤13):=by unfold qdf qjs; rw [c.nd_get hnc,hy]
  obtain ⟨k0,k14,-⟩:=qxq hg hnc;rw [c.nd_get hnc,hy] at k0 k14;have hsc:=qii y;simp [hi,hLl,qar,hn,hnc,hy];intro gf6;refine jir hsc (by simp) ?_;obtain ⟨b1,hb1⟩:∃ b,F n = b:=⟨_,rfl⟩;by_cases hs:y.k = 0∨y.k = 14
  ·have hq:qdf c n = false:=by rw [hcb]; simp; omega
   have hsE:stE c A B n F = (decide (A n≤1) && decide (A n = B n)):=by unfold stE; rw [hq]; rfl
   have hkn:=qis (A n);rw [hsE] at hst;have hst2:(decide (y.k = 0) || decide (y.k = 14)) = true:=by simpa using hs
   obtain ⟨xa,hxa⟩:∃ v,A n = v:=⟨_,rfl⟩;obtain ⟨xb,hxb⟩:∃ v,B n = v:=⟨_,rfl⟩;rw [hxa,hxb] at hst;rw [hxa] at hkn;simp only [u8V] at hkn;simp [hst2,hnN,qa1,hxa,hxb,u8V];intro gm
   first | refine ⟨_,_,_,.pure hkn (by simp),?_⟩ | refine ⟨_,⟨_,_,.pure hkn (by simp)⟩,?_⟩ | refine ⟨_,_,⟨_,.pure hkn (by simp)⟩,?_⟩
   simp;by_cases h1:xa≤1
   ·rw [show (decide (xa≤1) && decide (xa = xb)) = decide (xa = xb) by simp [h1]] at hst;simp [h1,hnN,qa1,hxa,hxb,u8V,qbv,qcv];exact ⟨i + 1,hi,by simp [hw],by rw [hst],by omega⟩
   ·rw [show (decide (xa≤1) && decide (xa = xb)) = false by simp [h1]] at hst;simp [h1,hnN,qbv,qcv];exact ⟨i + 1,hi,by simp [hw],by rw [hst],by omega⟩
  ·have hq:qdf c n = true:=by rw [hcb]; simp; omega
   obtain ⟨l,hl⟩:∃ l,c.g n = l:=⟨_,rfl⟩;have hyi:=hval.i n hnc;have hyl:=hval.l n hnc;rw [c.nd_get hnc,hy] at hyi hyl
   have hyl2:y.i = l.map fun (x:Nat)=>(x:Int):=by
    rw [<- hl,qmh hq,c.nd_get hnc,hy,List.map_map];have hid:∀ x ∈ y.i,((fun (x:Nat)=>(x:Int)) ∘ Int.toNat) x = id x:=fun x hx=>Int.toNat_of_nonneg (hyi x hx).1;rw [List.map_congr_left hid,List.map_id]
   have hlN:∀ x ∈ l,x < N:=fun x hx=>by
    have:=(hyi (x:Int) (by rw [hyl2]; exact List.mem_map_of_mem hx)).2;omega
   have hll:l.length≤16:=by rw [hyl2] at hyl; simpa using hyl
   have hin:qc1 y.i = qah l:=by rw [hyl2,<- qd3]
   obtain ⟨kk,hkk⟩:∃ k:Nat,y.k = (k:Int):=⟨y.k.toNat,(Int.toNat_of_nonneg k0).symm⟩;have hcc:=qo6 kk (by omega)
   have hsE:stE c A B n F = ((l.all F || l.any fun m=>F m && (qv7 kk && decide (B m = qop kk))) && decide (B n≤1)):=by
    unfold stE; rw [hq,hl,c.nd_get hnc,hy,hkk]; simp only [q24,Int.toNat_natCast,cond_true]
   have hkn:=qis (B n);rw [hsE] at hst;have hst2:(decide (y.k = 0) || decide (y.k = 14)) = false:=by simpa using hs
   obtain ⟨xb,hxb⟩:∃ v,B n = v:=⟨_,rfl⟩;rw [hxb] at hst hkn;generalize qop kk = cv at hcc hst;generalize qv7 kk = ch at hcc hst;simp only [u8V] at hkn hcc;have hyv:y.v = .agg [.int .u8 (kk:Int),.sl (qah l) none,.int .i64 y.a,.int .i64 y.b]:=by unfold Nd.v; rw [hin,hkk]
   simp [hst2,hyv];refine jir hcc (by simp) ?_;simp;obtain ⟨VA,hVA⟩:∃ f:Nat->Bool,∀ j,f j = (l.take j).all F:=⟨_,fun _=>rfl⟩;obtain ⟨VO,hVO⟩:∃ f:Nat->Bool,∀ j,f j = (l.take j).any fun m=>F m && (ch && decide (B m = cv)):=⟨_,fun _=>rfl⟩;have hA0:VA 0 = true:=by rw [hVA]; simp
   have hO0:VO 0 = false:=by rw [hVO]; simp
   refine jit (X:=Nat) (fun j=>[(69,qab j),(68,qab l.length),(67,.sl (qah l) none),(13,.bool (VA j)),(14,.bool (VO j)),(15,u8V cv),(16,.bool ch),(12,.ptr 12 (gf6 12) 0 0),(11,qab n),(30,qab i),(29,qab N),(28,.ref 1000 g9 0 N (some N)),(7,.ref 22 g22 0 N (some N)),(3,.ptr 3 g3 0 0),(1,.sl (tab N fun j=>u8V (A j)) ca),(2,.sl (tab N fun j=>u8V (B j)) cb)])
    (fun _=>[(3,.row g3 4 [c.v]),(1000,.row g9 1 (qah L)),(22,.row g22 1 (qbk N F)),(12,.row (gf6 12) 4 [y.v])])
    (fun j=>j≤l.length) (fun j=>l.length - j) 0 (by simp) (by simp [qab,u8V,hA0,hO0]) (by simp [hyv]) ?_
   rintro j q2;simp [qab];refine jis (fun hb2=>?_) (fun hb2=>?_)
   ·have hj:j < l.length:=jiy hb2;have hw2:=qbg j (by omega);obtain ⟨m,hm⟩:∃ m,l[j] = m:=⟨_,rfl⟩;have hmN:=hlN m (by rw [<- hm]; exact ji3 hj);have hall:VA (j + 1) = (VA j && F m):=by rw [hVA,hVA,List.take_succ_eq_append_getElem hj,hm]; simp
    have hany:VO (j + 1) = (VO j || (F m && (ch && decide (B m = cv)))):=by rw [hVO,hVO,List.take_succ_eq_append_getElem hj,hm]; simp
    generalize VA j = va at hall ⊢;generalize VO j = vo at hany ⊢;obtain ⟨fm,hfm⟩:∃ b,F m = b:=⟨_,rfl⟩;obtain ⟨bm,hbm⟩:∃ b,B m = b:=⟨_,rfl⟩;rw [hfm] at hall hany;rw [hbm] at hany;simp [hj,qar,hm];cases va <;> cases vo <;> cases ch <;> cases fm <;> simp [qbv,hmN,hfm,qa1,hbm,u8V] <;> (refine ⟨j + 1,hj,?_⟩; simp [hw2,hall,hany]; try omega)
   ·have hj:j = l.length:=by have:=jiz hb2; omega
    subst hj;have hall:=hVA l.length;have hany:=hVO l.length;rw [List.take_length] at hall hany;rw [<- hall,<- hany] at hst;generalize VA l.length = va at hst ⊢;generalize VO l.length = vo at hst ⊢;simp;cases va <;> cases vo
    case' false.false=>
     simp [hnN,qbv,qcv];exact ⟨i + 1,hi,by simp [hw],by rw [hst]; rfl,by omega⟩
    all_goals
     simp [hnN,qa1,hxb,u8V];refine jir hkn (by simp) ?_;simp [hnN,qbv,qcv];exact ⟨i + 1,hi,by simp [hw],by rw [hst]; rfl,by omega⟩
 ·have hi:i = N:=by have:=jiz hb; omega
  subst hi;rw [ji2 (by omega),<- hord.eq] at hF;have hF2:qkt c A B = F:=hF;rw [hF2];simp;simp [qa4 (qc6 _ _)];exact ji2 (by simp)
theorem q77 (c:Ci) (hg:c.good) (p q:Pt) (hp:p.fit c) (hq:q.fit c):qac Tryz.prog gl0 78 [c.v,prV p q] (.tup [.sl (tab c.n.length fun i=>u8V (qel c p i)) (some c.n.length),.sl (tab c.n.length fun i=>u8V (qel c q i)) (some c.n.length),.int .i64 0]):=by
 have r1:=jab c hg p hp;have r2:=jab c hg q hq;generalize q1u c (qel c p) = O1 at r1;generalize q1v c (qel c p) = S1 at r1;generalize q1u c (qel c q) = O2 at r2;generalize q1v c (qel c q) = S2 at r2;generalize qel c p = A at r1 ⊢;generalize qel c q = B at r2 ⊢;have pA:=qb5 c.n.length A;have pB:=qb5 c.n.length B;simp only [qx7,Pt.v,prV,u8V] at r1 r2 pA pB ⊢;refine jiu 2 ok78 rfl ?_;simp [i78,x78];intro gf1 gf2;refine jir r1 (by simp) ?_;simp;refine jir r2 (by simp) ?_;simp [qak,pA,pB]
end
end Go.Proofs.YtlmniacemoohpaaGreatDoor
