/- Lemmas. Conditions: none. -/
import Derived.Test.YtlmniacemoohpaaGreatDoorP3
set_option linter.all false
namespace Go.Proofs.YtlmniacemoohpaaGreatDoor
section
open Go
def qq9 (c:Ci) (s:Nat):Nat:=((c.nd s).i.getD 0 0).toNat
def qjw (c:Ci) (m:Nat):Bool:=(c.o.any fun x=>decide (x = (m:Int))) || (ids 14 c.n 0).any fun s=>decide (qq9 c s = m)
set_option maxRecDepth 100000 in
theorem qms (c:Ci) (hg:c.good):qac Tryz.prog gl0 68 [c.v] (.sl (qbk c.n.length (qjw c)) (some c.n.length)):=by
 have hn1:=hg.n1;have hol:c.o.length≤16384:=(qqd hg.sh).2.2.2;have hst:=qik c (by omega);refine jiu 2 ok68 rfl ?_;simp [i68,x68];intro gf1 gf2;generalize gf1 1 = g1;generalize gf2 11 = g11;refine ⟨by omega,?_⟩;obtain ⟨O,hO⟩:∃ f:Nat->Nat->Bool,∀ i m,f i m = (c.o.take i).any fun x=>decide (x = (m:Int)):=⟨_,fun _ _=>rfl⟩;have hO0:O 0 = fun _=>false:=by funext m; rw [hO]; simp
 refine jit (X:=Nat) (fun i=>[(15,qab i),(14,qab c.o.length),(13,.sl (qc1 c.o) none),(3,.ref 11 g11 0 c.n.length (some c.n.length)),(1,.ptr 1 g1 0 0)])
  (fun i=>[(1,.row g1 4 [c.v]),(11,.row g11 1 (qbk c.n.length (O i)))])
  (fun i=>i≤c.o.length) (fun i=>c.o.length - i) 0 (by simp) (by simp [qab]) (by simp [qbk,hO0,qeh]) ?_
 rintro i hi;simp [qab];refine jis (fun hb=>?_) (fun hb=>?_)
 ·have hi':i < c.o.length:=jiy hb;have hw:=qbg i (by omega);have hx:=hg.o (ji3 hi');obtain ⟨x,hxe⟩:∃ x:Nat,c.o[i] = (x:Int):=⟨c.o[i].toNat,(Int.toNat_of_nonneg hx.1).symm⟩;rw [hxe] at hx;have hxN:x < c.n.length:=by omega
  have hOn:O (i + 1) = qfi (O i) x true:=by
   funext m;rw [hO,List.take_succ_eq_append_getElem hi',List.any_append,<- hO,hxe];by_cases h:m = x
   ·subst h; simp
   ·rw [qa7 _ _ h];have:¬ x = m:=fun e=>h e.symm;simp [this]
  simp [hi',qb9,hxe,hxN,qbv,qcv];exact ⟨i + 1,hi',by simp [hw],by rw [hOn],by omega⟩
 ·have hi':i = c.o.length:=by have:=jiz hb; omega
  subst hi';have hOa:O c.o.length = fun (m:Nat)=>c.o.any fun x=>decide (x = (m:Int)):=by funext m; rw [hO,List.take_length]
  simp;refine jir hst (by simp) ?_;obtain ⟨S,hS⟩:∃ S,ids 14 c.n 0 = S:=⟨_,rfl⟩;have hcS:cnt 14 c.n = S.length:=by rw [<- hS,qhm]
  have hSl:S.length≤c.n.length:=by rw [<- hcS]; exact qki _ _
  rw [hS,hcS];simp;obtain ⟨D,hD⟩:∃ f:Nat->Nat->Bool,∀ i m,f i m = (O c.o.length m || (S.take i).any fun s=>decide (qq9 c s = m)):=⟨_,fun _ _=>rfl⟩;have hD0:D 0 = O c.o.length:=by funext m; rw [hD]; simp
  refine jit (X:=Nat) (fun i=>[(26,qab i),(25,qab S.length),(24,.sl (qah S) (some S.length)),(3,.ref 11 g11 0 c.n.length (some c.n.length)),(1,.ptr 1 g1 0 0)])
   (fun i=>[(1,.row g1 4 [c.v]),(11,.row g11 1 (qbk c.n.length (D i)))])
   (fun i=>i≤S.length) (fun i=>S.length - i) 0 (by simp) (by simp [qab]) (by simp [hD0]) ?_
  rintro j hj;simp [qab];refine jis (fun hb=>?_) (fun hb=>?_)
  ·have hj':j < S.length:=jiy hb;have hw:=qbg j (by omega);obtain ⟨s,hs⟩:∃ s,S[j] = s:=⟨_,rfl⟩;have hsm:s ∈ ids 14 c.n 0:=by rw [hS,<- hs]; exact ji3 hj'
   obtain ⟨hsn,x,hsx,hx0,hxN,hk⟩:=qp3 hg hsm;obtain ⟨z,hz⟩:∃ z:Nat,x = (z:Int):=⟨x.toNat,(Int.toNat_of_nonneg hx0).symm⟩;subst hz;have hzN:z < c.n.length:=by omega
   have hdi:qq9 c s = z:=by unfold qq9; rw [c.nd_get hsn,hsx]; simp
   have hDn:D (j + 1) = qfi (D j) z true:=by
    funext m;rw [hD,List.take_succ_eq_append_getElem hj',List.any_append,hs,<- Bool.or_assoc,<- hD];simp only [List.any_cons,List.any_nil,Bool.or_false,hdi];by_cases h:m = z
    ·subst h; simp
    ·rw [qa7 _ _ h];have:¬ z = m:=fun e=>h e.symm;simp [this]
   obtain ⟨y,hy⟩:∃ y,c.n[s] = y:=⟨_,rfl⟩;rw [hy] at hsx;simp [hj',qar,hs,hsn,hy,hsx,qc1,hzN,qbv,qcv];exact ⟨j + 1,hj',by simp [hw],by rw [hDn],by omega⟩
  ·have hj':j = S.length:=by have:=jiz hb; omega
   subst hj';have hDa:D S.length = qjw c:=by funext m; rw [hD,List.take_length,hOa]; unfold qjw; rw [hS]
   simp [qa4 (qc6 _ _),hDa];exact ji2 (by simp)
end
section
open Go
abbrev Ln:=Int × Int
def lnI (a:Ln):V:=.agg [.int .i64 a.1,.int .i64 a.2]
theorem qbs (l:List Ln):jgy (l.map lnI) = true:=pureL_map (fun _=>rfl) l
def qot (y:Nd):Bool:=decide (y.k = 0) || decide (y.k = 14)
def lnk (c:Ci) (P:List Ln) (i:Nat):Bool:=
 decide (0≤(P.getD i (0,0)).1) && decide ((P.getD i (0,0)).1 < c.n.length) &&
 if i = 0 then decide ((P.getD i (0,0)).2 = -1) && qot (c.nd (P.getD i (0,0)).1.toNat)
 else !decide ((c.nd (P.getD i (0,0)).1.toNat).k = 14) && decide (0≤(P.getD i (0,0)).2) && decide ((P.getD i (0,0)).2 < (c.nd (P.getD i (0,0)).1.toNat).i.length) &&
  decide ((c.nd (P.getD i (0,0)).1.toNat).i.getD (P.getD i (0,0)).2.toNat 0 = (P.getD (i - 1) (0,0)).1)
def qri (c:Ci) (P:List Ln):Bool:=((List.range P.length).all (lnk c P)) && decide (0 < P.length) && qjw c (P.getD (P.length - 1) (0,0)).1.toNat
theorem q3m {c:Ci} {P:List Ln} {i:Nat} (hi:i < P.length) (h:lnk c P i = false):qri c P = false:=by
 have:(List.range P.length).all (lnk c P) = false:=by
  rw [List.all_eq_false];exact ⟨i,List.mem_range.2 hi,by rw [h]; simp⟩
 unfold qri; rw [this]; rfl
set_option maxRecDepth 100000 in
set_option maxHeartbeats 4000000 in
theorem qz2 (c:Ci) (hg:c.good) (P:List Ln) (cap:Option Nat) (hP:P.length < 1000000):qac Tryz.prog gl0 77 [c.v,.sl (P.map lnI) cap] (.bool (qri c P)):=by
 have hn1:=hg.n1;have hval:=hg.val;have hob:=qms c hg;refine jiu 2 ok77 rfl ?_;simp [i77,x77];intro gf1;generalize gf1 2 = g2
 refine jit (X:=Nat) (fun i=>[(10,qab i),(9,qab P.length),(8,.sl (P.map lnI) cap),(1,.sl (P.map lnI) cap),(2,.ptr 2 g2 0 0)])
  (fun _=>[(2,.row g2 4 [c.v])])
  (fun i=>i≤P.length/\∀ j,j < i->lnk c P j = true) (fun i=>P.length - i) 0 ⟨by simp,by simp⟩ (by simp [qab]) (by simp) ?_
 rintro i ⟨hi,hall⟩;simp [qab];refine jis (fun hb=>?_) (fun hb=>?_)
 ·have hi':i < P.length:=jiy hb;have hw:=qbg i (by omega);have hno:=fun h=>q3m (c:=c) hi' h;have hgd:P.getD i (0,0) = P[i]:=by rw [ji0,ji4 hi']; rfl
  have hk:lnk c P i = lnk c P i:=rfl
  conv at hk=>rhs; unfold lnk; rw [hgd]
  obtain ⟨⟨a,b⟩,hab⟩:∃ p,P[i] = p:=⟨_,rfl⟩;rw [hab] at hk;dsimp only at hk;simp [hi',hab,lnI];intro gf2;by_cases ha0:a < 0
  ·have h1:¬ 0≤a:=by omega
   rw [hno (by rw [hk]; simp [h1])];simp [ha0]
  by_cases haN:(c.n.length:Int)≤a
  ·have h1:¬ a < c.n.length:=by omega
   rw [hno (by rw [hk]; simp [h1])];simp [ha0,haN]
  obtain ⟨n,rfl⟩:∃ n:Nat,a = (n:Int):=⟨a.toNat,(Int.toNat_of_nonneg (by omega)).symm⟩;have hn:n < c.n.length:=by omega
  have haN':¬ c.n.length≤n:=by omega
  obtain ⟨y,hy⟩:∃ y,c.n[n] = y:=⟨_,rfl⟩;have hsc:=qii y;have hyl:=hval.l n hn;rw [c.nd_get hn,hy] at hyl;rw [Int.toNat_natCast,c.nd_get hn,hy] at hk;simp [haN',hn,hy];intro gf3
  cases i with
  | zero=>
   rw [if_pos rfl] at hk;simp;by_cases hb1:b = -1
   ·simp [hb1];refine jir hsc (by simp) ?_
    cases hsb:(decide (y.k = 0) || decide (y.k = 14)) with
    | true=>
     simp
     exact ⟨1,⟨by omega,fun j hj=>by
      obtain rfl:j = 0:=by omega
      rw [hk]; unfold qot; rw [hsb]; simp [hn,hb1]⟩,by first | exact hw | simpa using hw,by omega⟩
    | false=>
     rw [hno (by rw [hk]; unfold qot; rw [hsb]; simp)];simp
   ·rw [hno (by rw [hk]; simp [hb1])];simp [hb1]
  | succ i=>
   rw [if_neg (by omega)] at hk;have hi0:¬ (i:Int) + 1 = 0:=by omega
   have hi1:(0:Int) < (i:Int) + 1:=by omega
   have hiP:i < P.length:=by omega
   have hgp:P.getD (i + 1 - 1) (0,0) = P[i]:=by rw [Nat.add_sub_cancel,ji0,ji4 hiP]; rfl
   obtain ⟨⟨a0,b0⟩,hab0⟩:∃ p,P[i] = p:=⟨_,rfl⟩;rw [hgp,hab0] at hk;dsimp only at hk;have hws:IntKind.i64.wrap (i:Int) = (i:Int):=by simp [IntKind.wrap,IntKind.bits,IntKind.signed]; omega
   by_cases h14:y.k = 14
   ·rw [hno (by rw [hk]; simp [h14])];simp [hi0,hi1,h14]
   by_cases hb0:b < 0
   ·have h1:¬ 0≤b:=by omega
    rw [hno (by rw [hk]; simp [h1])];simp [hi0,hi1,h14,hb0]
   by_cases hbl:(y.i.length:Int)≤b
   ·have h1:¬ b < y.i.length:=by omega
    rw [hno (by rw [hk]; simp [h1])];simp [hi0,hi1,h14,hb0,hbl]
   obtain ⟨q,rfl⟩:∃ q:Nat,b = (q:Int):=⟨b.toNat,(Int.toNat_of_nonneg (by omega)).symm⟩;have hq:q < y.i.length:=by omega
   have hq':¬ y.i.length≤q:=by omega
   have hgq:y.i.getD q 0 = y.i[q]:=by rw [ji0,ji4 hq]; rfl
   obtain ⟨x,hx⟩:∃ x,y.i[q] = x:=⟨_,rfl⟩;rw [Int.toNat_natCast,hgq,hx] at hk;by_cases hxa:x = a0
   ·simp [hi0,hi1,h14,hq',hq,qb9,hx,hws,hiP,hab0,lnI,hxa]
    exact ⟨i + 2,⟨by omega,fun j hj=>by
     by_cases hji:j < i + 1
     ·exact hall j hji
     ·obtain rfl:j = i + 1:=by omega
      rw [hk]; simp [hn,h14,hq,hxa]⟩,by first | exact hw | simpa using hw,by omega⟩
   ·rw [hno (by rw [hk]; simp [hxa])];simp [hi0,hi1,h14,hq',hq,qb9,hx,hws,hiP,hab0,lnI,hxa]
 ·have hi':i = P.length:=by have:=jiz hb; omega
  subst hi';have hra:(List.range P.length).all (lnk c P) = true:=List.all_eq_true.2 fun j hj=>hall j (List.mem_range.1 hj);unfold qri;rw [hra];by_cases h0:0 < P.length
  ·obtain ⟨m,hm⟩:∃ m,P.length = m + 1:=⟨P.length - 1,by omega⟩
   have hgm:P.getD (P.length - 1) (0,0) = P[m]:=by
    have e:P.length - 1 = m:=by omega
    rw [e,ji0,ji4 (by omega)]; rfl
   rw [hgm];have hlm:=hall m (by omega);have hgd:P.getD m (0,0) = P[m]:=by rw [ji0,ji4 (by omega)]; rfl
   unfold lnk at hlm;rw [hgd] at hlm;obtain ⟨⟨a,b⟩,hab⟩:∃ p,P[m] = p:=⟨_,rfl⟩;rw [hab] at hlm ⊢;simp only [Bool.and_eq_true,decide_eq_true_eq] at hlm;obtain ⟨⟨h1,h2⟩,-⟩:=hlm;obtain ⟨n,rfl⟩:∃ n:Nat,a = (n:Int):=⟨a.toNat,(Int.toNat_of_nonneg (by omega)).symm⟩;have hn:n < c.n.length:=by omega
   have hws:IntKind.i64.wrap (m:Int) = (m:Int):=by simp [IntKind.wrap,IntKind.bits,IntKind.signed]; omega
   have h01:(0:Int) < (m:Int) + 1:=by omega
   have hmm:m < P.length:=by omega
   simp [hm,h01];intro gm
   first | refine ⟨_,_,_,.pure hob (by simp),?_⟩ | refine ⟨_,⟨_,_,.pure hob (by simp)⟩,?_⟩ | refine ⟨_,_,⟨_,.pure hob (by simp)⟩,?_⟩
   simp [hws,hm,hmm,hab,lnI,hn,qbv];exact ⟨by omega,rfl⟩
  ·have h1:P.length = 0:=by omega
   simp [h1]
   try rfl
def q5b (c:Ci) (P:List Ln):Int:=if 256 < P.length then 3 else if qri c P = true then 0 else 1
theorem qsm (c:Ci) (hg:c.good) (P:List Ln) (cap:Option Nat) (hP:P.length < 1000000):qac Tryz.prog gl0 35 [c.v,.sl (P.map lnI) cap] (.int .i64 (q5b c P)):=by
 have hl:=qnx c hg;have hp:=qz2 c hg P cap hP;refine jiu 2 ok35 rfl ?_;simp [i35,x35];intro gf1;refine jir hl (by simp) ?_;simp;unfold q5b;refine jis (fun hb=>?_) (fun hb=>?_)
 ·have h:256 < P.length:=jiy hb;simp [h]
 ·have h:¬ 256 < P.length:=jiz hb;rw [if_neg h];simp [h];refine jir hp (by simp [qbs]) ?_;cases qri c P <;> simp
def q1n (c:Ci) (A B:Nat->Nat) (F:Nat->Bool):List Ln->Nat->Nat
 | [],h=>h
 | l :: r,h=>q1n c A B F r (min h (lnT B F (c.nd l.1.toNat).k.toNat l.2.toNat (qli (c.g l.1.toNat) l.2.toNat) (B ((c.g l.1.toNat).getD l.2.toNat 0))))
def jap (c:Ci) (A B:Nat->Nat) (F:Nat->Bool) (P:List Ln):Nat:=
 if A (P.getD 0 (0,0)).1.toNat≤1/\B (P.getD 0 (0,0)).1.toNat = qlz (A (P.getD 0 (0,0)).1.toNat) then q1n c A B F (P.drop 1) 2 else 0
theorem qnu {c:Ci} {P:List Ln} (h:qri c P = true):0 < P.length/\∀ i,i < P.length->lnk c P i = true:=by
 simp only [qri,Bool.and_eq_true,decide_eq_true_eq,List.all_eq_true,List.mem_range] at h;exact ⟨h.1.2,h.1.1⟩
theorem qxg {c:Ci} (hg:c.good) {P:List Ln} {i:Nat} (hi:i + 1 < P.length) (h:lnk c P (i + 1) = true):∃ n q:Nat,P[i + 1] = ((n:Int),(q:Int))/\n < c.n.length/\qdf c n = true/\q < (c.g n).length/\(((c.g n).getD q 0:Nat):Int) = (P[i]).1:=by
 have hgd:P.getD (i + 1) (0,0) = P[i + 1]:=by rw [ji0,ji4 hi]; rfl
 have hgp:P.getD (i + 1 - 1) (0,0) = P[i]:=by rw [Nat.add_sub_cancel,ji0,ji4 (by omega)]; rfl
 unfold lnk at h;rw [hgd,hgp,if_neg (by omega)] at h;obtain ⟨⟨a,b⟩,hab⟩:∃ p,P[i + 1] = p:=⟨_,rfl⟩;rw [hab] at h ⊢;simp only [Bool.and_eq_true,decide_eq_true_eq,Bool.not_eq_true',decide_eq_false_iff_not] at h;obtain ⟨⟨h1,h2⟩,⟨⟨h3,h4⟩,h5⟩,h6⟩:=h;obtain ⟨n,rfl⟩:∃ n:Nat,a = (n:Int):=⟨a.toNat,(Int.toNat_of_nonneg h1).symm⟩;obtain ⟨q,rfl⟩:∃ q:Nat,b = (q:Int):=⟨b.toNat,(Int.toNat_of_nonneg h4).symm⟩;have hn:n < c.n.length:=by omega
 simp only [Int.toNat_natCast] at h3 h5 h6;obtain ⟨k0,k14,hw⟩:=qxq hg hn;have hk0:(c.nd n).k ≠ 0:=fun e=>by rw [q75 hg hn e] at h5; simp at h5
 have hc:qdf c n = true:=by unfold qdf qjs; simp; omega
 have hgi:=qmh hc;have hyi:=hg.val.i n hn;have hql:q < (c.nd n).i.length:=by omega
 refine ⟨n,q,rfl,hn,hc,by rw [hgi]; simpa using hql,?_⟩;rw [hgi,ji0,List.getElem?_map,ji4 hql];rw [ji0,ji4 hql] at h6;simp only [Option.getD_some,Option.map_some] at h6 ⊢;rw [Int.toNat_of_nonneg (hyi _ (ji3 hql)).1,h6]
theorem qrq {c:Ci} {P:List Ln} (h0:0 < P.length) (h:lnk c P 0 = true):∃ n:Nat,P[0] = ((n:Int),-1)/\n < c.n.length/\qot (c.nd n) = true:=by
 have hgd:P.getD 0 (0,0) = P[0]:=by rw [ji0,ji4 h0]; rfl
 unfold lnk at h;rw [hgd,if_pos rfl] at h;obtain ⟨⟨a,b⟩,hab⟩:∃ p,P[0] = p:=⟨_,rfl⟩;rw [hab] at h ⊢;simp only [Bool.and_eq_true,decide_eq_true_eq] at h;obtain ⟨⟨h1,h2⟩,h3,h4⟩:=h;obtain ⟨n,rfl⟩:∃ n:Nat,a = (n:Int):=⟨a.toNat,(Int.toNat_of_nonneg h1).symm⟩;exact ⟨n,by rw [h3],by omega,by simpa using h4⟩
end
section
open Go
set_option maxRecDepth 100000 in
set_option maxHeartbeats 4000000 in
theorem q4x (c:Ci) (hg:c.good) (p q:Pt) (hp:p.fit c) (hq:q.fit c) (P:List Ln) (cap:Option Nat) (hP:P.length≤256) (hok:qri c P = true) :
  qac Tryz.prog gl0 39 [c.v,.sl (P.map lnI) cap,prV p q] (.tup [qab (jap c (qel c p) (qel c q) (qkt c (qel c p) (qel c q)) P),.int .i64 0]):=by
 have hck:=qsm c hg P cap (by omega);have he:q5b c P = 0:=by unfold q5b; rw [if_neg (by omega),if_pos hok]
 rw [he] at hck;have r1:=q77 c hg p q hp hq;have r2:=q0y c hg (qel c p) (qel c q) (some c.n.length) (some c.n.length);have hln:=fun n k h1 h2 h3=>q3o c hg (qel c q) (qkt c (qel c p) (qel c q)) (some c.n.length) (some c.n.length) n k h1 h2 h3;obtain ⟨hP0,hlk⟩:=qnu hok;generalize qkt c (qel c p) (qel c q) = F at r2 hln ⊢;generalize qel c p = A at r1 r2 ⊢;generalize qel c q = B at r1 r2 hln ⊢;obtain ⟨s,hs,hsn,-⟩:=qrq hP0 (hlk 0 hP0);have hgd:P.getD 0 (0,0) = P[0]:=by rw [ji0,ji4 hP0]; rfl
 obtain ⟨a,ha⟩:∃ a,A s = a:=⟨_,rfl⟩;obtain ⟨b,hb⟩:∃ a,B s = a:=⟨_,rfl⟩
 have htp:jap c A B F P = if a≤1/\b = qlz a then q1n c A B F (P.drop 1) 2 else 0:=by
  unfold jap; rw [hgd,hs]; simp only [Int.toNat_natCast,ha,hb]
 rw [htp];clear htp;have hkn:=qis a;have hnt:=qmp a;have pA:=qb5 c.n.length A;have pB:=qb5 c.n.length B;have pF:=qc6 c.n.length F;have pP:=qbs P;simp only [prV,u8V,qab] at r1 r2 hln hkn hnt pA pB ⊢;refine jiu 2 ok39 rfl ?_;simp [i39,x39];intro gf1 gf2;generalize gf1 3 = g3;generalize gf2 5 = g5;refine jir hck (by simp [pP]) ?_;simp;refine jir r1 (by simp) ?_;simp [hP0,hs,lnI,hsn,qa1,ha];intro gm
 first | refine ⟨_,_,_,.pure hkn (by simp),?_⟩ | refine ⟨_,⟨_,_,.pure hkn (by simp)⟩,?_⟩ | refine ⟨_,_,⟨_,.pure hkn (by simp)⟩,?_⟩
 by_cases h1:a≤1
 ·simp [h1,hsn,qa1,ha,hb]
  first | refine ⟨_,_,_,.pure hnt (by simp),?_⟩ | refine ⟨_,⟨_,_,.pure hnt (by simp)⟩,?_⟩ | refine ⟨_,_,⟨_,.pure hnt (by simp)⟩,?_⟩
  simp;refine ⟨rfl,?_⟩;by_cases h2:b = qlz a
  ·simp [h2];refine jir r2 (by simp [pA,pB]) ?_
   obtain ⟨l0,Q,rfl⟩:∃ l0 Q,P = l0 :: Q:=by cases P with
    | nil=>simp at hP0
    | cons l Q=>exact ⟨l,Q,rfl⟩
   have hc1:Q = []∨((Option.map lnI Q[0]?).getD V.undef).cells.length = 2:=by
    cases Q with
    | nil=>exact .inl rfl
    | cons l Q=>exact .inr rfl
   simp at hP;have htk:List.take Q.length (List.map lnI Q) = List.map lnI Q:=ji2 (by simp);have pQ:=qbs Q;simp [htk];refine ⟨hc1,?_⟩;generalize (Option.map (fun c=>c - 1) cap) = cap1;obtain ⟨R,hR⟩:∃ R,q1n c A B F Q 2 = R:=⟨_,rfl⟩;rw [hR]
   refine jit (X:=Nat × Nat) (fun z=>[(62,qab z.1),(61,qab Q.length),(60,.sl (Q.map lnI) cap1),(14,qab z.2),(13,.sl (qbk c.n.length F) (some c.n.length)),(10,.sl (tab c.n.length fun i=>.int .u8 (B i:Int)) (some c.n.length)),(3,.ptr 3 g3 0 0)])
    (fun _=>[(3,.row g3 4 [c.v])]) (fun z=>z.1≤Q.length/\z.2≤2/\q1n c A B F (Q.drop z.1) z.2 = R) (fun z=>Q.length - z.1) (0,2) ⟨by simp,by simp,by simpa using hR⟩ (by simp [qab]) (by simp) ?_
   rintro ⟨j,h⟩ ⟨k1,k2,k3⟩;dsimp only at k1 k2 k3 ⊢;simp [qab];refine jis (fun hb2=>?_) (fun hb2=>?_)
   ·have hj:j < Q.length:=jiy hb2;have hw:=qbg j (by omega);obtain ⟨n,k,e,hn,hc,hk,-⟩:=qxg hg (i:=j) (by simp; omega) (hlk (j + 1) (by simp; omega));simp only [List.getElem_cons_succ] at e;have hl:=hln n k hn hc hk;rw [List.drop_eq_getElem_cons hj,e,q1n] at k3;simp only [Int.toNat_natCast] at k3;obtain ⟨t,ht⟩:∃ t,lnT B F (c.nd n).k.toNat k (qli (c.g n) k) (B ((c.g n).getD k 0)) = t:=⟨_,rfl⟩;rw [ht] at hl k3;simp [hj,e,lnI];intro gf6;refine jir hl (by simp [pB,pF]) ?_;obtain ⟨mn,hmn⟩:∃ m,min h t = m:=⟨_,rfl⟩;rw [hmn] at k3;have hm2:min (h:Int) (t:Int) = (mn:Int):=by omega
    simp [hm2];exact ⟨j + 1,mn,⟨hj,by omega,k3⟩,by simp [hw],by omega⟩
   ·have hj:j = Q.length:=by have:=jiz hb2; omega
    subst hj;rw [List.drop_length,q1n] at k3;simp [k3]
  ·simp [h2]
 ·simp [h1];rfl
end
end Go.Proofs.YtlmniacemoohpaaGreatDoor
