/- Trees: the law's small functions. Conditions: none. -/
import Derived.Test.YtpaopccohkldlaaGreatDoorA5
import Derived.Test.YtpaopccohkldlaaGreatDoorT7
import Derived.Test.YtpaopccohkldlaaGreatDoorT13
import Derived.Test.YtpaopccohkldlaaGreatDoorXL6
set_option linter.all false
namespace Go.Proofs.YtpaopccohkldlaaGreatDoor
section
open Go
def Fx.st (z:Fx):Fx:={ z with m:=0 }
def stF (c:Ci) (z:Fx):Ft:=z.st.of c 0
theorem q93 (c:Ci) (hg:c.good) (z:Fx):(stF c z).ok c/\(stF c z).m = 0:=⟨jd3 c hg _ 0 (by decide),rfl⟩
theorem q4z (c:Ci) (hg:c.good) (z:Fx) (hz:z.ok):qad Tryz.prog gl0 15 [c.v,z.v] (stF c z).w:=by
 have h1:=jda c hg z.st (by obtain ⟨h1,h2,h3,h4⟩:=hz; exact ⟨Nat.zero_lt_succ _,h2,h3,h4⟩) 0 rfl (by decide);simp only [Fx.v,Fx.st,u8V] at h1;simp only [Fx.v,u8V];refine ji4 2 ok15 rfl ?_;simp [i15,x15,nop,Fx.v,u8V];intro gf1 gf2 gf3;refine ji0 h1 (by simp) ?_;simp [stF,Fx.st,Ft.w,V.mapR,jhh,u8V,qaa]
theorem qxi (c:Ci) (hn:c.n.length < 1000000):qad Tryz.prog gl0 59 [c.v] (qaa (cnt 0 c.n + cnt 14 c.n)):=by
 have l0:=qbn 0 c.n;refine ji4 2 ok59 rfl ?_;simp [i59,x59];intro gf;generalize gf 1 = g1
 refine ji3 (X:=Nat) (fun j=>[(4,qaa j),(3,qaa (cnt 0 (c.n.take j) + cnt 14 (c.n.take j))),(1,.ptr 1 g1 0 0)]) (fun _=>[(1,.row g1 4 [c.v])])
  (fun j=>j≤c.n.length) (fun j=>c.n.length - j) 0 (Nat.zero_le _) (by simp [qaa,cnt,ids]) (by simp) ?_
 intro j hj;simp [qaa];refine ji1 (fun hb=>?_) (fun hb=>?_)
 ·have hj2:j < c.n.length:=ji8 hb;have hwj:=qa5 j (by omega);obtain ⟨y,hy⟩:∃ y,c.n[j] = y:=⟨_,rfl⟩;have t0:=qgw (k:=0) hj2 hy;have t1:=qgw (k:=14) hj2 hy;have u0:=qbn 0 (c.n.take j);have u1:=qbn 14 (c.n.take j);rw [List.length_take] at u0 u1;obtain ⟨S,hS⟩:∃ S,cnt 0 (c.n.take j) + cnt 14 (c.n.take j) = S:=⟨_,rfl⟩;have hwS:=qa5 S (by omega);have hSc:((cnt 0 (c.n.take j):Nat):Int) + ((cnt 14 (c.n.take j):Nat):Int) = (S:Int):=by omega
  by_cases k0:y.k = 0
  ·have k1:¬ y.k = 14:=by omega
   rw [if_pos k0] at t0;rw [if_neg k1] at t1;simp [hj2,hy,hwj,k0,hSc,hwS];exact ⟨j + 1,hj2,⟨by simp,by omega⟩,by omega⟩
  ·by_cases k1:y.k = 14
   ·rw [if_neg k0] at t0;rw [if_pos k1] at t1;simp [hj2,hy,hwj,k0,k1,hSc,hwS];exact ⟨j + 1,hj2,⟨by simp,by omega⟩,by omega⟩
   ·rw [if_neg k0] at t0;rw [if_neg k1] at t1;simp [hj2,hy,hwj,k0,k1];exact ⟨j + 1,hj2,⟨by simp,by omega⟩,by omega⟩
 ·have hj3:j = c.n.length:=by have:=ji9 hb; omega
  subst hj3;rw [List.take_length];simp
theorem q6l (c:Ci) (hn:c.n.length < 1000000):qad Tryz.prog gl0 17 [c.v] (qaa (cnt 0 c.n + cnt 14 c.n)):=by
 have h:=qxi c hn;refine ji4 2 ok17 rfl ?_;simp [i17,x17];intro gf;refine ji0 h (by simp) ?_;simp [qaa]
def q1q (c:Ci) (i:Nat):Pt:=qhr c (BitVec.ofNat 64 i)
theorem qmu (c:Ci) (i:Nat):(q1q c i).fit c:=qza c _
theorem q7v (c:Ci) (hl:c.n.length < 1000000) (i:Nat) (hi:i < 1048577):qad Tryz.prog gl0 36 [c.v,.int .u64 (i:Int)] (q1q c i).v:=by
 have h:=q7w c hl (BitVec.ofNat 64 i);have e:(BitVec.ofNat 64 i).toNat = i:=by rw [BitVec.toNat_ofNat,Nat.mod_eq_of_lt (by omega)]
 unfold bvV at h;rw [e] at h;exact h
theorem jgr {B:Nat} (h:B≤20):IntKind.i64.wrap (2 ^ min B IntKind.i64.bits) = ((2 ^ B:Nat):Int):=by
 have eb:IntKind.i64.bits = 64:=rfl;rw [eb,Nat.min_eq_left (by omega)];have h2:2 ^ B≤2 ^ 20:=Nat.pow_le_pow_right (by omega) h;have e:((2:Int) ^ B) = ((2 ^ B:Nat):Int):=by push_cast; rfl
 rw [e];generalize 2 ^ B = N at h2 ⊢;rw [qaw] <;> omega
theorem q9m {B:Nat} (h:B≤20):2 ^ B≤1048576:=by
 have h2:2 ^ B≤2 ^ 20:=Nat.pow_le_pow_right (by omega) h;omega
theorem qz9 (c:Ci) (hg:c.good) (hk:c.plain) (f:Ft) (hf:f.ok c) (hm:f.m = 0) (p:Pt) (hp:p.fit c) (hc:p.cu) :
  qad Tryz.prog gl0 37 [c.v,f.w,p.v] (.tup [.sl (tU c.n.length (qb8 c p)) (some c.n.length),.sl (tU c.n.length (f.M c p)) (some c.n.length),.int .i64 0]):=by
 have h1:=qjd c hg hk f hf hm p hp hc;have h2:=qxs c hg f hf hm p hp;have hA:jhf (tU c.n.length (qb8 c p)) = true:=qbr _ _;have hM:jhf (tU c.n.length (f.M c p)) = true:=qbr _ _;generalize tU c.n.length (qb8 c p) = TA at *;generalize tU c.n.length (f.M c p) = TM at *;simp only [Pt.v,Ft.w,u8V,qaa] at h1 h2 ⊢;refine ji4 2 ok37 rfl ?_;simp [i37,x37];intro gf1 gf2 gf3;refine ji0 h1 (by simp) ?_;simp;refine ji0 h2 (by simp) ?_;simp [qah _ hA,qah _ hM,qbb hA,qbb hM]
theorem q05 (p:Pt) (i:Nat) (hi:i < p.many) (hl:p.many < 1000000):qad Tryz.prog gl0 32 [p.v,qaa i] (u8V (p.bit i)):=by
 obtain ⟨a,b⟩:=p;simp only [Pt.many] at hi hl;unfold Pt.bit;simp only [Pt.v];refine ji4 2 ok32 rfl ?_;by_cases hb:i < a.length
 ·simp [i32,x32,qaa,u8V,hb]
 ·obtain ⟨k,rfl⟩:∃ k,i = a.length + k:=⟨i - a.length,by omega⟩;have hk:k < b.length:=by omega
  have hw:IntKind.i64.wrap (k:Int) = (k:Int):=by rw [qaw] <;> omega
  have q1:¬ (a.length + k < a.length):=by omega
  have q2:¬ ((a.length:Int) + (k:Int) < (a.length:Int)):=by omega
  have e:(a.length:Int) + (k:Int) - (a.length:Int) = (k:Int):=by omega
  simp [i32,x32,qaa,u8V,hw,hk,q2,e];exact fun h=>absurd h q1
theorem qw5 (N:Nat) (F:Nat->Nat) (ca cb:Option Nat) (hN:N < 1000000):qad Tryz.prog gl0 40 [.sl (tU N F) ca,.sl (tU N F) cb] (.int .i64 0):=by
 refine ji4 2 ok40 rfl ?_;simp [i40,x40]
 refine ji3 (X:=Nat) (fun j=>[(5,qaa j),(1,.sl (tU N F) cb),(0,.sl (tU N F) ca)]) (fun _=>[])
  (fun j=>j≤N) (fun j=>N - j) 0 (Nat.zero_le _) (by simp [qaa]) (by simp) ?_
 intro j hj;simp [qaa];refine ji1 (fun hb=>?_) (fun hb=>?_)
 ·have hj2:j < N:=ji8 hb;have hwj:=qa5 j (by omega);simp [hj2,u8V,tU,qc8];exact ⟨j + 1,hj2,by simpa using hwj,by omega⟩
 ·simp
theorem q49 (p:Pt) (i v:Nat) (hi:i < p.many) (hl:p.many < 1000000):qad Tryz.prog gl0 33 [p.v,qaa i,u8V v] (p.set i v).v:=by
 obtain ⟨a,b⟩:=p;simp only [Pt.many] at hi hl;have b1:a.length≤274877906944:=by omega
 have b2:b.length≤274877906944:=by omega
 have a1:∀ zs:List Nat,zs.all ((fun x:V=>decide (x.cells.length = 1)) ∘ u8V) = true:=fun zs=>List.all_eq_true.2 fun _ _=>rfl;have ta:List.take a.length (List.map u8V a) = List.map u8V a:=jjc (by simp);have tb:List.take b.length (List.map u8V b) = List.map u8V b:=jjc (by simp);unfold Pt.set;simp only [Pt.v];refine ji4 2 ok33 rfl ?_;by_cases hb:i < a.length
 ·simp [i33,x33,qaa,u8V,a1];intro gf1 gf2 gm;refine ⟨b1,b2,by decide,?_⟩;refine ji1 (fun _=>?_) (fun h=>absurd hb (ji9 h));simp [-List.map_map,-List.map_set,u8V,qnq,hb,qbb (qab _)];exact ⟨jjc (by simp),tb⟩
 ·obtain ⟨k,rfl⟩:∃ k,i = a.length + k:=⟨i - a.length,by omega⟩;have hk:k < b.length:=by omega
  have hw:IntKind.i64.wrap (k:Int) = (k:Int):=by rw [qaw] <;> omega
  have q2:¬ ((a.length:Int) + (k:Int) < (a.length:Int)):=by omega
  have e:(a.length:Int) + (k:Int) - (a.length:Int) = (k:Int):=by omega
  simp [-List.map_map,-List.map_set,i33,x33,qaa,u8V,a1,hw,hk,q2,e];intro gf1 gf2 gm;refine ⟨b1,b2,by decide,?_⟩;simp [-List.map_map,-List.map_set,qnq,qbb (qab _)];rw [if_neg (by omega)];exact ⟨ta,jjc (by simp)⟩
end
section
open Go
def qsz (p:Pt) (i N:Nat):Bool:=(List.range N).all fun k=>decide (p.bit k = 2∨p.bit k = i / 2 ^ k % 2)
theorem q63 {p:Pt} {i N:Nat} (h:∀ k,k < N->(p.bit k = 2∨p.bit k = i / 2 ^ k % 2)):qsz p i N = true:=
 List.all_eq_true.2 fun k hk=>decide_eq_true (h k (List.mem_range.1 hk))
theorem q62 {p:Pt} {i N k:Nat} (hk:k < N) (h:¬ (p.bit k = 2∨p.bit k = i / 2 ^ k % 2)):qsz p i N = false:=by
 cases e:qsz p i N with
 | false=>rfl
 | true=>exact absurd (ji8 (List.all_eq_true.1 e k (List.mem_range.2 hk))) h
theorem q06 {p:Pt} {m:Nat} (h:(∀ x ∈ p.i,x≤m)/\∀ x ∈ p.s,x≤m) (k:Nat):p.bit k≤m:=by
 have g:∀ (l:List Nat) (j:Nat),(∀ x ∈ l,x≤m)->l.getD j 0≤m:=fun l j hl=>by
  rw [jja];by_cases hj:j < l.length
  ·rw [jje hj]; exact hl _ (jjd hj)
  ·rw [List.getElem?_eq_none (by omega)]; exact Nat.zero_le _
 unfold Pt.bit;split
 ·exact g _ _ h.1
 ·exact g _ _ h.2
theorem q4w (i j:Nat) (hj:j≤60):((i:Int).fdiv (2 ^ min j IntKind.i64.bits)).tmod 2 = ((i / 2 ^ j % 2:Nat):Int):=by
 have eb:IntKind.i64.bits = 64:=rfl;have e:(2:Int) ^ j = ((2 ^ j:Nat):Int):=by push_cast; rfl
 rw [eb,Nat.min_eq_left (by omega),e,Int.fdiv_eq_ediv_of_nonneg _ (Int.natCast_nonneg _),Int.natCast_emod,Int.natCast_ediv];exact Int.tmod_eq_emod_of_nonneg (by rw [<- Int.natCast_ediv]; exact Int.natCast_nonneg _)
set_option maxRecDepth 10000 in
theorem qyv (p:Pt) (i:Nat) (hi:i < 1048577) (hl:p.many≤60) (hc:p.cu):qad Tryz.prog gl0 34 [p.v,qaa i,qaa p.many] (.bool (qsz p i p.many)):=by
 have hbit:=fun k hk=>q05 p k hk (by omega);have hb2:=fun k=>q06 (m:=2) hc k;obtain ⟨N,hN⟩:∃ N,p.many = N:=⟨_,rfl⟩;rw [hN] at hbit hl ⊢;simp only [Pt.v] at hbit;refine ji4 2 ok34 rfl ?_;simp [i34,x34,Pt.v];intro gf;generalize gf 3 = g3
 refine ji3 (X:=Nat) (fun j=>[(7,qaa j),(3,.ptr 3 g3 0 0),(2,qaa N),(1,qaa i)]) (fun _=>[(3,.row g3 2 [p.v])])
  (fun j=>j≤N/\∀ k,k < j->(p.bit k = 2∨p.bit k = i / 2 ^ k % 2)) (fun j=>N - j) 0 ⟨Nat.zero_le _,fun _ h=>by omega⟩ (by simp [qaa]) (by simp [Pt.v]) ?_
 rintro j ⟨hj,h0⟩;simp [qaa,Pt.v];refine ji1 (fun hb=>?_) (fun hb=>?_)
 ·have hj2:j < N:=ji8 hb;have hwj:=qa5 j (by omega);have h1:=hbit j hj2;have h2:=hb2 j;obtain ⟨x,hx⟩:∃ x,p.bit j = x:=⟨_,rfl⟩;rw [hx] at h1 h2;simp only [qaa] at h1;simp;refine ji0 h1 (by simp [u8V]) ?_;by_cases k2:x = 2
  ·subst k2;simp [u8V]
   exact ⟨j + 1,⟨hj2,fun k hk=>by
    by_cases e:k = j
    ·subst e; exact .inl hx
    ·exact h0 k (by omega)⟩,by simpa using hwj,by omega⟩
  ·have k2':¬ ((x:Int) = 2):=by omega
   have hwx:IntKind.i64.wrap (x:Int) = (x:Int):=by rw [qaw] <;> omega
   have hsr:=q4w i j (by omega);have hm:=Nat.mod_lt (i / 2 ^ j) (show 0 < 2 by omega);by_cases ke:x = i / 2 ^ j % 2
   ·have ke':(x:Int) = ((i / 2 ^ j % 2:Nat):Int):=by omega
    generalize hB:i / 2 ^ j % 2 = B at *;have k3:¬ B = 2:=by omega
    have hwB:IntKind.i64.wrap (B:Int) = (B:Int):=by rw [qaw] <;> omega
    have k3':¬ (B:Int) = 2:=by omega
    simp [u8V,k2,k2',k3,k3',hwB,hsr,ke']
    exact ⟨j + 1,⟨hj2,fun k hk=>by
     by_cases e:k = j
     ·subst e; exact .inr (by rw [hx,hB]; exact ke)
     ·exact h0 k (by omega)⟩,by simpa using hwj,by omega⟩
   ·have ke':¬ (x:Int) = ((i / 2 ^ j % 2:Nat):Int):=by omega
    have hf:qsz p i N = false:=q62 hj2 (by rw [hx]; exact fun h=>h.elim k2 ke);generalize i / 2 ^ j % 2 = B at *;simp [u8V,k2,k2',hwx,hsr,ke',hf]
 ·have hj3:j = N:=by have:=ji9 hb; omega
  subst hj3;rw [q63 h0];simp
end
section
open Go
theorem q0r (l:List Nat) (cap:Option Nat) (n most:Nat) (hn0:0 < n) (hn:n < 1000000) (hm:0 < most) (hm2:most < 256):qbw Tryz.prog gl0 107 [.sl (l.map u8V) cap,qaa n,u8V most] (qt9 1 ((tkN l n most).map u8V) none):=by
 refine ji6 q8w rfl ?_;simp [jde,jg6,qaa,u8V]
 refine jhs (X:=Nat × Option (Nat × List V)) (fun z=>[(8,qaa z.1),(7,qbe 1000 z.2),(0,.sl (l.map u8V) cap),(1,qaa n),(2,u8V most)]) (fun z=>qbf 1000 1 z.2)
  (fun z=>z.1≤n/\(z.2 = none↔z.1 = 0)/\qa3 z.2 = (tkN l z.1 most).map u8V) (fun z=>n - z.1) (.done ⟨(0,none),⟨by simp,by simp,by simp [qa3,tkN,tab]⟩,by simp [qaa,qbe,u8V],by simp [qbf]⟩) ?_
 rintro ⟨j,acc⟩ ⟨q1,q2,q3⟩;dsimp only at q1 q2 q3 ⊢;have hlp:=qab l;simp [qaa,u8V];refine ji1 (fun hb=>?_) (fun hb=>?_)
 ·have hj:j < n:=ji8 hb;have hw:=qa5 j (by omega);obtain ⟨v,hv⟩:∃ v,(if l.length = 0 then 2 else l.getD (j % l.length) 0 % most) = v:=⟨_,rfl⟩
  have hnx:(tkN l (j + 1) most).map u8V = (tkN l j most).map u8V ++ [.int .u8 (v:Int)]:=by
   rw [tkN,qnm,hv]; simp [tkN,u8V]
  have hjl:((tkN l j most).map u8V).length = j:=by simp
  rw [<- q3] at hnx hjl;simp;refine ji1 (fun h0=>?_) (fun h0=>?_)
  ·have h0':l.length = 0:=by simpa using h0
   rw [if_pos h0'] at hv;subst hv
   cases acc with
   | none=>
    have hj0:j = 0:=q2.1 rfl;simp [qbe,qbf,hw];intro ga gb;refine .move 19 1000 _ (by simp) (by simp; rfl) fun g'=>.done ⟨j + 1,some (g',[.int .u8 2]),⟨hj,by simp,by rw [hnx]; rfl⟩,?_⟩;simp [qa1 _ hlp];omega
   | some gl=>
    obtain ⟨g,r⟩:=gl;simp only [qa3] at hnx hjl;simp [qbe,qbf,hw];intro ga gb;refine ⟨by omega,.done ⟨j + 1,some (gb 1000,r ++ [.int .u8 2]),⟨hj,by simp,by rw [hnx]; rfl⟩,?_⟩⟩;simp;omega
  ·have h0':¬ l.length = 0:=by simpa using h0
   rw [if_neg h0'] at hv;have hlt:=Nat.mod_lt j (show 0 < l.length by omega);obtain ⟨p,hp⟩:∃ p,j % l.length = p:=⟨_,rfl⟩;rw [hp] at hlt hv;have hm1:((j:Int)).tmod (l.length:Int) = (p:Int):=ja9 hp;obtain ⟨x,hx⟩:∃ x,l[p] = x:=⟨_,rfl⟩;have hxv:x % most = v:=by rw [<- hv,jja,jje hlt,hx]; rfl
   have hm3:((x:Int)).tmod (most:Int) = (v:Int):=ja9 hxv;have hl0:l ≠ []:=fun e=>h0' (by rw [e]; rfl);have hm0:most ≠ 0:=by omega
   cases acc with
   | none=>
    have hj0:j = 0:=q2.1 rfl;simp [hl0,hm1,hlt,hx,hm3,hm0,u8V,qbe,qbf,hw];intro ga gb;refine .move 31 1000 _ (by simp) (by simp; rfl) fun g'=>.done ⟨j + 1,some (g',[.int .u8 (v:Int)]),⟨hj,by simp,by rw [hnx]; rfl⟩,?_⟩;simp [qa1 _ hlp];omega
   | some gl=>
    obtain ⟨g,r⟩:=gl;simp only [qa3] at hnx hjl;simp [hl0,hm1,hlt,hx,hm3,hm0,u8V,qbe,qbf,hw];intro ga gb;refine ⟨by omega,.done ⟨j + 1,some (gb 1000,r ++ [.int .u8 (v:Int)]),⟨hj,by simp,by rw [hnx]; rfl⟩,?_⟩⟩;simp;omega
 ·have hj:j = n:=by have:=ji9 hb; omega
  subst hj
  cases acc with
  | none=>
   have hj0:j = 0:=q2.1 rfl;omega
  | some gl=>
   obtain ⟨g,r⟩:=gl;simp only [qa3] at q3;have hrp:jhf r = true:=by rw [q3]; exact qab _
   rw [<- q3];simp [qbe,qbf];refine .move 1000 0 _ (by simp) (by simp; rfl) fun g'=>.done ?_;simp [qav hrp];exact ⟨[(0,.row g' 1 r)],by simp [qav hrp],g',rfl,rfl⟩
def PofK (X Y:List V) (v:V) (h:Hp):Prop:=∃ g,v = .agg [.ref 0 g 0 X.length none,.sl Y none]/\h = [(0,.row g 1 X)]
theorem q9l (p:Pt) (c:Ci) (hl:c.n.length < 1000000) (h0:0 < cnt 0 c.n):qbw Tryz.prog gl0 74 [p.v,c.v] (PofK ((tkN p.i (cnt 0 c.n) 4).map u8V) ((tkN p.s (cnt 14 c.n) 3).map u8V)):=by
 have c0:qad Tryz.prog gl0 108 [c.v,u8V 0] (qaa (cnt 0 c.n)):=qmd c 0 hl;have c1:qad Tryz.prog gl0 108 [c.v,u8V 14] (qaa (cnt 14 c.n)):=qmd c 14 hl;have l0:=qbn 0 c.n;have l1:=qbn 14 c.n;generalize cnt 0 c.n = A at c0 l0 h0 ⊢;generalize cnt 14 c.n = B at c1 l1 ⊢;have t0:=q0r p.i none A 4 h0 (by omega) (by omega) (by omega);have t1:=qq3 p.s none B 3 (by omega) (by omega) (by omega);simp only [u8V,qaa] at c0 c1 t0 t1;generalize (tkN p.i A 4) = X at t0 ⊢;generalize (tkN p.s B 3) = Y at t1 ⊢;have hX:jhf (X.map u8V) = true:=qab _;have hY:jhf (Y.map u8V) = true:=qab _;generalize X.map u8V = X at *;generalize Y.map u8V = Y at *;refine ji6 ok74 rfl ?_;simp [i74,x74,Pt.v];intro gf1 gf2 gf3 gm;refine ⟨_,_,_,.pure c0 (by simp),?_⟩;simp;refine ⟨_,_,_,.own t0 (by simp [qab]) hX rfl,?_⟩;simp;refine ⟨_,_,_,.pure c1 (by simp),?_⟩;simp;refine ⟨_,_,_,.pure t1 (by simp [qab]),?_⟩;simp;refine ⟨by decide,?_⟩;refine .move 9 0 _ (by simp) (by simp; rfl) fun g=>.done ?_;simp [qav hX,qav hY,qa1 _ hX,qa1 _ hY,qab,qa1 _ (qab _),qav (qab _)];exact ⟨[(0,.row g 1 X)],by simp [qav hX],g,rfl,rfl⟩
def q1g (c:Ci) (p:Pt):Pt:=⟨(tkN p.i (cnt 0 c.n) 4).map fun x=>min x 2,tkN p.s (cnt 14 c.n) 3⟩
def ckN (X:List Nat) (j i:Nat):Nat:=if i < j then min (X.getD i 0) 2 else X.getD i 0
theorem jcy (X:List Nat):X.map u8V = tU X.length (ckN X 0):=by
 refine List.ext_getElem (by simp) fun i h1 h2=>?_;rw [qc2,List.getElem_map,ckN,if_neg (Nat.not_lt_zero _),jja,jje (by simpa using h1)]; rfl
theorem jcz (X:List Nat):X.map (u8V ∘ fun x=>min x 2) = tU X.length (ckN X X.length):=by
 refine List.ext_getElem (by simp) fun i h1 h2=>?_;have h:i < X.length:=by simpa using h1
 rw [qc2,List.getElem_map,ckN,if_pos h,jja,jje h]; rfl
theorem jc0 (X:List Nat) (j:Nat):qc0 (ckN X j) j (min (ckN X j j) 2) = ckN X (j + 1):=by
 funext i;unfold qc0 ckN;by_cases h:i = j
 ·subst h; simp
 ·by_cases h2:i < j
  ·simp [h,h2,show i < j + 1 by omega]
  ·simp [h,h2,show ¬ i < j + 1 by omega]
theorem q66 (p:Pt) (c:Ci) (hl:c.n.length < 1000000):qad Tryz.prog gl0 28 [c.v,p.v] (q1g c p).v:=by
 have l0:=qbn 0 c.n;have l1:=qbn 14 c.n;have h3:=q97;by_cases h0:0 < cnt 0 c.n
 ·have h1:=q9l p c hl h0;unfold q1g;generalize cnt 0 c.n = A at l0 h1 h0 ⊢;generalize cnt 14 c.n = B at h1 l1 ⊢;obtain ⟨X,hX⟩:∃ X,tkN p.i A 4 = X:=⟨_,rfl⟩;have hXl:X.length = A:=by rw [<- hX]; simp [tkN]
  rw [hX] at h1 ⊢;generalize tkN p.s B 3 = Y at h1 ⊢;simp only [Pt.v] at h1 ⊢;refine ji4 2 ok28 rfl ?_;simp [i28,x28];intro gf1 gf2 gf3;refine CallO.own 900 h1 (by simp [qab]) (by simp) ?_;rintro v h ⟨g0,rfl,rfl⟩ gf4;simp [upH,upS,Blk.rn,qav (qab _),qa1 _ (qab _)];intro gf5;generalize gf5 5 = g5;generalize gf4 900 + g0 = g9;have e1:X.map u8V = tU A (ckN X 0):=by rw [<- hXl]; exact jcy X
  have e2:X.map (u8V ∘ fun x=>min x 2) = tU A (ckN X A):=by rw [<- hXl]; exact jcz X
  rw [e1,e2,hXl]
  refine ji3 (X:=Nat) (fun j=>[(6,qaa j),(5,.ptr 5 g5 0 0),(4,.ptr 4 (gf3 4) 0 0)]) (fun j=>[(5,.row g5 2 [.agg [.ref 900 g9 0 A none,.sl (Y.map u8V) none]]),(900,.row g9 1 (tU A (ckN X j))),(4,.row (gf3 4) 2 [.agg [.nil,.nil]])])
   (fun j=>j≤A) (fun j=>A - j) 0 (Nat.zero_le _) (by simp [qaa]) (by simp) ?_
  intro j hj;simp [qaa];refine ji1 (fun hb=>?_) (fun hb=>?_)
  ·have hj2:j < A:=ji8 hb;have hwj:=qa5 j (by omega)
   have em:(tU A (ckN X j)).set j (.int .u8 (min ((ckN X j j:Nat):Int) 2)) = tU A (ckN X (j + 1)):=by
    have e:min ((ckN X j j:Nat):Int) 2 = ((min (ckN X j j) 2:Nat):Int):=by omega
    rw [e,qko,jc0]
   simp [hj2,qc2,u8V,qko];exact ⟨j + 1,hj2,by simpa using hwj,em,by omega⟩
  ·have hj3:j = A:=by have:=ji9 hb; omega
   subst hj3;simp [qbb (qbr _ _),qah _ (qab _)];exact jjc (by simp)
 ·have hA0:cnt 0 c.n = 0:=by omega
  have h1:=jgi p c hl;unfold q1g;rw [hA0] at h1 ⊢;have e0:tkN p.i 0 4 = []:=rfl;rw [e0] at h1 ⊢;generalize tkN p.s (cnt 14 c.n) 3 = Y at h1 ⊢;simp only [Pt.v,List.map_nil] at h1 ⊢;refine ji4 2 ok28 rfl ?_;simp [i28,x28];intro gf1 gf2 gf3;refine ji0 h1 (by simp [qab]) ?_;simp;intro gf5
  refine ji3 (X:=Nat) (fun j=>[(6,qaa 0),(5,.ptr 5 (gf5 5) 0 0),(4,.ptr 4 (gf3 4) 0 0)]) (fun _=>[(5,.row (gf5 5) 2 [.agg [.sl [] none,.sl (Y.map u8V) none]]),(4,.row (gf3 4) 2 [.agg [.nil,.nil]])])
   (fun _=>True) (fun j=>j) 0 trivial (by simp [qaa]) (by simp) ?_
  intro j _;simp [qaa,qah _ (qab _)]
end
end Go.Proofs.YtpaopccohkldlaaGreatDoor
