/- Trees: the law's small functions. Conditions: none. -/
import Derived.Test.YtpaopccohkldlaaGreatDoorA5
import Derived.Test.YtpaopccohkldlaaGreatDoorT7
import Derived.Test.YtpaopccohkldlaaGreatDoorT13
import Derived.Test.YtpaopccohkldlaaGreatDoorXL6
set_option linter.all false
namespace Go.Proofs.YtpaopccohkldlaaGreatDoor
section
open Go
def Fx.st (z:Fx):Fx:={ z with m:=0 }
def stF (c:Ci) (z:Fx):Ft:=z.st.of c 0
theorem q84 (c:Ci) (hg:c.good) (z:Fx):(stF c z).ok c/\(stF c z).m = 0:=⟨jcs c hg _ 0 (by decide),rfl⟩
theorem q36 (c:Ci) (hg:c.good) (z:Fx) (hz:z.ok):qac Tryz.prog gl0 15 [c.v,z.v] (stF c z).w:=by
 have h1:=jb5 c hg z.st (by obtain ⟨h1,h2,h3,h4⟩:=hz; exact ⟨Nat.zero_lt_succ _,h2,h3,h4⟩) 0 rfl (by decide);simp only [Fx.v,Fx.st,u8V] at h1;simp only [Fx.v,u8V];refine jhu 2 ok15 rfl ?_;simp [i15,x15,nop,Fx.v,u8V];intro gf1 gf2 gf3;refine jhq h1 (by simp) ?_;simp [stF,Fx.st,Ft.w,V.mapR,jga,u8V,qaa]
theorem qxa (c:Ci) (hn:c.n.length < 1000000):qac Tryz.prog gl0 59 [c.v] (qaa (cnt 0 c.n + cnt 14 c.n)):=by
 have l0:=qb2 0 c.n;refine jhu 2 ok59 rfl ?_;simp [i59,x59];intro gf;generalize gf 1 = g1
 refine jht (X:=Nat) (fun j=>[(4,qaa j),(3,qaa (cnt 0 (c.n.take j) + cnt 14 (c.n.take j))),(1,.ptr 1 g1 0 0)]) (fun _=>[(1,.row g1 4 [c.v])])
  (fun j=>j≤c.n.length) (fun j=>c.n.length - j) 0 (Nat.zero_le _) (by simp [qaa,cnt,ids]) (by simp) ?_
 intro j hj;simp [qaa];refine jhr (fun hb=>?_) (fun hb=>?_)
 ·have hj2:j < c.n.length:=jhy hb;have hwj:=qbb j (by omega);obtain ⟨y,hy⟩:∃ y,c.n[j] = y:=⟨_,rfl⟩;have t0:=qrm (k:=0) hj2 hy;have t1:=qrm (k:=14) hj2 hy;have u0:=qb2 0 (c.n.take j);have u1:=qb2 14 (c.n.take j);rw [List.length_take] at u0 u1;obtain ⟨S,hS⟩:∃ S,cnt 0 (c.n.take j) + cnt 14 (c.n.take j) = S:=⟨_,rfl⟩;have hwS:=qbb S (by omega);have hSc:((cnt 0 (c.n.take j):Nat):Int) + ((cnt 14 (c.n.take j):Nat):Int) = (S:Int):=by omega
  by_cases k0:y.k = 0
  ·have k1:¬ y.k = 14:=by omega
   rw [if_pos k0] at t0;rw [if_neg k1] at t1;simp [hj2,hy,hwj,k0,hSc,hwS];exact ⟨j + 1,hj2,⟨by simp,by omega⟩,by omega⟩
  ·by_cases k1:y.k = 14
   ·rw [if_neg k0] at t0;rw [if_pos k1] at t1;simp [hj2,hy,hwj,k0,k1,hSc,hwS];exact ⟨j + 1,hj2,⟨by simp,by omega⟩,by omega⟩
   ·rw [if_neg k0] at t0;rw [if_neg k1] at t1;simp [hj2,hy,hwj,k0,k1];exact ⟨j + 1,hj2,⟨by simp,by omega⟩,by omega⟩
 ·have hj3:j = c.n.length:=by have:=jhz hb; omega
  subst hj3;rw [List.take_length];simp
theorem q5v (c:Ci) (hn:c.n.length < 1000000):qac Tryz.prog gl0 17 [c.v] (qaa (cnt 0 c.n + cnt 14 c.n)):=by
 have h:=qxa c hn;refine jhu 2 ok17 rfl ?_;simp [i17,x17];intro gf;refine jhq h (by simp) ?_;simp [qaa]
theorem qx4 (p:Pt) (i v:Nat) (hi:i < p.many) (hl:p.many < 1000000):qac Tryz.prog gl0 33 [p.v,qaa i,u8V v] (p.set i v).v:=by
 obtain ⟨a,b⟩:=p;simp only [Pt.many] at hi hl;have b1:a.length≤274877906944:=by omega
 have b2:b.length≤274877906944:=by omega
 have a1:∀ zs:List Nat,zs.all ((fun x:V=>decide (x.cells.length = 1)) ∘ u8V) = true:=fun zs=>List.all_eq_true.2 fun _ _=>rfl;have ta:List.take a.length (List.map u8V a) = List.map u8V a:=jh2 (by simp);have tb:List.take b.length (List.map u8V b) = List.map u8V b:=jh2 (by simp);unfold Pt.set;simp only [Pt.v];refine jhu 2 ok33 rfl ?_;by_cases hb:i < a.length
 ·simp [i33,x33,qaa,u8V,a1];intro gf1 gf2 gm;refine ⟨b1,b2,by decide,?_⟩;refine jhr (fun _=>?_) (fun h=>absurd hb (jhz h));simp [-List.map_map,-List.map_set,u8V,qne,hb,qa0 (qad _)];exact ⟨jh2 (by simp),tb⟩
 ·obtain ⟨k,rfl⟩:∃ k,i = a.length + k:=⟨i - a.length,by omega⟩;have hk:k < b.length:=by omega
  have hw:IntKind.i64.wrap (k:Int) = (k:Int):=by rw [qar] <;> omega
  have q2:¬ ((a.length:Int) + (k:Int) < (a.length:Int)):=by omega
  have e:(a.length:Int) + (k:Int) - (a.length:Int) = (k:Int):=by omega
  simp [-List.map_map,-List.map_set,i33,x33,qaa,u8V,a1,hw,hk,q2,e];intro gf1 gf2 gm;refine ⟨b1,b2,by decide,?_⟩;simp [-List.map_map,-List.map_set,qne,qa0 (qad _)];rw [if_neg (by omega)];exact ⟨ta,jh2 (by simp)⟩
end
section
open Go
end
section
open Go
end
end Go.Proofs.YtpaopccohkldlaaGreatDoor
