/- Lemmas. Conditions: none. -/
import Derived.Test.YtpaopccohkldlaaGreatDoorWF
import Derived.Test.YtpaopccohkldlaaGreatDoorU3
import Derived.Test.YtpaopccohkldlaaGreatDoorT13
set_option linter.all false
namespace Go.Proofs.YtpaopccohkldlaaGreatDoor
open Go
set_option maxRecDepth 100000 in
theorem qxn (c:Ci) (hg:c.good) (f:Fw) (hm:f.m = 2∨f.m = 3) (hl:qh1 c f.n f.p = true):∃ B:Int,qac Tryz.prog gl0 91 [c.v,f.w] (.int .i64 B):=by
 unfold qh1 at hl;simp only [Bool.and_eq_true,decide_eq_true_eq] at hl;obtain ⟨⟨⟨l1,l2⟩,l3⟩,l4⟩:=hl;obtain ⟨m,n,p,v,o⟩:=f;simp only [Fw.w] at *;obtain ⟨a,rfl⟩:∃ a:Nat,n = (a:Int):=⟨n.toNat,by omega⟩;have ha:a < c.n.length:=by omega
 by_cases hp:p = -1
 ·subst hp;by_cases ho:0≤o/\o < c.n.length
  ·obtain ⟨b,rfl⟩:∃ b:Nat,o = (b:Int):=⟨o.toNat,by omega⟩;have hb:b < c.n.length:=by omega
   have n2:¬ c.n.length≤b:=by omega
   have n4:¬ ((b:Int) < 0):=by omega
   by_cases hab:a = b
   ·subst hab;refine ⟨1,jo3 2 qzt rfl ?_⟩;rcases hm with hm | hm
    ·subst hm;simp [i91,x91,qaa,n2,n4]
    ·subst hm;simp [i91,x91,qaa,n2,n4]
   ·have c1:=q5l c hg a ha;have c2:=q5l c hg b hb;obtain ⟨y,hy⟩:∃ y,c.n[a] = y:=⟨_,rfl⟩;obtain ⟨z,hz⟩:∃ z,c.n[b] = z:=⟨_,rfl⟩;generalize dep c (c.n.length + 1) a = D1 at c1;generalize dep c (c.n.length + 1) b = D2 at c2;simp only [qaa] at c1 c2;rcases hm with hm | hm
    ·subst hm;by_cases hlt:b < a
     ·refine ⟨1,jo3 2 qzt rfl ?_⟩;simp [i91,x91,qaa,n2,n4,hab,hlt]
     ·by_cases k1:y.k = 12
      ·refine ⟨7,jo3 2 qzt rfl ?_⟩;simp [i91,x91,qaa,n2,n4,hab,hlt];intros;simp [ha,hy,k1]
      ·by_cases k2:z.k = 12
       ·refine ⟨7,jo3 2 qzt rfl ?_⟩;simp [i91,x91,qaa,n2,n4,hab,hlt];intros;simp [ha,hy,hb,hz,k1,k2]
       ·refine ⟨if D1 b || D2 a then 6 else 0,jo3 2 qzt rfl ?_⟩;simp [i91,x91,qaa,n2,n4,hab,hlt];intros;simp [ha,hy,hb,hz,k1,k2];refine joz c1 (by simp [jm8,V.pure]) ?_
        cases hd1:D1 b with
        | true=>simp [hb,qb6,hd1]
        | false=>
         simp [hb,qb6,hd1];refine joz c2 (by simp [jm8,V.pure]) ?_;cases hd2:D2 a <;> simp [ha,qb6,hd2]
    ·subst hm;by_cases hv:v = 0
     ·by_cases k1:y.k = 12
      ·refine ⟨7,jo3 2 qzt rfl ?_⟩;simp [i91,x91,qaa,n2,n4,hab,hv];intros;simp [ha,hy,k1]
      ·by_cases k2:z.k = 12
       ·refine ⟨7,jo3 2 qzt rfl ?_⟩;simp [i91,x91,qaa,n2,n4,hab,hv];intros;simp [ha,hy,hb,hz,k1,k2]
       ·refine ⟨if D1 b || D2 a then 6 else 0,jo3 2 qzt rfl ?_⟩;simp [i91,x91,qaa,n2,n4,hab,hv];intros;simp [ha,hy,hb,hz,k1,k2];refine joz c1 (by simp [jm8,V.pure]) ?_
        cases hd1:D1 b with
        | true=>simp [hb,qb6,hd1]
        | false=>
         simp [hb,qb6,hd1];refine joz c2 (by simp [jm8,V.pure]) ?_;cases hd2:D2 a <;> simp [ha,qb6,hd2]
     ·refine ⟨1,jo3 2 qzt rfl ?_⟩;simp [i91,x91,qaa,n2,n4,hab,hv]
  ·refine ⟨1,jo3 2 qzt rfl ?_⟩;by_cases h0:o < 0
   ·simp [i91,x91,qaa,h0]
   ·have h1:(c.n.length:Int)≤o:=by omega
    simp [i91,x91,qaa,h0,h1]
 ·refine ⟨1,jo3 2 qzt rfl ?_⟩;simp [i91,x91,qaa,hp]
def qut (c:Ci):Int:=if c.m ≠ [] then 7 else if qj8 [12,13,15] c.n 0 ≠ [] then 7 else 0
theorem q34 (c:Ci) (hwf:c.wf) (hk:qme c = 0) (hn:c.n.length < 1000000):qac Tryz.prog gl0 42 [c.v] (.int .i64 (qut c)):=by
 have h1:=qny c hwf;rw [hk] at h1;have h2:=jn4 (q8s c [12,13,15] (some 3) hn (by simp)) (qdc [12,13,15] c.n 0).2 (qdc [12,13,15] c.n 0).1;unfold qut;generalize qj8 [12,13,15] c.n 0 = L at h2 ⊢;refine jo3 2 ok42 rfl ?_;simp [i42,x42];intro gf;refine joz h1 (by simp) ?_;simp;by_cases hm:c.m = []
 ·simp [hm];intro gf2;refine CallO.dat 1 h2 (by simp) ?_
  cases L with
  | nil=>simp
  | cons a r=>simp
 ·have h0:0 < c.m.length:=List.length_pos_iff.2 hm;simp [hm,h0]
end Go.Proofs.YtpaopccohkldlaaGreatDoor
