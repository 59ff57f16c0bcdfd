/- Lemmas. Conditions: none. -/
import Derived.Test.YtpaopccohkldlaaGreatDoorI1
import Derived.Test.YtpaopccohkldlaaGreatDoorNet13
import Derived.Test.YtpaopccohkldlaaGreatDoorBase18
set_option linter.all false
namespace Go.Proofs.YtpaopccohkldlaaGreatDoor
section
open Go
theorem qs9 (v:Nat):qac Tryz.prog gl0 163 [u8V v] (u8V (qe3 v)):=by
 refine jfu 2 jbs rfl ?_;simp [i163,x163,u8V,qe3];refine jfr (fun h=>?_) (fun h=>?_)
 ·have:=jfy h;simp [show 3 < v by omega]
 ·have:=jfz h;simp [show ¬ 3 < v by omega]
theorem qu9 (v:Nat):qac Tryz.prog gl0 120 [u8V v] (u8V (rdN v)):=by
 refine jfu 2 ja4 rfl ?_;simp [i120,x120,u8V,rdN];omega
theorem qt9 (v:Nat):qac Tryz.prog gl0 160 [u8V v] (.bool (decide (v≤1))):=by
 refine jfu 2 jbp rfl ?_;simp [i160,x160,u8V]
theorem qqm (v:Nat):qac Tryz.prog gl0 121 [u8V v] (u8V (qrw v)):=by
 refine jfu 2 ja5 rfl ?_;simp [i121,x121];refine jfq (qt9 v) rfl ?_;simp [u8V];refine jfr (fun h=>?_) (fun h=>?_)
 ·have hv:v = 0∨v = 1:=by have:=jfy h; omega
  rcases hv with rfl | rfl <;> simp [qrw,IntKind.wrap,IntKind.bits,IntKind.signed]
 ·have hv:=jfz h;simp [qrw,hv]
theorem q4h (lo hi:Nat) (l:List Nat) (cap:Option Nat) (hl:l.length < 1000000000):qac Tryz.prog gl0 161 [.sl (l.map u8V) cap,u8V lo,u8V hi] (u8V (dec lo hi hi l)):=by
 obtain ⟨q,hq⟩:∃ r,dec lo hi hi l = r:=⟨_,rfl⟩;rw [hq];refine jfu 2 jbq rfl ?_;simp [i161,x161,u8V]
 refine jft (X:=Nat × Nat) (fun z=>[(13,qab z.1),(12,qab l.length),(11,.sl (l.map u8V) cap),(7,u8V z.2),(2,u8V hi),(1,u8V lo)]) (fun _=>[])
  (fun z=>z.1≤l.length/\dec lo hi z.2 (l.drop z.1) = q) (fun z=>l.length - z.1) (0,hi) ⟨by simp,by simpa using hq⟩ (by simp [qab,u8V]) (by simp) ?_
 rintro ⟨i,out⟩ ⟨h2,h3⟩;dsimp only at h2 h3 ⊢;simp [qab,u8V];refine jfr (fun h1=>?_) (fun h1=>?_)
 ·have hi':i < l.length:=jfy h1;have hw:=qbi i (by omega);rw [List.drop_eq_getElem_cons hi',dec] at h3;obtain ⟨v,hv⟩:∃ v,l[i] = v:=⟨_,rfl⟩;rw [hv] at h3;simp [hi',hv,u8V];refine jfr (fun h4=>?_) (fun h4=>?_)
  ·rw [if_pos (jfy h4)] at h3;simp [h3]
  ·rw [if_neg (jfz h4)] at h3;simp;refine jfr (fun h5=>?_) (fun h5=>?_)
   ·have h5':=jfy h5;rw [if_pos h5'] at h3;simp [hw];exact ⟨i + 1,out,⟨hi',h3⟩,⟨rfl,rfl⟩,by omega⟩
   ·have h5':=jfz h5;rw [if_neg h5'] at h3;simp [hw];exact ⟨i + 1,2,⟨hi',h3⟩,⟨rfl,rfl⟩,by omega⟩
 ·have hi':i = l.length:=by have:=jfz h1; omega
  subst hi';simp [dec] at h3;simp [h3]
theorem qaj (l:List Nat):jd6 (l.map u8V) = true:=V.pureL_map _ l fun _=>rfl
theorem q5e (l:List Nat) (cap:Option Nat) (hl:l.length < 1000000000):qac Tryz.prog gl0 122 [.sl (l.map u8V) cap] (u8V (dec 0 1 1 l)):=by
 refine jfu 2 ja6 rfl ?_;simp [i122,x122];refine jfq (q4h 0 1 l cap hl) (by simp only [jd6,V.pure,qaj,Bool.and_self]) ?_;simp [u8V]
theorem jag (l:List Nat) (cap:Option Nat) (hl:l.length < 1000000000):qac Tryz.prog gl0 123 [.sl (l.map u8V) cap] (u8V (dec 1 0 0 l)):=by
 refine jfu 2 ja7 rfl ?_;simp [i123,x123];refine jfq (q4h 1 0 l cap hl) (by simp only [jd6,V.pure,qaj,Bool.and_self]) ?_;simp [u8V]
theorem q5o (l:List Nat) (cap:Option Nat) (hl:l.length < 1000000000):qac Tryz.prog gl0 124 [.sl (l.map u8V) cap] (u8V (qsm 0 l)):=by
 obtain ⟨q,hq⟩:∃ r,qsm 0 l = r:=⟨_,rfl⟩;rw [hq];refine jfu 2 ja8 rfl ?_;simp [i124,x124]
 refine jft (X:=Nat × Nat) (fun z=>[(8,qab z.1),(7,qab l.length),(6,.sl (l.map u8V) cap),(3,u8V z.2)]) (fun _=>[])
  (fun z=>z.1≤l.length/\z.2≤1/\qsm z.2 (l.drop z.1) = q) (fun z=>l.length - z.1) (0,0) ⟨by simp,by simp,by simpa using hq⟩ (by simp [qab,u8V]) (by simp) ?_
 rintro ⟨i,out⟩ ⟨h2,h4,h3⟩;dsimp only at h2 h3 h4 ⊢;simp [qab,u8V];refine jfr (fun h1=>?_) (fun h1=>?_)
 ·have hi':i < l.length:=jfy h1;have hw:=qbi i (by omega);rw [List.drop_eq_getElem_cons hi',qsm] at h3;obtain ⟨v,hv⟩:∃ v,l[i] = v:=⟨_,rfl⟩;rw [hv] at h3;have hk:=qt9 v;simp only [u8V] at hk;simp [hi',hv,u8V];refine jfq hk rfl ?_;simp;refine jfr (fun h5=>?_) (fun h5=>?_)
  ·have hv1:v = 0∨v = 1:=by have:=jfy h5; omega
   have ho:out = 0∨out = 1:=by omega
   rcases hv1 with rfl | rfl
   ·simp only [if_true] at h3;rcases ho with rfl | rfl
    ·simp [hw];exact ⟨i + 1,0,⟨hi',by omega,h3⟩,⟨rfl,rfl⟩,by omega⟩
    ·simp [hw];exact ⟨i + 1,1,⟨hi',by omega,h3⟩,⟨rfl,rfl⟩,by omega⟩
   ·simp only [if_true,Nat.one_ne_zero,if_false] at h3;rcases ho with rfl | rfl
    ·simp [hw];exact ⟨i + 1,1,⟨hi',by omega,h3⟩,⟨rfl,rfl⟩,by omega⟩
    ·simp [hw];exact ⟨i + 1,0,⟨hi',by omega,h3⟩,⟨rfl,rfl⟩,by omega⟩
  ·have h5':=jfz h5;rw [if_neg (by omega),if_neg (by omega)] at h3;subst h3;simp
 ·have hi':i = l.length:=by have:=jfz h1; omega
  subst hi';simp [qsm] at h3;simp [h3]
theorem q5l (s a b:Nat):qac Tryz.prog gl0 125 [u8V s,u8V a,u8V b] (u8V (q1g s a b)):=by
 have ha:=qu9 a;have hb:=qu9 b;unfold q1g;simp only [u8V] at ha hb ⊢;refine jfu 2 ja9 rfl ?_;simp [i125,x125];refine jfr (fun h1=>?_) (fun h1=>?_)
 ·have h1':s = 0:=jfy h1;subst h1';simp;refine jfq ha rfl ?_;simp
 have h1':¬ s = 0:=jfz h1;simp;refine jfr (fun h2=>?_) (fun h2=>?_)
 ·have h2':s = 1:=jfy h2;subst h2';simp;refine jfq hb rfl ?_;simp
 have h2':¬ s = 1:=jfz h2;simp;refine jfr (fun h3=>?_) (fun h3=>?_)
 ·have h3':a = b:=jfy h3;subst h3';simp;refine jfq ha rfl ?_;simp [h1',h2']
 have h3':¬ a = b:=jfz h3;simp [h1',h2',h3']
theorem q5n (e d:Nat):qac Tryz.prog gl0 126 [u8V e,u8V d] (u8V (q2d e d)):=by
 have hb:=qu9 d;unfold q2d;simp only [u8V] at hb ⊢;refine jfu 2 jba rfl ?_;simp [i126,x126];refine jfr (fun h1=>?_) (fun h1=>?_)
 ·have h1':e = 0:=jfy h1;subst h1';simp
 have h1':¬ e = 0:=jfz h1;simp;refine jfr (fun h2=>?_) (fun h2=>?_)
 ·have h2':e = 1:=jfy h2;subst h2';simp;refine jfq hb rfl ?_;simp
 have h2':¬ e = 1:=jfz h2;simp [h1',h2']
theorem jdm (v:Nat):qac Tryz.prog gl0 162 [u8V v] (.bool (decide (qe3 v = 2))):=by
 have hc:=qs9 v;refine jfu 2 jbr rfl ?_;simp [i162,x162];refine jfq hc rfl ?_;simp [u8V]
theorem q94 (v:Nat):qac Tryz.prog gl0 164 [u8V v] (.bool (v != 3)):=by
 have e:(v != 3) = !decide (v = 3):=rfl;rw [e];refine jfu 2 jbt rfl ?_;simp [i164,x164,u8V]
def qd2 (p:Nat->Bool):List Nat->Nat->Int
 | [],_=>-1
 | x :: r,i=>if p x = true then (i:Int) else qd2 p r (i + 1)
theorem qis (p:Nat->Bool):∀ (l:List Nat) (i:Nat),decide (0≤qd2 p l i) = l.any p
 | [],i=>by simp [qd2]
 | x :: l,i=>by
  cases h:p x with
  | true=>simp [qd2,h]
  | false=>
   have:=qis p l (i + 1);simp only [qd2,h,Bool.false_eq_true,if_false,List.any_cons,Bool.false_or];exact this
theorem qkn {p:Nat->Bool}:∀ {l:List Nat} {i:Nat},l.find? p = none->qd2 p l i = -1
 | [],_,_=>rfl
 | x :: l,i,h=>by
  rw [List.find?_cons] at h
  cases hx:p x with
  | true=>rw [hx] at h; simp at h
  | false=>
   rw [hx] at h;simp only [qd2,hx,Bool.false_eq_true,if_false];exact qkn h
theorem qko {p:Nat->Bool} {v:Nat}:∀ {l:List Nat} {i:Nat},l.find? p = some v->∃ j:Nat,qd2 p l i = ((i + j:Nat):Int)/\l[j]? = some v
 | [],_,h=>by simp at h
 | x :: l,i,h=>by
  rw [List.find?_cons] at h
  cases hx:p x with
  | true=>
   rw [hx] at h;simp only [Option.some.injEq] at h;exact ⟨0,by simp [qd2,hx],by simp [h]⟩
  | false=>
   rw [hx] at h;obtain ⟨j,h1,h2⟩:=qko (i:=i + 1) h;refine ⟨j + 1,?_,by simpa using h2⟩;simp only [qd2,hx,Bool.false_eq_true,if_false];rw [h1];congr 1;omega
theorem qhm (l:List Nat) (cap:Option Nat) (g:FuncId) (cp:List V) (p:Nat->Bool) (hf:∀ x ∈ l,qac Tryz.prog gl0 g (u8V x :: cp) (.bool (p x))) (hp:jd6 cp = true) (hl:l.length < 1000000000000):qac Tryz.prog gl0 159 [.sl (l.map u8V) cap,.fn g [] cp] (.int .i64 (qd2 p l 0)):=by
 obtain ⟨q,hq⟩:∃ r,qd2 p l 0 = r:=⟨_,rfl⟩;rw [hq];refine jfu 2 q5z rfl ?_;simp [q99,jd0]
 refine jft (X:=Nat) (fun i=>[(8,qab i),(7,qab l.length),(0,.sl (l.map u8V) cap),(1,.fn g [] cp)]) (fun _=>[])
  (fun i=>i≤l.length/\qd2 p (l.drop i) i = q) (fun i=>l.length - i) 0 ⟨by simp,by simpa using hq⟩ (by simp [qab]) (by simp) ?_
 rintro i ⟨h2,h3⟩;simp [qab];refine jfr (fun h1=>?_) (fun h1=>?_)
 ·have h1':i < l.length:=jfy h1;have hw:=qbi i (by omega);rw [List.drop_eq_getElem_cons h1'] at h3;simp only [qd2] at h3;obtain ⟨v,hv⟩:∃ v,l[i] = v:=⟨_,rfl⟩;have hfv:=hf v (hv ▸ jf3 h1');rw [hv] at h3;simp only [u8V] at hfv;simp [h1',hv,u8V];refine jfq hfv (by simp only [jd6,V.pure,hp,Bool.and_self]) ?_;simp;refine jfr (fun h4=>?_) (fun h4=>?_)
  ·rw [if_pos h4] at h3;simp [h3]
  ·rw [if_neg (by simp [h4])] at h3;simp [hw];exact ⟨i + 1,⟨h1',h3⟩,rfl,by omega⟩
 ·have h1':i = l.length:=by have:=jfz h1; omega
  subst h1';simp [qd2] at h3;simp [h3]
theorem qij (l:List Nat) (cap:Option Nat) (g:FuncId) (cp:List V) (p:Nat->Bool) (hf:∀ x ∈ l,qac Tryz.prog gl0 g (u8V x :: cp) (.bool (p x))) (hp:jd6 cp = true) (hl:l.length < 1000000000000):qac Tryz.prog gl0 117 [.sl (l.map u8V) cap,.fn g [] cp] (.bool (l.any p)):=by
 refine jfu 2 q5v rfl ?_;simp [q95,jdw];refine jfq (qhm l cap g cp p hf hp hl) (by simp [hp,qaj]) ?_;simp [qis]
theorem qxh (x:Nat) (l:List Nat) (cap:Option Nat) (hl:l.length < 1000000000000):qac Tryz.prog gl0 214 [.sl (l.map u8V) cap,u8V x] (.int .i64 (qd2 (fun v=>x == v) l 0)):=by
 obtain ⟨q,hq⟩:∃ r,qd2 (fun v=>x == v) l 0 = r:=⟨_,rfl⟩;rw [hq];refine jfu 2 jcd rfl ?_;simp [i214,x214]
 refine jft (X:=Nat) (fun i=>[(8,qab i),(7,qab l.length),(0,.sl (l.map u8V) cap),(1,u8V x)]) (fun _=>[])
  (fun i=>i≤l.length/\qd2 (fun v=>x == v) (l.drop i) i = q) (fun i=>l.length - i) 0 ⟨by simp,by simpa using hq⟩ (by simp [qab]) (by simp) ?_
 rintro i ⟨h2,h3⟩;simp [qab];refine jfr (fun h1=>?_) (fun h1=>?_)
 ·have h1':i < l.length:=jfy h1;have hw:=qbi i (by omega);rw [List.drop_eq_getElem_cons h1'] at h3;simp only [qd2] at h3;obtain ⟨v,hv⟩:∃ v,l[i] = v:=⟨_,rfl⟩;rw [hv] at h3;simp [h1',hv,u8V];refine jfr (fun h4=>?_) (fun h4=>?_)
  ·rw [if_pos (by simpa using jfy h4)] at h3;simp [h3]
  ·rw [if_neg (by simpa using jfz h4)] at h3;simp [hw];exact ⟨i + 1,⟨h1',h3⟩,rfl,by omega⟩
 ·have h1':i = l.length:=by have:=jfz h1; omega
  subst h1';simp [qd2] at h3;simp [h3]
theorem qz4 (x:Nat) (l:List Nat):(l.any fun v=>x == v) = decide (x ∈ l):=by
 rw [Bool.eq_iff_iff];simp
theorem qik (x:Nat) (l:List Nat) (cap:Option Nat) (hl:l.length < 1000000000000):qac Tryz.prog gl0 191 [.sl (l.map u8V) cap,u8V x] (.bool (decide (x ∈ l))):=by
 refine jfu 2 jb4 rfl ?_;simp [i191,x191];refine jfq (qxh x l cap hl) (by simp [u8V,qaj]) ?_;simp [qis,qz4]
theorem qrh (l:List Nat) (cap:Option Nat) (hl:l.length < 1000000000000):qac Tryz.prog gl0 165 [.sl (l.map u8V) cap] (.bool (decide (0 ∈ l) && decide (1 ∈ l))):=by
 refine jfu 2 jbu rfl ?_;simp [i165,x165];refine jfq (qik 0 l cap hl) (by simp [qaj]) ?_;simp;refine jfr (fun h=>?_) (fun h=>?_)
 ·simp [h];refine jfq (qik 1 l cap hl) (by simp [qaj]) ?_;simp
 ·simp [h]
set_option maxRecDepth 100000 in
theorem q5g (l:List Nat) (cap:Option Nat) (hl:l.length < 1000000000):qac Tryz.prog gl0 127 [.sl (l.map u8V) cap] (u8V (q2p l)):=by
 have h1:=qhm l cap 164 [] (fun v=>v != 3) (fun x _=>q94 x) rfl (by omega);have h2:=qij l cap 162 [] (fun v=>decide (qe3 v = 2)) (fun x _=>jdm x) rfl (by omega);obtain ⟨k,hk⟩:∃ k,qd2 (fun v=>v != 3) l 0 = k:=⟨_,rfl⟩
 have hany:(l.any fun v=>decide (qe3 v = 2)) = decide (∃ u ∈ l,qe3 u = 2):=by
  rw [Bool.eq_iff_iff]; simp
 rw [hany] at h2;rw [hk] at h1;unfold q2p;refine jfu 2 jbb rfl ?_;simp [i127,x127];refine jfq h1 (by simp [qaj]) ?_;simp
 cases hf:l.find? (fun v=>v != 3) with
 | none=>
  have hk1:k = -1:=by rw [<- hk]; exact qkn hf
  subst hk1;simp [u8V]
 | some v=>
  obtain ⟨j,hj,hv⟩:=qko (i:=0) hf;have hkj:k = (j:Int):=by rw [<- hk,hj]; congr 1; omega
  subst hkj;have hjl:j < l.length:=(List.getElem?_eq_some_iff.1 hv).1;have hvv:l[j] = v:=(List.getElem?_eq_some_iff.1 hv).2;simp;refine jfq (qrh l cap (by omega)) (by simp [qaj]) ?_;simp;by_cases h01:0 ∈ l/\1 ∈ l
  ·simp [h01,u8V]
  ·have e:(decide (0 ∈ l) && decide (1 ∈ l)) = false:=by
    rw [Bool.eq_false_iff];simpa using h01
   simp [e];refine jfq h2 (by simp [qaj]) ?_;by_cases hu:∃ u ∈ l,qe3 u = 2
   ·simp [hu,u8V]
   ·simp [hu,h01,hjl,hvv,u8V]
theorem qjm (l:List Nat) (cap:Option Nat):jd6 [.sl (l.map u8V) cap] = true:=by simp only [jd6,V.pure,qaj,Bool.and_self]
set_option maxRecDepth 100000 in
set_option maxHeartbeats 4000000 in
theorem qzm (k:Nat) (hk:k < 256) (l:List Nat) (cap:Option Nat) (hl:l.length < 1000000000):qac Tryz.prog gl0 83 [u8V k,.sl (l.map u8V) cap] (u8V (qwo k l)):=by
 have hf:=qtt (k:Int) (by omega) (by omega);have hland:=q5e l cap hl;have hlor:=jag l cap hl;have hlxor:=q5o l cap hl;have hbus:=q5g l cap hl;obtain ⟨A,hA⟩:∃ p,dec 0 1 1 l = p:=⟨_,rfl⟩;obtain ⟨B,hB⟩:∃ p,dec 1 0 0 l = p:=⟨_,rfl⟩;obtain ⟨X,hX⟩:∃ p,qsm 0 l = p:=⟨_,rfl⟩;obtain ⟨U,hU⟩:∃ p,q2p l = p:=⟨_,rfl⟩;have hnA:=qqm A;have hnB:=qqm B;have hnX:=qqm X;obtain ⟨NA,hNA⟩:∃ p,qrw A = p:=⟨_,rfl⟩;obtain ⟨NB,hNB⟩:∃ p,qrw B = p:=⟨_,rfl⟩;obtain ⟨NX,hNX⟩:∃ p,qrw X = p:=⟨_,rfl⟩;rw [hA] at hland;rw [hB] at hlor;rw [hX] at hlxor;rw [hU] at hbus;rw [hNA] at hnA;rw [hNB] at hnB;rw [hNX] at hnX;have hg:∀ j (h:j < l.length),l.getD j 0 = l[j]:=fun j h=>by simp [h]
 refine jfu 2 ok83 rfl ?_;obtain ⟨lo,hlo⟩:∃ p,kLo k = p:=⟨_,rfl⟩;obtain ⟨hi,hhi⟩:∃ p,kHi k = p:=⟨_,rfl⟩;rw [hlo,hhi] at hf;unfold qwo;rw [hlo,hhi];simp only [u8V] at hland hlor hlxor hbus hnA hnB hnX;simp [i83,x83,u8V];refine jfq hf rfl ?_;simp;refine jfr (fun h1=>?_) (fun h1=>?_)
 ·have h1':=jfy h1;rw [if_pos (.inl h1')];simp [h1]
 have h1':=jfz h1;simp [h1];refine jfr (fun h2=>?_) (fun h2=>?_)
 ·have h2':=jfy h2;rw [if_pos (.inr h2')];simp
 have h2':=jfz h2;rw [if_neg (by omega)]
 have hk15:k≤15:=by
  by_cases hc:k≤15
  ·exact hc
  ·exfalso;have:hi = -1:=by rw [<- hhi,kHi,if_pos (by omega)]
   omega
 have hc:k = 0∨k = 1∨k = 2∨k = 3∨k = 4∨k = 5∨k = 6∨k = 7∨k = 8∨k = 9∨k = 10∨k = 11∨k = 12∨k = 13∨k = 14∨k = 15:=by omega
 rcases hc with rfl | rfl | rfl | rfl | rfl | rfl | rfl | rfl | rfl | rfl | rfl | rfl | rfl | rfl | rfl | rfl
 ·simp [qe0]
 ·simp [qe0]
 ·simp [qe0]
 ·have h0:0 < l.length:=by
   have:lo = 1:=by rw [<- hlo]; rfl
   omega
  have hr:=qu9 l[0];simp only [u8V] at hr;have e:qe0 3 l = rdN l[0]:=by rw [<- hg 0 h0]; rfl
  rw [e];simp [h0,u8V];refine jfq hr rfl ?_;simp
 ·have h0:0 < l.length:=by
   have:lo = 1:=by rw [<- hlo]; rfl
   omega
  have hr:=qqm l[0];simp only [u8V] at hr;have e:qe0 4 l = qrw l[0]:=by rw [<- hg 0 h0]; rfl
  rw [e];simp [h0,u8V];refine jfq hr rfl ?_;simp
 ·rw [show qe0 5 l = A from hA];simp;refine jfq hland (qjm _ _) ?_;simp
 ·rw [show qe0 6 l = NA by rw [<- hNA,<- hA]; rfl];simp;refine jfq hland (qjm _ _) ?_;simp;refine jfq hnA rfl ?_;simp
 ·rw [show qe0 7 l = B from hB];simp;refine jfq hlor (qjm _ _) ?_;simp
 ·rw [show qe0 8 l = NB by rw [<- hNB,<- hB]; rfl];simp;refine jfq hlor (qjm _ _) ?_;simp;refine jfq hnB rfl ?_;simp
 ·rw [show qe0 9 l = X from hX];simp;refine jfq hlxor (qjm _ _) ?_;simp
 ·rw [show qe0 10 l = NX by rw [<- hNX,<- hX]; rfl];simp;refine jfq hlxor (qjm _ _) ?_;simp;refine jfq hnX rfl ?_;simp
 ·have h0:l.length = 3:=by
   have e1:lo = 3:=by rw [<- hlo]; rfl
   have e2:hi = 3:=by rw [<- hhi]; rfl
   omega
  have hr:=q5l (l[0]'(by omega)) (l[1]'(by omega)) (l[2]'(by omega));have e:qe0 11 l = q1g (l[0]'(by omega)) (l[1]'(by omega)) (l[2]'(by omega)):=by rw [<- hg 0 (by omega),<- hg 1 (by omega),<- hg 2 (by omega)]; rfl
  rw [e];generalize q1g (l[0]'(by omega)) (l[1]'(by omega)) (l[2]'(by omega)) = M at hr ⊢;simp only [u8V] at hr;simp [show 0 < l.length by omega,show 1 < l.length by omega,show 2 < l.length by omega,u8V];intro gm
  first | refine ⟨_,_,_,.pure hr rfl,?_⟩ | refine ⟨_,⟨_,_,.pure hr rfl⟩,?_⟩ | refine ⟨_,_,⟨_,.pure hr rfl⟩,?_⟩
  simp
 ·have h0:l.length = 2:=by
   have e1:lo = 2:=by rw [<- hlo]; rfl
   have e2:hi = 2:=by rw [<- hhi]; rfl
   omega
  have hr:=q5n (l[0]'(by omega)) (l[1]'(by omega));have e:qe0 12 l = q2d (l[0]'(by omega)) (l[1]'(by omega)):=by rw [<- hg 0 (by omega),<- hg 1 (by omega)]; rfl
  rw [e];generalize q2d (l[0]'(by omega)) (l[1]'(by omega)) = M at hr ⊢;simp only [u8V] at hr;simp [show 0 < l.length by omega,show 1 < l.length by omega,u8V];intro gm
  first | refine ⟨_,_,_,.pure hr rfl,?_⟩ | refine ⟨_,⟨_,_,.pure hr rfl⟩,?_⟩ | refine ⟨_,_,⟨_,.pure hr rfl⟩,?_⟩
  simp
 ·rw [show qe0 13 l = U from hU];simp;refine jfq hbus (qjm _ _) ?_;simp
 ·simp [qe0]
 ·simp [qe0]
end
section
open Go
attribute [simp] qaj
@[simp] theorem q8v (p:Pt):p.v.cells = [.sl (p.i.map u8V) none,.sl (p.s.map u8V) none]:=rfl
@[simp] theorem q3d (p:Pt):p.v.cellsOk = true:=rfl
@[simp] theorem jc5 (p:Pt):V.pure p.v = true:=by simp [Pt.v]
theorem qzo {a b p:Nat} (h:a % b = p):((a:Int)).tmod (b:Int) = (p:Int):=by rw [<- h]; rfl
end
section
open Go
theorem qsx (v:Nat) (h:v≤3):qac Tryz.prog gl0 118 [u8V v] (.bool false):=by
 refine jfu 2 ja2 rfl ?_;simp [i118,x118,u8V];omega
theorem qt4 (f:FuncId) (l:List Nat) (cap:Option Nat) (hl:l.length < 1000000000) (hf:∀ v ∈ l,qac Tryz.prog gl0 f [u8V v] (.bool false)):qac Tryz.prog gl0 159 [.sl (l.map u8V) cap,.fn f [] []] (.int .i64 (-1)):=by
 refine jfu 2 q5z rfl ?_;simp [q99,jd0]
 refine jft (X:=Nat) (fun i=>[(8,qab i),(7,qab l.length),(0,.sl (l.map u8V) cap),(1,.fn f [] [])]) (fun _=>[])
  (fun i=>i≤l.length) (fun i=>l.length - i) 0 (Nat.zero_le _) (by simp [qab]) (by simp) ?_
 intro i hi;simp [qab];refine jfr (fun hb=>?_) (fun hb=>?_)
 ·have hi':i < l.length:=jfy hb;have hw:=qbi i (by omega);obtain ⟨y,hy⟩:∃ y,l[i] = y:=⟨_,rfl⟩;have hfy:=hf y (by rw [<- hy]; exact jf3 hi');simp only [u8V] at hfy;simp [hi',hy,u8V];refine jfq hfy rfl ?_;simp [hw];exact ⟨i + 1,hi',rfl,by omega⟩
 ·simp
theorem qki (f:FuncId) (l:List Nat) (cap:Option Nat) (hl:l.length < 1000000000) (hf:∀ v ∈ l,qac Tryz.prog gl0 f [u8V v] (.bool false)):qac Tryz.prog gl0 117 [.sl (l.map u8V) cap,.fn f [] []] (.bool false):=by
 refine jfu 2 q5v rfl ?_;simp [q95,jdw];refine jfq (qt4 f l cap hl hf) (by simp [jd6,V.pure,qaj]) ?_;simp
theorem qgi (c:Ci) (hl:c.n.length < 1000000):qac Tryz.prog gl0 44 [c.v] (.sl (qak (ids 0 c.n 0)) (some (cnt 0 c.n))):=by
 have:=je4 (qb5.one (qxj c hl) fun _ _ h=>qiv h) (qdf _ c.n 0).2;rw [qh6] at this;simpa [cnt] using this
theorem qeg (c:Ci) (hl:c.n.length < 1000000):qac Tryz.prog gl0 45 [c.v] (.sl (qak (ids 14 c.n 0)) (some (cnt 14 c.n))):=by
 have:=je4 (qb5.one (qyq c hl) fun _ _ h=>qiv h) (qdf _ c.n 0).2;rw [qh6] at this;simpa [cnt] using this
theorem q1k (c:Ci) (hg:c.good):qb5 Tryz.prog gl0 88 [c.v,.sl [.int .u8 15] (some 1)] (q2m 1 (.sl [] (some 0))):=by
 have h1:=je8 (q5u c [15] (some 1) (by have:=hg.n1; omega) (by simp)) (qdf [15] c.n 0).2 (qdf [15] c.n 0).1
 have h2:ids 15 c.n 0 = []:=by
  rw [List.eq_nil_iff_forall_not_mem];intro x hx;obtain ⟨hx',hk⟩:=qks hx;exact hg.k _ (jf3 hx') hk
 rw [qh6,h2] at h1;simpa [qak] using h1
theorem qzf (c:Ci) (hg:c.good) (p:Pt) (hp:p.fit c):qac Tryz.prog gl0 80 [c.v,p.v] (.int .i64 0):=by
 have hn1:=hg.n1;have hm:=hg.m;have l0:=qcd 0 c.n;have l1:=qcd 14 c.n;have hpi:=hp.i;have hps:=hp.s;have ci:=qgi c (by omega);have cs:=qeg c (by omega);have cm:=q1k c hg;have k1:=qki 118 p.i none (by omega) fun v hv=>qsx v (hp.iv v hv);have k2:=qki 118 p.s none (by omega) fun v hv=>qsx v (hp.sv v hv);obtain ⟨I,hI⟩:∃ I,ids 0 c.n 0 = I:=⟨_,rfl⟩;obtain ⟨S,hS⟩:∃ S,ids 14 c.n 0 = S:=⟨_,rfl⟩;have hIl:I.length = cnt 0 c.n:=by rw [<- hI]; rfl
 have hSl:S.length = cnt 14 c.n:=by rw [<- hS]; rfl
 rw [hI] at ci;rw [hS] at cs;refine jfu 2 ok80 rfl ?_;simp [i80,x80,hm];intro gf1 gf2;intro gf3;refine je1 1 cm (by simp) ?_;simp;intro gm;refine ⟨_,_,_,.pure ci (by simp),?_⟩;simp [hpi,hIl];refine ⟨_,_,_,.pure cs (by simp),?_⟩;simp [hps,hSl];refine ⟨rfl,?_⟩;refine jfq k1 (by simp) ?_;simp;refine jfq k2 (by simp) ?_;simp
def qc6 (c:Ci):Pt:=⟨List.replicate (cnt 0 c.n) 2,List.replicate (cnt 14 c.n) 2⟩
theorem qs1 (c:Ci):(qc6 c).fit c:=⟨by simp [qc6],by simp [qc6],fun x hx=>by rw [List.eq_of_mem_replicate hx]; omega,fun x hx=>by rw [List.eq_of_mem_replicate hx]; omega⟩
end
section
open Go
def qhw (c:Ci) (l:V):V:=.agg [.sl (c.n.map Nd.v) none,.sl (c.s.map .str) none,.sl (c.m.map Md.v) none,.sl (qde c.o) none,l]
@[simp] theorem q60 (c:Ci) (l:V):(qhw c l).cells = [.sl (c.n.map Nd.v) none,.sl (c.s.map .str) none,.sl (c.m.map Md.v) none,.sl (qde c.o) none,l]:=rfl
@[simp] theorem run_ok (c:Ci) (xs:List V) (cap:Option Nat):(qhw c (.sl xs cap)).cellsOk = true:=rfl
@[simp] theorem jdg (c:Ci) (b g o l:Nat) (cap:Option Nat):(qhw c (.ref b g o l cap)).cellsOk = true:=rfl
theorem run_pure (c:Ci) (l:List Nat) (cap:Option Nat):(qhw c (.sl (l.map u8V) cap)).pure = true:=by
 have:=qb2 c;simp only [Ci.v,V.pure,jd6,Bool.and_true,Bool.and_eq_true] at this;simp [qhw,this]
theorem qwd (c:Ci) (l:List Nat) (cap:Option Nat) (m:Nat) (h:m < l.length) (_hl:l.length < 1000000):qac Tryz.prog gl0 128 [qhw c (.sl (l.map u8V) cap),.int .i64 (m:Int)] (u8V (qe3 (l.getD m 0))):=by
 obtain ⟨x,hx⟩:∃ x,l[m] = x:=⟨_,rfl⟩;have hd:l.getD m 0 = x:=by rw [jf0,jf4 h,hx]; rfl
 rw [hd];have hc:=qs9 x;simp only [u8V] at hc;refine jfu 2 jbc rfl ?_;simp [i128,x128,qhw,show ¬ l.length≤m by omega,h,hx,u8V];intro gf;refine jfq hc rfl ?_;simp
theorem qkg (l:List Nat) (cap:Option Nat) (_hl:l.length < 1000000):qac Tryz.prog gl0 129 [.sl (l.map u8V) cap] (.sl (l.map u8V) (some l.length)):=by
 refine jfu 2 jbd rfl ?_;simp [i129,x129];rw [jf2 (by simp)];exact qae _ (qaj l)
theorem qbl:qac Tryz.prog gl0 129 [.nil] (.sl [] (some 0)):=qac.wide (qkg [] none (by simp)) ⟨VLe.nil',trivial⟩ (.refl _)
theorem qqr {c:Ci} (hg:c.good) {n:Nat} (hn:n ∈ ids 14 c.n 0):∃ h:n < c.n.length,∃ x:Int,c.n[n].i = [x]/\0≤x/\x < c.n.length/\c.n[n].k = 14:=by
 obtain ⟨h,hk⟩:=qks hn;have h1:=qi4 ((qhd hg.sh).2.2.1 _ (jf3 h));have hv:=hg.val.i n h;rw [c.nd_get h] at hv;have hw:=h1.2.1;rw [hk] at hw
 have hl:c.n[n].i.length = 1:=by
  have e1:kLo 14 = 1:=rfl;have e2:kHi 14 = 1:=rfl;simp only [qwp,e1,e2,Bool.and_eq_true,decide_eq_true_eq] at hw;omega
 match hq:c.n[n].i,hl with
 | [x],_=>
  rw [hq] at hv;have:=hv x (by simp);exact ⟨h,x,hq,this.1,this.2,hk⟩
theorem qcr {α β:Type} {l:List α} {i:Nat} {y:α} (F:α->β) (h:i < l.length) (hy:l[i] = y):(l.take (i + 1)).map F = (l.take i).map F ++ [F y]:=by
 rw [List.take_succ_eq_append_getElem h,hy]; simp
set_option maxHeartbeats 4000000 in
theorem quu (c:Ci) (hg:c.good) (l:List Nat) (cap:Option Nat) (hll:l.length = c.n.length):qac Tryz.prog gl0 84 [qhw c (.sl (l.map u8V) cap)] (qfq (qqs c fun i=>l.getD i 0) (qqt c fun i=>l.getD i 0)):=by
 have hn1:=hg.n1;have hno:c.o.length≤16384:=(qk2 hg.sh).2.2.2;have l1:=qcd 14 c.n;have cs:=qeg c (by omega);have hcl:=qkg;obtain ⟨F,hF⟩:∃ F:Int->Nat,F = fun n=>qe3 (l.getD n.toNat 0):=⟨_,rfl⟩;obtain ⟨E,hE⟩:∃ E:Nat->Nat,E = q8e c fun i=>l.getD i 0:=⟨_,rfl⟩;have hres:qfq (qqs c fun i=>l.getD i 0) (qqt c fun i=>l.getD i 0) = qfq (c.o.map F) ((ids 14 c.n 0).map E):=by rw [hF,hE]; rfl
 rw [hres];have hdff:=fun n (hn:n ∈ ids 14 c.n 0)=>qqr hg hn;obtain ⟨S,hS⟩:∃ S,ids 14 c.n 0 = S:=⟨_,rfl⟩;have hSl:S.length = cnt 14 c.n:=by rw [<- hS]; rfl
 rw [hS] at cs hdff ⊢;rw [<- hSl] at cs l1;have hrp:=run_pure c l cap;refine jfu 2 ok84 rfl ?_;simp [i84,x84];intro gf1 gf2 gf3;generalize gf1 1 = g1;generalize gf2 2 = g2;generalize gf3 3 = g3
 refine jft (X:=Nat × Option (Nat × List V)) (fun z=>[(14,qab z.1),(13,qab c.o.length),(12,.sl (qde c.o) none),(3,.ptr 3 g3 0 0),(2,.ptr 2 g2 0 0),(1,.ptr 1 g1 0 0)])
  (fun z=>[(3,.row g3 2 [.agg [qbt 24 z.2,.nil]]),(2,.row g2 2 [.agg [.nil,.nil]]),(1,.row g1 5 [qhw c (.sl (l.map u8V) cap)])] ++ qbm 24 1 z.2)
  (fun z=>z.1≤c.o.length/\(z.2 = none↔z.1 = 0)/\qbe z.2 = ((c.o.take z.1).map F).map u8V) (fun z=>c.o.length - z.1) (0,none) ⟨by simp,by simp,by simp [qbe]⟩ (by simp [qab]) (by simp [qbt,qbm]) ?_
 rintro ⟨i,acc⟩ ⟨q1,q2,q3⟩;dsimp only at q1 q2 q3 ⊢;simp [qab];refine jfr (fun hb=>?_) (fun hb=>?_)
 ·have hi:i < c.o.length:=jfy hb;have hw:=qbi i (by omega);obtain ⟨y,hy⟩:∃ y,c.o[i] = y:=⟨_,rfl⟩;obtain ⟨y0,y1⟩:=hg.o (x:=y) (by rw [<- hy]; exact jf3 hi);obtain ⟨m,rfl⟩:=Int.eq_ofNat_of_zero_le y0;have hv:=qwd c l cap m (by omega) (by omega);have hFm:qe3 (l.getD m 0) = F (m:Int):=by rw [hF]; rfl
  rw [hFm] at hv;have hnx:=congrArg (List.map u8V) (qcr F hi hy);rw [List.map_append,<- q3] at hnx;simp only [List.map_cons,List.map_nil,u8V] at hnx hv
  cases acc with
  | none=>
   have hi0:i = 0:=q2.1 rfl;simp [qbt,qbm,hi,qbq,hy];intro gm;refine ⟨_,_,_,.pure hv (by simp),?_⟩;simp [hw];refine ⟨rfl,i + 1,some (gm 24,[.int .u8 (F (m:Int):Int)]),⟨hi,by simp,by simpa [qbe,u8V] using hnx.symm⟩,by simp,by simp,by omega⟩
  | some gl=>
   obtain ⟨g,r⟩:=gl;simp only [qbe] at q3 hnx;simp [qbt,qbm,hi,qbq,hy];intro gm;refine ⟨_,_,_,.pure hv (by simp),?_⟩;simp [hw];refine ⟨by have:=congrArg List.length q3; simp at this; omega,rfl,i + 1,some (g + 1,r ++ [.int .u8 (F (m:Int):Int)]),⟨hi,by simp,by simpa [qbe,u8V] using hnx.symm⟩,by simp,by simp,by omega⟩
 have hi:i = c.o.length:=by have:=jfz hb; omega
 subst hi;rw [List.take_length] at q3;simp;refine jfq cs (by simp) ?_;simp
 refine jem (X:=Nat × Option (Nat × List V)) (fun z=>[(31,qab z.1),(30,qab S.length),(29,.sl (qak S) (some S.length)),(3,.ptr 3 g3 0 0),(2,.ptr 2 g2 0 0),(1,.ptr 1 g1 0 0)])
  (fun z=>[(3,.row g3 2 [.agg [qbt 24 acc,qbt 55 z.2]]),(2,.row g2 2 [.agg [.nil,.nil]]),(1,.row g1 5 [qhw c (.sl (l.map u8V) cap)])] ++ (qbm 24 1 acc ++ qbm 55 1 z.2))
  (fun z=>z.1≤S.length/\(z.2 = none↔z.1 = 0)/\qbe z.2 = ((S.take z.1).map E).map u8V) (fun z=>S.length - z.1) (.done ⟨(0,none),⟨by simp,by simp,by simp [qbe]⟩,by simp [qab],?_⟩) ?_
 ·cases acc with
  | none=>simp [qbt,qbm]
  | some gl=>simp [qbt,qbm]
 rintro ⟨j,acc2⟩ ⟨p1,p2,p3⟩;dsimp only at p1 p2 p3 ⊢;simp [qab];refine jfr (fun hb2=>?_) (fun hb2=>?_)
 ·have hj:j < S.length:=jfy hb2;have hw:=qbi j (by omega);obtain ⟨n,hn⟩:∃ n,S[j] = n:=⟨_,rfl⟩;obtain ⟨hnc,x,hxi,x0,x1,-⟩:=hdff n (by rw [<- hn]; exact jf3 hj);obtain ⟨m,rfl⟩:=Int.eq_ofNat_of_zero_le x0;have hv:=qwd c l cap m (by omega) (by omega);have hr:=qu9 (qe3 (l.getD m 0));have hEn:rdN (qe3 (l.getD m 0)) = E n:=by rw [hE]; simp only [q8e]; rw [c.nd_get hnc,hxi]; rfl
  rw [hEn] at hr;obtain ⟨q,hq⟩:∃ q,qe3 (l.getD m 0) = q:=⟨_,rfl⟩;rw [hq] at hv hr;obtain ⟨y,hy⟩:∃ y,c.n[n] = y:=⟨_,rfl⟩;rw [hy] at hxi;have hnx:=congrArg (List.map u8V) (qcr E hj hn);rw [List.map_append,<- p3] at hnx;simp only [List.map_cons,List.map_nil,u8V] at hnx hv hr;have h1:qde [(m:Int)] = [.int .i64 (m:Int)]:=rfl;rcases acc with _ | gl <;> rcases acc2 with _ | gl2
  case' none.none=>
   simp [hj,qav,hn,hnc,hy,hxi,qbt,qbm,h1];intro gm
   first | refine ⟨_,_,_,.pure hv (by simp [hrp]),?_⟩ | refine ⟨_,⟨_,_,.pure hv (by simp [hrp])⟩,?_⟩ | refine ⟨_,_,⟨_,.pure hv (by simp)⟩,?_⟩
   simp
   first | refine ⟨_,_,_,.pure hr (by simp),?_⟩ | refine ⟨_,⟨_,_,.pure hr (by simp)⟩,?_⟩ | refine ⟨_,_,⟨_,.pure hr (by simp)⟩,?_⟩
   simp;intro ga gb;refine .done ⟨j + 1,some (gb 55,[.int .u8 (E n:Int)]),⟨hj,by simp,by simpa [qbe,u8V] using hnx.symm⟩,by simp [hw],by simp,by omega⟩
  case' some.none=>
   simp [hj,qav,hn,hnc,hy,hxi,qbt,qbm,h1];intro gm
   first | refine ⟨_,_,_,.pure hv (by simp [hrp]),?_⟩ | refine ⟨_,⟨_,_,.pure hv (by simp [hrp])⟩,?_⟩ | refine ⟨_,_,⟨_,.pure hv (by simp)⟩,?_⟩
   simp
   first | refine ⟨_,_,_,.pure hr (by simp),?_⟩ | refine ⟨_,⟨_,_,.pure hr (by simp)⟩,?_⟩ | refine ⟨_,_,⟨_,.pure hr (by simp)⟩,?_⟩
   simp;intro ga gb;refine .done ⟨j + 1,some (gb 55,[.int .u8 (E n:Int)]),⟨hj,by simp,by simpa [qbe,u8V] using hnx.symm⟩,by simp [hw],by simp,by omega⟩
  case' none.some=>
   simp [hj,qav,hn,hnc,hy,hxi,qbt,qbm,h1];intro gm
   first | refine ⟨_,_,_,.pure hv (by simp [hrp]),?_⟩ | refine ⟨_,⟨_,_,.pure hv (by simp [hrp])⟩,?_⟩ | refine ⟨_,_,⟨_,.pure hv (by simp)⟩,?_⟩
   simp
   first | refine ⟨_,_,_,.pure hr (by simp),?_⟩ | refine ⟨_,⟨_,_,.pure hr (by simp)⟩,?_⟩ | refine ⟨_,_,⟨_,.pure hr (by simp)⟩,?_⟩
   simp;intro ga gb;refine ⟨by have:=congrArg List.length p3; simp [qbe] at this; omega,.done ⟨j + 1,some (gb 55,gl2.2 ++ [.int .u8 (E n:Int)]),⟨hj,by simp,by simpa [qbe,u8V] using hnx.symm⟩,by simp [hw],by simp,by omega⟩⟩
  case' some.some=>
   simp [hj,qav,hn,hnc,hy,hxi,qbt,qbm,h1];intro gm
   first | refine ⟨_,_,_,.pure hv (by simp [hrp]),?_⟩ | refine ⟨_,⟨_,_,.pure hv (by simp [hrp])⟩,?_⟩ | refine ⟨_,_,⟨_,.pure hv (by simp)⟩,?_⟩
   simp
   first | refine ⟨_,_,_,.pure hr (by simp),?_⟩ | refine ⟨_,⟨_,_,.pure hr (by simp)⟩,?_⟩ | refine ⟨_,_,⟨_,.pure hr (by simp)⟩,?_⟩
   simp;intro ga gb;refine ⟨by have:=congrArg List.length p3; simp [qbe] at this; omega,.done ⟨j + 1,some (gb 55,gl2.2 ++ [.int .u8 (E n:Int)]),⟨hj,by simp,by simpa [qbe,u8V] using hnx.symm⟩,by simp [hw],by simp,by omega⟩⟩
 have hj:j = S.length:=by have:=jfz hb2; omega
 subst hj;rw [List.take_length] at p3;have hcO:=qkg (c.o.map F) none (by simp; omega);have hcS:=qkg (S.map E) none (by simp; omega);generalize c.o.map F = O at q3 hcO ⊢;generalize S.map E = T at p3 hcS ⊢;have htO:List.take O.length (O.map u8V) = O.map u8V:=jf2 (by simp);have htT:List.take T.length (T.map u8V) = T.map u8V:=jf2 (by simp);rcases acc with _ | ⟨ga,ra⟩ <;> rcases acc2 with _ | ⟨gb,rb⟩
 ·have hO:O = []:=by simpa [qbe] using q3.symm
  have hT:T = []:=by simpa [qbe] using p3.symm
  subst hO hT;simp [qbt,qbm];refine .mk [(3,.ptr 3 g3 0 0),(2,.ptr 2 g2 0 0)] [(3,.row g3 2 [.agg [.nil,.nil]]),(2,.row g2 2 [.agg [.nil,.nil]])] (by simp) (by simp) (.done ?_);simp;intro gm
  first | refine ⟨_,_,_,.pure qbl (by simp),?_⟩ | refine ⟨_,⟨_,_,.pure qbl (by simp)⟩,?_⟩ | refine ⟨_,_,⟨_,.pure qbl (by simp)⟩,?_⟩
  simp
  first | refine ⟨_,_,_,.pure qbl (by simp),?_⟩ | refine ⟨_,⟨_,_,.pure qbl (by simp)⟩,?_⟩ | refine ⟨_,_,⟨_,.pure qbl (by simp)⟩,?_⟩
  simp [qfq]
  try rfl
 ·simp only [qbe] at q3 p3;have hO:O = []:=by simpa using q3.symm
  subst hO;subst p3;simp [qbt,qbm];refine .mk [(3,.ptr 3 g3 0 0),(2,.ptr 2 g2 0 0)] [(3,.row g3 2 [.agg [.nil,.ref 55 gb 0 T.length none]]),(2,.row g2 2 [.agg [.nil,.nil]]),(55,.row gb 1 (T.map u8V))] (by simp) (by simp) (.frz (g:=gb) (sz:=1) (es:=T.map u8V) 55 (by simp) (qaj T) (.done ?_));simp [fzF,fzH,fzV,fzf,fzp,Blk.fz,htT];intro gm
  first | refine ⟨_,_,_,.pure qbl (by simp),?_⟩ | refine ⟨_,⟨_,_,.pure qbl (by simp)⟩,?_⟩ | refine ⟨_,_,⟨_,.pure qbl (by simp)⟩,?_⟩
  simp
  first | refine ⟨_,_,_,.pure hcS (by simp),?_⟩ | refine ⟨_,⟨_,_,.pure hcS (by simp)⟩,?_⟩ | refine ⟨_,_,⟨_,.pure hcS (by simp)⟩,?_⟩
  simp [qfq,qae]
  try rfl
 ·simp only [qbe] at q3 p3;subst q3;have hT:T = []:=by simpa using p3.symm
  subst hT;simp [qbt,qbm];refine .mk [(3,.ptr 3 g3 0 0),(2,.ptr 2 g2 0 0)] [(3,.row g3 2 [.agg [.ref 24 ga 0 O.length none,.nil]]),(2,.row g2 2 [.agg [.nil,.nil]]),(24,.row ga 1 (O.map u8V))] (by simp) (by simp) (.frz (g:=ga) (sz:=1) (es:=O.map u8V) 24 (by simp) (qaj O) (.done ?_));simp [fzF,fzH,fzV,fzf,fzp,Blk.fz,htO];intro gm
  first | refine ⟨_,_,_,.pure hcO (by simp),?_⟩ | refine ⟨_,⟨_,_,.pure hcO (by simp)⟩,?_⟩ | refine ⟨_,_,⟨_,.pure hcO (by simp)⟩,?_⟩
  simp
  first | refine ⟨_,_,_,.pure qbl (by simp),?_⟩ | refine ⟨_,⟨_,_,.pure qbl (by simp)⟩,?_⟩ | refine ⟨_,_,⟨_,.pure qbl (by simp)⟩,?_⟩
  simp [qfq,qae]
  try rfl
 ·simp only [qbe] at q3 p3;subst q3;subst p3;simp [qbt,qbm];refine .mk [(3,.ptr 3 g3 0 0),(2,.ptr 2 g2 0 0)] [(3,.row g3 2 [.agg [.ref 24 ga 0 O.length none,.ref 55 gb 0 T.length none]]),(2,.row g2 2 [.agg [.nil,.nil]]),(24,.row ga 1 (O.map u8V)),(55,.row gb 1 (T.map u8V))] (by simp) (by simp) (.frz (g:=ga) (sz:=1) (es:=O.map u8V) 24 (by simp) (qaj O) (.frz (g:=gb) (sz:=1) (es:=T.map u8V) 55 (by simp [fzH,Blk.fz,qdp (qaj T)]) (qaj T) (.done ?_)));simp [fzF,fzH,fzV,fzf,fzp,Blk.fz,htO,htT,qae];intro gm
  first | refine ⟨_,_,_,.pure hcO (by simp),?_⟩ | refine ⟨_,⟨_,_,.pure hcO (by simp)⟩,?_⟩ | refine ⟨_,_,⟨_,.pure hcO (by simp)⟩,?_⟩
  simp
  first | refine ⟨_,_,_,.pure hcS (by simp),?_⟩ | refine ⟨_,⟨_,_,.pure hcS (by simp)⟩,?_⟩ | refine ⟨_,_,⟨_,.pure hcS (by simp)⟩,?_⟩
  simp [qfq,qae]
  try rfl
end
end Go.Proofs.YtpaopccohkldlaaGreatDoor
