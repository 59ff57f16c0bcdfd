/- Lemmas. Conditions: none. -/
import Derived.Test.YtpaopccohkldlaaGreatDoorI1
import Derived.Test.YtpaopccohkldlaaGreatDoorNet13
import Derived.Test.YtpaopccohkldlaaGreatDoorBase18
set_option linter.all false
namespace Go.Proofs.YtpaopccohkldlaaGreatDoor
section
open Go
theorem qxs (v:Nat):qab Tryz.prog gl0 163 [u8V v] (u8V (qed v)):=by
 refine jpb 2 jj4 rfl ?_;simp [i163,x163,u8V,qed];refine jo8 (fun h=>?_) (fun h=>?_)
 ·have:=jpf h;simp [show 3 < v by omega]
 ·have:=jpg h;simp [show ¬ 3 < v by omega]
theorem qz1 (v:Nat):qab Tryz.prog gl0 120 [u8V v] (u8V (rdN v)):=by
 refine jpb 2 jje rfl ?_;simp [i120,x120,u8V,rdN];omega
theorem qyu (v:Nat):qab Tryz.prog gl0 160 [u8V v] (.bool (decide (v≤1))):=by
 refine jpb 2 jj1 rfl ?_;simp [i160,x160,u8V]
theorem qp9 (v:Nat):qab Tryz.prog gl0 121 [u8V v] (u8V (qjb v)):=by
 refine jpb 2 jjf rfl ?_;simp [i121,x121];refine jo7 (qyu v) rfl ?_;simp [u8V];refine jo8 (fun h=>?_) (fun h=>?_)
 ·have hv:v = 0∨v = 1:=by have:=jpf h; omega
  rcases hv with rfl | rfl <;> simp [qjb,IntKind.wrap,IntKind.bits,IntKind.signed]
 ·have hv:=jpg h;simp [qjb,hv]
theorem jb6 (lo hi:Nat) (l:List Nat) (cap:Option Nat) (hl:l.length < 1000000000):qab Tryz.prog gl0 161 [.sl (l.map u8V) cap,u8V lo,u8V hi] (u8V (dec lo hi hi l)):=by
 obtain ⟨q,hq⟩:∃ r,dec lo hi hi l = r:=⟨_,rfl⟩;rw [hq];refine jpb 2 jj2 rfl ?_;simp [i161,x161,u8V]
 refine jpa (X:=Nat × Nat) (fun z=>[(13,qaa z.1),(12,qaa l.length),(11,.sl (l.map u8V) cap),(7,u8V z.2),(2,u8V hi),(1,u8V lo)]) (fun _=>[])
  (fun z=>z.1≤l.length/\dec lo hi z.2 (l.drop z.1) = q) (fun z=>l.length - z.1) (0,hi) ⟨by simp,by simpa using hq⟩ (by simp [qaa,u8V]) (by simp) ?_
 rintro ⟨i,out⟩ ⟨h2,h3⟩;dsimp only at h2 h3 ⊢;simp [qaa,u8V];refine jo8 (fun h1=>?_) (fun h1=>?_)
 ·have hi':i < l.length:=jpf h1;have hw:=qa1 i (by omega);rw [List.drop_eq_getElem_cons hi',dec] at h3;obtain ⟨v,hv⟩:∃ v,l[i] = v:=⟨_,rfl⟩;rw [hv] at h3;simp [hi',hv,u8V];refine jo8 (fun h4=>?_) (fun h4=>?_)
  ·rw [if_pos (jpf h4)] at h3;simp [h3]
  ·rw [if_neg (jpg h4)] at h3;simp;refine jo8 (fun h5=>?_) (fun h5=>?_)
   ·have h5':=jpf h5;rw [if_pos h5'] at h3;simp [hw];exact ⟨i + 1,out,⟨hi',h3⟩,⟨rfl,rfl⟩,by omega⟩
   ·have h5':=jpg h5;rw [if_neg h5'] at h3;simp [hw];exact ⟨i + 1,2,⟨hi',h3⟩,⟨rfl,rfl⟩,by omega⟩
 ·have hi':i = l.length:=by have:=jpg h1; omega
  subst hi';simp [dec] at h3;simp [h3]
theorem qar (l:List Nat):jne (l.map u8V) = true:=V.pureL_map _ l fun _=>rfl
theorem jc3 (l:List Nat) (cap:Option Nat) (hl:l.length < 1000000000):qab Tryz.prog gl0 122 [.sl (l.map u8V) cap] (u8V (dec 0 1 1 l)):=by
 refine jpb 2 jjg rfl ?_;simp [i122,x122];refine jo7 (jb6 0 1 l cap hl) (by simp only [jne,V.pure,qar,Bool.and_self]) ?_;simp [u8V]
theorem jiv (l:List Nat) (cap:Option Nat) (hl:l.length < 1000000000):qab Tryz.prog gl0 123 [.sl (l.map u8V) cap] (u8V (dec 1 0 0 l)):=by
 refine jpb 2 jjh rfl ?_;simp [i123,x123];refine jo7 (jb6 1 0 l cap hl) (by simp only [jne,V.pure,qar,Bool.and_self]) ?_;simp [u8V]
theorem jdo (l:List Nat) (cap:Option Nat) (hl:l.length < 1000000000):qab Tryz.prog gl0 124 [.sl (l.map u8V) cap] (u8V (qer 0 l)):=by
 obtain ⟨q,hq⟩:∃ r,qer 0 l = r:=⟨_,rfl⟩;rw [hq];refine jpb 2 jji rfl ?_;simp [i124,x124]
 refine jpa (X:=Nat × Nat) (fun z=>[(8,qaa z.1),(7,qaa l.length),(6,.sl (l.map u8V) cap),(3,u8V z.2)]) (fun _=>[])
  (fun z=>z.1≤l.length/\z.2≤1/\qer z.2 (l.drop z.1) = q) (fun z=>l.length - z.1) (0,0) ⟨by simp,by simp,by simpa using hq⟩ (by simp [qaa,u8V]) (by simp) ?_
 rintro ⟨i,out⟩ ⟨h2,h4,h3⟩;dsimp only at h2 h3 h4 ⊢;simp [qaa,u8V];refine jo8 (fun h1=>?_) (fun h1=>?_)
 ·have hi':i < l.length:=jpf h1;have hw:=qa1 i (by omega);rw [List.drop_eq_getElem_cons hi',qer] at h3;obtain ⟨v,hv⟩:∃ v,l[i] = v:=⟨_,rfl⟩;rw [hv] at h3;have hk:=qyu v;simp only [u8V] at hk;simp [hi',hv,u8V];refine jo7 hk rfl ?_;simp;refine jo8 (fun h5=>?_) (fun h5=>?_)
  ·have hv1:v = 0∨v = 1:=by have:=jpf h5; omega
   have ho:out = 0∨out = 1:=by omega
   rcases hv1 with rfl | rfl
   ·simp only [if_true] at h3;rcases ho with rfl | rfl
    ·simp [hw];exact ⟨i + 1,0,⟨hi',by omega,h3⟩,⟨rfl,rfl⟩,by omega⟩
    ·simp [hw];exact ⟨i + 1,1,⟨hi',by omega,h3⟩,⟨rfl,rfl⟩,by omega⟩
   ·simp only [if_true,Nat.one_ne_zero,if_false] at h3;rcases ho with rfl | rfl
    ·simp [hw];exact ⟨i + 1,1,⟨hi',by omega,h3⟩,⟨rfl,rfl⟩,by omega⟩
    ·simp [hw];exact ⟨i + 1,0,⟨hi',by omega,h3⟩,⟨rfl,rfl⟩,by omega⟩
  ·have h5':=jpg h5;rw [if_neg (by omega),if_neg (by omega)] at h3;subst h3;simp
 ·have hi':i = l.length:=by have:=jpg h1; omega
  subst hi';simp [qer] at h3;simp [h3]
theorem jdh (s a b:Nat):qab Tryz.prog gl0 125 [u8V s,u8V a,u8V b] (u8V (qwn s a b)):=by
 have ha:=qz1 a;have hb:=qz1 b;unfold qwn;simp only [u8V] at ha hb ⊢;refine jpb 2 jjj rfl ?_;simp [i125,x125];refine jo8 (fun h1=>?_) (fun h1=>?_)
 ·have h1':s = 0:=jpf h1;subst h1';simp;refine jo7 ha rfl ?_;simp
 have h1':¬ s = 0:=jpg h1;simp;refine jo8 (fun h2=>?_) (fun h2=>?_)
 ·have h2':s = 1:=jpf h2;subst h2';simp;refine jo7 hb rfl ?_;simp
 have h2':¬ s = 1:=jpg h2;simp;refine jo8 (fun h3=>?_) (fun h3=>?_)
 ·have h3':a = b:=jpf h3;subst h3';simp;refine jo7 ha rfl ?_;simp [h1',h2']
 have h3':¬ a = b:=jpg h3;simp [h1',h2',h3']
theorem jdn (e d:Nat):qab Tryz.prog gl0 126 [u8V e,u8V d] (u8V (q1k e d)):=by
 have hb:=qz1 d;unfold q1k;simp only [u8V] at hb ⊢;refine jpb 2 jjk rfl ?_;simp [i126,x126];refine jo8 (fun h1=>?_) (fun h1=>?_)
 ·have h1':e = 0:=jpf h1;subst h1';simp
 have h1':¬ e = 0:=jpg h1;simp;refine jo8 (fun h2=>?_) (fun h2=>?_)
 ·have h2':e = 1:=jpf h2;subst h2';simp;refine jo7 hb rfl ?_;simp
 have h2':¬ e = 1:=jpg h2;simp [h1',h2']
theorem jmr (v:Nat):qab Tryz.prog gl0 162 [u8V v] (.bool (decide (qed v = 2))):=by
 have hc:=qxs v;refine jpb 2 jj3 rfl ?_;simp [i162,x162];refine jo7 hc rfl ?_;simp [u8V]
theorem jid (v:Nat):qab Tryz.prog gl0 164 [u8V v] (.bool (v != 3)):=by
 have e:(v != 3) = !decide (v = 3):=rfl;rw [e];refine jpb 2 jj5 rfl ?_;simp [i164,x164,u8V]
def qeo (p:Nat->Bool):List Nat->Nat->Int
 | [],_=>-1
 | x :: r,i=>if p x = true then (i:Int) else qeo p r (i + 1)
theorem qkj (p:Nat->Bool):∀ (l:List Nat) (i:Nat),decide (0≤qeo p l i) = l.any p
 | [],i=>by simp [qeo]
 | x :: l,i=>by
  cases h:p x with
  | true=>simp [qeo,h]
  | false=>
   have:=qkj p l (i + 1);simp only [qeo,h,Bool.false_eq_true,if_false,List.any_cons,Bool.false_or];exact this
theorem qmh {p:Nat->Bool}:∀ {l:List Nat} {i:Nat},l.find? p = none->qeo p l i = -1
 | [],_,_=>rfl
 | x :: l,i,h=>by
  rw [List.find?_cons] at h
  cases hx:p x with
  | true=>rw [hx] at h; simp at h
  | false=>
   rw [hx] at h;simp only [qeo,hx,Bool.false_eq_true,if_false];exact qmh h
theorem qmi {p:Nat->Bool} {v:Nat}:∀ {l:List Nat} {i:Nat},l.find? p = some v->∃ j:Nat,qeo p l i = ((i + j:Nat):Int)/\l[j]? = some v
 | [],_,h=>by simp at h
 | x :: l,i,h=>by
  rw [List.find?_cons] at h
  cases hx:p x with
  | true=>
   rw [hx] at h;simp only [Option.some.injEq] at h;exact ⟨0,by simp [qeo,hx],by simp [h]⟩
  | false=>
   rw [hx] at h;obtain ⟨j,h1,h2⟩:=qmi (i:=i + 1) h;refine ⟨j + 1,?_,by simpa using h2⟩;simp only [qeo,hx,Bool.false_eq_true,if_false];rw [h1];congr 1;omega
theorem qiz (l:List Nat) (cap:Option Nat) (g:FuncId) (cp:List V) (p:Nat->Bool) (hf:∀ x ∈ l,qab Tryz.prog gl0 g (u8V x :: cp) (.bool (p x))) (hp:jne cp = true) (hl:l.length < 1000000000000):qab Tryz.prog gl0 159 [.sl (l.map u8V) cap,.fn g [] cp] (.int .i64 (qeo p l 0)):=by
 obtain ⟨q,hq⟩:∃ r,qeo p l 0 = r:=⟨_,rfl⟩;rw [hq];refine jpb 2 jdz rfl ?_;simp [jim,jm6]
 refine jpa (X:=Nat) (fun i=>[(8,qaa i),(7,qaa l.length),(0,.sl (l.map u8V) cap),(1,.fn g [] cp)]) (fun _=>[])
  (fun i=>i≤l.length/\qeo p (l.drop i) i = q) (fun i=>l.length - i) 0 ⟨by simp,by simpa using hq⟩ (by simp [qaa]) (by simp) ?_
 rintro i ⟨h2,h3⟩;simp [qaa];refine jo8 (fun h1=>?_) (fun h1=>?_)
 ·have h1':i < l.length:=jpf h1;have hw:=qa1 i (by omega);rw [List.drop_eq_getElem_cons h1'] at h3;simp only [qeo] at h3;obtain ⟨v,hv⟩:∃ v,l[i] = v:=⟨_,rfl⟩;have hfv:=hf v (hv ▸ jpk h1');rw [hv] at h3;simp only [u8V] at hfv;simp [h1',hv,u8V];refine jo7 hfv (by simp only [jne,V.pure,hp,Bool.and_self]) ?_;simp;refine jo8 (fun h4=>?_) (fun h4=>?_)
  ·rw [if_pos h4] at h3;simp [h3]
  ·rw [if_neg (by simp [h4])] at h3;simp [hw];exact ⟨i + 1,⟨h1',h3⟩,rfl,by omega⟩
 ·have h1':i = l.length:=by have:=jpg h1; omega
  subst h1';simp [qeo] at h3;simp [h3]
theorem qj9 (l:List Nat) (cap:Option Nat) (g:FuncId) (cp:List V) (p:Nat->Bool) (hf:∀ x ∈ l,qab Tryz.prog gl0 g (u8V x :: cp) (.bool (p x))) (hp:jne cp = true) (hl:l.length < 1000000000000):qab Tryz.prog gl0 117 [.sl (l.map u8V) cap,.fn g [] cp] (.bool (l.any p)):=by
 refine jpb 2 jdw rfl ?_;simp [jij,jm3];refine jo7 (qiz l cap g cp p hf hp hl) (by simp [hp,qar]) ?_;simp [qkj]
theorem q2q (x:Nat) (l:List Nat) (cap:Option Nat) (hl:l.length < 1000000000000):qab Tryz.prog gl0 214 [.sl (l.map u8V) cap,u8V x] (.int .i64 (qeo (fun v=>x == v) l 0)):=by
 obtain ⟨q,hq⟩:∃ r,qeo (fun v=>x == v) l 0 = r:=⟨_,rfl⟩;rw [hq];refine jpb 2 jkv rfl ?_;simp [i214,x214]
 refine jpa (X:=Nat) (fun i=>[(8,qaa i),(7,qaa l.length),(0,.sl (l.map u8V) cap),(1,u8V x)]) (fun _=>[])
  (fun i=>i≤l.length/\qeo (fun v=>x == v) (l.drop i) i = q) (fun i=>l.length - i) 0 ⟨by simp,by simpa using hq⟩ (by simp [qaa]) (by simp) ?_
 rintro i ⟨h2,h3⟩;simp [qaa];refine jo8 (fun h1=>?_) (fun h1=>?_)
 ·have h1':i < l.length:=jpf h1;have hw:=qa1 i (by omega);rw [List.drop_eq_getElem_cons h1'] at h3;simp only [qeo] at h3;obtain ⟨v,hv⟩:∃ v,l[i] = v:=⟨_,rfl⟩;rw [hv] at h3;simp [h1',hv,u8V];refine jo8 (fun h4=>?_) (fun h4=>?_)
  ·rw [if_pos (by simpa using jpf h4)] at h3;simp [h3]
  ·rw [if_neg (by simpa using jpg h4)] at h3;simp [hw];exact ⟨i + 1,⟨h1',h3⟩,rfl,by omega⟩
 ·have h1':i = l.length:=by have:=jpg h1; omega
  subst h1';simp [qeo] at h3;simp [h3]
theorem q6j (x:Nat) (l:List Nat):(l.any fun v=>x == v) = decide (x ∈ l):=by
 rw [Bool.eq_iff_iff];simp
theorem qka (x:Nat) (l:List Nat) (cap:Option Nat) (hl:l.length < 1000000000000):qab Tryz.prog gl0 191 [.sl (l.map u8V) cap,u8V x] (.bool (decide (x ∈ l))):=by
 refine jpb 2 jkj rfl ?_;simp [i191,x191];refine jo7 (q2q x l cap hl) (by simp [u8V,qar]) ?_;simp [qkj,q6j]
theorem qvc (l:List Nat) (cap:Option Nat) (hl:l.length < 1000000000000):qab Tryz.prog gl0 165 [.sl (l.map u8V) cap] (.bool (decide (0 ∈ l) && decide (1 ∈ l))):=by
 refine jpb 2 jj6 rfl ?_;simp [i165,x165];refine jo7 (qka 0 l cap hl) (by simp [qar]) ?_;simp;refine jo8 (fun h=>?_) (fun h=>?_)
 ·simp [h];refine jo7 (qka 1 l cap hl) (by simp [qar]) ?_;simp
 ·simp [h]
set_option maxRecDepth 100000 in
theorem jc4 (l:List Nat) (cap:Option Nat) (hl:l.length < 1000000000):qab Tryz.prog gl0 127 [.sl (l.map u8V) cap] (u8V (q1x l)):=by
 have h1:=qiz l cap 164 [] (fun v=>v != 3) (fun x _=>jid x) rfl (by omega);have h2:=qj9 l cap 162 [] (fun v=>decide (qed v = 2)) (fun x _=>jmr x) rfl (by omega);obtain ⟨k,hk⟩:∃ k,qeo (fun v=>v != 3) l 0 = k:=⟨_,rfl⟩
 have hany:(l.any fun v=>decide (qed v = 2)) = decide (∃ u ∈ l,qed u = 2):=by
  rw [Bool.eq_iff_iff]; simp
 rw [hany] at h2;rw [hk] at h1;unfold q1x;refine jpb 2 jjl rfl ?_;simp [i127,x127];refine jo7 h1 (by simp [qar]) ?_;simp
 cases hf:l.find? (fun v=>v != 3) with
 | none=>
  have hk1:k = -1:=by rw [<- hk]; exact qmh hf
  subst hk1;simp [u8V]
 | some v=>
  obtain ⟨j,hj,hv⟩:=qmi (i:=0) hf;have hkj:k = (j:Int):=by rw [<- hk,hj]; congr 1; omega
  subst hkj;have hjl:j < l.length:=(List.getElem?_eq_some_iff.1 hv).1;have hvv:l[j] = v:=(List.getElem?_eq_some_iff.1 hv).2;simp;refine jo7 (qvc l cap (by omega)) (by simp [qar]) ?_;simp;by_cases h01:0 ∈ l/\1 ∈ l
  ·simp [h01,u8V]
  ·have e:(decide (0 ∈ l) && decide (1 ∈ l)) = false:=by
    rw [Bool.eq_false_iff];simpa using h01
   simp [e];refine jo7 h2 (by simp [qar]) ?_;by_cases hu:∃ u ∈ l,qed u = 2
   ·simp [hu,u8V]
   ·simp [hu,h01,hjl,hvv,u8V]
theorem qll (l:List Nat) (cap:Option Nat):jne [.sl (l.map u8V) cap] = true:=by simp only [jne,V.pure,qar,Bool.and_self]
set_option maxRecDepth 100000 in
set_option maxHeartbeats 4000000 in
theorem qy8 (k:Nat) (hk:k < 256) (l:List Nat) (cap:Option Nat) (hl:l.length < 1000000000):qab Tryz.prog gl0 83 [u8V k,.sl (l.map u8V) cap] (u8V (qgi k l)):=by
 have hf:=qrw (k:Int) (by omega) (by omega);have hland:=jc3 l cap hl;have hlor:=jiv l cap hl;have hlxor:=jdo l cap hl;have hbus:=jc4 l cap hl;obtain ⟨A,hA⟩:∃ p,dec 0 1 1 l = p:=⟨_,rfl⟩;obtain ⟨B,hB⟩:∃ p,dec 1 0 0 l = p:=⟨_,rfl⟩;obtain ⟨X,hX⟩:∃ p,qer 0 l = p:=⟨_,rfl⟩;obtain ⟨U,hU⟩:∃ p,q1x l = p:=⟨_,rfl⟩;have hnA:=qp9 A;have hnB:=qp9 B;have hnX:=qp9 X;obtain ⟨NA,hNA⟩:∃ p,qjb A = p:=⟨_,rfl⟩;obtain ⟨NB,hNB⟩:∃ p,qjb B = p:=⟨_,rfl⟩;obtain ⟨NX,hNX⟩:∃ p,qjb X = p:=⟨_,rfl⟩;rw [hA] at hland;rw [hB] at hlor;rw [hX] at hlxor;rw [hU] at hbus;rw [hNA] at hnA;rw [hNB] at hnB;rw [hNX] at hnX;have hg:∀ j (h:j < l.length),l.getD j 0 = l[j]:=fun j h=>by simp [h]
 refine jpb 2 ok83 rfl ?_;obtain ⟨lo,hlo⟩:∃ p,kLo k = p:=⟨_,rfl⟩;obtain ⟨hi,hhi⟩:∃ p,kHi k = p:=⟨_,rfl⟩;rw [hlo,hhi] at hf;unfold qgi;rw [hlo,hhi];simp only [u8V] at hland hlor hlxor hbus hnA hnB hnX;simp [i83,x83,u8V];refine jo7 hf rfl ?_;simp;refine jo8 (fun h1=>?_) (fun h1=>?_)
 ·have h1':=jpf h1;rw [if_pos (.inl h1')];simp [h1]
 have h1':=jpg h1;simp [h1];refine jo8 (fun h2=>?_) (fun h2=>?_)
 ·have h2':=jpf h2;rw [if_pos (.inr h2')];simp
 have h2':=jpg h2;rw [if_neg (by omega)]
 have hk15:k≤15:=by
  by_cases hc:k≤15
  ·exact hc
  ·exfalso;have:hi = -1:=by rw [<- hhi,kHi,if_pos (by omega)]
   omega
 have hc:k = 0∨k = 1∨k = 2∨k = 3∨k = 4∨k = 5∨k = 6∨k = 7∨k = 8∨k = 9∨k = 10∨k = 11∨k = 12∨k = 13∨k = 14∨k = 15:=by omega
 rcases hc with rfl | rfl | rfl | rfl | rfl | rfl | rfl | rfl | rfl | rfl | rfl | rfl | rfl | rfl | rfl | rfl
 ·simp [qdy]
 ·simp [qdy]
 ·simp [qdy]
 ·have h0:0 < l.length:=by
   have:lo = 1:=by rw [<- hlo]; rfl
   omega
  have hr:=qz1 l[0];simp only [u8V] at hr;have e:qdy 3 l = rdN l[0]:=by rw [<- hg 0 h0]; rfl
  rw [e];simp [h0,u8V];refine jo7 hr rfl ?_;simp
 ·have h0:0 < l.length:=by
   have:lo = 1:=by rw [<- hlo]; rfl
   omega
  have hr:=qp9 l[0];simp only [u8V] at hr;have e:qdy 4 l = qjb l[0]:=by rw [<- hg 0 h0]; rfl
  rw [e];simp [h0,u8V];refine jo7 hr rfl ?_;simp
 ·rw [show qdy 5 l = A from hA];simp;refine jo7 hland (qll _ _) ?_;simp
 ·rw [show qdy 6 l = NA by rw [<- hNA,<- hA]; rfl];simp;refine jo7 hland (qll _ _) ?_;simp;refine jo7 hnA rfl ?_;simp
 ·rw [show qdy 7 l = B from hB];simp;refine jo7 hlor (qll _ _) ?_;simp
 ·rw [show qdy 8 l = NB by rw [<- hNB,<- hB]; rfl];simp;refine jo7 hlor (qll _ _) ?_;simp;refine jo7 hnB rfl ?_;simp
 ·rw [show qdy 9 l = X from hX];simp;refine jo7 hlxor (qll _ _) ?_;simp
 ·rw [show qdy 10 l = NX by rw [<- hNX,<- hX]; rfl];simp;refine jo7 hlxor (qll _ _) ?_;simp;refine jo7 hnX rfl ?_;simp
 ·have h0:l.length = 3:=by
   have e1:lo = 3:=by rw [<- hlo]; rfl
   have e2:hi = 3:=by rw [<- hhi]; rfl
   omega
  have hr:=jdh (l[0]'(by omega)) (l[1]'(by omega)) (l[2]'(by omega));have e:qdy 11 l = qwn (l[0]'(by omega)) (l[1]'(by omega)) (l[2]'(by omega)):=by rw [<- hg 0 (by omega),<- hg 1 (by omega),<- hg 2 (by omega)]; rfl
  rw [e];generalize qwn (l[0]'(by omega)) (l[1]'(by omega)) (l[2]'(by omega)) = M at hr ⊢;simp only [u8V] at hr;simp [show 0 < l.length by omega,show 1 < l.length by omega,show 2 < l.length by omega,u8V];intro gm
  first | refine ⟨_,_,_,.pure hr rfl,?_⟩ | refine ⟨_,⟨_,_,.pure hr rfl⟩,?_⟩ | refine ⟨_,_,⟨_,.pure hr rfl⟩,?_⟩
  simp
 ·have h0:l.length = 2:=by
   have e1:lo = 2:=by rw [<- hlo]; rfl
   have e2:hi = 2:=by rw [<- hhi]; rfl
   omega
  have hr:=jdn (l[0]'(by omega)) (l[1]'(by omega));have e:qdy 12 l = q1k (l[0]'(by omega)) (l[1]'(by omega)):=by rw [<- hg 0 (by omega),<- hg 1 (by omega)]; rfl
  rw [e];generalize q1k (l[0]'(by omega)) (l[1]'(by omega)) = M at hr ⊢;simp only [u8V] at hr;simp [show 0 < l.length by omega,show 1 < l.length by omega,u8V];intro gm
  first | refine ⟨_,_,_,.pure hr rfl,?_⟩ | refine ⟨_,⟨_,_,.pure hr rfl⟩,?_⟩ | refine ⟨_,_,⟨_,.pure hr rfl⟩,?_⟩
  simp
 ·rw [show qdy 13 l = U from hU];simp;refine jo7 hbus (qll _ _) ?_;simp
 ·simp [qdy]
 ·simp [qdy]
end
section
open Go
attribute [simp] qar
@[simp] theorem jgu (p:Pt):p.v.cells = [.sl (p.i.map u8V) none,.sl (p.s.map u8V) none]:=rfl
@[simp] theorem jat (p:Pt):p.v.cellsOk = true:=rfl
theorem qxt (k:Int):∀ a b:List Nd,cnt k (a ++ b) = cnt k a + cnt k b
 | [],b=>by simp [cnt,ids]
 | n :: a,b=>by rw [List.cons_append,qf1,qf1,qxt k a b]; omega
theorem qjh {k:Int} {l:List Nd} {i:Nat} {y:Nd} (h:i < l.length) (hy:l[i] = y):cnt k (l.take (i + 1)) = cnt k (l.take i) + if y.k = k then 1 else 0:=by
 rw [List.take_succ_eq_append_getElem h,qxt,hy,qf1];simp [cnt,ids]
theorem q4n {α:Type} (n:Nat) (f:Nat->α):tab (n + 1) f = tab n f ++ [f n]:=by simp [tab,List.range_succ]
theorem qtz (l:List V):VLe (qvm l) (.sl l none):=by
 cases l with
 | nil=>exact VLe.nil'
 | cons a r=>exact .refl _
end
section
open Go
theorem qw5 (v:Nat) (h:v≤3):qab Tryz.prog gl0 118 [u8V v] (.bool false):=by
 refine jpb 2 jjc rfl ?_;simp [i118,x118,u8V];omega
theorem qyn (f:FuncId) (l:List Nat) (cap:Option Nat) (hl:l.length < 1000000000) (hf:∀ v ∈ l,qab Tryz.prog gl0 f [u8V v] (.bool false)):qab Tryz.prog gl0 159 [.sl (l.map u8V) cap,.fn f [] []] (.int .i64 (-1)):=by
 refine jpb 2 jdz rfl ?_;simp [jim,jm6]
 refine jpa (X:=Nat) (fun i=>[(8,qaa i),(7,qaa l.length),(0,.sl (l.map u8V) cap),(1,.fn f [] [])]) (fun _=>[])
  (fun i=>i≤l.length) (fun i=>l.length - i) 0 (Nat.zero_le _) (by simp [qaa]) (by simp) ?_
 intro i hi;simp [qaa];refine jo8 (fun hb=>?_) (fun hb=>?_)
 ·have hi':i < l.length:=jpf hb;have hw:=qa1 i (by omega);obtain ⟨y,hy⟩:∃ y,l[i] = y:=⟨_,rfl⟩;have hfy:=hf y (by rw [<- hy]; exact jpk hi');simp only [u8V] at hfy;simp [hi',hy,u8V];refine jo7 hfy rfl ?_;simp [hw];exact ⟨i + 1,hi',rfl,by omega⟩
 ·simp
theorem qmc (f:FuncId) (l:List Nat) (cap:Option Nat) (hl:l.length < 1000000000) (hf:∀ v ∈ l,qab Tryz.prog gl0 f [u8V v] (.bool false)):qab Tryz.prog gl0 117 [.sl (l.map u8V) cap,.fn f [] []] (.bool false):=by
 refine jpb 2 jdw rfl ?_;simp [jij,jm3];refine jo7 (qyn f l cap hl hf) (by simp [jne,V.pure,qar]) ?_;simp
theorem qft (c:Ci) (hl:c.n.length < 1000000):qab Tryz.prog gl0 44 [c.v] (.sl (qao (ids 0 c.n 0)) (some (cnt 0 c.n))):=by
 have:=joh (qbi.one (q2s c hl) fun _ _ h=>qkl h) (qc7 _ c.n 0).2;rw [qjr] at this;simpa [cnt] using this
theorem qeb (c:Ci) (hl:c.n.length < 1000000):qab Tryz.prog gl0 45 [c.v] (.sl (qao (ids 14 c.n 0)) (some (cnt 14 c.n))):=by
 have:=joh (qbi.one (q4i c hl) fun _ _ h=>qkl h) (qc7 _ c.n 0).2;rw [qjr] at this;simpa [cnt] using this
theorem q8i (c:Ci) (hg:c.good):qbi Tryz.prog gl0 88 [c.v,.sl [.int .u8 15] (some 1)] (qwh 1 (.sl [] (some 0))):=by
 have h1:=job (q8h c [15] (some 1) (by have:=hg.n1; omega) (by simp)) (qc7 [15] c.n 0).2 (qc7 [15] c.n 0).1
 have h2:ids 15 c.n 0 = []:=by
  rw [List.eq_nil_iff_forall_not_mem];intro x hx;obtain ⟨hx',hk⟩:=qiy hx;exact hg.k _ (jpk hx') hk
 rw [qjr,h2] at h1;simpa [qao] using h1
theorem q5m (c:Ci) (hg:c.good) (p:Pt) (hp:p.fit c):qab Tryz.prog gl0 80 [c.v,p.v] (.int .i64 0):=by
 have hn1:=hg.n1;have hm:=hg.m;have l0:=qbt 0 c.n;have l1:=qbt 14 c.n;have hpi:=hp.i;have hps:=hp.s;have ci:=qft c (by omega);have cs:=qeb c (by omega);have cm:=q8i c hg;have k1:=qmc 118 p.i none (by omega) fun v hv=>qw5 v (hp.iv v hv);have k2:=qmc 118 p.s none (by omega) fun v hv=>qw5 v (hp.sv v hv);obtain ⟨I,hI⟩:∃ I,ids 0 c.n 0 = I:=⟨_,rfl⟩;obtain ⟨S,hS⟩:∃ S,ids 14 c.n 0 = S:=⟨_,rfl⟩;have hIl:I.length = cnt 0 c.n:=by rw [<- hI]; rfl
 have hSl:S.length = cnt 14 c.n:=by rw [<- hS]; rfl
 rw [hI] at ci;rw [hS] at cs;refine jpb 2 ok80 rfl ?_;simp [i80,x80,hm];intro gf1 gf2;intro gf3;refine CallO.dat 1 cm (by simp) ?_;simp;intro gm;refine ⟨_,_,_,.pure ci (by simp),?_⟩;simp [hpi,hIl];refine ⟨_,_,_,.pure cs (by simp),?_⟩;simp [hps,hSl];refine ⟨rfl,?_⟩;refine jo7 k1 (by simp) ?_;simp;refine jo7 k2 (by simp) ?_;simp
def qd3 (c:Ci):Pt:=⟨List.replicate (cnt 0 c.n) 2,List.replicate (cnt 14 c.n) 2⟩
theorem qrn (c:Ci):(qd3 c).fit c:=⟨by simp [qd3],by simp [qd3],fun x hx=>by rw [List.eq_of_mem_replicate hx]; omega,fun x hx=>by rw [List.eq_of_mem_replicate hx]; omega⟩
end
section
open Go
def qgw (c:Ci) (l:V):V:=.agg [.sl (c.n.map Nd.v) none,.sl (c.s.map .str) none,.sl (c.m.map Md.v) none,.sl (qde c.o) none,l]
@[simp] theorem je0 (c:Ci) (l:V):(qgw c l).cells = [.sl (c.n.map Nd.v) none,.sl (c.s.map .str) none,.sl (c.m.map Md.v) none,.sl (qde c.o) none,l]:=rfl
@[simp] theorem run_ok (c:Ci) (xs:List V) (cap:Option Nat):(qgw c (.sl xs cap)).cellsOk = true:=rfl
@[simp] theorem jmi (c:Ci) (b g o l:Nat) (cap:Option Nat):(qgw c (.ref b g o l cap)).cellsOk = true:=rfl
theorem run_pure (c:Ci) (l:List Nat) (cap:Option Nat):(qgw c (.sl (l.map u8V) cap)).pure = true:=by
 have:=qcr c;simp only [Ci.v,V.pure,jne,Bool.and_true,Bool.and_eq_true] at this;simp [qgw,this]
theorem q04 (c:Ci) (l:List Nat) (cap:Option Nat) (m:Nat) (h:m < l.length) (_hl:l.length < 1000000):qab Tryz.prog gl0 128 [qgw c (.sl (l.map u8V) cap),.int .i64 (m:Int)] (u8V (qed (l.getD m 0))):=by
 obtain ⟨x,hx⟩:∃ x,l[m] = x:=⟨_,rfl⟩;have hd:l.getD m 0 = x:=by rw [jph,jpl h,hx]; rfl
 rw [hd];have hc:=qxs x;simp only [u8V] at hc;refine jpb 2 jjm rfl ?_;simp [i128,x128,qgw,show ¬ l.length≤m by omega,h,hx,u8V];intro gf;refine jo7 hc rfl ?_;simp
theorem qmb (l:List Nat) (cap:Option Nat) (_hl:l.length < 1000000):qab Tryz.prog gl0 129 [.sl (l.map u8V) cap] (.sl (l.map u8V) (some l.length)):=by
 refine jpb 2 jjn rfl ?_;simp [i129,x129];rw [jpj (by simp)];exact qad _ (qar l)
theorem qbl:qab Tryz.prog gl0 129 [.nil] (.sl [] (some 0)):=qab.wide (qmb [] none (by simp)) ⟨VLe.nil',trivial⟩ (.refl _)
theorem qt3 {c:Ci} (hg:c.good) {n:Nat} (hn:n ∈ ids 14 c.n 0):∃ h:n < c.n.length,∃ x:Int,c.n[n].i = [x]/\0≤x/\x < c.n.length/\c.n[n].k = 14:=by
 obtain ⟨h,hk⟩:=qiy hn;have h1:=qig ((qgx hg.sh).2.2.1 _ (jpk h));have hv:=hg.val.i n h;rw [c.nd_get h] at hv;have hw:=h1.2.1;rw [hk] at hw
 have hl:c.n[n].i.length = 1:=by
  have e1:kLo 14 = 1:=rfl;have e2:kHi 14 = 1:=rfl;simp only [ql5,e1,e2,Bool.and_eq_true,decide_eq_true_eq] at hw;omega
 match hq:c.n[n].i,hl with
 | [x],_=>
  rw [hq] at hv;have:=hv x (by simp);exact ⟨h,x,hq,this.1,this.2,hk⟩
theorem qc6 {α β:Type} {l:List α} {i:Nat} {y:α} (F:α->β) (h:i < l.length) (hy:l[i] = y):(l.take (i + 1)).map F = (l.take i).map F ++ [F y]:=by
 rw [List.take_succ_eq_append_getElem h,hy]; simp
set_option maxHeartbeats 4000000 in
theorem qzn (c:Ci) (hg:c.good) (l:List Nat) (cap:Option Nat) (hll:l.length = c.n.length):qab Tryz.prog gl0 84 [qgw c (.sl (l.map u8V) cap)] (qf4 (qms c fun i=>l.getD i 0) (qmt c fun i=>l.getD i 0)):=by
 have hn1:=hg.n1;have hno:c.o.length≤16384:=(qle hg.sh).2.2.2;have l1:=qbt 14 c.n;have cs:=qeb c (by omega);have hcl:=qmb;obtain ⟨F,hF⟩:∃ F:Int->Nat,F = fun n=>qed (l.getD n.toNat 0):=⟨_,rfl⟩;obtain ⟨E,hE⟩:∃ E:Nat->Nat,E = qwp c fun i=>l.getD i 0:=⟨_,rfl⟩;have hres:qf4 (qms c fun i=>l.getD i 0) (qmt c fun i=>l.getD i 0) = qf4 (c.o.map F) ((ids 14 c.n 0).map E):=by rw [hF,hE]; rfl
 rw [hres];have hdff:=fun n (hn:n ∈ ids 14 c.n 0)=>qt3 hg hn;obtain ⟨S,hS⟩:∃ S,ids 14 c.n 0 = S:=⟨_,rfl⟩;have hSl:S.length = cnt 14 c.n:=by rw [<- hS]; rfl
 rw [hS] at cs hdff ⊢;rw [<- hSl] at cs l1;have hrp:=run_pure c l cap;refine jpb 2 ok84 rfl ?_;simp [i84,x84];intro gf1 gf2 gf3;generalize gf1 1 = g1;generalize gf2 2 = g2;generalize gf3 3 = g3
 refine jpa (X:=Nat × Option (Nat × List V)) (fun z=>[(14,qaa z.1),(13,qaa c.o.length),(12,.sl (qde c.o) none),(3,.ptr 3 g3 0 0),(2,.ptr 2 g2 0 0),(1,.ptr 1 g1 0 0)])
  (fun z=>[(3,.row g3 2 [.agg [qbo 24 z.2,.nil]]),(2,.row g2 2 [.agg [.nil,.nil]]),(1,.row g1 5 [qgw c (.sl (l.map u8V) cap)])] ++ qbn 24 1 z.2)
  (fun z=>z.1≤c.o.length/\(z.2 = none↔z.1 = 0)/\qa7 z.2 = ((c.o.take z.1).map F).map u8V) (fun z=>c.o.length - z.1) (0,none) ⟨by simp,by simp,by simp [qa7]⟩ (by simp [qaa]) (by simp [qbo,qbn]) ?_
 rintro ⟨i,acc⟩ ⟨q1,q2,q3⟩;dsimp only at q1 q2 q3 ⊢;simp [qaa];refine jo8 (fun hb=>?_) (fun hb=>?_)
 ·have hi:i < c.o.length:=jpf hb;have hw:=qa1 i (by omega);obtain ⟨y,hy⟩:∃ y,c.o[i] = y:=⟨_,rfl⟩;obtain ⟨y0,y1⟩:=hg.o (x:=y) (by rw [<- hy]; exact jpk hi);obtain ⟨m,rfl⟩:=Int.eq_ofNat_of_zero_le y0;have hv:=q04 c l cap m (by omega) (by omega);have hFm:qed (l.getD m 0) = F (m:Int):=by rw [hF]; rfl
  rw [hFm] at hv;have hnx:=congrArg (List.map u8V) (qc6 F hi hy);rw [List.map_append,<- q3] at hnx;simp only [List.map_cons,List.map_nil,u8V] at hnx hv
  cases acc with
  | none=>
   have hi0:i = 0:=q2.1 rfl;simp [qbo,qbn,hi,qa0,hy];intro gm;refine ⟨_,_,_,.pure hv (by simp),?_⟩;simp [hw];refine ⟨rfl,i + 1,some (gm 24,[.int .u8 (F (m:Int):Int)]),⟨hi,by simp,by simpa [qa7,u8V] using hnx.symm⟩,by simp,by simp,by omega⟩
  | some gl=>
   obtain ⟨g,r⟩:=gl;simp only [qa7] at q3 hnx;simp [qbo,qbn,hi,qa0,hy];intro gm;refine ⟨_,_,_,.pure hv (by simp),?_⟩;simp [hw];refine ⟨by have:=congrArg List.length q3; simp at this; omega,rfl,i + 1,some (g + 1,r ++ [.int .u8 (F (m:Int):Int)]),⟨hi,by simp,by simpa [qa7,u8V] using hnx.symm⟩,by simp,by simp,by omega⟩
 have hi:i = c.o.length:=by have:=jpg hb; omega
 subst hi;rw [List.take_length] at q3;simp;refine jo7 cs (by simp) ?_;simp
 refine jn0 (X:=Nat × Option (Nat × List V)) (fun z=>[(31,qaa z.1),(30,qaa S.length),(29,.sl (qao S) (some S.length)),(3,.ptr 3 g3 0 0),(2,.ptr 2 g2 0 0),(1,.ptr 1 g1 0 0)])
  (fun z=>[(3,.row g3 2 [.agg [qbo 24 acc,qbo 55 z.2]]),(2,.row g2 2 [.agg [.nil,.nil]]),(1,.row g1 5 [qgw c (.sl (l.map u8V) cap)])] ++ (qbn 24 1 acc ++ qbn 55 1 z.2))
  (fun z=>z.1≤S.length/\(z.2 = none↔z.1 = 0)/\qa7 z.2 = ((S.take z.1).map E).map u8V) (fun z=>S.length - z.1) (.done ⟨(0,none),⟨by simp,by simp,by simp [qa7]⟩,by simp [qaa],?_⟩) ?_
 ·cases acc with
  | none=>simp [qbo,qbn]
  | some gl=>simp [qbo,qbn]
 rintro ⟨j,acc2⟩ ⟨p1,p2,p3⟩;dsimp only at p1 p2 p3 ⊢;simp [qaa];refine jo8 (fun hb2=>?_) (fun hb2=>?_)
 ·have hj:j < S.length:=jpf hb2;have hw:=qa1 j (by omega);obtain ⟨n,hn⟩:∃ n,S[j] = n:=⟨_,rfl⟩;obtain ⟨hnc,x,hxi,x0,x1,-⟩:=hdff n (by rw [<- hn]; exact jpk hj);obtain ⟨m,rfl⟩:=Int.eq_ofNat_of_zero_le x0;have hv:=q04 c l cap m (by omega) (by omega);have hr:=qz1 (qed (l.getD m 0));have hEn:rdN (qed (l.getD m 0)) = E n:=by rw [hE]; simp only [qwp]; rw [c.nd_get hnc,hxi]; rfl
  rw [hEn] at hr;obtain ⟨q,hq⟩:∃ q,qed (l.getD m 0) = q:=⟨_,rfl⟩;rw [hq] at hv hr;obtain ⟨y,hy⟩:∃ y,c.n[n] = y:=⟨_,rfl⟩;rw [hy] at hxi;have hnx:=congrArg (List.map u8V) (qc6 E hj hn);rw [List.map_append,<- p3] at hnx;simp only [List.map_cons,List.map_nil,u8V] at hnx hv hr;have h1:qde [(m:Int)] = [.int .i64 (m:Int)]:=rfl;rcases acc with _ | gl <;> rcases acc2 with _ | gl2
  case' none.none=>
   simp [hj,qap,hn,hnc,hy,hxi,qbo,qbn,h1];intro gm
   first | refine ⟨_,_,_,.pure hv (by simp [hrp]),?_⟩ | refine ⟨_,⟨_,_,.pure hv (by simp [hrp])⟩,?_⟩ | refine ⟨_,_,⟨_,.pure hv (by simp)⟩,?_⟩
   simp
   first | refine ⟨_,_,_,.pure hr (by simp),?_⟩ | refine ⟨_,⟨_,_,.pure hr (by simp)⟩,?_⟩ | refine ⟨_,_,⟨_,.pure hr (by simp)⟩,?_⟩
   simp;intro ga gb;refine .done ⟨j + 1,some (gb 55,[.int .u8 (E n:Int)]),⟨hj,by simp,by simpa [qa7,u8V] using hnx.symm⟩,by simp [hw],by simp,by omega⟩
  case' some.none=>
   simp [hj,qap,hn,hnc,hy,hxi,qbo,qbn,h1];intro gm
   first | refine ⟨_,_,_,.pure hv (by simp [hrp]),?_⟩ | refine ⟨_,⟨_,_,.pure hv (by simp [hrp])⟩,?_⟩ | refine ⟨_,_,⟨_,.pure hv (by simp)⟩,?_⟩
   simp
   first | refine ⟨_,_,_,.pure hr (by simp),?_⟩ | refine ⟨_,⟨_,_,.pure hr (by simp)⟩,?_⟩ | refine ⟨_,_,⟨_,.pure hr (by simp)⟩,?_⟩
   simp;intro ga gb;refine .done ⟨j + 1,some (gb 55,[.int .u8 (E n:Int)]),⟨hj,by simp,by simpa [qa7,u8V] using hnx.symm⟩,by simp [hw],by simp,by omega⟩
  case' none.some=>
   simp [hj,qap,hn,hnc,hy,hxi,qbo,qbn,h1];intro gm
   first | refine ⟨_,_,_,.pure hv (by simp [hrp]),?_⟩ | refine ⟨_,⟨_,_,.pure hv (by simp [hrp])⟩,?_⟩ | refine ⟨_,_,⟨_,.pure hv (by simp)⟩,?_⟩
   simp
   first | refine ⟨_,_,_,.pure hr (by simp),?_⟩ | refine ⟨_,⟨_,_,.pure hr (by simp)⟩,?_⟩ | refine ⟨_,_,⟨_,.pure hr (by simp)⟩,?_⟩
   simp;intro ga gb;refine ⟨by have:=congrArg List.length p3; simp [qa7] at this; omega,.done ⟨j + 1,some (gb 55,gl2.2 ++ [.int .u8 (E n:Int)]),⟨hj,by simp,by simpa [qa7,u8V] using hnx.symm⟩,by simp [hw],by simp,by omega⟩⟩
  case' some.some=>
   simp [hj,qap,hn,hnc,hy,hxi,qbo,qbn,h1];intro gm
   first | refine ⟨_,_,_,.pure hv (by simp [hrp]),?_⟩ | refine ⟨_,⟨_,_,.pure hv (by simp [hrp])⟩,?_⟩ | refine ⟨_,_,⟨_,.pure hv (by simp)⟩,?_⟩
   simp
   first | refine ⟨_,_,_,.pure hr (by simp),?_⟩ | refine ⟨_,⟨_,_,.pure hr (by simp)⟩,?_⟩ | refine ⟨_,_,⟨_,.pure hr (by simp)⟩,?_⟩
   simp;intro ga gb;refine ⟨by have:=congrArg List.length p3; simp [qa7] at this; omega,.done ⟨j + 1,some (gb 55,gl2.2 ++ [.int .u8 (E n:Int)]),⟨hj,by simp,by simpa [qa7,u8V] using hnx.symm⟩,by simp [hw],by simp,by omega⟩⟩
 have hj:j = S.length:=by have:=jpg hb2; omega
 subst hj;rw [List.take_length] at p3;have hcO:=qmb (c.o.map F) none (by simp; omega);have hcS:=qmb (S.map E) none (by simp; omega);generalize c.o.map F = O at q3 hcO ⊢;generalize S.map E = T at p3 hcS ⊢;have htO:List.take O.length (O.map u8V) = O.map u8V:=jpj (by simp);have htT:List.take T.length (T.map u8V) = T.map u8V:=jpj (by simp);rcases acc with _ | ⟨ga,ra⟩ <;> rcases acc2 with _ | ⟨gb,rb⟩
 ·have hO:O = []:=by simpa [qa7] using q3.symm
  have hT:T = []:=by simpa [qa7] using p3.symm
  subst hO hT;simp [qbo,qbn];refine .mk [(3,.ptr 3 g3 0 0),(2,.ptr 2 g2 0 0)] [(3,.row g3 2 [.agg [.nil,.nil]]),(2,.row g2 2 [.agg [.nil,.nil]])] (by simp) (by simp) (.done ?_);simp;intro gm
  first | refine ⟨_,_,_,.pure qbl (by simp),?_⟩ | refine ⟨_,⟨_,_,.pure qbl (by simp)⟩,?_⟩ | refine ⟨_,_,⟨_,.pure qbl (by simp)⟩,?_⟩
  simp
  first | refine ⟨_,_,_,.pure qbl (by simp),?_⟩ | refine ⟨_,⟨_,_,.pure qbl (by simp)⟩,?_⟩ | refine ⟨_,_,⟨_,.pure qbl (by simp)⟩,?_⟩
  simp [qf4]
  try rfl
 ·simp only [qa7] at q3 p3;have hO:O = []:=by simpa using q3.symm
  subst hO;subst p3;simp [qbo,qbn];refine .mk [(3,.ptr 3 g3 0 0),(2,.ptr 2 g2 0 0)] [(3,.row g3 2 [.agg [.nil,.ref 55 gb 0 T.length none]]),(2,.row g2 2 [.agg [.nil,.nil]]),(55,.row gb 1 (T.map u8V))] (by simp) (by simp) (.frz (g:=gb) (sz:=1) (es:=T.map u8V) 55 (by simp) (qar T) (.done ?_));simp [fzF,fzH,fzV,fzf,fzp,Blk.fz,htT];intro gm
  first | refine ⟨_,_,_,.pure qbl (by simp),?_⟩ | refine ⟨_,⟨_,_,.pure qbl (by simp)⟩,?_⟩ | refine ⟨_,_,⟨_,.pure qbl (by simp)⟩,?_⟩
  simp
  first | refine ⟨_,_,_,.pure hcS (by simp),?_⟩ | refine ⟨_,⟨_,_,.pure hcS (by simp)⟩,?_⟩ | refine ⟨_,_,⟨_,.pure hcS (by simp)⟩,?_⟩
  simp [qf4,qad]
  try rfl
 ·simp only [qa7] at q3 p3;subst q3;have hT:T = []:=by simpa using p3.symm
  subst hT;simp [qbo,qbn];refine .mk [(3,.ptr 3 g3 0 0),(2,.ptr 2 g2 0 0)] [(3,.row g3 2 [.agg [.ref 24 ga 0 O.length none,.nil]]),(2,.row g2 2 [.agg [.nil,.nil]]),(24,.row ga 1 (O.map u8V))] (by simp) (by simp) (.frz (g:=ga) (sz:=1) (es:=O.map u8V) 24 (by simp) (qar O) (.done ?_));simp [fzF,fzH,fzV,fzf,fzp,Blk.fz,htO];intro gm
  first | refine ⟨_,_,_,.pure hcO (by simp),?_⟩ | refine ⟨_,⟨_,_,.pure hcO (by simp)⟩,?_⟩ | refine ⟨_,_,⟨_,.pure hcO (by simp)⟩,?_⟩
  simp
  first | refine ⟨_,_,_,.pure qbl (by simp),?_⟩ | refine ⟨_,⟨_,_,.pure qbl (by simp)⟩,?_⟩ | refine ⟨_,_,⟨_,.pure qbl (by simp)⟩,?_⟩
  simp [qf4,qad]
  try rfl
 ·simp only [qa7] at q3 p3;subst q3;subst p3;simp [qbo,qbn];refine .mk [(3,.ptr 3 g3 0 0),(2,.ptr 2 g2 0 0)] [(3,.row g3 2 [.agg [.ref 24 ga 0 O.length none,.ref 55 gb 0 T.length none]]),(2,.row g2 2 [.agg [.nil,.nil]]),(24,.row ga 1 (O.map u8V)),(55,.row gb 1 (T.map u8V))] (by simp) (by simp) (.frz (g:=ga) (sz:=1) (es:=O.map u8V) 24 (by simp) (qar O) (.frz (g:=gb) (sz:=1) (es:=T.map u8V) 55 (by simp [fzH,Blk.fz,qgt (qar T)]) (qar T) (.done ?_)));simp [fzF,fzH,fzV,fzf,fzp,Blk.fz,htO,htT,qad];intro gm
  first | refine ⟨_,_,_,.pure hcO (by simp),?_⟩ | refine ⟨_,⟨_,_,.pure hcO (by simp)⟩,?_⟩ | refine ⟨_,_,⟨_,.pure hcO (by simp)⟩,?_⟩
  simp
  first | refine ⟨_,_,_,.pure hcS (by simp),?_⟩ | refine ⟨_,⟨_,_,.pure hcS (by simp)⟩,?_⟩ | refine ⟨_,_,⟨_,.pure hcS (by simp)⟩,?_⟩
  simp [qf4,qad]
  try rfl
end
end Go.Proofs.YtpaopccohkldlaaGreatDoor
