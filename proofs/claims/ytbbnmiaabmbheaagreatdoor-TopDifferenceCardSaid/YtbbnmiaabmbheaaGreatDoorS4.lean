/- Lemmas. Conditions: none. -/
import Derived.Test.YtbbnmiaabmbheaaGreatDoorI1
import Derived.Test.YtbbnmiaabmbheaaGreatDoorNet13
import Derived.Test.YtbbnmiaabmbheaaGreatDoorBase18
set_option linter.all false
namespace Go.Proofs.YtbbnmiaabmbheaaGreatDoor
section
open Go
theorem qmg (v:Nat):qac Tryz.prog gl0 175 [u8V v] (u8V (qde v)):=by
 refine jj7 2 q7j rfl ?_;simp [jcr,x175,u8V,qde];refine jj5 (fun h=>?_) (fun h=>?_)
 ·have:=jkb h;simp [show 3 < v by omega]
 ·have:=jkc h;simp [show ¬ 3 < v by omega]
theorem qv7 (v:Nat):qac Tryz.prog gl0 165 [u8V v] (u8V (rdN v)):=by
 refine jj7 2 q69 rfl ?_;simp [jch,x165,u8V,rdN];omega
theorem qu9 (v:Nat):qac Tryz.prog gl0 232 [u8V v] (.bool (decide (v≤1))):=by
 refine jj7 2 q7t rfl ?_;simp [jc1,x232,u8V]
theorem qrn (v:Nat):qac Tryz.prog gl0 166 [u8V v] (u8V (qs3 v)):=by
 refine jj7 2 q7a rfl ?_;simp [jci,x166];refine jj4 (qu9 v) rfl ?_;simp [u8V];refine jj5 (fun h=>?_) (fun h=>?_)
 ·have hv:v = 0∨v = 1:=by have:=jkb h; omega
  rcases hv with rfl | rfl <;> simp [qs3,IntKind.wrap,IntKind.bits,IntKind.signed]
 ·have hv:=jkc h;simp [qs3,hv]
theorem q5m (lo hi:Nat) (l:List Nat) (cap:Option Nat) (hl:l.length < 1000000000):qac Tryz.prog gl0 233 [.sl (l.map u8V) cap,u8V lo,u8V hi] (u8V (dec lo hi hi l)):=by
 obtain ⟨q,hq⟩:∃ r,dec lo hi hi l = r:=⟨_,rfl⟩;rw [hq];refine jj7 2 q7u rfl ?_;simp [jc2,x233,u8V]
 refine jj6 (X:=Nat × Nat) (fun z=>[(13,qab z.1),(12,qab l.length),(11,.sl (l.map u8V) cap),(7,u8V z.2),(2,u8V hi),(1,u8V lo)]) (fun _=>[])
  (fun z=>z.1≤l.length/\dec lo hi z.2 (l.drop z.1) = q) (fun z=>l.length - z.1) (0,hi) ⟨by simp,by simpa using hq⟩ (by simp [qab,u8V]) (by simp) ?_
 rintro ⟨i,out⟩ ⟨h2,h3⟩;dsimp only at h2 h3 ⊢;simp [qab,u8V];refine jj5 (fun h1=>?_) (fun h1=>?_)
 ·have hi':i < l.length:=jkb h1;have hw:=qbg i (by omega);rw [List.drop_eq_getElem_cons hi',dec] at h3;obtain ⟨v,hv⟩:∃ v,l[i] = v:=⟨_,rfl⟩;rw [hv] at h3;simp [hi',hv,u8V];refine jj5 (fun h4=>?_) (fun h4=>?_)
  ·rw [if_pos (jkb h4)] at h3;simp [h3]
  ·rw [if_neg (jkc h4)] at h3;simp;refine jj5 (fun h5=>?_) (fun h5=>?_)
   ·have h5':=jkb h5;rw [if_pos h5'] at h3;simp [hw];exact ⟨i + 1,out,⟨hi',h3⟩,⟨rfl,rfl⟩,by omega⟩
   ·have h5':=jkc h5;rw [if_neg h5'] at h3;simp [hw];exact ⟨i + 1,2,⟨hi',h3⟩,⟨rfl,rfl⟩,by omega⟩
 ·have hi':i = l.length:=by have:=jkc h1; omega
  subst hi';simp [dec] at h3;simp [h3]
theorem qa1 (l:List Nat):jid (l.map u8V) = true:=V.pureL_map _ l fun _=>rfl
theorem q6e (l:List Nat) (cap:Option Nat) (hl:l.length < 1000000000):qac Tryz.prog gl0 167 [.sl (l.map u8V) cap] (u8V (dec 0 1 1 l)):=by
 refine jj7 2 q7b rfl ?_;simp [jcj,x167];refine jj4 (q5m 0 1 l cap hl) (by simp only [jid,V.pure,qa1,Bool.and_self]) ?_;simp [u8V]
theorem jds (l:List Nat) (cap:Option Nat) (hl:l.length < 1000000000):qac Tryz.prog gl0 168 [.sl (l.map u8V) cap] (u8V (dec 1 0 0 l)):=by
 refine jj7 2 q7c rfl ?_;simp [jck,x168];refine jj4 (q5m 1 0 l cap hl) (by simp only [jid,V.pure,qa1,Bool.and_self]) ?_;simp [u8V]
theorem q6n (l:List Nat) (cap:Option Nat) (hl:l.length < 1000000000):qac Tryz.prog gl0 169 [.sl (l.map u8V) cap] (u8V (qtr 0 l)):=by
 obtain ⟨q,hq⟩:∃ r,qtr 0 l = r:=⟨_,rfl⟩;rw [hq];refine jj7 2 q7d rfl ?_;simp [jcl,x169]
 refine jj6 (X:=Nat × Nat) (fun z=>[(8,qab z.1),(7,qab l.length),(6,.sl (l.map u8V) cap),(3,u8V z.2)]) (fun _=>[])
  (fun z=>z.1≤l.length/\z.2≤1/\qtr z.2 (l.drop z.1) = q) (fun z=>l.length - z.1) (0,0) ⟨by simp,by simp,by simpa using hq⟩ (by simp [qab,u8V]) (by simp) ?_
 rintro ⟨i,out⟩ ⟨h2,h4,h3⟩;dsimp only at h2 h3 h4 ⊢;simp [qab,u8V];refine jj5 (fun h1=>?_) (fun h1=>?_)
 ·have hi':i < l.length:=jkb h1;have hw:=qbg i (by omega);rw [List.drop_eq_getElem_cons hi',qtr] at h3;obtain ⟨v,hv⟩:∃ v,l[i] = v:=⟨_,rfl⟩;rw [hv] at h3;have hk:=qu9 v;simp only [u8V] at hk;simp [hi',hv,u8V];refine jj4 hk rfl ?_;simp;refine jj5 (fun h5=>?_) (fun h5=>?_)
  ·have hv1:v = 0∨v = 1:=by have:=jkb h5; omega
   have ho:out = 0∨out = 1:=by omega
   rcases hv1 with rfl | rfl
   ·simp only [if_true] at h3;rcases ho with rfl | rfl
    ·simp [hw];exact ⟨i + 1,0,⟨hi',by omega,h3⟩,⟨rfl,rfl⟩,by omega⟩
    ·simp [hw];exact ⟨i + 1,1,⟨hi',by omega,h3⟩,⟨rfl,rfl⟩,by omega⟩
   ·simp only [if_true,Nat.one_ne_zero,if_false] at h3;rcases ho with rfl | rfl
    ·simp [hw];exact ⟨i + 1,1,⟨hi',by omega,h3⟩,⟨rfl,rfl⟩,by omega⟩
    ·simp [hw];exact ⟨i + 1,0,⟨hi',by omega,h3⟩,⟨rfl,rfl⟩,by omega⟩
  ·have h5':=jkc h5;rw [if_neg (by omega),if_neg (by omega)] at h3;subst h3;simp
 ·have hi':i = l.length:=by have:=jkc h1; omega
  subst hi';simp [qtr] at h3;simp [h3]
theorem q6j (s a b:Nat):qac Tryz.prog gl0 170 [u8V s,u8V a,u8V b] (u8V (q2j s a b)):=by
 have ha:=qv7 a;have hb:=qv7 b;unfold q2j;simp only [u8V] at ha hb ⊢;refine jj7 2 q7e rfl ?_;simp [jcm,x170];refine jj5 (fun h1=>?_) (fun h1=>?_)
 ·have h1':s = 0:=jkb h1;subst h1';simp;refine jj4 ha rfl ?_;simp
 have h1':¬ s = 0:=jkc h1;simp;refine jj5 (fun h2=>?_) (fun h2=>?_)
 ·have h2':s = 1:=jkb h2;subst h2';simp;refine jj4 hb rfl ?_;simp
 have h2':¬ s = 1:=jkc h2;simp;refine jj5 (fun h3=>?_) (fun h3=>?_)
 ·have h3':a = b:=jkb h3;subst h3';simp;refine jj4 ha rfl ?_;simp [h1',h2']
 have h3':¬ a = b:=jkc h3;simp [h1',h2',h3']
theorem q6l (e d:Nat):qac Tryz.prog gl0 171 [u8V e,u8V d] (u8V (q3n e d)):=by
 have hb:=qv7 d;unfold q3n;simp only [u8V] at hb ⊢;refine jj7 2 q7f rfl ?_;simp [jcn,x171];refine jj5 (fun h1=>?_) (fun h1=>?_)
 ·have h1':e = 0:=jkb h1;subst h1';simp
 have h1':¬ e = 0:=jkc h1;simp;refine jj5 (fun h2=>?_) (fun h2=>?_)
 ·have h2':e = 1:=jkb h2;subst h2';simp;refine jj4 hb rfl ?_;simp
 have h2':¬ e = 1:=jkc h2;simp [h1',h2']
theorem jh2 (v:Nat):qac Tryz.prog gl0 234 [u8V v] (.bool (decide (qde v = 2))):=by
 have hc:=qmg v;refine jj7 2 q7v rfl ?_;simp [jc3,x234];refine jj4 hc rfl ?_;simp [u8V]
theorem jb2 (v:Nat):qac Tryz.prog gl0 235 [u8V v] (.bool (v != 3)):=by
 have e:(v != 3) = !decide (v = 3):=rfl;rw [e];refine jj7 2 q7w rfl ?_;simp [jc4,x235,u8V]
def qeg (p:Nat->Bool):List Nat->Nat->Int
 | [],_=>-1
 | x :: r,i=>if p x = true then (i:Int) else qeg p r (i + 1)
theorem qj1 (p:Nat->Bool):∀ (l:List Nat) (i:Nat),decide (0≤qeg p l i) = l.any p
 | [],i=>by simp [qeg]
 | x :: l,i=>by
  cases h:p x with
  | true=>simp [qeg,h]
  | false=>
   have:=qj1 p l (i + 1);simp only [qeg,h,Bool.false_eq_true,if_false,List.any_cons,Bool.false_or];exact this
theorem qlk {p:Nat->Bool}:∀ {l:List Nat} {i:Nat},l.find? p = none->qeg p l i = -1
 | [],_,_=>rfl
 | x :: l,i,h=>by
  rw [List.find?_cons] at h
  cases hx:p x with
  | true=>rw [hx] at h; simp at h
  | false=>
   rw [hx] at h;simp only [qeg,hx,Bool.false_eq_true,if_false];exact qlk h
theorem qll {p:Nat->Bool} {v:Nat}:∀ {l:List Nat} {i:Nat},l.find? p = some v->∃ j:Nat,qeg p l i = ((i + j:Nat):Int)/\l[j]? = some v
 | [],_,h=>by simp at h
 | x :: l,i,h=>by
  rw [List.find?_cons] at h
  cases hx:p x with
  | true=>
   rw [hx] at h;simp only [Option.some.injEq] at h;exact ⟨0,by simp [qeg,hx],by simp [h]⟩
  | false=>
   rw [hx] at h;obtain ⟨j,h1,h2⟩:=qll (i:=i + 1) h;refine ⟨j + 1,?_,by simpa using h2⟩;simp only [qeg,hx,Bool.false_eq_true,if_false];rw [h1];congr 1;omega
theorem qiq (l:List Nat) (cap:Option Nat) (g:FuncId) (cp:List V) (p:Nat->Bool) (hf:∀ x ∈ l,qac Tryz.prog gl0 g (u8V x :: cp) (.bool (p x))) (hp:jid cp = true) (hl:l.length < 1000000000000):qac Tryz.prog gl0 70 [.sl (l.map u8V) cap,.fn g [] cp] (.int .i64 (qeg p l 0)):=by
 obtain ⟨q,hq⟩:∃ r,qeg p l 0 = r:=⟨_,rfl⟩;rw [hq];refine jj7 2 jg4 rfl ?_;simp [i70,x70]
 refine jj6 (X:=Nat) (fun i=>[(8,qab i),(7,qab l.length),(0,.sl (l.map u8V) cap),(1,.fn g [] cp)]) (fun _=>[])
  (fun i=>i≤l.length/\qeg p (l.drop i) i = q) (fun i=>l.length - i) 0 ⟨by simp,by simpa using hq⟩ (by simp [qab]) (by simp) ?_
 rintro i ⟨h2,h3⟩;simp [qab];refine jj5 (fun h1=>?_) (fun h1=>?_)
 ·have h1':i < l.length:=jkb h1;have hw:=qbg i (by omega);rw [List.drop_eq_getElem_cons h1'] at h3;simp only [qeg] at h3;obtain ⟨v,hv⟩:∃ v,l[i] = v:=⟨_,rfl⟩;have hfv:=hf v (hv ▸ jkg h1');rw [hv] at h3;simp only [u8V] at hfv;simp [h1',hv,u8V];refine jj4 hfv (by simp only [jid,V.pure,hp,Bool.and_self]) ?_;simp;refine jj5 (fun h4=>?_) (fun h4=>?_)
  ·rw [if_pos h4] at h3;simp [h3]
  ·rw [if_neg (by simp [h4])] at h3;simp [hw];exact ⟨i + 1,⟨h1',h3⟩,rfl,by omega⟩
 ·have h1':i = l.length:=by have:=jkc h1; omega
  subst h1';simp [qeg] at h3;simp [h3]
theorem qjt (l:List Nat) (cap:Option Nat) (g:FuncId) (cp:List V) (p:Nat->Bool) (hf:∀ x ∈ l,qac Tryz.prog gl0 g (u8V x :: cp) (.bool (p x))) (hp:jid cp = true) (hl:l.length < 1000000000000):qac Tryz.prog gl0 162 [.sl (l.map u8V) cap,.fn g [] cp] (.bool (l.any p)):=by
 refine jj7 2 q2x rfl ?_;simp [q94,jia];refine jj4 (qiq l cap g cp p hf hp hl) (by simp [hp,qa1]) ?_;simp [qj1]
theorem qyb (x:Nat) (l:List Nat) (cap:Option Nat) (hl:l.length < 1000000000000):qac Tryz.prog gl0 325 [.sl (l.map u8V) cap,u8V x] (.int .i64 (qeg (fun v=>x == v) l 0)):=by
 obtain ⟨q,hq⟩:∃ r,qeg (fun v=>x == v) l 0 = r:=⟨_,rfl⟩;rw [hq];refine jj7 2 q8c rfl ?_;simp [jdj,x325]
 refine jj6 (X:=Nat) (fun i=>[(8,qab i),(7,qab l.length),(0,.sl (l.map u8V) cap),(1,u8V x)]) (fun _=>[])
  (fun i=>i≤l.length/\qeg (fun v=>x == v) (l.drop i) i = q) (fun i=>l.length - i) 0 ⟨by simp,by simpa using hq⟩ (by simp [qab]) (by simp) ?_
 rintro i ⟨h2,h3⟩;simp [qab];refine jj5 (fun h1=>?_) (fun h1=>?_)
 ·have h1':i < l.length:=jkb h1;have hw:=qbg i (by omega);rw [List.drop_eq_getElem_cons h1'] at h3;simp only [qeg] at h3;obtain ⟨v,hv⟩:∃ v,l[i] = v:=⟨_,rfl⟩;rw [hv] at h3;simp [h1',hv,u8V];refine jj5 (fun h4=>?_) (fun h4=>?_)
  ·rw [if_pos (by simpa using jkb h4)] at h3;simp [h3]
  ·rw [if_neg (by simpa using jkc h4)] at h3;simp [hw];exact ⟨i + 1,⟨h1',h3⟩,rfl,by omega⟩
 ·have h1':i = l.length:=by have:=jkc h1; omega
  subst h1';simp [qeg] at h3;simp [h3]
theorem q1c (x:Nat) (l:List Nat):(l.any fun v=>x == v) = decide (x ∈ l):=by
 rw [Bool.eq_iff_iff];simp
theorem qju (x:Nat) (l:List Nat) (cap:Option Nat) (hl:l.length < 1000000000000):qac Tryz.prog gl0 285 [.sl (l.map u8V) cap,u8V x] (.bool (decide (x ∈ l))):=by
 refine jj7 2 q76 rfl ?_;simp [jde,x285];refine jj4 (qyb x l cap hl) (by simp [u8V,qa1]) ?_;simp [qj1,q1c]
theorem qsl (l:List Nat) (cap:Option Nat) (hl:l.length < 1000000000000):qac Tryz.prog gl0 236 [.sl (l.map u8V) cap] (.bool (decide (0 ∈ l) && decide (1 ∈ l))):=by
 refine jj7 2 q7x rfl ?_;simp [jc5,x236];refine jj4 (qju 0 l cap hl) (by simp [qa1]) ?_;simp;refine jj5 (fun h=>?_) (fun h=>?_)
 ·simp [h];refine jj4 (qju 1 l cap hl) (by simp [qa1]) ?_;simp
 ·simp [h]
set_option maxRecDepth 100000 in
theorem q6f (l:List Nat) (cap:Option Nat) (hl:l.length < 1000000000):qac Tryz.prog gl0 172 [.sl (l.map u8V) cap] (u8V (q3u l)):=by
 have h1:=qiq l cap 235 [] (fun v=>v != 3) (fun x _=>jb2 x) rfl (by omega);have h2:=qjt l cap 234 [] (fun v=>decide (qde v = 2)) (fun x _=>jh2 x) rfl (by omega);obtain ⟨k,hk⟩:∃ k,qeg (fun v=>v != 3) l 0 = k:=⟨_,rfl⟩
 have hany:(l.any fun v=>decide (qde v = 2)) = decide (∃ u ∈ l,qde u = 2):=by
  rw [Bool.eq_iff_iff]; simp
 rw [hany] at h2;rw [hk] at h1;unfold q3u;refine jj7 2 q7g rfl ?_;simp [jco,x172];refine jj4 h1 (by simp [qa1]) ?_;simp
 cases hf:l.find? (fun v=>v != 3) with
 | none=>
  have hk1:k = -1:=by rw [<- hk]; exact qlk hf
  subst hk1;simp [u8V]
 | some v=>
  obtain ⟨j,hj,hv⟩:=qll (i:=0) hf;have hkj:k = (j:Int):=by rw [<- hk,hj]; congr 1; omega
  subst hkj;have hjl:j < l.length:=(List.getElem?_eq_some_iff.1 hv).1;have hvv:l[j] = v:=(List.getElem?_eq_some_iff.1 hv).2;simp;refine jj4 (qsl l cap (by omega)) (by simp [qa1]) ?_;simp;by_cases h01:0 ∈ l/\1 ∈ l
  ·simp [h01,u8V]
  ·have e:(decide (0 ∈ l) && decide (1 ∈ l)) = false:=by
    rw [Bool.eq_false_iff];simpa using h01
   simp [e];refine jj4 h2 (by simp [qa1]) ?_;by_cases hu:∃ u ∈ l,qde u = 2
   ·simp [hu,u8V]
   ·simp [hu,h01,hjl,hvv,u8V]
theorem qkp (l:List Nat) (cap:Option Nat):jid [.sl (l.map u8V) cap] = true:=by simp only [jid,V.pure,qa1,Bool.and_self]
set_option maxRecDepth 100000 in
set_option maxHeartbeats 4000000 in
theorem qvh (k:Nat) (hk:k < 256) (l:List Nat) (cap:Option Nat) (hl:l.length < 1000000000):qac Tryz.prog gl0 102 [u8V k,.sl (l.map u8V) cap] (u8V (qpg k l)):=by
 have hf:=qux (k:Int) (by omega) (by omega);have hland:=q6e l cap hl;have hlor:=jds l cap hl;have hlxor:=q6n l cap hl;have hbus:=q6f l cap hl;obtain ⟨A,hA⟩:∃ p,dec 0 1 1 l = p:=⟨_,rfl⟩;obtain ⟨B,hB⟩:∃ p,dec 1 0 0 l = p:=⟨_,rfl⟩;obtain ⟨X,hX⟩:∃ p,qtr 0 l = p:=⟨_,rfl⟩;obtain ⟨U,hU⟩:∃ p,q3u l = p:=⟨_,rfl⟩;have hnA:=qrn A;have hnB:=qrn B;have hnX:=qrn X;obtain ⟨NA,hNA⟩:∃ p,qs3 A = p:=⟨_,rfl⟩;obtain ⟨NB,hNB⟩:∃ p,qs3 B = p:=⟨_,rfl⟩;obtain ⟨NX,hNX⟩:∃ p,qs3 X = p:=⟨_,rfl⟩;rw [hA] at hland;rw [hB] at hlor;rw [hX] at hlxor;rw [hU] at hbus;rw [hNA] at hnA;rw [hNB] at hnB;rw [hNX] at hnX;have hg:∀ j (h:j < l.length),l.getD j 0 = l[j]:=fun j h=>by simp [h]
 refine jj7 2 q6x rfl ?_;obtain ⟨lo,hlo⟩:∃ p,kLo k = p:=⟨_,rfl⟩;obtain ⟨hi,hhi⟩:∃ p,kHi k = p:=⟨_,rfl⟩;rw [hlo,hhi] at hf;unfold qpg;rw [hlo,hhi];simp only [u8V] at hland hlor hlxor hbus hnA hnB hnX;simp [jb5,x102,u8V];refine jj4 hf rfl ?_;simp;refine jj5 (fun h1=>?_) (fun h1=>?_)
 ·have h1':=jkb h1;rw [if_pos (.inl h1')];simp [h1]
 have h1':=jkc h1;simp [h1];refine jj5 (fun h2=>?_) (fun h2=>?_)
 ·have h2':=jkb h2;rw [if_pos (.inr h2')];simp
 have h2':=jkc h2;rw [if_neg (by omega)]
 have hk15:k≤15:=by
  by_cases hc:k≤15
  ·exact hc
  ·exfalso;have:hi = -1:=by rw [<- hhi,kHi,if_pos (by omega)]
   omega
 have hc:k = 0∨k = 1∨k = 2∨k = 3∨k = 4∨k = 5∨k = 6∨k = 7∨k = 8∨k = 9∨k = 10∨k = 11∨k = 12∨k = 13∨k = 14∨k = 15:=by omega
 rcases hc with rfl | rfl | rfl | rfl | rfl | rfl | rfl | rfl | rfl | rfl | rfl | rfl | rfl | rfl | rfl | rfl
 ·simp [qfl]
 ·simp [qfl]
 ·simp [qfl]
 ·have h0:0 < l.length:=by
   have:lo = 1:=by rw [<- hlo]; rfl
   omega
  have hr:=qv7 l[0];simp only [u8V] at hr;have e:qfl 3 l = rdN l[0]:=by rw [<- hg 0 h0]; rfl
  rw [e];simp [h0,u8V];refine jj4 hr rfl ?_;simp
 ·have h0:0 < l.length:=by
   have:lo = 1:=by rw [<- hlo]; rfl
   omega
  have hr:=qrn l[0];simp only [u8V] at hr;have e:qfl 4 l = qs3 l[0]:=by rw [<- hg 0 h0]; rfl
  rw [e];simp [h0,u8V];refine jj4 hr rfl ?_;simp
 ·rw [show qfl 5 l = A from hA];simp;refine jj4 hland (qkp _ _) ?_;simp
 ·rw [show qfl 6 l = NA by rw [<- hNA,<- hA]; rfl];simp;refine jj4 hland (qkp _ _) ?_;simp;refine jj4 hnA rfl ?_;simp
 ·rw [show qfl 7 l = B from hB];simp;refine jj4 hlor (qkp _ _) ?_;simp
 ·rw [show qfl 8 l = NB by rw [<- hNB,<- hB]; rfl];simp;refine jj4 hlor (qkp _ _) ?_;simp;refine jj4 hnB rfl ?_;simp
 ·rw [show qfl 9 l = X from hX];simp;refine jj4 hlxor (qkp _ _) ?_;simp
 ·rw [show qfl 10 l = NX by rw [<- hNX,<- hX]; rfl];simp;refine jj4 hlxor (qkp _ _) ?_;simp;refine jj4 hnX rfl ?_;simp
 ·have h0:l.length = 3:=by
   have e1:lo = 3:=by rw [<- hlo]; rfl
   have e2:hi = 3:=by rw [<- hhi]; rfl
   omega
  have hr:=q6j (l[0]'(by omega)) (l[1]'(by omega)) (l[2]'(by omega));have e:qfl 11 l = q2j (l[0]'(by omega)) (l[1]'(by omega)) (l[2]'(by omega)):=by rw [<- hg 0 (by omega),<- hg 1 (by omega),<- hg 2 (by omega)]; rfl
  rw [e];generalize q2j (l[0]'(by omega)) (l[1]'(by omega)) (l[2]'(by omega)) = M at hr ⊢;simp only [u8V] at hr;simp [show 0 < l.length by omega,show 1 < l.length by omega,show 2 < l.length by omega,u8V];intro gm
  first | refine ⟨_,_,_,.pure hr rfl,?_⟩ | refine ⟨_,⟨_,_,.pure hr rfl⟩,?_⟩ | refine ⟨_,_,⟨_,.pure hr rfl⟩,?_⟩
  simp
 ·have h0:l.length = 2:=by
   have e1:lo = 2:=by rw [<- hlo]; rfl
   have e2:hi = 2:=by rw [<- hhi]; rfl
   omega
  have hr:=q6l (l[0]'(by omega)) (l[1]'(by omega));have e:qfl 12 l = q3n (l[0]'(by omega)) (l[1]'(by omega)):=by rw [<- hg 0 (by omega),<- hg 1 (by omega)]; rfl
  rw [e];generalize q3n (l[0]'(by omega)) (l[1]'(by omega)) = M at hr ⊢;simp only [u8V] at hr;simp [show 0 < l.length by omega,show 1 < l.length by omega,u8V];intro gm
  first | refine ⟨_,_,_,.pure hr rfl,?_⟩ | refine ⟨_,⟨_,_,.pure hr rfl⟩,?_⟩ | refine ⟨_,_,⟨_,.pure hr rfl⟩,?_⟩
  simp
 ·rw [show qfl 13 l = U from hU];simp;refine jj4 hbus (qkp _ _) ?_;simp
 ·simp [qfl]
 ·simp [qfl]
end
section
open Go
attribute [simp] qa1
@[simp] theorem ja3 (p:Pt):p.v.cells = [.sl (p.i.map u8V) none,.sl (p.s.map u8V) none]:=rfl
@[simp] theorem q4k (p:Pt):p.v.cellsOk = true:=rfl
@[simp] theorem jho (p:Pt):V.pure p.v = true:=by simp [Pt.v]
theorem modS {a b p:Nat} (h:a % b = p):((a:Int)).tmod (b:Int) = (p:Int):=by rw [<- h]; rfl
theorem qt9 (k:Int):∀ a b:List Nd,cnt k (a ++ b) = cnt k a + cnt k b
 | [],b=>by simp [cnt,ids]
 | n :: a,b=>by rw [List.cons_append,qi6,qi6,qt9 k a b]; omega
theorem qxt {k:Int} {l:List Nd} {i:Nat} {y:Nd} (h:i < l.length) (hy:l[i] = y):cnt k (l.take (i + 1)) = cnt k (l.take i) + if y.k = k then 1 else 0:=by
 rw [List.take_succ_eq_append_getElem h,qt9,hy,qi6];simp [cnt,ids]
theorem quc (c:Ci) (k:Nat) (hl:c.n.length < 1000000):qac Tryz.prog gl0 91 [c.v,u8V k] (qab (cnt (k:Int) c.n)):=by
 refine jj7 2 ok91 rfl ?_;simp [i91,x91,Ci.v,u8V];intro gf;generalize gf 2 = g2
 refine jj6 (X:=Nat) (fun i=>[(6,qab i),(5,qab (cnt (k:Int) (c.n.take i))),(2,.ptr 2 g2 0 0),(1,.int .u8 (k:Int))]) (fun _=>[(2,.row g2 4 [.agg [.sl (c.n.map Nd.v) none,.sl (c.s.map .str) none,.sl (c.m.map Md.v) none,.sl (qdh c.o) none]])])
  (fun i=>i≤c.n.length) (fun i=>c.n.length - i) 0 (Nat.zero_le _) (by simp [qab,cnt,ids]) (by simp) ?_
 intro i hi;simp [qab];refine jj5 (fun hb=>?_) (fun hb=>?_)
 ·have hi':i < c.n.length:=jkb hb;have hw:=qbg i (by omega);obtain ⟨y,hy⟩:∃ y,c.n[i] = y:=⟨_,rfl⟩;have ht:=qxt (k:=(k:Int)) hi' hy;have hle:=qg8 (k:Int) (c.n.take i);have hle2:(c.n.take i).length≤i:=by simp; omega
  obtain ⟨q,hq⟩:∃ q,cnt (k:Int) (c.n.take i) = q:=⟨_,rfl⟩;rw [hq] at ht hle;have hw2:=qbg q (by omega);simp [hi',hy,Nd.v,hq];refine jj5 (fun h1=>?_) (fun h1=>?_)
  ·have h1':=jkb h1;rw [if_pos h1'] at ht;simp [hw,hw2];exact ⟨i + 1,hi',by rw [ht]; simp,by omega⟩
  ·have h1':=jkc h1;rw [if_neg h1'] at ht;simp [hw];exact ⟨i + 1,hi',by rw [ht]; simp,by omega⟩
 ·have hi':i = c.n.length:=by have:=jkc hb; omega
  subst hi';simp
def tkN (l:List Nat) (n most:Nat):List Nat:=tab n fun i=>if l.length = 0 then 2 else l.getD (i % l.length) 0 % most
@[simp] theorem q4r (l:List Nat) (n most:Nat):(tkN l n most).length = n:=by simp [tkN]
theorem q04 (l:List Nat) (n most:Nat) (hm:0 < most) (hm2:most≤4):∀ x ∈ tkN l n most,x≤3:=by
 intro x hx;simp only [tkN,tab,List.mem_map] at hx;obtain ⟨i,-,rfl⟩:=hx;split
 ·omega
 ·have:=Nat.mod_lt (l.getD (i % l.length) 0) hm;omega
theorem qzt {α:Type} (n:Nat) (f:Nat->α):tab (n + 1) f = tab n f ++ [f n]:=by simp [tab,List.range_succ]
theorem qyn (l:List V):VLe (qym l) (.sl l none):=by
 cases l with
 | nil=>exact VLe.nil'
 | cons a r=>exact .refl _
theorem qwz (l:List Nat) (cap:Option Nat) (n most:Nat) (hn:n < 1000000) (hm:0 < most) (hm2:most < 256):qac Tryz.prog gl0 90 [.sl (l.map u8V) cap,qab n,u8V most] (.sl ((tkN l n most).map u8V) none):=by
 refine qac.wide (res:=qym ((tkN l n most).map u8V)) ?_ (qg5.refl _) (qyn _);refine jj7 2 ok90 rfl ?_;simp [i90,x90,qab,u8V]
 refine jix (X:=Nat × Option (Nat × List V)) (fun z=>[(8,qab z.1),(7,qbe 1000 z.2),(0,.sl (l.map u8V) cap),(1,qab n),(2,u8V most)]) (fun z=>qbj 1000 1 z.2)
  (fun z=>z.1≤n/\(z.2 = none↔z.1 = 0)/\qav z.2 = (tkN l z.1 most).map u8V) (fun z=>n - z.1) (.done ⟨(0,none),⟨by simp,by simp,by simp [qav,tkN,tab]⟩,by simp [qab,qbe,u8V],by simp [qbj]⟩) ?_
 rintro ⟨j,acc⟩ ⟨q1,q2,q3⟩;dsimp only at q1 q2 q3 ⊢;have hlp:=qa1 l;simp [qab,u8V];refine jj5 (fun hb=>?_) (fun hb=>?_)
 ·have hj:j < n:=jkb hb;have hw:=qbg j (by omega);obtain ⟨v,hv⟩:∃ v,(if l.length = 0 then 2 else l.getD (j % l.length) 0 % most) = v:=⟨_,rfl⟩
  have hnx:(tkN l (j + 1) most).map u8V = (tkN l j most).map u8V ++ [.int .u8 (v:Int)]:=by
   rw [tkN,qzt,hv]; simp [tkN,u8V]
  have hjl:((tkN l j most).map u8V).length = j:=by simp
  rw [<- q3] at hnx hjl;simp;refine jj5 (fun h0=>?_) (fun h0=>?_)
  ·have h0':l.length = 0:=by simpa using h0
   rw [if_pos h0'] at hv;subst hv
   cases acc with
   | none=>
    have hj0:j = 0:=q2.1 rfl;simp [qbe,qbj,hw];intro ga gb;refine .move 19 1000 _ (by simp) (by simp; rfl) fun g'=>.done ⟨j + 1,some (g',[.int .u8 2]),⟨hj,by simp,by rw [hnx]; rfl⟩,?_⟩;simp [qby _ hlp];omega
   | some gl=>
    obtain ⟨g,r⟩:=gl;simp only [qav] at hnx hjl;simp [qbe,qbj,hw];intro ga gb;refine ⟨by omega,.done ⟨j + 1,some (gb 1000,r ++ [.int .u8 2]),⟨hj,by simp,by rw [hnx]; rfl⟩,?_⟩⟩;simp;omega
  ·have h0':¬ l.length = 0:=by simpa using h0
   rw [if_neg h0'] at hv;have hlt:=Nat.mod_lt j (show 0 < l.length by omega);obtain ⟨p,hp⟩:∃ p,j % l.length = p:=⟨_,rfl⟩;rw [hp] at hlt hv;have hm1:((j:Int)).tmod (l.length:Int) = (p:Int):=modS hp;obtain ⟨x,hx⟩:∃ x,l[p] = x:=⟨_,rfl⟩;have hxv:x % most = v:=by rw [<- hv,jkd,jkh hlt,hx]; rfl
   have hm3:((x:Int)).tmod (most:Int) = (v:Int):=modS hxv;have hl0:l ≠ []:=fun e=>h0' (by rw [e]; rfl);have hm0:most ≠ 0:=by omega
   cases acc with
   | none=>
    have hj0:j = 0:=q2.1 rfl;simp [hl0,hm1,hlt,hx,hm3,hm0,u8V,qbe,qbj,hw];intro ga gb;refine .move 31 1000 _ (by simp) (by simp; rfl) fun g'=>.done ⟨j + 1,some (g',[.int .u8 (v:Int)]),⟨hj,by simp,by rw [hnx]; rfl⟩,?_⟩;simp [qby _ hlp];omega
   | some gl=>
    obtain ⟨g,r⟩:=gl;simp only [qav] at hnx hjl;simp [hl0,hm1,hlt,hx,hm3,hm0,u8V,qbe,qbj,hw];intro ga gb;refine ⟨by omega,.done ⟨j + 1,some (gb 1000,r ++ [.int .u8 (v:Int)]),⟨hj,by simp,by rw [hnx]; rfl⟩,?_⟩⟩;simp;omega
 ·have hj:j = n:=by have:=jkc hb; omega
  subst hj
  cases acc with
  | none=>
   have hj0:j = 0:=q2.1 rfl;subst hj0;simp [qbe,qbj,tkN,tab,qym]
  | some gl=>
   obtain ⟨g,r⟩:=gl;simp only [qav] at q3;have hrp:jid r = true:=by rw [q3]; exact qa1 _
   have hr0:r ≠ []:=fun e=>by
    have h1:=q2.2;subst e;have:j = 0:=by have:=congrArg List.length q3; simpa using this.symm
    exact absurd (h1 this) (by simp)
   have hlv:qym r = .sl r none:=by cases r with
    | nil=>exact absurd rfl hr0
    | cons a b=>rfl
   rw [<- q3,hlv];simp [qbe,qbj,qbf hrp]
theorem jhm (p:Pt) (c:Ci) (hl:c.n.length < 1000000):qac Tryz.prog gl0 25 [p.v,c.v] (Pt.v ⟨tkN p.i (cnt 0 c.n) 4,tkN p.s (cnt 14 c.n) 3⟩):=by
 have c0:qac Tryz.prog gl0 91 [c.v,u8V 0] (qab (cnt 0 c.n)):=quc c 0 hl;have c1:qac Tryz.prog gl0 91 [c.v,u8V 14] (qab (cnt 14 c.n)):=quc c 14 hl;have l0:=qg8 0 c.n;have l1:=qg8 14 c.n;generalize cnt 0 c.n = A at c0 l0 ⊢;generalize cnt 14 c.n = B at c1 l1 ⊢;have t0:=qwz p.i none A 4 (by omega) (by omega) (by omega);have t1:=qwz p.s none B 3 (by omega) (by omega) (by omega);simp only [u8V,qab] at c0 c1 t0 t1;generalize (tkN p.i A 4) = X at t0 ⊢;generalize (tkN p.s B 3) = Y at t1 ⊢;refine jj7 2 ok25 rfl ?_;simp [i25,x25,Pt.v];intro gf1 gf2 gf3 gm;refine ⟨_,_,_,.pure c0 (by simp),?_⟩;simp;refine ⟨_,_,_,.pure t0 (by simp [qa1]),?_⟩;simp;refine ⟨_,_,_,.pure c1 (by simp),?_⟩;simp;refine ⟨_,_,_,.pure t1 (by simp [qa1]),?_⟩;simp [qao]
 try rfl
end
section
open Go
theorem qt1 (v:Nat) (h:v≤3):qac Tryz.prog gl0 163 [u8V v] (.bool false):=by
 refine jj7 2 q67 rfl ?_;simp [jcf,x163,u8V];omega
theorem qu5 (f:FuncId) (l:List Nat) (cap:Option Nat) (hl:l.length < 1000000000) (hf:∀ v ∈ l,qac Tryz.prog gl0 f [u8V v] (.bool false)):qac Tryz.prog gl0 70 [.sl (l.map u8V) cap,.fn f [] []] (.int .i64 (-1)):=by
 refine jj7 2 jg4 rfl ?_;simp [i70,x70]
 refine jj6 (X:=Nat) (fun i=>[(8,qab i),(7,qab l.length),(0,.sl (l.map u8V) cap),(1,.fn f [] [])]) (fun _=>[])
  (fun i=>i≤l.length) (fun i=>l.length - i) 0 (Nat.zero_le _) (by simp [qab]) (by simp) ?_
 intro i hi;simp [qab];refine jj5 (fun hb=>?_) (fun hb=>?_)
 ·have hi':i < l.length:=jkb hb;have hw:=qbg i (by omega);obtain ⟨y,hy⟩:∃ y,l[i] = y:=⟨_,rfl⟩;have hfy:=hf y (by rw [<- hy]; exact jkg hi');simp only [u8V] at hfy;simp [hi',hy,u8V];refine jj4 hfy rfl ?_;simp [hw];exact ⟨i + 1,hi',rfl,by omega⟩
 ·simp
theorem qlg (f:FuncId) (l:List Nat) (cap:Option Nat) (hl:l.length < 1000000000) (hf:∀ v ∈ l,qac Tryz.prog gl0 f [u8V v] (.bool false)):qac Tryz.prog gl0 162 [.sl (l.map u8V) cap,.fn f [] []] (.bool false):=by
 refine jj7 2 q2x rfl ?_;simp [q94,jia];refine jj4 (qu5 f l cap hl hf) (by simp [jid,V.pure,qa1]) ?_;simp
theorem qn9 (c:Ci) (hl:c.n.length < 1000000):qac Tryz.prog gl0 40 [c.v] (.sl (qaf (ids 0 c.n 0)) (some (cnt 0 c.n))):=by
 have:=ji8 (qce.one (qyd c hl) fun _ _ h=>qhd h) (qeb _ c.n 0).2;rw [qje] at this;simpa [cnt] using this
theorem qkj (c:Ci) (hl:c.n.length < 1000000):qac Tryz.prog gl0 41 [c.v] (.sl (qaf (ids 14 c.n 0)) (some (cnt 14 c.n))):=by
 have:=ji8 (qce.one (qr5 c hl) fun _ _ h=>qhd h) (qeb _ c.n 0).2;rw [qje] at this;simpa [cnt] using this
theorem q2t (c:Ci) (hg:c.good):qce Tryz.prog gl0 116 [c.v,.sl [.int .u8 15] (some 1)] (qz3 1 (.sl [] (some 0))):=by
 have h1:=jjy (jd1 c [15] (some 1) (by have:=hg.n1; omega) (by simp)) (qeb [15] c.n 0).2 (qeb [15] c.n 0).1
 have h2:ids 15 c.n 0 = []:=by
  rw [List.eq_nil_iff_forall_not_mem];intro x hx;obtain ⟨hx',hk⟩:=qrl hx;exact hg.k _ (jkg hx') hk
 rw [qje,h2] at h1;simpa [qaf] using h1
theorem q55 (c:Ci) (hg:c.good) (p:Pt) (hp:p.fit c):qac Tryz.prog gl0 100 [c.v,p.v] (.int .i64 0):=by
 have hn1:=hg.n1;have hm:=hg.m;have l0:=qg8 0 c.n;have l1:=qg8 14 c.n;have hpi:=hp.i;have hps:=hp.s;have ci:=qn9 c (by omega);have cs:=qkj c (by omega);have cm:=q2t c hg;have k1:=qlg 163 p.i none (by omega) fun v hv=>qt1 v (hp.iv v hv);have k2:=qlg 163 p.s none (by omega) fun v hv=>qt1 v (hp.sv v hv);obtain ⟨I,hI⟩:∃ I,ids 0 c.n 0 = I:=⟨_,rfl⟩;obtain ⟨S,hS⟩:∃ S,ids 14 c.n 0 = S:=⟨_,rfl⟩;have hIl:I.length = cnt 0 c.n:=by rw [<- hI]; rfl
 have hSl:S.length = cnt 14 c.n:=by rw [<- hS]; rfl
 rw [hI] at ci;rw [hS] at cs;refine jj7 2 q6w rfl ?_;simp [jb4,x100,hm];intro gf1 gf2;intro gf3;refine CallO.dat 1 cm (by simp) ?_;simp;intro gm;refine ⟨_,_,_,.pure ci (by simp),?_⟩;simp [hpi,hIl];refine ⟨_,_,_,.pure cs (by simp),?_⟩;simp [hps,hSl];refine ⟨rfl,?_⟩;refine jj4 k1 (by simp) ?_;simp;refine jj4 k2 (by simp) ?_;simp
end
section
open Go
def qi2 (c:Ci) (l:V):V:=.agg [.sl (c.n.map Nd.v) none,.sl (c.s.map .str) none,.sl (c.m.map Md.v) none,.sl (qdh c.o) none,l]
@[simp] theorem q87 (c:Ci) (l:V):(qi2 c l).cells = [.sl (c.n.map Nd.v) none,.sl (c.s.map .str) none,.sl (c.m.map Md.v) none,.sl (qdh c.o) none,l]:=rfl
@[simp] theorem run_ok (c:Ci) (xs:List V) (cap:Option Nat):(qi2 c (.sl xs cap)).cellsOk = true:=rfl
@[simp] theorem jhy (c:Ci) (b g o l:Nat) (cap:Option Nat):(qi2 c (.ref b g o l cap)).cellsOk = true:=rfl
theorem run_pure (c:Ci) (l:List Nat) (cap:Option Nat):(qi2 c (.sl (l.map u8V) cap)).pure = true:=by
 have:=qxp c;simp only [Ci.v,V.pure,jid,Bool.and_true,Bool.and_eq_true] at this;simp [qi2,this]
theorem qw4 (c:Ci) (l:List Nat) (cap:Option Nat) (m:Nat) (h:m < l.length) (_hl:l.length < 1000000):qac Tryz.prog gl0 173 [qi2 c (.sl (l.map u8V) cap),.int .i64 (m:Int)] (u8V (qde (l.getD m 0))):=by
 obtain ⟨x,hx⟩:∃ x,l[m] = x:=⟨_,rfl⟩;have hd:l.getD m 0 = x:=by rw [jkd,jkh h,hx]; rfl
 rw [hd];have hc:=qmg x;simp only [u8V] at hc;refine jj7 2 q7h rfl ?_;simp [jcp,x173,qi2,show ¬ l.length≤m by omega,h,hx,u8V];intro gf;refine jj4 hc rfl ?_;simp
theorem qq9 (l:List Nat) (cap:Option Nat) (_hl:l.length < 1000000):qac Tryz.prog gl0 174 [.sl (l.map u8V) cap] (.sl (l.map u8V) (some l.length)):=by
 refine jj7 2 q7i rfl ?_;simp [jcq,x174];rw [jkf (by simp)];exact qao _ (qa1 l)
theorem qdf:qac Tryz.prog gl0 174 [.nil] (.sl [] (some 0)):=qac.wide (qq9 [] none (by simp)) ⟨VLe.nil',trivial⟩ (.refl _)
theorem q0s {c:Ci} (hg:c.good) {n:Nat} (hn:n ∈ ids 14 c.n 0):∃ h:n < c.n.length,∃ x:Int,c.n[n].i = [x]/\0≤x/\x < c.n.length/\c.n[n].k = 14:=by
 obtain ⟨h,hk⟩:=qrl hn;have h1:=qp8 ((qm7 hg.sh).2.2.1 _ (jkg h));have hv:=hg.val.i n h;rw [c.nd_get h] at hv;have hw:=h1.2.1;rw [hk] at hw
 have hl:c.n[n].i.length = 1:=by
  have e1:kLo 14 = 1:=rfl;have e2:kHi 14 = 1:=rfl;simp only [ql7,e1,e2,Bool.and_eq_true,decide_eq_true_eq] at hw;omega
 match hq:c.n[n].i,hl with
 | [x],_=>
  rw [hq] at hv;have:=hv x (by simp);exact ⟨h,x,hq,this.1,this.2,hk⟩
theorem qe9 {α β:Type} {l:List α} {i:Nat} {y:α} (F:α->β) (h:i < l.length) (hy:l[i] = y):(l.take (i + 1)).map F = (l.take i).map F ++ [F y]:=by
 rw [List.take_succ_eq_append_getElem h,hy]; simp
set_option maxHeartbeats 4000000 in
theorem qvv (c:Ci) (hg:c.good) (l:List Nat) (cap:Option Nat) (hll:l.length = c.n.length):qac Tryz.prog gl0 103 [qi2 c (.sl (l.map u8V) cap)] (qwe (q2q c fun i=>l.getD i 0) (q2r c fun i=>l.getD i 0)):=by
 have hn1:=hg.n1;have hno:c.o.length≤16384:=(qwl hg.sh).2.2.2;have l1:=qg8 14 c.n;have cs:=qkj c (by omega);have hcl:=qq9;obtain ⟨F,hF⟩:∃ F:Int->Nat,F = fun n=>qde (l.getD n.toNat 0):=⟨_,rfl⟩;obtain ⟨E,hE⟩:∃ E:Nat->Nat,E = jai c fun i=>l.getD i 0:=⟨_,rfl⟩;have hres:qwe (q2q c fun i=>l.getD i 0) (q2r c fun i=>l.getD i 0) = qwe (c.o.map F) ((ids 14 c.n 0).map E):=by rw [hF,hE]; rfl
 rw [hres];have hdff:=fun n (hn:n ∈ ids 14 c.n 0)=>q0s hg hn;obtain ⟨S,hS⟩:∃ S,ids 14 c.n 0 = S:=⟨_,rfl⟩;have hSl:S.length = cnt 14 c.n:=by rw [<- hS]; rfl
 rw [hS] at cs hdff ⊢;rw [<- hSl] at cs l1;have hrp:=run_pure c l cap;refine jj7 2 q6y rfl ?_;simp [jb6,x103];intro gf1 gf2 gf3;generalize gf1 1 = g1;generalize gf2 2 = g2;generalize gf3 3 = g3
 refine jj6 (X:=Nat × Option (Nat × List V)) (fun z=>[(14,qab z.1),(13,qab c.o.length),(12,.sl (qdh c.o) none),(3,.ptr 3 g3 0 0),(2,.ptr 2 g2 0 0),(1,.ptr 1 g1 0 0)])
  (fun z=>[(3,.row g3 2 [.agg [qbe 24 z.2,.nil]]),(2,.row g2 2 [.agg [.nil,.nil]]),(1,.row g1 5 [qi2 c (.sl (l.map u8V) cap)])] ++ qbj 24 1 z.2)
  (fun z=>z.1≤c.o.length/\(z.2 = none↔z.1 = 0)/\qav z.2 = ((c.o.take z.1).map F).map u8V) (fun z=>c.o.length - z.1) (0,none) ⟨by simp,by simp,by simp [qav]⟩ (by simp [qab]) (by simp [qbe,qbj]) ?_
 rintro ⟨i,acc⟩ ⟨q1,q2,q3⟩;dsimp only at q1 q2 q3 ⊢;simp [qab];refine jj5 (fun hb=>?_) (fun hb=>?_)
 ·have hi:i < c.o.length:=jkb hb;have hw:=qbg i (by omega);obtain ⟨y,hy⟩:∃ y,c.o[i] = y:=⟨_,rfl⟩;obtain ⟨y0,y1⟩:=hg.o (x:=y) (by rw [<- hy]; exact jkg hi);obtain ⟨m,rfl⟩:=Int.eq_ofNat_of_zero_le y0;have hv:=qw4 c l cap m (by omega) (by omega);have hFm:qde (l.getD m 0) = F (m:Int):=by rw [hF]; rfl
  rw [hFm] at hv;have hnx:=congrArg (List.map u8V) (qe9 F hi hy);rw [List.map_append,<- q3] at hnx;simp only [List.map_cons,List.map_nil,u8V] at hnx hv
  cases acc with
  | none=>
   have hi0:i = 0:=q2.1 rfl;simp [qbe,qbj,hi,qev,hy];intro gm;refine ⟨_,_,_,.pure hv (by simp),?_⟩;simp [hw];refine ⟨rfl,i + 1,some (gm 24,[.int .u8 (F (m:Int):Int)]),⟨hi,by simp,by simpa [qav,u8V] using hnx.symm⟩,by simp,by simp,by omega⟩
  | some gl=>
   obtain ⟨g,r⟩:=gl;simp only [qav] at q3 hnx;simp [qbe,qbj,hi,qev,hy];intro gm;refine ⟨_,_,_,.pure hv (by simp),?_⟩;simp [hw];refine ⟨by have:=congrArg List.length q3; simp at this; omega,rfl,i + 1,some (g + 1,r ++ [.int .u8 (F (m:Int):Int)]),⟨hi,by simp,by simpa [qav,u8V] using hnx.symm⟩,by simp,by simp,by omega⟩
 have hi:i = c.o.length:=by have:=jkc hb; omega
 subst hi;rw [List.take_length] at q3;simp;refine jj4 cs (by simp) ?_;simp
 refine jjn (X:=Nat × Option (Nat × List V)) (fun z=>[(31,qab z.1),(30,qab S.length),(29,.sl (qaf S) (some S.length)),(3,.ptr 3 g3 0 0),(2,.ptr 2 g2 0 0),(1,.ptr 1 g1 0 0)])
  (fun z=>[(3,.row g3 2 [.agg [qbe 24 acc,qbe 55 z.2]]),(2,.row g2 2 [.agg [.nil,.nil]]),(1,.row g1 5 [qi2 c (.sl (l.map u8V) cap)])] ++ (qbj 24 1 acc ++ qbj 55 1 z.2))
  (fun z=>z.1≤S.length/\(z.2 = none↔z.1 = 0)/\qav z.2 = ((S.take z.1).map E).map u8V) (fun z=>S.length - z.1) (.done ⟨(0,none),⟨by simp,by simp,by simp [qav]⟩,by simp [qab],?_⟩) ?_
 ·cases acc with
  | none=>simp [qbe,qbj]
  | some gl=>simp [qbe,qbj]
 rintro ⟨j,acc2⟩ ⟨p1,p2,p3⟩;dsimp only at p1 p2 p3 ⊢;simp [qab];refine jj5 (fun hb2=>?_) (fun hb2=>?_)
 ·have hj:j < S.length:=jkb hb2;have hw:=qbg j (by omega);obtain ⟨n,hn⟩:∃ n,S[j] = n:=⟨_,rfl⟩;obtain ⟨hnc,x,hxi,x0,x1,-⟩:=hdff n (by rw [<- hn]; exact jkg hj);obtain ⟨m,rfl⟩:=Int.eq_ofNat_of_zero_le x0;have hv:=qw4 c l cap m (by omega) (by omega);have hr:=qv7 (qde (l.getD m 0));have hEn:rdN (qde (l.getD m 0)) = E n:=by rw [hE]; simp only [jai]; rw [c.nd_get hnc,hxi]; rfl
  rw [hEn] at hr;obtain ⟨q,hq⟩:∃ q,qde (l.getD m 0) = q:=⟨_,rfl⟩;rw [hq] at hv hr;obtain ⟨y,hy⟩:∃ y,c.n[n] = y:=⟨_,rfl⟩;rw [hy] at hxi;have hnx:=congrArg (List.map u8V) (qe9 E hj hn);rw [List.map_append,<- p3] at hnx;simp only [List.map_cons,List.map_nil,u8V] at hnx hv hr;have h1:qdh [(m:Int)] = [.int .i64 (m:Int)]:=rfl;rcases acc with _ | gl <;> rcases acc2 with _ | gl2
  case' none.none=>
   simp [hj,qap,hn,hnc,hy,hxi,qbe,qbj,h1];intro gm
   first | refine ⟨_,_,_,.pure hv (by simp [hrp]),?_⟩ | refine ⟨_,⟨_,_,.pure hv (by simp [hrp])⟩,?_⟩ | refine ⟨_,_,⟨_,.pure hv (by simp)⟩,?_⟩
   simp
   first | refine ⟨_,_,_,.pure hr (by simp),?_⟩ | refine ⟨_,⟨_,_,.pure hr (by simp)⟩,?_⟩ | refine ⟨_,_,⟨_,.pure hr (by simp)⟩,?_⟩
   simp;intro ga gb;refine .done ⟨j + 1,some (gb 55,[.int .u8 (E n:Int)]),⟨hj,by simp,by simpa [qav,u8V] using hnx.symm⟩,by simp [hw],by simp,by omega⟩
  case' some.none=>
   simp [hj,qap,hn,hnc,hy,hxi,qbe,qbj,h1];intro gm
   first | refine ⟨_,_,_,.pure hv (by simp [hrp]),?_⟩ | refine ⟨_,⟨_,_,.pure hv (by simp [hrp])⟩,?_⟩ | refine ⟨_,_,⟨_,.pure hv (by simp)⟩,?_⟩
   simp
   first | refine ⟨_,_,_,.pure hr (by simp),?_⟩ | refine ⟨_,⟨_,_,.pure hr (by simp)⟩,?_⟩ | refine ⟨_,_,⟨_,.pure hr (by simp)⟩,?_⟩
   simp;intro ga gb;refine .done ⟨j + 1,some (gb 55,[.int .u8 (E n:Int)]),⟨hj,by simp,by simpa [qav,u8V] using hnx.symm⟩,by simp [hw],by simp,by omega⟩
  case' none.some=>
   simp [hj,qap,hn,hnc,hy,hxi,qbe,qbj,h1];intro gm
   first | refine ⟨_,_,_,.pure hv (by simp [hrp]),?_⟩ | refine ⟨_,⟨_,_,.pure hv (by simp [hrp])⟩,?_⟩ | refine ⟨_,_,⟨_,.pure hv (by simp)⟩,?_⟩
   simp
   first | refine ⟨_,_,_,.pure hr (by simp),?_⟩ | refine ⟨_,⟨_,_,.pure hr (by simp)⟩,?_⟩ | refine ⟨_,_,⟨_,.pure hr (by simp)⟩,?_⟩
   simp;intro ga gb;refine ⟨by have:=congrArg List.length p3; simp [qav] at this; omega,.done ⟨j + 1,some (gb 55,gl2.2 ++ [.int .u8 (E n:Int)]),⟨hj,by simp,by simpa [qav,u8V] using hnx.symm⟩,by simp [hw],by simp,by omega⟩⟩
  case' some.some=>
   simp [hj,qap,hn,hnc,hy,hxi,qbe,qbj,h1];intro gm
   first | refine ⟨_,_,_,.pure hv (by simp [hrp]),?_⟩ | refine ⟨_,⟨_,_,.pure hv (by simp [hrp])⟩,?_⟩ | refine ⟨_,_,⟨_,.pure hv (by simp)⟩,?_⟩
   simp
   first | refine ⟨_,_,_,.pure hr (by simp),?_⟩ | refine ⟨_,⟨_,_,.pure hr (by simp)⟩,?_⟩ | refine ⟨_,_,⟨_,.pure hr (by simp)⟩,?_⟩
   simp;intro ga gb;refine ⟨by have:=congrArg List.length p3; simp [qav] at this; omega,.done ⟨j + 1,some (gb 55,gl2.2 ++ [.int .u8 (E n:Int)]),⟨hj,by simp,by simpa [qav,u8V] using hnx.symm⟩,by simp [hw],by simp,by omega⟩⟩
 have hj:j = S.length:=by have:=jkc hb2; omega
 subst hj;rw [List.take_length] at p3;have hcO:=qq9 (c.o.map F) none (by simp; omega);have hcS:=qq9 (S.map E) none (by simp; omega);generalize c.o.map F = O at q3 hcO ⊢;generalize S.map E = T at p3 hcS ⊢;have htO:List.take O.length (O.map u8V) = O.map u8V:=jkf (by simp);have htT:List.take T.length (T.map u8V) = T.map u8V:=jkf (by simp);rcases acc with _ | ⟨ga,ra⟩ <;> rcases acc2 with _ | ⟨gb,rb⟩
 ·have hO:O = []:=by simpa [qav] using q3.symm
  have hT:T = []:=by simpa [qav] using p3.symm
  subst hO hT;simp [qbe,qbj];refine .mk [(3,.ptr 3 g3 0 0),(2,.ptr 2 g2 0 0)] [(3,.row g3 2 [.agg [.nil,.nil]]),(2,.row g2 2 [.agg [.nil,.nil]])] (by simp) (by simp) (.done ?_);simp;intro gm
  first | refine ⟨_,_,_,.pure qdf (by simp),?_⟩ | refine ⟨_,⟨_,_,.pure qdf (by simp)⟩,?_⟩ | refine ⟨_,_,⟨_,.pure qdf (by simp)⟩,?_⟩
  simp
  first | refine ⟨_,_,_,.pure qdf (by simp),?_⟩ | refine ⟨_,⟨_,_,.pure qdf (by simp)⟩,?_⟩ | refine ⟨_,_,⟨_,.pure qdf (by simp)⟩,?_⟩
  simp [qwe]
  try rfl
 ·simp only [qav] at q3 p3;have hO:O = []:=by simpa using q3.symm
  subst hO;subst p3;simp [qbe,qbj];refine .mk [(3,.ptr 3 g3 0 0),(2,.ptr 2 g2 0 0)] [(3,.row g3 2 [.agg [.nil,.ref 55 gb 0 T.length none]]),(2,.row g2 2 [.agg [.nil,.nil]]),(55,.row gb 1 (T.map u8V))] (by simp) (by simp) (.frz (g:=gb) (sz:=1) (es:=T.map u8V) 55 (by simp) (qa1 T) (.done ?_));simp [fzF,fzH,fzV,fzf,fzp,Blk.fz,htT];intro gm
  first | refine ⟨_,_,_,.pure qdf (by simp),?_⟩ | refine ⟨_,⟨_,_,.pure qdf (by simp)⟩,?_⟩ | refine ⟨_,_,⟨_,.pure qdf (by simp)⟩,?_⟩
  simp
  first | refine ⟨_,_,_,.pure hcS (by simp),?_⟩ | refine ⟨_,⟨_,_,.pure hcS (by simp)⟩,?_⟩ | refine ⟨_,_,⟨_,.pure hcS (by simp)⟩,?_⟩
  simp [qwe,qao]
  try rfl
 ·simp only [qav] at q3 p3;subst q3;have hT:T = []:=by simpa using p3.symm
  subst hT;simp [qbe,qbj];refine .mk [(3,.ptr 3 g3 0 0),(2,.ptr 2 g2 0 0)] [(3,.row g3 2 [.agg [.ref 24 ga 0 O.length none,.nil]]),(2,.row g2 2 [.agg [.nil,.nil]]),(24,.row ga 1 (O.map u8V))] (by simp) (by simp) (.frz (g:=ga) (sz:=1) (es:=O.map u8V) 24 (by simp) (qa1 O) (.done ?_));simp [fzF,fzH,fzV,fzf,fzp,Blk.fz,htO];intro gm
  first | refine ⟨_,_,_,.pure hcO (by simp),?_⟩ | refine ⟨_,⟨_,_,.pure hcO (by simp)⟩,?_⟩ | refine ⟨_,_,⟨_,.pure hcO (by simp)⟩,?_⟩
  simp
  first | refine ⟨_,_,_,.pure qdf (by simp),?_⟩ | refine ⟨_,⟨_,_,.pure qdf (by simp)⟩,?_⟩ | refine ⟨_,_,⟨_,.pure qdf (by simp)⟩,?_⟩
  simp [qwe,qao]
  try rfl
 ·simp only [qav] at q3 p3;subst q3;subst p3;simp [qbe,qbj];refine .mk [(3,.ptr 3 g3 0 0),(2,.ptr 2 g2 0 0)] [(3,.row g3 2 [.agg [.ref 24 ga 0 O.length none,.ref 55 gb 0 T.length none]]),(2,.row g2 2 [.agg [.nil,.nil]]),(24,.row ga 1 (O.map u8V)),(55,.row gb 1 (T.map u8V))] (by simp) (by simp) (.frz (g:=ga) (sz:=1) (es:=O.map u8V) 24 (by simp) (qa1 O) (.frz (g:=gb) (sz:=1) (es:=T.map u8V) 55 (by simp [fzH,Blk.fz,qvl (qa1 T)]) (qa1 T) (.done ?_)));simp [fzF,fzH,fzV,fzf,fzp,Blk.fz,htO,htT,qao];intro gm
  first | refine ⟨_,_,_,.pure hcO (by simp),?_⟩ | refine ⟨_,⟨_,_,.pure hcO (by simp)⟩,?_⟩ | refine ⟨_,_,⟨_,.pure hcO (by simp)⟩,?_⟩
  simp
  first | refine ⟨_,_,_,.pure hcS (by simp),?_⟩ | refine ⟨_,⟨_,_,.pure hcS (by simp)⟩,?_⟩ | refine ⟨_,_,⟨_,.pure hcS (by simp)⟩,?_⟩
  simp [qwe,qao]
  try rfl
end
end Go.Proofs.YtbbnmiaabmbheaaGreatDoor
