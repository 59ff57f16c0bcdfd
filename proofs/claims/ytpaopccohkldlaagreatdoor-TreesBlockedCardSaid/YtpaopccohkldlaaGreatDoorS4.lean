/- Lemmas. Conditions: none. -/
import Derived.Test.YtpaopccohkldlaaGreatDoorI1
import Derived.Test.YtpaopccohkldlaaGreatDoorNet13
import Derived.Test.YtpaopccohkldlaaGreatDoorBase18
set_option linter.all false
namespace Go.Proofs.YtpaopccohkldlaaGreatDoor
section
open Go
theorem qup (v:Nat):qad Tryz.prog gl0 163 [u8V v] (u8V (qd1 v)):=by
 refine ji4 2 je7 rfl ?_;simp [i163,x163,u8V,qd1];refine ji1 (fun h=>?_) (fun h=>?_)
 ·have:=ji8 h;simp [show 3 < v by omega]
 ·have:=ji9 h;simp [show ¬ 3 < v by omega]
theorem qww (v:Nat):qad Tryz.prog gl0 120 [u8V v] (u8V (rdN v)):=by
 refine ji4 2 jej rfl ?_;simp [i120,x120,u8V,rdN];omega
theorem qvt (v:Nat):qad Tryz.prog gl0 160 [u8V v] (.bool (decide (v≤1))):=by
 refine ji4 2 je4 rfl ?_;simp [i160,x160,u8V]
theorem qry (v:Nat):qad Tryz.prog gl0 121 [u8V v] (u8V (qo1 v)):=by
 refine ji4 2 jek rfl ?_;simp [i121,x121];refine ji0 (qvt v) rfl ?_;simp [u8V];refine ji1 (fun h=>?_) (fun h=>?_)
 ·have hv:v = 0∨v = 1:=by have:=ji8 h; omega
  rcases hv with rfl | rfl <;> simp [qo1,IntKind.wrap,IntKind.bits,IntKind.signed]
 ·have hv:=ji9 h;simp [qo1,hv]
theorem q69 (lo hi:Nat) (l:List Nat) (cap:Option Nat) (hl:l.length < 1000000000):qad Tryz.prog gl0 161 [.sl (l.map u8V) cap,u8V lo,u8V hi] (u8V (dec lo hi hi l)):=by
 obtain ⟨q,hq⟩:∃ r,dec lo hi hi l = r:=⟨_,rfl⟩;rw [hq];refine ji4 2 je5 rfl ?_;simp [i161,x161,u8V]
 refine ji3 (X:=Nat × Nat) (fun z=>[(13,qaa z.1),(12,qaa l.length),(11,.sl (l.map u8V) cap),(7,u8V z.2),(2,u8V hi),(1,u8V lo)]) (fun _=>[])
  (fun z=>z.1≤l.length/\dec lo hi z.2 (l.drop z.1) = q) (fun z=>l.length - z.1) (0,hi) ⟨by simp,by simpa using hq⟩ (by simp [qaa,u8V]) (by simp) ?_
 rintro ⟨i,out⟩ ⟨h2,h3⟩;dsimp only at h2 h3 ⊢;simp [qaa,u8V];refine ji1 (fun h1=>?_) (fun h1=>?_)
 ·have hi':i < l.length:=ji8 h1;have hw:=qa5 i (by omega);rw [List.drop_eq_getElem_cons hi',dec] at h3;obtain ⟨v,hv⟩:∃ v,l[i] = v:=⟨_,rfl⟩;rw [hv] at h3;simp [hi',hv,u8V];refine ji1 (fun h4=>?_) (fun h4=>?_)
  ·rw [if_pos (ji8 h4)] at h3;simp [h3]
  ·rw [if_neg (ji9 h4)] at h3;simp;refine ji1 (fun h5=>?_) (fun h5=>?_)
   ·have h5':=ji8 h5;rw [if_pos h5'] at h3;simp [hw];exact ⟨i + 1,out,⟨hi',h3⟩,⟨rfl,rfl⟩,by omega⟩
   ·have h5':=ji9 h5;rw [if_neg h5'] at h3;simp [hw];exact ⟨i + 1,2,⟨hi',h3⟩,⟨rfl,rfl⟩,by omega⟩
 ·have hi':i = l.length:=by have:=ji9 h1; omega
  subst hi';simp [dec] at h3;simp [h3]
theorem qab (l:List Nat):jhf (l.map u8V) = true:=V.pureL_map _ l fun _=>rfl
theorem q76 (l:List Nat) (cap:Option Nat) (hl:l.length < 1000000000):qad Tryz.prog gl0 122 [.sl (l.map u8V) cap] (u8V (dec 0 1 1 l)):=by
 refine ji4 2 jel rfl ?_;simp [i122,x122];refine ji0 (q69 0 1 l cap hl) (by simp only [jhf,V.pure,qab,Bool.and_self]) ?_;simp [u8V]
theorem jdt (l:List Nat) (cap:Option Nat) (hl:l.length < 1000000000):qad Tryz.prog gl0 123 [.sl (l.map u8V) cap] (u8V (dec 1 0 0 l)):=by
 refine ji4 2 jem rfl ?_;simp [i123,x123];refine ji0 (q69 1 0 l cap hl) (by simp only [jhf,V.pure,qab,Bool.and_self]) ?_;simp [u8V]
theorem q8o (l:List Nat) (cap:Option Nat) (hl:l.length < 1000000000):qad Tryz.prog gl0 124 [.sl (l.map u8V) cap] (u8V (qns 0 l)):=by
 obtain ⟨q,hq⟩:∃ r,qns 0 l = r:=⟨_,rfl⟩;rw [hq];refine ji4 2 jen rfl ?_;simp [i124,x124]
 refine ji3 (X:=Nat × Nat) (fun z=>[(8,qaa z.1),(7,qaa l.length),(6,.sl (l.map u8V) cap),(3,u8V z.2)]) (fun _=>[])
  (fun z=>z.1≤l.length/\z.2≤1/\qns z.2 (l.drop z.1) = q) (fun z=>l.length - z.1) (0,0) ⟨by simp,by simp,by simpa using hq⟩ (by simp [qaa,u8V]) (by simp) ?_
 rintro ⟨i,out⟩ ⟨h2,h4,h3⟩;dsimp only at h2 h3 h4 ⊢;simp [qaa,u8V];refine ji1 (fun h1=>?_) (fun h1=>?_)
 ·have hi':i < l.length:=ji8 h1;have hw:=qa5 i (by omega);rw [List.drop_eq_getElem_cons hi',qns] at h3;obtain ⟨v,hv⟩:∃ v,l[i] = v:=⟨_,rfl⟩;rw [hv] at h3;have hk:=qvt v;simp only [u8V] at hk;simp [hi',hv,u8V];refine ji0 hk rfl ?_;simp;refine ji1 (fun h5=>?_) (fun h5=>?_)
  ·have hv1:v = 0∨v = 1:=by have:=ji8 h5; omega
   have ho:out = 0∨out = 1:=by omega
   rcases hv1 with rfl | rfl
   ·simp only [if_true] at h3;rcases ho with rfl | rfl
    ·simp [hw];exact ⟨i + 1,0,⟨hi',by omega,h3⟩,⟨rfl,rfl⟩,by omega⟩
    ·simp [hw];exact ⟨i + 1,1,⟨hi',by omega,h3⟩,⟨rfl,rfl⟩,by omega⟩
   ·simp only [if_true,Nat.one_ne_zero,if_false] at h3;rcases ho with rfl | rfl
    ·simp [hw];exact ⟨i + 1,1,⟨hi',by omega,h3⟩,⟨rfl,rfl⟩,by omega⟩
    ·simp [hw];exact ⟨i + 1,0,⟨hi',by omega,h3⟩,⟨rfl,rfl⟩,by omega⟩
  ·have h5':=ji9 h5;rw [if_neg (by omega),if_neg (by omega)] at h3;subst h3;simp
 ·have hi':i = l.length:=by have:=ji9 h1; omega
  subst hi';simp [qns] at h3;simp [h3]
theorem q8k (s a b:Nat):qad Tryz.prog gl0 125 [u8V s,u8V a,u8V b] (u8V (qtw s a b)):=by
 have ha:=qww a;have hb:=qww b;unfold qtw;simp only [u8V] at ha hb ⊢;refine ji4 2 jeo rfl ?_;simp [i125,x125];refine ji1 (fun h1=>?_) (fun h1=>?_)
 ·have h1':s = 0:=ji8 h1;subst h1';simp;refine ji0 ha rfl ?_;simp
 have h1':¬ s = 0:=ji9 h1;simp;refine ji1 (fun h2=>?_) (fun h2=>?_)
 ·have h2':s = 1:=ji8 h2;subst h2';simp;refine ji0 hb rfl ?_;simp
 have h2':¬ s = 1:=ji9 h2;simp;refine ji1 (fun h3=>?_) (fun h3=>?_)
 ·have h3':a = b:=ji8 h3;subst h3';simp;refine ji0 ha rfl ?_;simp [h1',h2']
 have h3':¬ a = b:=ji9 h3;simp [h1',h2',h3']
theorem q8n (e d:Nat):qad Tryz.prog gl0 126 [u8V e,u8V d] (u8V (qyc e d)):=by
 have hb:=qww d;unfold qyc;simp only [u8V] at hb ⊢;refine ji4 2 jep rfl ?_;simp [i126,x126];refine ji1 (fun h1=>?_) (fun h1=>?_)
 ·have h1':e = 0:=ji8 h1;subst h1';simp
 have h1':¬ e = 0:=ji9 h1;simp;refine ji1 (fun h2=>?_) (fun h2=>?_)
 ·have h2':e = 1:=ji8 h2;subst h2';simp;refine ji0 hb rfl ?_;simp
 have h2':¬ e = 1:=ji9 h2;simp [h1',h2']
theorem jgx (v:Nat):qad Tryz.prog gl0 162 [u8V v] (.bool (decide (qd1 v = 2))):=by
 have hc:=qup v;refine ji4 2 je6 rfl ?_;simp [i162,x162];refine ji0 hc rfl ?_;simp [u8V]
theorem jc8 (v:Nat):qad Tryz.prog gl0 164 [u8V v] (.bool (v != 3)):=by
 have e:(v != 3) = !decide (v = 3):=rfl;rw [e];refine ji4 2 je8 rfl ?_;simp [i164,x164,u8V]
def qeb (p:Nat->Bool):List Nat->Nat->Int
 | [],_=>-1
 | x :: r,i=>if p x = true then (i:Int) else qeb p r (i + 1)
theorem qjq (p:Nat->Bool):∀ (l:List Nat) (i:Nat),decide (0≤qeb p l i) = l.any p
 | [],i=>by simp [qeb]
 | x :: l,i=>by
  cases h:p x with
  | true=>simp [qeb,h]
  | false=>
   have:=qjq p l (i + 1);simp only [qeb,h,Bool.false_eq_true,if_false,List.any_cons,Bool.false_or];exact this
theorem qlm {p:Nat->Bool}:∀ {l:List Nat} {i:Nat},l.find? p = none->qeb p l i = -1
 | [],_,_=>rfl
 | x :: l,i,h=>by
  rw [List.find?_cons] at h
  cases hx:p x with
  | true=>rw [hx] at h; simp at h
  | false=>
   rw [hx] at h;simp only [qeb,hx,Bool.false_eq_true,if_false];exact qlm h
theorem qln {p:Nat->Bool} {v:Nat}:∀ {l:List Nat} {i:Nat},l.find? p = some v->∃ j:Nat,qeb p l i = ((i + j:Nat):Int)/\l[j]? = some v
 | [],_,h=>by simp at h
 | x :: l,i,h=>by
  rw [List.find?_cons] at h
  cases hx:p x with
  | true=>
   rw [hx] at h;simp only [Option.some.injEq] at h;exact ⟨0,by simp [qeb,hx],by simp [h]⟩
  | false=>
   rw [hx] at h;obtain ⟨j,h1,h2⟩:=qln (i:=i + 1) h;refine ⟨j + 1,?_,by simpa using h2⟩;simp only [qeb,hx,Bool.false_eq_true,if_false];rw [h1];congr 1;omega
theorem qie (l:List Nat) (cap:Option Nat) (g:FuncId) (cp:List V) (p:Nat->Bool) (hf:∀ x ∈ l,qad Tryz.prog gl0 g (u8V x :: cp) (.bool (p x))) (hp:jhf cp = true) (hl:l.length < 1000000000000):qad Tryz.prog gl0 159 [.sl (l.map u8V) cap,.fn g [] cp] (.int .i64 (qeb p l 0)):=by
 obtain ⟨q,hq⟩:∃ r,qeb p l 0 = r:=⟨_,rfl⟩;rw [hq];refine ji4 2 q81 rfl ?_;simp [jdk,jhb]
 refine ji3 (X:=Nat) (fun i=>[(8,qaa i),(7,qaa l.length),(0,.sl (l.map u8V) cap),(1,.fn g [] cp)]) (fun _=>[])
  (fun i=>i≤l.length/\qeb p (l.drop i) i = q) (fun i=>l.length - i) 0 ⟨by simp,by simpa using hq⟩ (by simp [qaa]) (by simp) ?_
 rintro i ⟨h2,h3⟩;simp [qaa];refine ji1 (fun h1=>?_) (fun h1=>?_)
 ·have h1':i < l.length:=ji8 h1;have hw:=qa5 i (by omega);rw [List.drop_eq_getElem_cons h1'] at h3;simp only [qeb] at h3;obtain ⟨v,hv⟩:∃ v,l[i] = v:=⟨_,rfl⟩;have hfv:=hf v (hv ▸ jjd h1');rw [hv] at h3;simp only [u8V] at hfv;simp [h1',hv,u8V];refine ji0 hfv (by simp only [jhf,V.pure,hp,Bool.and_self]) ?_;simp;refine ji1 (fun h4=>?_) (fun h4=>?_)
  ·rw [if_pos h4] at h3;simp [h3]
  ·rw [if_neg (by simp [h4])] at h3;simp [hw];exact ⟨i + 1,⟨h1',h3⟩,rfl,by omega⟩
 ·have h1':i = l.length:=by have:=ji9 h1; omega
  subst h1';simp [qeb] at h3;simp [h3]
theorem qjf (l:List Nat) (cap:Option Nat) (g:FuncId) (cp:List V) (p:Nat->Bool) (hf:∀ x ∈ l,qad Tryz.prog gl0 g (u8V x :: cp) (.bool (p x))) (hp:jhf cp = true) (hl:l.length < 1000000000000):qad Tryz.prog gl0 117 [.sl (l.map u8V) cap,.fn g [] cp] (.bool (l.any p)):=by
 refine ji4 2 q8x rfl ?_;simp [jdf,jg7];refine ji0 (qie l cap g cp p hf hp hl) (by simp [hp,qab]) ?_;simp [qjq]
theorem qzg (x:Nat) (l:List Nat) (cap:Option Nat) (hl:l.length < 1000000000000):qad Tryz.prog gl0 214 [.sl (l.map u8V) cap,u8V x] (.int .i64 (qeb (fun v=>x == v) l 0)):=by
 obtain ⟨q,hq⟩:∃ r,qeb (fun v=>x == v) l 0 = r:=⟨_,rfl⟩;rw [hq];refine ji4 2 jfs rfl ?_;simp [i214,x214]
 refine ji3 (X:=Nat) (fun i=>[(8,qaa i),(7,qaa l.length),(0,.sl (l.map u8V) cap),(1,u8V x)]) (fun _=>[])
  (fun i=>i≤l.length/\qeb (fun v=>x == v) (l.drop i) i = q) (fun i=>l.length - i) 0 ⟨by simp,by simpa using hq⟩ (by simp [qaa]) (by simp) ?_
 rintro i ⟨h2,h3⟩;simp [qaa];refine ji1 (fun h1=>?_) (fun h1=>?_)
 ·have h1':i < l.length:=ji8 h1;have hw:=qa5 i (by omega);rw [List.drop_eq_getElem_cons h1'] at h3;simp only [qeb] at h3;obtain ⟨v,hv⟩:∃ v,l[i] = v:=⟨_,rfl⟩;rw [hv] at h3;simp [h1',hv,u8V];refine ji1 (fun h4=>?_) (fun h4=>?_)
  ·rw [if_pos (by simpa using ji8 h4)] at h3;simp [h3]
  ·rw [if_neg (by simpa using ji9 h4)] at h3;simp [hw];exact ⟨i + 1,⟨h1',h3⟩,rfl,by omega⟩
 ·have h1':i = l.length:=by have:=ji9 h1; omega
  subst h1';simp [qeb] at h3;simp [h3]
theorem q2k (x:Nat) (l:List Nat):(l.any fun v=>x == v) = decide (x ∈ l):=by
 rw [Bool.eq_iff_iff];simp
theorem qjg (x:Nat) (l:List Nat) (cap:Option Nat) (hl:l.length < 1000000000000):qad Tryz.prog gl0 191 [.sl (l.map u8V) cap,u8V x] (.bool (decide (x ∈ l))):=by
 refine ji4 2 jfj rfl ?_;simp [i191,x191];refine ji0 (qzg x l cap hl) (by simp [u8V,qab]) ?_;simp [qjq,q2k]
theorem qsx (l:List Nat) (cap:Option Nat) (hl:l.length < 1000000000000):qad Tryz.prog gl0 165 [.sl (l.map u8V) cap] (.bool (decide (0 ∈ l) && decide (1 ∈ l))):=by
 refine ji4 2 je9 rfl ?_;simp [i165,x165];refine ji0 (qjg 0 l cap hl) (by simp [qab]) ?_;simp;refine ji1 (fun h=>?_) (fun h=>?_)
 ·simp [h];refine ji0 (qjg 1 l cap hl) (by simp [qab]) ?_;simp
 ·simp [h]
set_option maxRecDepth 100000 in
theorem q78 (l:List Nat) (cap:Option Nat) (hl:l.length < 1000000000):qad Tryz.prog gl0 127 [.sl (l.map u8V) cap] (u8V (qyo l)):=by
 have h1:=qie l cap 164 [] (fun v=>v != 3) (fun x _=>jc8 x) rfl (by omega);have h2:=qjf l cap 162 [] (fun v=>decide (qd1 v = 2)) (fun x _=>jgx x) rfl (by omega);obtain ⟨k,hk⟩:∃ k,qeb (fun v=>v != 3) l 0 = k:=⟨_,rfl⟩
 have hany:(l.any fun v=>decide (qd1 v = 2)) = decide (∃ u ∈ l,qd1 u = 2):=by
  rw [Bool.eq_iff_iff]; simp
 rw [hany] at h2;rw [hk] at h1;unfold qyo;refine ji4 2 jeq rfl ?_;simp [jdg,x127];refine ji0 h1 (by simp [qab]) ?_;simp
 cases hf:l.find? (fun v=>v != 3) with
 | none=>
  have hk1:k = -1:=by rw [<- hk]; exact qlm hf
  subst hk1;simp [u8V]
 | some v=>
  obtain ⟨j,hj,hv⟩:=qln (i:=0) hf;have hkj:k = (j:Int):=by rw [<- hk,hj]; congr 1; omega
  subst hkj;have hjl:j < l.length:=(List.getElem?_eq_some_iff.1 hv).1;have hvv:l[j] = v:=(List.getElem?_eq_some_iff.1 hv).2;simp;refine ji0 (qsx l cap (by omega)) (by simp [qab]) ?_;simp;by_cases h01:0 ∈ l/\1 ∈ l
  ·simp [h01,u8V]
  ·have e:(decide (0 ∈ l) && decide (1 ∈ l)) = false:=by
    rw [Bool.eq_false_iff];simpa using h01
   simp [e];refine ji0 h2 (by simp [qab]) ?_;by_cases hu:∃ u ∈ l,qd1 u = 2
   ·simp [hu,u8V]
   ·simp [hu,h01,hjl,hvv,u8V]
theorem qkq (l:List Nat) (cap:Option Nat):jhf [.sl (l.map u8V) cap] = true:=by simp only [jhf,V.pure,qab,Bool.and_self]
set_option maxRecDepth 100000 in
set_option maxHeartbeats 4000000 in
theorem q1z (k:Nat) (hk:k < 256) (l:List Nat) (cap:Option Nat) (hl:l.length < 1000000000):qad Tryz.prog gl0 83 [u8V k,.sl (l.map u8V) cap] (u8V (qow k l)):=by
 have hf:=qvh (k:Int) (by omega) (by omega);have hland:=q76 l cap hl;have hlor:=jdt l cap hl;have hlxor:=q8o l cap hl;have hbus:=q78 l cap hl;obtain ⟨A,hA⟩:∃ p,dec 0 1 1 l = p:=⟨_,rfl⟩;obtain ⟨B,hB⟩:∃ p,dec 1 0 0 l = p:=⟨_,rfl⟩;obtain ⟨X,hX⟩:∃ p,qns 0 l = p:=⟨_,rfl⟩;obtain ⟨U,hU⟩:∃ p,qyo l = p:=⟨_,rfl⟩;have hnA:=qry A;have hnB:=qry B;have hnX:=qry X;obtain ⟨NA,hNA⟩:∃ p,qo1 A = p:=⟨_,rfl⟩;obtain ⟨NB,hNB⟩:∃ p,qo1 B = p:=⟨_,rfl⟩;obtain ⟨NX,hNX⟩:∃ p,qo1 X = p:=⟨_,rfl⟩;rw [hA] at hland;rw [hB] at hlor;rw [hX] at hlxor;rw [hU] at hbus;rw [hNA] at hnA;rw [hNB] at hnB;rw [hNX] at hnX;have hg:∀ j (h:j < l.length),l.getD j 0 = l[j]:=fun j h=>by simp [h]
 refine ji4 2 ok83 rfl ?_;obtain ⟨lo,hlo⟩:∃ p,kLo k = p:=⟨_,rfl⟩;obtain ⟨hi,hhi⟩:∃ p,kHi k = p:=⟨_,rfl⟩;rw [hlo,hhi] at hf;unfold qow;rw [hlo,hhi];simp only [u8V] at hland hlor hlxor hbus hnA hnB hnX;simp [i83,x83,u8V];refine ji0 hf rfl ?_;simp;refine ji1 (fun h1=>?_) (fun h1=>?_)
 ·have h1':=ji8 h1;rw [if_pos (.inl h1')];simp [h1]
 have h1':=ji9 h1;simp [h1];refine ji1 (fun h2=>?_) (fun h2=>?_)
 ·have h2':=ji8 h2;rw [if_pos (.inr h2')];simp
 have h2':=ji9 h2;rw [if_neg (by omega)]
 have hk15:k≤15:=by
  by_cases hc:k≤15
  ·exact hc
  ·exfalso;have:hi = -1:=by rw [<- hhi,kHi,if_pos (by omega)]
   omega
 have hc:k = 0∨k = 1∨k = 2∨k = 3∨k = 4∨k = 5∨k = 6∨k = 7∨k = 8∨k = 9∨k = 10∨k = 11∨k = 12∨k = 13∨k = 14∨k = 15:=by omega
 rcases hc with rfl | rfl | rfl | rfl | rfl | rfl | rfl | rfl | rfl | rfl | rfl | rfl | rfl | rfl | rfl | rfl
 ·simp [qdo]
 ·simp [qdo]
 ·simp [qdo]
 ·have h0:0 < l.length:=by
   have:lo = 1:=by rw [<- hlo]; rfl
   omega
  have hr:=qww l[0];simp only [u8V] at hr;have e:qdo 3 l = rdN l[0]:=by rw [<- hg 0 h0]; rfl
  rw [e];simp [h0,u8V];refine ji0 hr rfl ?_;simp
 ·have h0:0 < l.length:=by
   have:lo = 1:=by rw [<- hlo]; rfl
   omega
  have hr:=qry l[0];simp only [u8V] at hr;have e:qdo 4 l = qo1 l[0]:=by rw [<- hg 0 h0]; rfl
  rw [e];simp [h0,u8V];refine ji0 hr rfl ?_;simp
 ·rw [show qdo 5 l = A from hA];simp;refine ji0 hland (qkq _ _) ?_;simp
 ·rw [show qdo 6 l = NA by rw [<- hNA,<- hA]; rfl];simp;refine ji0 hland (qkq _ _) ?_;simp;refine ji0 hnA rfl ?_;simp
 ·rw [show qdo 7 l = B from hB];simp;refine ji0 hlor (qkq _ _) ?_;simp
 ·rw [show qdo 8 l = NB by rw [<- hNB,<- hB]; rfl];simp;refine ji0 hlor (qkq _ _) ?_;simp;refine ji0 hnB rfl ?_;simp
 ·rw [show qdo 9 l = X from hX];simp;refine ji0 hlxor (qkq _ _) ?_;simp
 ·rw [show qdo 10 l = NX by rw [<- hNX,<- hX]; rfl];simp;refine ji0 hlxor (qkq _ _) ?_;simp;refine ji0 hnX rfl ?_;simp
 ·have h0:l.length = 3:=by
   have e1:lo = 3:=by rw [<- hlo]; rfl
   have e2:hi = 3:=by rw [<- hhi]; rfl
   omega
  have hr:=q8k (l[0]'(by omega)) (l[1]'(by omega)) (l[2]'(by omega));have e:qdo 11 l = qtw (l[0]'(by omega)) (l[1]'(by omega)) (l[2]'(by omega)):=by rw [<- hg 0 (by omega),<- hg 1 (by omega),<- hg 2 (by omega)]; rfl
  rw [e];generalize qtw (l[0]'(by omega)) (l[1]'(by omega)) (l[2]'(by omega)) = M at hr ⊢;simp only [u8V] at hr;simp [show 0 < l.length by omega,show 1 < l.length by omega,show 2 < l.length by omega,u8V];intro gm
  first | refine ⟨_,_,_,.pure hr rfl,?_⟩ | refine ⟨_,⟨_,_,.pure hr rfl⟩,?_⟩ | refine ⟨_,_,⟨_,.pure hr rfl⟩,?_⟩
  simp
 ·have h0:l.length = 2:=by
   have e1:lo = 2:=by rw [<- hlo]; rfl
   have e2:hi = 2:=by rw [<- hhi]; rfl
   omega
  have hr:=q8n (l[0]'(by omega)) (l[1]'(by omega));have e:qdo 12 l = qyc (l[0]'(by omega)) (l[1]'(by omega)):=by rw [<- hg 0 (by omega),<- hg 1 (by omega)]; rfl
  rw [e];generalize qyc (l[0]'(by omega)) (l[1]'(by omega)) = M at hr ⊢;simp only [u8V] at hr;simp [show 0 < l.length by omega,show 1 < l.length by omega,u8V];intro gm
  first | refine ⟨_,_,_,.pure hr rfl,?_⟩ | refine ⟨_,⟨_,_,.pure hr rfl⟩,?_⟩ | refine ⟨_,_,⟨_,.pure hr rfl⟩,?_⟩
  simp
 ·rw [show qdo 13 l = U from hU];simp;refine ji0 hbus (qkq _ _) ?_;simp
 ·simp [qdo]
 ·simp [qdo]
end
section
open Go
attribute [simp] qab
@[simp] theorem jbv (p:Pt):p.v.cells = [.sl (p.i.map u8V) none,.sl (p.s.map u8V) none]:=rfl
@[simp] theorem q51 (p:Pt):p.v.cellsOk = true:=rfl
@[simp] theorem jgk (p:Pt):V.pure p.v = true:=by simp [Pt.v]
theorem ja9 {a b p:Nat} (h:a % b = p):((a:Int)).tmod (b:Int) = (p:Int):=by rw [<- h]; rfl
theorem qur (k:Int):∀ a b:List Nd,cnt k (a ++ b) = cnt k a + cnt k b
 | [],b=>by simp [cnt,ids]
 | n :: a,b=>by rw [List.cons_append,qfy,qfy,qur k a b]; omega
theorem qgw {k:Int} {l:List Nd} {i:Nat} {y:Nd} (h:i < l.length) (hy:l[i] = y):cnt k (l.take (i + 1)) = cnt k (l.take i) + if y.k = k then 1 else 0:=by
 rw [List.take_succ_eq_append_getElem h,qur,hy,qfy];simp [cnt,ids]
theorem qmd (c:Ci) (k:Nat) (hl:c.n.length < 1000000):qad Tryz.prog gl0 108 [c.v,u8V k] (qaa (cnt (k:Int) c.n)):=by
 refine ji4 2 jd8 rfl ?_;simp [i108,x108,Ci.v,u8V];intro gf;generalize gf 2 = g2
 refine ji3 (X:=Nat) (fun i=>[(6,qaa i),(5,qaa (cnt (k:Int) (c.n.take i))),(2,.ptr 2 g2 0 0),(1,.int .u8 (k:Int))]) (fun _=>[(2,.row g2 4 [.agg [.sl (c.n.map Nd.v) none,.sl (c.s.map .str) none,.sl (c.m.map Md.v) none,.sl (qc5 c.o) none]])])
  (fun i=>i≤c.n.length) (fun i=>c.n.length - i) 0 (Nat.zero_le _) (by simp [qaa,cnt,ids]) (by simp) ?_
 intro i hi;simp [qaa];refine ji1 (fun hb=>?_) (fun hb=>?_)
 ·have hi':i < c.n.length:=ji8 hb;have hw:=qa5 i (by omega);obtain ⟨y,hy⟩:∃ y,c.n[i] = y:=⟨_,rfl⟩;have ht:=qgw (k:=(k:Int)) hi' hy;have hle:=qbn (k:Int) (c.n.take i);have hle2:(c.n.take i).length≤i:=by simp; omega
  obtain ⟨q,hq⟩:∃ q,cnt (k:Int) (c.n.take i) = q:=⟨_,rfl⟩;rw [hq] at ht hle;have hw2:=qa5 q (by omega);simp [hi',hy,Nd.v,hq];refine ji1 (fun h1=>?_) (fun h1=>?_)
  ·have h1':=ji8 h1;rw [if_pos h1'] at ht;simp [hw,hw2];exact ⟨i + 1,hi',by rw [ht]; simp,by omega⟩
  ·have h1':=ji9 h1;rw [if_neg h1'] at ht;simp [hw];exact ⟨i + 1,hi',by rw [ht]; simp,by omega⟩
 ·have hi':i = c.n.length:=by have:=ji9 hb; omega
  subst hi';simp
def tkN (l:List Nat) (n most:Nat):List Nat:=tab n fun i=>if l.length = 0 then 2 else l.getD (i % l.length) 0 % most
@[simp] theorem q57 (l:List Nat) (n most:Nat):(tkN l n most).length = n:=by simp [tkN]
theorem q97 (l:List Nat) (n most:Nat) (hm:0 < most) (hm2:most≤4):∀ x ∈ tkN l n most,x≤3:=by
 intro x hx;simp only [tkN,tab,List.mem_map] at hx;obtain ⟨i,-,rfl⟩:=hx;split
 ·omega
 ·have:=Nat.mod_lt (l.getD (i % l.length) 0) hm;omega
theorem qnm {α:Type} (n:Nat) (f:Nat->α):tab (n + 1) f = tab n f ++ [f n]:=by simp [tab,List.range_succ]
theorem qm1 (l:List V):VLe (qm0 l) (.sl l none):=by
 cases l with
 | nil=>exact VLe.nil'
 | cons a r=>exact .refl _
theorem qq3 (l:List Nat) (cap:Option Nat) (n most:Nat) (hn:n < 1000000) (hm:0 < most) (hm2:most < 256):qad Tryz.prog gl0 107 [.sl (l.map u8V) cap,qaa n,u8V most] (.sl ((tkN l n most).map u8V) none):=by
 refine qad.wide (res:=qm0 ((tkN l n most).map u8V)) ?_ (qge.refl _) (qm1 _);refine ji4 2 q8w rfl ?_;simp [jde,jg6,qaa,u8V]
 refine jhs (X:=Nat × Option (Nat × List V)) (fun z=>[(8,qaa z.1),(7,qbe 1000 z.2),(0,.sl (l.map u8V) cap),(1,qaa n),(2,u8V most)]) (fun z=>qbf 1000 1 z.2)
  (fun z=>z.1≤n/\(z.2 = none↔z.1 = 0)/\qa3 z.2 = (tkN l z.1 most).map u8V) (fun z=>n - z.1) (.done ⟨(0,none),⟨by simp,by simp,by simp [qa3,tkN,tab]⟩,by simp [qaa,qbe,u8V],by simp [qbf]⟩) ?_
 rintro ⟨j,acc⟩ ⟨q1,q2,q3⟩;dsimp only at q1 q2 q3 ⊢;have hlp:=qab l;simp [qaa,u8V];refine ji1 (fun hb=>?_) (fun hb=>?_)
 ·have hj:j < n:=ji8 hb;have hw:=qa5 j (by omega);obtain ⟨v,hv⟩:∃ v,(if l.length = 0 then 2 else l.getD (j % l.length) 0 % most) = v:=⟨_,rfl⟩
  have hnx:(tkN l (j + 1) most).map u8V = (tkN l j most).map u8V ++ [.int .u8 (v:Int)]:=by
   rw [tkN,qnm,hv]; simp [tkN,u8V]
  have hjl:((tkN l j most).map u8V).length = j:=by simp
  rw [<- q3] at hnx hjl;simp;refine ji1 (fun h0=>?_) (fun h0=>?_)
  ·have h0':l.length = 0:=by simpa using h0
   rw [if_pos h0'] at hv;subst hv
   cases acc with
   | none=>
    have hj0:j = 0:=q2.1 rfl;simp [qbe,qbf,hw];intro ga gb;refine .move 19 1000 _ (by simp) (by simp; rfl) fun g'=>.done ⟨j + 1,some (g',[.int .u8 2]),⟨hj,by simp,by rw [hnx]; rfl⟩,?_⟩;simp [qa1 _ hlp];omega
   | some gl=>
    obtain ⟨g,r⟩:=gl;simp only [qa3] at hnx hjl;simp [qbe,qbf,hw];intro ga gb;refine ⟨by omega,.done ⟨j + 1,some (gb 1000,r ++ [.int .u8 2]),⟨hj,by simp,by rw [hnx]; rfl⟩,?_⟩⟩;simp;omega
  ·have h0':¬ l.length = 0:=by simpa using h0
   rw [if_neg h0'] at hv;have hlt:=Nat.mod_lt j (show 0 < l.length by omega);obtain ⟨p,hp⟩:∃ p,j % l.length = p:=⟨_,rfl⟩;rw [hp] at hlt hv;have hm1:((j:Int)).tmod (l.length:Int) = (p:Int):=ja9 hp;obtain ⟨x,hx⟩:∃ x,l[p] = x:=⟨_,rfl⟩;have hxv:x % most = v:=by rw [<- hv,jja,jje hlt,hx]; rfl
   have hm3:((x:Int)).tmod (most:Int) = (v:Int):=ja9 hxv;have hl0:l ≠ []:=fun e=>h0' (by rw [e]; rfl);have hm0:most ≠ 0:=by omega
   cases acc with
   | none=>
    have hj0:j = 0:=q2.1 rfl;simp [hl0,hm1,hlt,hx,hm3,hm0,u8V,qbe,qbf,hw];intro ga gb;refine .move 31 1000 _ (by simp) (by simp; rfl) fun g'=>.done ⟨j + 1,some (g',[.int .u8 (v:Int)]),⟨hj,by simp,by rw [hnx]; rfl⟩,?_⟩;simp [qa1 _ hlp];omega
   | some gl=>
    obtain ⟨g,r⟩:=gl;simp only [qa3] at hnx hjl;simp [hl0,hm1,hlt,hx,hm3,hm0,u8V,qbe,qbf,hw];intro ga gb;refine ⟨by omega,.done ⟨j + 1,some (gb 1000,r ++ [.int .u8 (v:Int)]),⟨hj,by simp,by rw [hnx]; rfl⟩,?_⟩⟩;simp;omega
 ·have hj:j = n:=by have:=ji9 hb; omega
  subst hj
  cases acc with
  | none=>
   have hj0:j = 0:=q2.1 rfl;subst hj0;simp [qbe,qbf,tkN,tab,qm0]
  | some gl=>
   obtain ⟨g,r⟩:=gl;simp only [qa3] at q3;have hrp:jhf r = true:=by rw [q3]; exact qab _
   have hr0:r ≠ []:=fun e=>by
    have h1:=q2.2;subst e;have:j = 0:=by have:=congrArg List.length q3; simpa using this.symm
    exact absurd (h1 this) (by simp)
   have hlv:qm0 r = .sl r none:=by cases r with
    | nil=>exact absurd rfl hr0
    | cons a b=>rfl
   rw [<- q3,hlv];simp [qbe,qbf,qbb hrp]
theorem jgi (p:Pt) (c:Ci) (hl:c.n.length < 1000000):qad Tryz.prog gl0 74 [p.v,c.v] (Pt.v ⟨tkN p.i (cnt 0 c.n) 4,tkN p.s (cnt 14 c.n) 3⟩):=by
 have c0:qad Tryz.prog gl0 108 [c.v,u8V 0] (qaa (cnt 0 c.n)):=qmd c 0 hl;have c1:qad Tryz.prog gl0 108 [c.v,u8V 14] (qaa (cnt 14 c.n)):=qmd c 14 hl;have l0:=qbn 0 c.n;have l1:=qbn 14 c.n;generalize cnt 0 c.n = A at c0 l0 ⊢;generalize cnt 14 c.n = B at c1 l1 ⊢;have t0:=qq3 p.i none A 4 (by omega) (by omega) (by omega);have t1:=qq3 p.s none B 3 (by omega) (by omega) (by omega);simp only [u8V,qaa] at c0 c1 t0 t1;generalize (tkN p.i A 4) = X at t0 ⊢;generalize (tkN p.s B 3) = Y at t1 ⊢;refine ji4 2 ok74 rfl ?_;simp [i74,x74,Pt.v];intro gf1 gf2 gf3 gm;refine ⟨_,_,_,.pure c0 (by simp),?_⟩;simp;refine ⟨_,_,_,.pure t0 (by simp [qab]),?_⟩;simp;refine ⟨_,_,_,.pure c1 (by simp),?_⟩;simp;refine ⟨_,_,_,.pure t1 (by simp [qab]),?_⟩;simp [qah]
 try rfl
end
section
open Go
theorem qub (v:Nat) (h:v≤3):qad Tryz.prog gl0 118 [u8V v] (.bool false):=by
 refine ji4 2 jeh rfl ?_;simp [i118,x118,u8V];omega
theorem qvo (f:FuncId) (l:List Nat) (cap:Option Nat) (hl:l.length < 1000000000) (hf:∀ v ∈ l,qad Tryz.prog gl0 f [u8V v] (.bool false)):qad Tryz.prog gl0 159 [.sl (l.map u8V) cap,.fn f [] []] (.int .i64 (-1)):=by
 refine ji4 2 q81 rfl ?_;simp [jdk,jhb]
 refine ji3 (X:=Nat) (fun i=>[(8,qaa i),(7,qaa l.length),(0,.sl (l.map u8V) cap),(1,.fn f [] [])]) (fun _=>[])
  (fun i=>i≤l.length) (fun i=>l.length - i) 0 (Nat.zero_le _) (by simp [qaa]) (by simp) ?_
 intro i hi;simp [qaa];refine ji1 (fun hb=>?_) (fun hb=>?_)
 ·have hi':i < l.length:=ji8 hb;have hw:=qa5 i (by omega);obtain ⟨y,hy⟩:∃ y,l[i] = y:=⟨_,rfl⟩;have hfy:=hf y (by rw [<- hy]; exact jjd hi');simp only [u8V] at hfy;simp [hi',hy,u8V];refine ji0 hfy rfl ?_;simp [hw];exact ⟨i + 1,hi',rfl,by omega⟩
 ·simp
theorem qlh (f:FuncId) (l:List Nat) (cap:Option Nat) (hl:l.length < 1000000000) (hf:∀ v ∈ l,qad Tryz.prog gl0 f [u8V v] (.bool false)):qad Tryz.prog gl0 117 [.sl (l.map u8V) cap,.fn f [] []] (.bool false):=by
 refine ji4 2 q8x rfl ?_;simp [jdf,jg7];refine ji0 (qvo f l cap hl hf) (by simp [jhf,V.pure,qab]) ?_;simp
theorem qg3 (c:Ci) (hl:c.n.length < 1000000):qad Tryz.prog gl0 44 [c.v] (.sl (qak (ids 0 c.n 0)) (some (cnt 0 c.n))):=by
 have:=jid (qbw.one (qzi c hl) fun _ _ h=>qjt h) (qdp _ c.n 0).2;rw [qi0] at this;simpa [cnt] using this
theorem qeq (c:Ci) (hl:c.n.length < 1000000):qad Tryz.prog gl0 45 [c.v] (.sl (qak (ids 14 c.n 0)) (some (cnt 14 c.n))):=by
 have:=jid (qbw.one (q0p c hl) fun _ _ h=>qjt h) (qdp _ c.n 0).2;rw [qi0] at this;simpa [cnt] using this
theorem q39 (c:Ci) (hg:c.good):qbw Tryz.prog gl0 88 [c.v,.sl [.int .u8 15] (some 1)] (q5b 1 (.sl [] (some 0))):=by
 have h1:=jih (q8v c [15] (some 1) (by have:=hg.n1; omega) (by simp)) (qdp [15] c.n 0).2 (qdp [15] c.n 0).1
 have h2:ids 15 c.n 0 = []:=by
  rw [List.eq_nil_iff_forall_not_mem];intro x hx;obtain ⟨hx',hk⟩:=qlr hx;exact hg.k _ (jjd hx') hk
 rw [qi0,h2] at h1;simpa [qak] using h1
theorem q1o (c:Ci) (hg:c.good) (p:Pt) (hp:p.fit c):qad Tryz.prog gl0 80 [c.v,p.v] (.int .i64 0):=by
 have hn1:=hg.n1;have hm:=hg.m;have l0:=qbn 0 c.n;have l1:=qbn 14 c.n;have hpi:=hp.i;have hps:=hp.s;have ci:=qg3 c (by omega);have cs:=qeq c (by omega);have cm:=q39 c hg;have k1:=qlh 118 p.i none (by omega) fun v hv=>qub v (hp.iv v hv);have k2:=qlh 118 p.s none (by omega) fun v hv=>qub v (hp.sv v hv);obtain ⟨I,hI⟩:∃ I,ids 0 c.n 0 = I:=⟨_,rfl⟩;obtain ⟨S,hS⟩:∃ S,ids 14 c.n 0 = S:=⟨_,rfl⟩;have hIl:I.length = cnt 0 c.n:=by rw [<- hI]; rfl
 have hSl:S.length = cnt 14 c.n:=by rw [<- hS]; rfl
 rw [hI] at ci;rw [hS] at cs;refine ji4 2 ok80 rfl ?_;simp [i80,x80,hm];intro gf1 gf2;intro gf3;refine CallO.dat 1 cm (by simp) ?_;simp;intro gm;refine ⟨_,_,_,.pure ci (by simp),?_⟩;simp [hpi,hIl];refine ⟨_,_,_,.pure cs (by simp),?_⟩;simp [hps,hSl];refine ⟨rfl,?_⟩;refine ji0 k1 (by simp) ?_;simp;refine ji0 k2 (by simp) ?_;simp
def qdf (c:Ci):Pt:=⟨List.replicate (cnt 0 c.n) 2,List.replicate (cnt 14 c.n) 2⟩
theorem qug (c:Ci):(qdf c).fit c:=⟨by simp [qdf],by simp [qdf],fun x hx=>by rw [List.eq_of_mem_replicate hx]; omega,fun x hx=>by rw [List.eq_of_mem_replicate hx]; omega⟩
end
section
open Go
def qiq (c:Ci) (l:V):V:=.agg [.sl (c.n.map Nd.v) none,.sl (c.s.map .str) none,.sl (c.m.map Md.v) none,.sl (qc5 c.o) none,l]
@[simp] theorem q90 (c:Ci) (l:V):(qiq c l).cells = [.sl (c.n.map Nd.v) none,.sl (c.s.map .str) none,.sl (c.m.map Md.v) none,.sl (qc5 c.o) none,l]:=rfl
@[simp] theorem run_ok (c:Ci) (xs:List V) (cap:Option Nat):(qiq c (.sl xs cap)).cellsOk = true:=rfl
@[simp] theorem jgq (c:Ci) (b g o l:Nat) (cap:Option Nat):(qiq c (.ref b g o l cap)).cellsOk = true:=rfl
theorem run_pure (c:Ci) (l:List Nat) (cap:Option Nat):(qiq c (.sl (l.map u8V) cap)).pure = true:=by
 have:=qb1 c;simp only [Ci.v,V.pure,jhf,Bool.and_true,Bool.and_eq_true] at this;simp [qiq,this]
theorem qx3 (c:Ci) (l:List Nat) (cap:Option Nat) (m:Nat) (h:m < l.length) (_hl:l.length < 1000000):qad Tryz.prog gl0 128 [qiq c (.sl (l.map u8V) cap),.int .i64 (m:Int)] (u8V (qd1 (l.getD m 0))):=by
 obtain ⟨x,hx⟩:∃ x,l[m] = x:=⟨_,rfl⟩;have hd:l.getD m 0 = x:=by rw [jja,jje h,hx]; rfl
 rw [hd];have hc:=qup x;simp only [u8V] at hc;refine ji4 2 jer rfl ?_;simp [i128,x128,qiq,show ¬ l.length≤m by omega,h,hx,u8V];intro gf;refine ji0 hc rfl ?_;simp
theorem qlf (l:List Nat) (cap:Option Nat) (_hl:l.length < 1000000):qad Tryz.prog gl0 129 [.sl (l.map u8V) cap] (.sl (l.map u8V) (some l.length)):=by
 refine ji4 2 jes rfl ?_;simp [i129,x129];rw [jjc (by simp)];exact qah _ (qab l)
theorem qbq:qad Tryz.prog gl0 129 [.nil] (.sl [] (some 0)):=qad.wide (qlf [] none (by simp)) ⟨VLe.nil',trivial⟩ (.refl _)
theorem qr4 {c:Ci} (hg:c.good) {n:Nat} (hn:n ∈ ids 14 c.n 0):∃ h:n < c.n.length,∃ x:Int,c.n[n].i = [x]/\0≤x/\x < c.n.length/\c.n[n].k = 14:=by
 obtain ⟨h,hk⟩:=qlr hn;have h1:=qhz ((qgq hg.sh).2.2.1 _ (jjd h));have hv:=hg.val.i n h;rw [c.nd_get h] at hv;have hw:=h1.2.1;rw [hk] at hw
 have hl:c.n[n].i.length = 1:=by
  have e1:kLo 14 = 1:=rfl;have e2:kHi 14 = 1:=rfl;simp only [qir,e1,e2,Bool.and_eq_true,decide_eq_true_eq] at hw;omega
 match hq:c.n[n].i,hl with
 | [x],_=>
  rw [hq] at hv;have:=hv x (by simp);exact ⟨h,x,hq,this.1,this.2,hk⟩
theorem qcx {α β:Type} {l:List α} {i:Nat} {y:α} (F:α->β) (h:i < l.length) (hy:l[i] = y):(l.take (i + 1)).map F = (l.take i).map F ++ [F y]:=by
 rw [List.take_succ_eq_append_getElem h,hy]; simp
set_option maxHeartbeats 4000000 in
theorem qwi (c:Ci) (hg:c.good) (l:List Nat) (cap:Option Nat) (hll:l.length = c.n.length):qad Tryz.prog gl0 84 [qiq c (.sl (l.map u8V) cap)] (qfg (qj7 c fun i=>l.getD i 0) (qkx c fun i=>l.getD i 0)):=by
 have hn1:=hg.n1;have hno:c.o.length≤16384:=(qkh hg.sh).2.2.2;have l1:=qbn 14 c.n;have cs:=qeq c (by omega);have hcl:=qlf;obtain ⟨F,hF⟩:∃ F:Int->Nat,F = fun n=>qd1 (l.getD n.toNat 0):=⟨_,rfl⟩;obtain ⟨E,hE⟩:∃ E:Nat->Nat,E = qty c fun i=>l.getD i 0:=⟨_,rfl⟩;have hres:qfg (qj7 c fun i=>l.getD i 0) (qkx c fun i=>l.getD i 0) = qfg (c.o.map F) ((ids 14 c.n 0).map E):=by rw [hF,hE]; rfl
 rw [hres];have hdff:=fun n (hn:n ∈ ids 14 c.n 0)=>qr4 hg hn;obtain ⟨S,hS⟩:∃ S,ids 14 c.n 0 = S:=⟨_,rfl⟩;have hSl:S.length = cnt 14 c.n:=by rw [<- hS]; rfl
 rw [hS] at cs hdff ⊢;rw [<- hSl] at cs l1;have hrp:=run_pure c l cap;refine ji4 2 ok84 rfl ?_;simp [i84,x84];intro gf1 gf2 gf3;generalize gf1 1 = g1;generalize gf2 2 = g2;generalize gf3 3 = g3
 refine ji3 (X:=Nat × Option (Nat × List V)) (fun z=>[(14,qaa z.1),(13,qaa c.o.length),(12,.sl (qc5 c.o) none),(3,.ptr 3 g3 0 0),(2,.ptr 2 g2 0 0),(1,.ptr 1 g1 0 0)])
  (fun z=>[(3,.row g3 2 [.agg [qbe 24 z.2,.nil]]),(2,.row g2 2 [.agg [.nil,.nil]]),(1,.row g1 5 [qiq c (.sl (l.map u8V) cap)])] ++ qbf 24 1 z.2)
  (fun z=>z.1≤c.o.length/\(z.2 = none↔z.1 = 0)/\qa3 z.2 = ((c.o.take z.1).map F).map u8V) (fun z=>c.o.length - z.1) (0,none) ⟨by simp,by simp,by simp [qa3]⟩ (by simp [qaa]) (by simp [qbe,qbf]) ?_
 rintro ⟨i,acc⟩ ⟨q1,q2,q3⟩;dsimp only at q1 q2 q3 ⊢;simp [qaa];refine ji1 (fun hb=>?_) (fun hb=>?_)
 ·have hi:i < c.o.length:=ji8 hb;have hw:=qa5 i (by omega);obtain ⟨y,hy⟩:∃ y,c.o[i] = y:=⟨_,rfl⟩;obtain ⟨y0,y1⟩:=hg.o (x:=y) (by rw [<- hy]; exact jjd hi);obtain ⟨m,rfl⟩:=Int.eq_ofNat_of_zero_le y0;have hv:=qx3 c l cap m (by omega) (by omega);have hFm:qd1 (l.getD m 0) = F (m:Int):=by rw [hF]; rfl
  rw [hFm] at hv;have hnx:=congrArg (List.map u8V) (qcx F hi hy);rw [List.map_append,<- q3] at hnx;simp only [List.map_cons,List.map_nil,u8V] at hnx hv
  cases acc with
  | none=>
   have hi0:i = 0:=q2.1 rfl;simp [qbe,qbf,hi,qbk,hy];intro gm;refine ⟨_,_,_,.pure hv (by simp),?_⟩;simp [hw];refine ⟨rfl,i + 1,some (gm 24,[.int .u8 (F (m:Int):Int)]),⟨hi,by simp,by simpa [qa3,u8V] using hnx.symm⟩,by simp,by simp,by omega⟩
  | some gl=>
   obtain ⟨g,r⟩:=gl;simp only [qa3] at q3 hnx;simp [qbe,qbf,hi,qbk,hy];intro gm;refine ⟨_,_,_,.pure hv (by simp),?_⟩;simp [hw];refine ⟨by have:=congrArg List.length q3; simp at this; omega,rfl,i + 1,some (g + 1,r ++ [.int .u8 (F (m:Int):Int)]),⟨hi,by simp,by simpa [qa3,u8V] using hnx.symm⟩,by simp,by simp,by omega⟩
 have hi:i = c.o.length:=by have:=ji9 hb; omega
 subst hi;rw [List.take_length] at q3;simp;refine ji0 cs (by simp) ?_;simp
 refine jh1 (X:=Nat × Option (Nat × List V)) (fun z=>[(31,qaa z.1),(30,qaa S.length),(29,.sl (qak S) (some S.length)),(3,.ptr 3 g3 0 0),(2,.ptr 2 g2 0 0),(1,.ptr 1 g1 0 0)])
  (fun z=>[(3,.row g3 2 [.agg [qbe 24 acc,qbe 55 z.2]]),(2,.row g2 2 [.agg [.nil,.nil]]),(1,.row g1 5 [qiq c (.sl (l.map u8V) cap)])] ++ (qbf 24 1 acc ++ qbf 55 1 z.2))
  (fun z=>z.1≤S.length/\(z.2 = none↔z.1 = 0)/\qa3 z.2 = ((S.take z.1).map E).map u8V) (fun z=>S.length - z.1) (.done ⟨(0,none),⟨by simp,by simp,by simp [qa3]⟩,by simp [qaa],?_⟩) ?_
 ·cases acc with
  | none=>simp [qbe,qbf]
  | some gl=>simp [qbe,qbf]
 rintro ⟨j,acc2⟩ ⟨p1,p2,p3⟩;dsimp only at p1 p2 p3 ⊢;simp [qaa];refine ji1 (fun hb2=>?_) (fun hb2=>?_)
 ·have hj:j < S.length:=ji8 hb2;have hw:=qa5 j (by omega);obtain ⟨n,hn⟩:∃ n,S[j] = n:=⟨_,rfl⟩;obtain ⟨hnc,x,hxi,x0,x1,-⟩:=hdff n (by rw [<- hn]; exact jjd hj);obtain ⟨m,rfl⟩:=Int.eq_ofNat_of_zero_le x0;have hv:=qx3 c l cap m (by omega) (by omega);have hr:=qww (qd1 (l.getD m 0));have hEn:rdN (qd1 (l.getD m 0)) = E n:=by rw [hE]; simp only [qty]; rw [c.nd_get hnc,hxi]; rfl
  rw [hEn] at hr;obtain ⟨q,hq⟩:∃ q,qd1 (l.getD m 0) = q:=⟨_,rfl⟩;rw [hq] at hv hr;obtain ⟨y,hy⟩:∃ y,c.n[n] = y:=⟨_,rfl⟩;rw [hy] at hxi;have hnx:=congrArg (List.map u8V) (qcx E hj hn);rw [List.map_append,<- p3] at hnx;simp only [List.map_cons,List.map_nil,u8V] at hnx hv hr;have h1:qc5 [(m:Int)] = [.int .i64 (m:Int)]:=rfl;rcases acc with _ | gl <;> rcases acc2 with _ | gl2
  case' none.none=>
   simp [hj,qas,hn,hnc,hy,hxi,qbe,qbf,h1];intro gm
   first | refine ⟨_,_,_,.pure hv (by simp [hrp]),?_⟩ | refine ⟨_,⟨_,_,.pure hv (by simp [hrp])⟩,?_⟩ | refine ⟨_,_,⟨_,.pure hv (by simp)⟩,?_⟩
   simp
   first | refine ⟨_,_,_,.pure hr (by simp),?_⟩ | refine ⟨_,⟨_,_,.pure hr (by simp)⟩,?_⟩ | refine ⟨_,_,⟨_,.pure hr (by simp)⟩,?_⟩
   simp;intro ga gb;refine .done ⟨j + 1,some (gb 55,[.int .u8 (E n:Int)]),⟨hj,by simp,by simpa [qa3,u8V] using hnx.symm⟩,by simp [hw],by simp,by omega⟩
  case' some.none=>
   simp [hj,qas,hn,hnc,hy,hxi,qbe,qbf,h1];intro gm
   first | refine ⟨_,_,_,.pure hv (by simp [hrp]),?_⟩ | refine ⟨_,⟨_,_,.pure hv (by simp [hrp])⟩,?_⟩ | refine ⟨_,_,⟨_,.pure hv (by simp)⟩,?_⟩
   simp
   first | refine ⟨_,_,_,.pure hr (by simp),?_⟩ | refine ⟨_,⟨_,_,.pure hr (by simp)⟩,?_⟩ | refine ⟨_,_,⟨_,.pure hr (by simp)⟩,?_⟩
   simp;intro ga gb;refine .done ⟨j + 1,some (gb 55,[.int .u8 (E n:Int)]),⟨hj,by simp,by simpa [qa3,u8V] using hnx.symm⟩,by simp [hw],by simp,by omega⟩
  case' none.some=>
   simp [hj,qas,hn,hnc,hy,hxi,qbe,qbf,h1];intro gm
   first | refine ⟨_,_,_,.pure hv (by simp [hrp]),?_⟩ | refine ⟨_,⟨_,_,.pure hv (by simp [hrp])⟩,?_⟩ | refine ⟨_,_,⟨_,.pure hv (by simp)⟩,?_⟩
   simp
   first | refine ⟨_,_,_,.pure hr (by simp),?_⟩ | refine ⟨_,⟨_,_,.pure hr (by simp)⟩,?_⟩ | refine ⟨_,_,⟨_,.pure hr (by simp)⟩,?_⟩
   simp;intro ga gb;refine ⟨by have:=congrArg List.length p3; simp [qa3] at this; omega,.done ⟨j + 1,some (gb 55,gl2.2 ++ [.int .u8 (E n:Int)]),⟨hj,by simp,by simpa [qa3,u8V] using hnx.symm⟩,by simp [hw],by simp,by omega⟩⟩
  case' some.some=>
   simp [hj,qas,hn,hnc,hy,hxi,qbe,qbf,h1];intro gm
   first | refine ⟨_,_,_,.pure hv (by simp [hrp]),?_⟩ | refine ⟨_,⟨_,_,.pure hv (by simp [hrp])⟩,?_⟩ | refine ⟨_,_,⟨_,.pure hv (by simp)⟩,?_⟩
   simp
   first | refine ⟨_,_,_,.pure hr (by simp),?_⟩ | refine ⟨_,⟨_,_,.pure hr (by simp)⟩,?_⟩ | refine ⟨_,_,⟨_,.pure hr (by simp)⟩,?_⟩
   simp;intro ga gb;refine ⟨by have:=congrArg List.length p3; simp [qa3] at this; omega,.done ⟨j + 1,some (gb 55,gl2.2 ++ [.int .u8 (E n:Int)]),⟨hj,by simp,by simpa [qa3,u8V] using hnx.symm⟩,by simp [hw],by simp,by omega⟩⟩
 have hj:j = S.length:=by have:=ji9 hb2; omega
 subst hj;rw [List.take_length] at p3;have hcO:=qlf (c.o.map F) none (by simp; omega);have hcS:=qlf (S.map E) none (by simp; omega);generalize c.o.map F = O at q3 hcO ⊢;generalize S.map E = T at p3 hcS ⊢;have htO:List.take O.length (O.map u8V) = O.map u8V:=jjc (by simp);have htT:List.take T.length (T.map u8V) = T.map u8V:=jjc (by simp);rcases acc with _ | ⟨ga,ra⟩ <;> rcases acc2 with _ | ⟨gb,rb⟩
 ·have hO:O = []:=by simpa [qa3] using q3.symm
  have hT:T = []:=by simpa [qa3] using p3.symm
  subst hO hT;simp [qbe,qbf];refine .mk [(3,.ptr 3 g3 0 0),(2,.ptr 2 g2 0 0)] [(3,.row g3 2 [.agg [.nil,.nil]]),(2,.row g2 2 [.agg [.nil,.nil]])] (by simp) (by simp) (.done ?_);simp;intro gm
  first | refine ⟨_,_,_,.pure qbq (by simp),?_⟩ | refine ⟨_,⟨_,_,.pure qbq (by simp)⟩,?_⟩ | refine ⟨_,_,⟨_,.pure qbq (by simp)⟩,?_⟩
  simp
  first | refine ⟨_,_,_,.pure qbq (by simp),?_⟩ | refine ⟨_,⟨_,_,.pure qbq (by simp)⟩,?_⟩ | refine ⟨_,_,⟨_,.pure qbq (by simp)⟩,?_⟩
  simp [qfg]
  try rfl
 ·simp only [qa3] at q3 p3;have hO:O = []:=by simpa using q3.symm
  subst hO;subst p3;simp [qbe,qbf];refine .mk [(3,.ptr 3 g3 0 0),(2,.ptr 2 g2 0 0)] [(3,.row g3 2 [.agg [.nil,.ref 55 gb 0 T.length none]]),(2,.row g2 2 [.agg [.nil,.nil]]),(55,.row gb 1 (T.map u8V))] (by simp) (by simp) (.frz (g:=gb) (sz:=1) (es:=T.map u8V) 55 (by simp) (qab T) (.done ?_));simp [fzF,fzH,fzV,fzf,fzp,Blk.fz,htT];intro gm
  first | refine ⟨_,_,_,.pure qbq (by simp),?_⟩ | refine ⟨_,⟨_,_,.pure qbq (by simp)⟩,?_⟩ | refine ⟨_,_,⟨_,.pure qbq (by simp)⟩,?_⟩
  simp
  first | refine ⟨_,_,_,.pure hcS (by simp),?_⟩ | refine ⟨_,⟨_,_,.pure hcS (by simp)⟩,?_⟩ | refine ⟨_,_,⟨_,.pure hcS (by simp)⟩,?_⟩
  simp [qfg,qah]
  try rfl
 ·simp only [qa3] at q3 p3;subst q3;have hT:T = []:=by simpa using p3.symm
  subst hT;simp [qbe,qbf];refine .mk [(3,.ptr 3 g3 0 0),(2,.ptr 2 g2 0 0)] [(3,.row g3 2 [.agg [.ref 24 ga 0 O.length none,.nil]]),(2,.row g2 2 [.agg [.nil,.nil]]),(24,.row ga 1 (O.map u8V))] (by simp) (by simp) (.frz (g:=ga) (sz:=1) (es:=O.map u8V) 24 (by simp) (qab O) (.done ?_));simp [fzF,fzH,fzV,fzf,fzp,Blk.fz,htO];intro gm
  first | refine ⟨_,_,_,.pure hcO (by simp),?_⟩ | refine ⟨_,⟨_,_,.pure hcO (by simp)⟩,?_⟩ | refine ⟨_,_,⟨_,.pure hcO (by simp)⟩,?_⟩
  simp
  first | refine ⟨_,_,_,.pure qbq (by simp),?_⟩ | refine ⟨_,⟨_,_,.pure qbq (by simp)⟩,?_⟩ | refine ⟨_,_,⟨_,.pure qbq (by simp)⟩,?_⟩
  simp [qfg,qah]
  try rfl
 ·simp only [qa3] at q3 p3;subst q3;subst p3;simp [qbe,qbf];refine .mk [(3,.ptr 3 g3 0 0),(2,.ptr 2 g2 0 0)] [(3,.row g3 2 [.agg [.ref 24 ga 0 O.length none,.ref 55 gb 0 T.length none]]),(2,.row g2 2 [.agg [.nil,.nil]]),(24,.row ga 1 (O.map u8V)),(55,.row gb 1 (T.map u8V))] (by simp) (by simp) (.frz (g:=ga) (sz:=1) (es:=O.map u8V) 24 (by simp) (qab O) (.frz (g:=gb) (sz:=1) (es:=T.map u8V) 55 (by simp [fzH,Blk.fz,qe5 (qab T)]) (qab T) (.done ?_)));simp [fzF,fzH,fzV,fzf,fzp,Blk.fz,htO,htT,qah];intro gm
  first | refine ⟨_,_,_,.pure hcO (by simp),?_⟩ | refine ⟨_,⟨_,_,.pure hcO (by simp)⟩,?_⟩ | refine ⟨_,_,⟨_,.pure hcO (by simp)⟩,?_⟩
  simp
  first | refine ⟨_,_,_,.pure hcS (by simp),?_⟩ | refine ⟨_,⟨_,_,.pure hcS (by simp)⟩,?_⟩ | refine ⟨_,_,⟨_,.pure hcS (by simp)⟩,?_⟩
  simp [qfg,qah]
  try rfl
end
end Go.Proofs.YtpaopccohkldlaaGreatDoor
