/- Lemmas. Conditions: none. -/
import Derived.Test.YtlmniacemoohpaaGreatDoorI1
import Derived.Test.YtlmniacemoohpaaGreatDoorNet13
import Derived.Test.YtlmniacemoohpaaGreatDoorBase18
set_option linter.all false
namespace Go.Proofs.YtlmniacemoohpaaGreatDoor
section
open Go
theorem qv2 (v:Nat):qac Tryz.prog gl0 141 [u8V v] (u8V (qg4 v)):=by
 refine jiu 2 q8v rfl ?_;simp [jeg,x141,u8V,qg4];refine jis (fun h=>?_) (fun h=>?_)
 ·have:=jiy h;simp [show 3 < v by omega]
 ·have:=jiz h;simp [show ¬ 3 < v by omega]
theorem qx3 (v:Nat):qac Tryz.prog gl0 97 [u8V v] (u8V (rdN v)):=by
 refine jiu 2 ok97 rfl ?_;simp [i97,x97,u8V,rdN];omega
theorem qis (v:Nat):qac Tryz.prog gl0 45 [u8V v] (.bool (decide (v≤1))):=by
 refine jiu 2 ok45 rfl ?_;simp [i45,x45,u8V]
theorem qmp (v:Nat):qac Tryz.prog gl0 24 [u8V v] (u8V (qlz v)):=by
 refine jiu 2 ok24 rfl ?_;simp [i24,x24];refine jir (qis v) rfl ?_;simp [u8V];refine jis (fun h=>?_) (fun h=>?_)
 ·have hv:v = 0∨v = 1:=by have:=jiy h; omega
  rcases hv with rfl | rfl <;> simp [qlz,IntKind.wrap,IntKind.bits,IntKind.signed]
 ·have hv:=jiz h;simp [qlz,hv]
theorem q6y (lo hi:Nat) (l:List Nat) (cap:Option Nat) (hl:l.length < 1000000000):qac Tryz.prog gl0 139 [.sl (l.map u8V) cap,u8V lo,u8V hi] (u8V (dec lo hi hi l)):=by
 obtain ⟨q,hq⟩:∃ r,dec lo hi hi l = r:=⟨_,rfl⟩;rw [hq];refine jiu 2 q8t rfl ?_;simp [jee,x139,u8V]
 refine jit (X:=Nat × Nat) (fun z=>[(13,qab z.1),(12,qab l.length),(11,.sl (l.map u8V) cap),(7,u8V z.2),(2,u8V hi),(1,u8V lo)]) (fun _=>[])
  (fun z=>z.1≤l.length/\dec lo hi z.2 (l.drop z.1) = q) (fun z=>l.length - z.1) (0,hi) ⟨by simp,by simpa using hq⟩ (by simp [qab,u8V]) (by simp) ?_
 rintro ⟨i,out⟩ ⟨h2,h3⟩;dsimp only at h2 h3 ⊢;simp [qab,u8V];refine jis (fun h1=>?_) (fun h1=>?_)
 ·have hi':i < l.length:=jiy h1;have hw:=qbg i (by omega);rw [List.drop_eq_getElem_cons hi',dec] at h3;obtain ⟨v,hv⟩:∃ v,l[i] = v:=⟨_,rfl⟩;rw [hv] at h3;simp [hi',hv,u8V];refine jis (fun h4=>?_) (fun h4=>?_)
  ·rw [if_pos (jiy h4)] at h3;simp [h3]
  ·rw [if_neg (jiz h4)] at h3;simp;refine jis (fun h5=>?_) (fun h5=>?_)
   ·have h5':=jiy h5;rw [if_pos h5'] at h3;simp [hw];exact ⟨i + 1,out,⟨hi',h3⟩,⟨rfl,rfl⟩,by omega⟩
   ·have h5':=jiz h5;rw [if_neg h5'] at h3;simp [hw];exact ⟨i + 1,2,⟨hi',h3⟩,⟨rfl,rfl⟩,by omega⟩
 ·have hi':i = l.length:=by have:=jiz h1; omega
  subst hi';simp [dec] at h3;simp [h3]
theorem qbt (l:List Nat):jgy (l.map u8V) = true:=V.pureL_map _ l fun _=>rfl
theorem q7o (l:List Nat) (cap:Option Nat) (hl:l.length < 1000000000):qac Tryz.prog gl0 98 [.sl (l.map u8V) cap] (u8V (dec 0 1 1 l)):=by
 refine jiu 2 ok98 rfl ?_;simp [i98,x98];refine jir (q6y 0 1 l cap hl) (by simp only [jgy,V.pure,qbt,Bool.and_self]) ?_;simp [u8V]
theorem jfe (l:List Nat) (cap:Option Nat) (hl:l.length < 1000000000):qac Tryz.prog gl0 99 [.sl (l.map u8V) cap] (u8V (dec 1 0 0 l)):=by
 refine jiu 2 ok99 rfl ?_;simp [i99,x99];refine jir (q6y 1 0 l cap hl) (by simp only [jgy,V.pure,qbt,Bool.and_self]) ?_;simp [u8V]
theorem q7y (l:List Nat) (cap:Option Nat) (hl:l.length < 1000000000):qac Tryz.prog gl0 100 [.sl (l.map u8V) cap] (u8V (qy3 0 l)):=by
 obtain ⟨q,hq⟩:∃ r,qy3 0 l = r:=⟨_,rfl⟩;rw [hq];refine jiu 2 q8a rfl ?_;simp [jdw,x100]
 refine jit (X:=Nat × Nat) (fun z=>[(8,qab z.1),(7,qab l.length),(6,.sl (l.map u8V) cap),(3,u8V z.2)]) (fun _=>[])
  (fun z=>z.1≤l.length/\z.2≤1/\qy3 z.2 (l.drop z.1) = q) (fun z=>l.length - z.1) (0,0) ⟨by simp,by simp,by simpa using hq⟩ (by simp [qab,u8V]) (by simp) ?_
 rintro ⟨i,out⟩ ⟨h2,h4,h3⟩;dsimp only at h2 h3 h4 ⊢;simp [qab,u8V];refine jis (fun h1=>?_) (fun h1=>?_)
 ·have hi':i < l.length:=jiy h1;have hw:=qbg i (by omega);rw [List.drop_eq_getElem_cons hi',qy3] at h3;obtain ⟨v,hv⟩:∃ v,l[i] = v:=⟨_,rfl⟩;rw [hv] at h3;have hk:=qis v;simp only [u8V] at hk;simp [hi',hv,u8V];refine jir hk rfl ?_;simp;refine jis (fun h5=>?_) (fun h5=>?_)
  ·have hv1:v = 0∨v = 1:=by have:=jiy h5; omega
   have ho:out = 0∨out = 1:=by omega
   rcases hv1 with rfl | rfl
   ·simp only [if_true] at h3;rcases ho with rfl | rfl
    ·simp [hw];exact ⟨i + 1,0,⟨hi',by omega,h3⟩,⟨rfl,rfl⟩,by omega⟩
    ·simp [hw];exact ⟨i + 1,1,⟨hi',by omega,h3⟩,⟨rfl,rfl⟩,by omega⟩
   ·simp only [if_true,Nat.one_ne_zero,if_false] at h3;rcases ho with rfl | rfl
    ·simp [hw];exact ⟨i + 1,1,⟨hi',by omega,h3⟩,⟨rfl,rfl⟩,by omega⟩
    ·simp [hw];exact ⟨i + 1,0,⟨hi',by omega,h3⟩,⟨rfl,rfl⟩,by omega⟩
  ·have h5':=jiz h5;rw [if_neg (by omega),if_neg (by omega)] at h3;subst h3;simp
 ·have hi':i = l.length:=by have:=jiz h1; omega
  subst hi';simp [qy3] at h3;simp [h3]
theorem q7u (s a b:Nat):qac Tryz.prog gl0 101 [u8V s,u8V a,u8V b] (u8V (q72 s a b)):=by
 have ha:=qx3 a;have hb:=qx3 b;unfold q72;simp only [u8V] at ha hb ⊢;refine jiu 2 q8b rfl ?_;simp [jdx,x101];refine jis (fun h1=>?_) (fun h1=>?_)
 ·have h1':s = 0:=jiy h1;subst h1';simp;refine jir ha rfl ?_;simp
 have h1':¬ s = 0:=jiz h1;simp;refine jis (fun h2=>?_) (fun h2=>?_)
 ·have h2':s = 1:=jiy h2;subst h2';simp;refine jir hb rfl ?_;simp
 have h2':¬ s = 1:=jiz h2;simp;refine jis (fun h3=>?_) (fun h3=>?_)
 ·have h3':a = b:=jiy h3;subst h3';simp;refine jir ha rfl ?_;simp [h1',h2']
 have h3':¬ a = b:=jiz h3;simp [h1',h2',h3']
theorem q7x (e d:Nat):qac Tryz.prog gl0 102 [u8V e,u8V d] (u8V (jal e d)):=by
 have hb:=qx3 d;unfold jal;simp only [u8V] at hb ⊢;refine jiu 2 q8c rfl ?_;simp [jdy,x102];refine jis (fun h1=>?_) (fun h1=>?_)
 ·have h1':e = 0:=jiy h1;subst h1';simp
 have h1':¬ e = 0:=jiz h1;simp;refine jis (fun h2=>?_) (fun h2=>?_)
 ·have h2':e = 1:=jiy h2;subst h2';simp;refine jir hb rfl ?_;simp
 have h2':¬ e = 1:=jiz h2;simp [h1',h2']
theorem jgj (v:Nat):qac Tryz.prog gl0 140 [u8V v] (.bool (decide (qg4 v = 2))):=by
 have hc:=qv2 v;refine jiu 2 q8u rfl ?_;simp [jef,x140];refine jir hc rfl ?_;simp [u8V]
theorem jds (v:Nat):qac Tryz.prog gl0 142 [u8V v] (.bool (v != 3)):=by
 have e:(v != 3) = !decide (v = 3):=rfl;rw [e];refine jiu 2 q8w rfl ?_;simp [jeh,x142,u8V]
def qew (p:Nat->Bool):List Nat->Nat->Int
 | [],_=>-1
 | x :: r,i=>if p x = true then (i:Int) else qew p r (i + 1)
theorem qkr (p:Nat->Bool):∀ (l:List Nat) (i:Nat),decide (0≤qew p l i) = l.any p
 | [],i=>by simp [qew]
 | x :: l,i=>by
  cases h:p x with
  | true=>simp [qew,h]
  | false=>
   have:=qkr p l (i + 1);simp only [qew,h,Bool.false_eq_true,if_false,List.any_cons,Bool.false_or];exact this
theorem qmd {p:Nat->Bool}:∀ {l:List Nat} {i:Nat},l.find? p = none->qew p l i = -1
 | [],_,_=>rfl
 | x :: l,i,h=>by
  rw [List.find?_cons] at h
  cases hx:p x with
  | true=>rw [hx] at h; simp at h
  | false=>
   rw [hx] at h;simp only [qew,hx,Bool.false_eq_true,if_false];exact qmd h
theorem qme {p:Nat->Bool} {v:Nat}:∀ {l:List Nat} {i:Nat},l.find? p = some v->∃ j:Nat,qew p l i = ((i + j:Nat):Int)/\l[j]? = some v
 | [],_,h=>by simp at h
 | x :: l,i,h=>by
  rw [List.find?_cons] at h
  cases hx:p x with
  | true=>
   rw [hx] at h;simp only [Option.some.injEq] at h;exact ⟨0,by simp [qew,hx],by simp [h]⟩
  | false=>
   rw [hx] at h;obtain ⟨j,h1,h2⟩:=qme (i:=i + 1) h;refine ⟨j + 1,?_,by simpa using h2⟩;simp only [qew,hx,Bool.false_eq_true,if_false];rw [h1];congr 1;omega
theorem qji (l:List Nat) (cap:Option Nat) (g:FuncId) (cp:List V) (p:Nat->Bool) (hf:∀ x ∈ l,qac Tryz.prog gl0 g (u8V x :: cp) (.bool (p x))) (hp:jgy cp = true) (hl:l.length < 1000000000000):qac Tryz.prog gl0 138 [.sl (l.map u8V) cap,.fn g [] cp] (.int .i64 (qew p l 0)):=by
 obtain ⟨q,hq⟩:∃ r,qew p l 0 = r:=⟨_,rfl⟩;rw [hq];refine jiu 2 q38 rfl ?_;simp [jbn,jgs]
 refine jit (X:=Nat) (fun i=>[(8,qab i),(7,qab l.length),(0,.sl (l.map u8V) cap),(1,.fn g [] cp)]) (fun _=>[])
  (fun i=>i≤l.length/\qew p (l.drop i) i = q) (fun i=>l.length - i) 0 ⟨by simp,by simpa using hq⟩ (by simp [qab]) (by simp) ?_
 rintro i ⟨h2,h3⟩;simp [qab];refine jis (fun h1=>?_) (fun h1=>?_)
 ·have h1':i < l.length:=jiy h1;have hw:=qbg i (by omega);rw [List.drop_eq_getElem_cons h1'] at h3;simp only [qew] at h3;obtain ⟨v,hv⟩:∃ v,l[i] = v:=⟨_,rfl⟩;have hfv:=hf v (hv ▸ ji3 h1');rw [hv] at h3;simp only [u8V] at hfv;simp [h1',hv,u8V];refine jir hfv (by simp only [jgy,V.pure,hp,Bool.and_self]) ?_;simp;refine jis (fun h4=>?_) (fun h4=>?_)
  ·rw [if_pos h4] at h3;simp [h3]
  ·rw [if_neg (by simp [h4])] at h3;simp [hw];exact ⟨i + 1,⟨h1',h3⟩,rfl,by omega⟩
 ·have h1':i = l.length:=by have:=jiz h1; omega
  subst h1';simp [qew] at h3;simp [h3]
theorem qkk (l:List Nat) (cap:Option Nat) (g:FuncId) (cp:List V) (p:Nat->Bool) (hf:∀ x ∈ l,qac Tryz.prog gl0 g (u8V x :: cp) (.bool (p x))) (hp:jgy cp = true) (hl:l.length < 1000000000000):qac Tryz.prog gl0 94 [.sl (l.map u8V) cap,.fn g [] cp] (.bool (l.any p)):=by
 refine jiu 2 jfs rfl ?_;simp [i94,x94];refine jir (qji l cap g cp p hf hp hl) (by simp [hp,qbt]) ?_;simp [qkr]
theorem qzy (x:Nat) (l:List Nat) (cap:Option Nat) (hl:l.length < 1000000000000):qac Tryz.prog gl0 167 [.sl (l.map u8V) cap,u8V x] (.int .i64 (qew (fun v=>x == v) l 0)):=by
 obtain ⟨q,hq⟩:∃ r,qew (fun v=>x == v) l 0 = r:=⟨_,rfl⟩;rw [hq];refine jiu 2 q9d rfl ?_;simp [jey,x167]
 refine jit (X:=Nat) (fun i=>[(8,qab i),(7,qab l.length),(0,.sl (l.map u8V) cap),(1,u8V x)]) (fun _=>[])
  (fun i=>i≤l.length/\qew (fun v=>x == v) (l.drop i) i = q) (fun i=>l.length - i) 0 ⟨by simp,by simpa using hq⟩ (by simp [qab]) (by simp) ?_
 rintro i ⟨h2,h3⟩;simp [qab];refine jis (fun h1=>?_) (fun h1=>?_)
 ·have h1':i < l.length:=jiy h1;have hw:=qbg i (by omega);rw [List.drop_eq_getElem_cons h1'] at h3;simp only [qew] at h3;obtain ⟨v,hv⟩:∃ v,l[i] = v:=⟨_,rfl⟩;rw [hv] at h3;simp [h1',hv,u8V];refine jis (fun h4=>?_) (fun h4=>?_)
  ·rw [if_pos (by simpa using jiy h4)] at h3;simp [h3]
  ·rw [if_neg (by simpa using jiz h4)] at h3;simp [hw];exact ⟨i + 1,⟨h1',h3⟩,rfl,by omega⟩
 ·have h1':i = l.length:=by have:=jiz h1; omega
  subst h1';simp [qew] at h3;simp [h3]
theorem q2h (x:Nat) (l:List Nat):(l.any fun v=>x == v) = decide (x ∈ l):=by
 rw [Bool.eq_iff_iff];simp
theorem qkl (x:Nat) (l:List Nat) (cap:Option Nat) (hl:l.length < 1000000000000):qac Tryz.prog gl0 160 [.sl (l.map u8V) cap,u8V x] (.bool (decide (x ∈ l))):=by
 refine jiu 2 q86 rfl ?_;simp [jer,x160];refine jir (qzy x l cap hl) (by simp [u8V,qbt]) ?_;simp [qkr,q2h]
theorem qub (l:List Nat) (cap:Option Nat) (hl:l.length < 1000000000000):qac Tryz.prog gl0 143 [.sl (l.map u8V) cap] (.bool (decide (0 ∈ l) && decide (1 ∈ l))):=by
 refine jiu 2 q8x rfl ?_;simp [jei,x143];refine jir (qkl 0 l cap hl) (by simp [qbt]) ?_;simp;refine jis (fun h=>?_) (fun h=>?_)
 ·simp [h];refine jir (qkl 1 l cap hl) (by simp [qbt]) ?_;simp
 ·simp [h]
set_option maxRecDepth 100000 in
theorem q7r (l:List Nat) (cap:Option Nat) (hl:l.length < 1000000000):qac Tryz.prog gl0 103 [.sl (l.map u8V) cap] (u8V (jaz l)):=by
 have h1:=qji l cap 142 [] (fun v=>v != 3) (fun x _=>jds x) rfl (by omega);have h2:=qkk l cap 140 [] (fun v=>decide (qg4 v = 2)) (fun x _=>jgj x) rfl (by omega);obtain ⟨k,hk⟩:∃ k,qew (fun v=>v != 3) l 0 = k:=⟨_,rfl⟩
 have hany:(l.any fun v=>decide (qg4 v = 2)) = decide (∃ u ∈ l,qg4 u = 2):=by
  rw [Bool.eq_iff_iff]; simp
 rw [hany] at h2;rw [hk] at h1;unfold jaz;refine jiu 2 q8d rfl ?_;simp [jdz,x103];refine jir h1 (by simp [qbt]) ?_;simp
 cases hf:l.find? (fun v=>v != 3) with
 | none=>
  have hk1:k = -1:=by rw [<- hk]; exact qmd hf
  subst hk1;simp [u8V]
 | some v=>
  obtain ⟨j,hj,hv⟩:=qme (i:=0) hf;have hkj:k = (j:Int):=by rw [<- hk,hj]; congr 1; omega
  subst hkj;have hjl:j < l.length:=(List.getElem?_eq_some_iff.1 hv).1;have hvv:l[j] = v:=(List.getElem?_eq_some_iff.1 hv).2;simp;refine jir (qub l cap (by omega)) (by simp [qbt]) ?_;simp;by_cases h01:0 ∈ l/\1 ∈ l
  ·simp [h01,u8V]
  ·have e:(decide (0 ∈ l) && decide (1 ∈ l)) = false:=by
    rw [Bool.eq_false_iff];simpa using h01
   simp [e];refine jir h2 (by simp [qbt]) ?_;by_cases hu:∃ u ∈ l,qg4 u = 2
   ·simp [hu,u8V]
   ·simp [hu,h01,hjl,hvv,u8V]
theorem qlp (l:List Nat) (cap:Option Nat):jgy [.sl (l.map u8V) cap] = true:=by simp only [jgy,V.pure,qbt,Bool.and_self]
set_option maxRecDepth 100000 in
set_option maxHeartbeats 4000000 in
theorem q7w (k:Nat) (hk:k < 256) (l:List Nat) (cap:Option Nat) (hl:l.length < 1000000000):qac Tryz.prog gl0 54 [u8V k,.sl (l.map u8V) cap] (u8V (q3s k l)):=by
 have hf:=qwr (k:Int) (by omega) (by omega);have hland:=q7o l cap hl;have hlor:=jfe l cap hl;have hlxor:=q7y l cap hl;have hbus:=q7r l cap hl;obtain ⟨A,hA⟩:∃ p,dec 0 1 1 l = p:=⟨_,rfl⟩;obtain ⟨B,hB⟩:∃ p,dec 1 0 0 l = p:=⟨_,rfl⟩;obtain ⟨X,hX⟩:∃ p,qy3 0 l = p:=⟨_,rfl⟩;obtain ⟨U,hU⟩:∃ p,jaz l = p:=⟨_,rfl⟩;have hnA:=qmp A;have hnB:=qmp B;have hnX:=qmp X;obtain ⟨NA,hNA⟩:∃ p,qlz A = p:=⟨_,rfl⟩;obtain ⟨NB,hNB⟩:∃ p,qlz B = p:=⟨_,rfl⟩;obtain ⟨NX,hNX⟩:∃ p,qlz X = p:=⟨_,rfl⟩;rw [hA] at hland;rw [hB] at hlor;rw [hX] at hlxor;rw [hU] at hbus;rw [hNA] at hnA;rw [hNB] at hnB;rw [hNX] at hnX;have hg:∀ j (h:j < l.length),l.getD j 0 = l[j]:=fun j h=>by simp [h]
 refine jiu 2 ok54 rfl ?_;obtain ⟨lo,hlo⟩:∃ p,kLo k = p:=⟨_,rfl⟩;obtain ⟨hi,hhi⟩:∃ p,kHi k = p:=⟨_,rfl⟩;rw [hlo,hhi] at hf;unfold q3s;rw [hlo,hhi];simp only [u8V] at hland hlor hlxor hbus hnA hnB hnX;simp [i54,x54,u8V];refine jir hf rfl ?_;simp;refine jis (fun h1=>?_) (fun h1=>?_)
 ·have h1':=jiy h1;rw [if_pos (.inl h1')];simp [h1]
 have h1':=jiz h1;simp [h1];refine jis (fun h2=>?_) (fun h2=>?_)
 ·have h2':=jiy h2;rw [if_pos (.inr h2')];simp
 have h2':=jiz h2;rw [if_neg (by omega)]
 have hk15:k≤15:=by
  by_cases hc:k≤15
  ·exact hc
  ·exfalso;have:hi = -1:=by rw [<- hhi,kHi,if_pos (by omega)]
   omega
 have hc:k = 0∨k = 1∨k = 2∨k = 3∨k = 4∨k = 5∨k = 6∨k = 7∨k = 8∨k = 9∨k = 10∨k = 11∨k = 12∨k = 13∨k = 14∨k = 15:=by omega
 rcases hc with rfl | rfl | rfl | rfl | rfl | rfl | rfl | rfl | rfl | rfl | rfl | rfl | rfl | rfl | rfl | rfl
 ·simp [qgg]
 ·simp [qgg]
 ·simp [qgg]
 ·have h0:0 < l.length:=by
   have:lo = 1:=by rw [<- hlo]; rfl
   omega
  have hr:=qx3 l[0];simp only [u8V] at hr;have e:qgg 3 l = rdN l[0]:=by rw [<- hg 0 h0]; rfl
  rw [e];simp [h0,u8V];refine jir hr rfl ?_;simp
 ·have h0:0 < l.length:=by
   have:lo = 1:=by rw [<- hlo]; rfl
   omega
  have hr:=qmp l[0];simp only [u8V] at hr;have e:qgg 4 l = qlz l[0]:=by rw [<- hg 0 h0]; rfl
  rw [e];simp [h0,u8V];refine jir hr rfl ?_;simp
 ·rw [show qgg 5 l = A from hA];simp;refine jir hland (qlp _ _) ?_;simp
 ·rw [show qgg 6 l = NA by rw [<- hNA,<- hA]; rfl];simp;refine jir hland (qlp _ _) ?_;simp;refine jir hnA rfl ?_;simp
 ·rw [show qgg 7 l = B from hB];simp;refine jir hlor (qlp _ _) ?_;simp
 ·rw [show qgg 8 l = NB by rw [<- hNB,<- hB]; rfl];simp;refine jir hlor (qlp _ _) ?_;simp;refine jir hnB rfl ?_;simp
 ·rw [show qgg 9 l = X from hX];simp;refine jir hlxor (qlp _ _) ?_;simp
 ·rw [show qgg 10 l = NX by rw [<- hNX,<- hX]; rfl];simp;refine jir hlxor (qlp _ _) ?_;simp;refine jir hnX rfl ?_;simp
 ·have h0:l.length = 3:=by
   have e1:lo = 3:=by rw [<- hlo]; rfl
   have e2:hi = 3:=by rw [<- hhi]; rfl
   omega
  have hr:=q7u (l[0]'(by omega)) (l[1]'(by omega)) (l[2]'(by omega));have e:qgg 11 l = q72 (l[0]'(by omega)) (l[1]'(by omega)) (l[2]'(by omega)):=by rw [<- hg 0 (by omega),<- hg 1 (by omega),<- hg 2 (by omega)]; rfl
  rw [e];generalize q72 (l[0]'(by omega)) (l[1]'(by omega)) (l[2]'(by omega)) = M at hr ⊢;simp only [u8V] at hr;simp [show 0 < l.length by omega,show 1 < l.length by omega,show 2 < l.length by omega,u8V];intro gm
  first | refine ⟨_,_,_,.pure hr rfl,?_⟩ | refine ⟨_,⟨_,_,.pure hr rfl⟩,?_⟩ | refine ⟨_,_,⟨_,.pure hr rfl⟩,?_⟩
  simp
 ·have h0:l.length = 2:=by
   have e1:lo = 2:=by rw [<- hlo]; rfl
   have e2:hi = 2:=by rw [<- hhi]; rfl
   omega
  have hr:=q7x (l[0]'(by omega)) (l[1]'(by omega));have e:qgg 12 l = jal (l[0]'(by omega)) (l[1]'(by omega)):=by rw [<- hg 0 (by omega),<- hg 1 (by omega)]; rfl
  rw [e];generalize jal (l[0]'(by omega)) (l[1]'(by omega)) = M at hr ⊢;simp only [u8V] at hr;simp [show 0 < l.length by omega,show 1 < l.length by omega,u8V];intro gm
  first | refine ⟨_,_,_,.pure hr rfl,?_⟩ | refine ⟨_,⟨_,_,.pure hr rfl⟩,?_⟩ | refine ⟨_,_,⟨_,.pure hr rfl⟩,?_⟩
  simp
 ·rw [show qgg 13 l = U from hU];simp;refine jir hbus (qlp _ _) ?_;simp
 ·simp [qgg]
 ·simp [qgg]
end
section
open Go
attribute [simp] qbt
@[simp] theorem jcn (p:Pt):p.v.cells = [.sl (p.i.map u8V) none,.sl (p.s.map u8V) none]:=rfl
@[simp] theorem q5t (p:Pt):p.v.cellsOk = true:=rfl
@[simp] theorem jf8 (p:Pt):V.pure p.v = true:=by simp [Pt.v]
theorem qz8 (l:List V):VLe (qgk l) (.sl l none):=by
 cases l with
 | nil=>exact VLe.nil'
 | cons a r=>exact .refl _
end
section
open Go
theorem qvt (v:Nat) (h:v≤3):qac Tryz.prog gl0 95 [u8V v] (.bool false):=by
 refine jiu 2 ok95 rfl ?_;simp [i95,x95,u8V];omega
theorem qw1 (f:FuncId) (l:List Nat) (cap:Option Nat) (hl:l.length < 1000000000) (hf:∀ v ∈ l,qac Tryz.prog gl0 f [u8V v] (.bool false)):qac Tryz.prog gl0 138 [.sl (l.map u8V) cap,.fn f [] []] (.int .i64 (-1)):=by
 refine jiu 2 q38 rfl ?_;simp [jbn,jgs]
 refine jit (X:=Nat) (fun i=>[(8,qab i),(7,qab l.length),(0,.sl (l.map u8V) cap),(1,.fn f [] [])]) (fun _=>[])
  (fun i=>i≤l.length) (fun i=>l.length - i) 0 (Nat.zero_le _) (by simp [qab]) (by simp) ?_
 intro i hi;simp [qab];refine jis (fun hb=>?_) (fun hb=>?_)
 ·have hi':i < l.length:=jiy hb;have hw:=qbg i (by omega);obtain ⟨y,hy⟩:∃ y,l[i] = y:=⟨_,rfl⟩;have hfy:=hf y (by rw [<- hy]; exact ji3 hi');simp only [u8V] at hfy;simp [hi',hy,u8V];refine jir hfy rfl ?_;simp [hw];exact ⟨i + 1,hi',rfl,by omega⟩
 ·simp
theorem ql9 (f:FuncId) (l:List Nat) (cap:Option Nat) (hl:l.length < 1000000000) (hf:∀ v ∈ l,qac Tryz.prog gl0 f [u8V v] (.bool false)):qac Tryz.prog gl0 94 [.sl (l.map u8V) cap,.fn f [] []] (.bool false):=by
 refine jiu 2 jfs rfl ?_;simp [i94,x94];refine jir (qw1 f l cap hl hf) (by simp [jgy,V.pure,qbt]) ?_;simp
theorem qpk (c:Ci) (hl:c.n.length < 1000000):qac Tryz.prog gl0 92 [c.v] (.sl (qah (ids 0 c.n 0)) (some (cnt 0 c.n))):=by
 have:=jh4 (qch.one (qz0 c hl) fun _ _ h=>qkv h) (qfw _ c.n 0).2;rw [qj7] at this;simpa [cnt] using this
theorem qik (c:Ci) (hl:c.n.length < 1000000):qac Tryz.prog gl0 93 [c.v] (.sl (qah (ids 14 c.n 0)) (some (cnt 14 c.n))):=by
 have:=jh4 (qch.one (q0x c hl) fun _ _ h=>qkv h) (qfw _ c.n 0).2;rw [qj7] at this;simpa [cnt] using this
theorem q33 (c:Ci) (hg:c.good):qch Tryz.prog gl0 91 [c.v,.sl [.int .u8 15] (some 1)] (qsi 1 (.sl [] (some 0))):=by
 have h1:=qch.dat1 (jfl c [15] (some 1) (by have:=hg.n1; omega) (by simp)) (qfw [15] c.n 0).2 (qfw [15] c.n 0).1
 have h2:ids 15 c.n 0 = []:=by
  rw [List.eq_nil_iff_forall_not_mem];intro x hx;obtain ⟨hx',hk⟩:=qs5 hx;exact hg.k _ (ji3 hx') hk
 rw [qj7,h2] at h1;simpa [qah] using h1
theorem q7f (c:Ci) (hg:c.good) (p:Pt) (hp:p.fit c):qac Tryz.prog gl0 51 [c.v,p.v] (.int .i64 0):=by
 have hn1:=hg.n1;have hm:=hg.m;have l0:=qki 0 c.n;have l1:=qki 14 c.n;have hpi:=hp.i;have hps:=hp.s;have ci:=qpk c (by omega);have cs:=qik c (by omega);have cm:=q33 c hg;have k1:=ql9 95 p.i none (by omega) fun v hv=>qvt v (hp.iv v hv);have k2:=ql9 95 p.s none (by omega) fun v hv=>qvt v (hp.sv v hv);obtain ⟨I,hI⟩:∃ I,ids 0 c.n 0 = I:=⟨_,rfl⟩;obtain ⟨S,hS⟩:∃ S,ids 14 c.n 0 = S:=⟨_,rfl⟩;have hIl:I.length = cnt 0 c.n:=by rw [<- hI]; rfl
 have hSl:S.length = cnt 14 c.n:=by rw [<- hS]; rfl
 rw [hI] at ci;rw [hS] at cs;refine jiu 2 ok51 rfl ?_;simp [i51,x51,hm];intro gf1 gf2;intro gf3;refine CallO.dat 1 cm (by simp) ?_;simp;intro gm;refine ⟨_,_,_,.pure ci (by simp),?_⟩;simp [hpi,hIl];refine ⟨_,_,_,.pure cs (by simp),?_⟩;simp [hps,hSl];refine ⟨rfl,?_⟩;refine jir k1 (by simp) ?_;simp;refine jir k2 (by simp) ?_;simp
end
section
open Go
def qjy (c:Ci) (l:V):V:=.agg [.sl (c.n.map Nd.v) none,.sl (c.s.map .str) none,.sl (c.m.map Md.v) none,.sl (qc1 c.o) none,l]
@[simp] theorem jac (c:Ci) (l:V):(qjy c l).cells = [.sl (c.n.map Nd.v) none,.sl (c.s.map .str) none,.sl (c.m.map Md.v) none,.sl (qc1 c.o) none,l]:=rfl
@[simp] theorem run_ok (c:Ci) (xs:List V) (cap:Option Nat):(qjy c (.sl xs cap)).cellsOk = true:=rfl
@[simp] theorem jge (c:Ci) (b g o l:Nat) (cap:Option Nat):(qjy c (.ref b g o l cap)).cellsOk = true:=rfl
theorem run_pure (c:Ci) (l:List Nat) (cap:Option Nat):(qjy c (.sl (l.map u8V) cap)).pure = true:=by
 have:=qnb c;simp only [Ci.v,V.pure,jgy,Bool.and_true,Bool.and_eq_true] at this;simp [qjy,this]
theorem qyt (c:Ci) (l:List Nat) (cap:Option Nat) (m:Nat) (h:m < l.length) (_hl:l.length < 1000000):qac Tryz.prog gl0 104 [qjy c (.sl (l.map u8V) cap),.int .i64 (m:Int)] (u8V (qg4 (l.getD m 0))):=by
 obtain ⟨x,hx⟩:∃ x,l[m] = x:=⟨_,rfl⟩;have hd:l.getD m 0 = x:=by rw [ji0,ji4 h,hx]; rfl
 rw [hd];have hc:=qv2 x;simp only [u8V] at hc;refine jiu 2 q8e rfl ?_;simp [jd0,x104,qjy,show ¬ l.length≤m by omega,h,hx,u8V];intro gf;refine jir hc rfl ?_;simp
theorem qso (l:List Nat) (cap:Option Nat) (_hl:l.length < 1000000):qac Tryz.prog gl0 105 [.sl (l.map u8V) cap] (.sl (l.map u8V) (some l.length)):=by
 refine jiu 2 q8f rfl ?_;simp [jd1,x105];rw [ji2 (by simp)];exact qak _ (qbt l)
theorem qdt:qac Tryz.prog gl0 105 [.nil] (.sl [] (some 0)):=qac.wide (qso [] none (by simp)) ⟨VLe.nil',trivial⟩ (.refl _)
theorem qp3 {c:Ci} (hg:c.good) {n:Nat} (hn:n ∈ ids 14 c.n 0):∃ h:n < c.n.length,∃ x:Int,c.n[n].i = [x]/\0≤x/\x < c.n.length/\c.n[n].k = 14:=by
 obtain ⟨h,hk⟩:=qs5 hn;have h1:=qn7 ((qlh hg.sh).2.2.1 _ (ji3 h));have hv:=hg.val.i n h;rw [c.nd_get h] at hv;have hw:=h1.2.1;rw [hk] at hw
 have hl:c.n[n].i.length = 1:=by
  have e1:kLo 14 = 1:=rfl;have e2:kHi 14 = 1:=rfl;simp only [qlq,e1,e2,Bool.and_eq_true,decide_eq_true_eq] at hw;omega
 match hq:c.n[n].i,hl with
 | [x],_=>
  rw [hq] at hv;have:=hv x (by simp);exact ⟨h,x,hq,this.1,this.2,hk⟩
theorem qft {α β:Type} {l:List α} {i:Nat} {y:α} (F:α->β) (h:i < l.length) (hy:l[i] = y):(l.take (i + 1)).map F = (l.take i).map F ++ [F y]:=by
 rw [List.take_succ_eq_append_getElem h,hy]; simp
set_option maxHeartbeats 4000000 in
theorem qxv (c:Ci) (hg:c.good) (l:List Nat) (cap:Option Nat) (hll:l.length = c.n.length):qac Tryz.prog gl0 55 [qjy c (.sl (l.map u8V) cap)] (qx7 (q1u c fun i=>l.getD i 0) (q1v c fun i=>l.getD i 0)):=by
 have hn1:=hg.n1;have hno:c.o.length≤16384:=(qqd hg.sh).2.2.2;have l1:=qki 14 c.n;have cs:=qik c (by omega);have hcl:=qso;obtain ⟨F,hF⟩:∃ F:Int->Nat,F = fun n=>qg4 (l.getD n.toNat 0):=⟨_,rfl⟩;obtain ⟨E,hE⟩:∃ E:Nat->Nat,E = jb4 c fun i=>l.getD i 0:=⟨_,rfl⟩;have hres:qx7 (q1u c fun i=>l.getD i 0) (q1v c fun i=>l.getD i 0) = qx7 (c.o.map F) ((ids 14 c.n 0).map E):=by rw [hF,hE]; rfl
 rw [hres];have hdff:=fun n (hn:n ∈ ids 14 c.n 0)=>qp3 hg hn;obtain ⟨S,hS⟩:∃ S,ids 14 c.n 0 = S:=⟨_,rfl⟩;have hSl:S.length = cnt 14 c.n:=by rw [<- hS]; rfl
 rw [hS] at cs hdff ⊢;rw [<- hSl] at cs l1;have hrp:=run_pure c l cap;refine jiu 2 ok55 rfl ?_;simp [i55,x55];intro gf1 gf2 gf3;generalize gf1 1 = g1;generalize gf2 2 = g2;generalize gf3 3 = g3
 refine jit (X:=Nat × Option (Nat × List V)) (fun z=>[(14,qab z.1),(13,qab c.o.length),(12,.sl (qc1 c.o) none),(3,.ptr 3 g3 0 0),(2,.ptr 2 g2 0 0),(1,.ptr 1 g1 0 0)])
  (fun z=>[(3,.row g3 2 [.agg [qbj 24 z.2,.nil]]),(2,.row g2 2 [.agg [.nil,.nil]]),(1,.row g1 5 [qjy c (.sl (l.map u8V) cap)])] ++ qbo 24 1 z.2)
  (fun z=>z.1≤c.o.length/\(z.2 = none↔z.1 = 0)/\qau z.2 = ((c.o.take z.1).map F).map u8V) (fun z=>c.o.length - z.1) (0,none) ⟨by simp,by simp,by simp [qau]⟩ (by simp [qab]) (by simp [qbj,qbo]) ?_
 rintro ⟨i,acc⟩ ⟨q1,q2,q3⟩;dsimp only at q1 q2 q3 ⊢;simp [qab];refine jis (fun hb=>?_) (fun hb=>?_)
 ·have hi:i < c.o.length:=jiy hb;have hw:=qbg i (by omega);obtain ⟨y,hy⟩:∃ y,c.o[i] = y:=⟨_,rfl⟩;obtain ⟨y0,y1⟩:=hg.o (x:=y) (by rw [<- hy]; exact ji3 hi);obtain ⟨m,rfl⟩:=Int.eq_ofNat_of_zero_le y0;have hv:=qyt c l cap m (by omega) (by omega);have hFm:qg4 (l.getD m 0) = F (m:Int):=by rw [hF]; rfl
  rw [hFm] at hv;have hnx:=congrArg (List.map u8V) (qft F hi hy);rw [List.map_append,<- q3] at hnx;simp only [List.map_cons,List.map_nil,u8V] at hnx hv
  cases acc with
  | none=>
   have hi0:i = 0:=q2.1 rfl;simp [qbj,qbo,hi,qb9,hy];intro gm;refine ⟨_,_,_,.pure hv (by simp),?_⟩;simp [hw];refine ⟨rfl,i + 1,some (gm 24,[.int .u8 (F (m:Int):Int)]),⟨hi,by simp,by simpa [qau,u8V] using hnx.symm⟩,by simp,by simp,by omega⟩
  | some gl=>
   obtain ⟨g,r⟩:=gl;simp only [qau] at q3 hnx;simp [qbj,qbo,hi,qb9,hy];intro gm;refine ⟨_,_,_,.pure hv (by simp),?_⟩;simp [hw];refine ⟨by have:=congrArg List.length q3; simp at this; omega,rfl,i + 1,some (g + 1,r ++ [.int .u8 (F (m:Int):Int)]),⟨hi,by simp,by simpa [qau,u8V] using hnx.symm⟩,by simp,by simp,by omega⟩
 have hi:i = c.o.length:=by have:=jiz hb; omega
 subst hi;rw [List.take_length] at q3;simp;refine jir cs (by simp) ?_;simp
 refine jh2 (X:=Nat × Option (Nat × List V)) (fun z=>[(31,qab z.1),(30,qab S.length),(29,.sl (qah S) (some S.length)),(3,.ptr 3 g3 0 0),(2,.ptr 2 g2 0 0),(1,.ptr 1 g1 0 0)])
  (fun z=>[(3,.row g3 2 [.agg [qbj 24 acc,qbj 55 z.2]]),(2,.row g2 2 [.agg [.nil,.nil]]),(1,.row g1 5 [qjy c (.sl (l.map u8V) cap)])] ++ (qbo 24 1 acc ++ qbo 55 1 z.2))
  (fun z=>z.1≤S.length/\(z.2 = none↔z.1 = 0)/\qau z.2 = ((S.take z.1).map E).map u8V) (fun z=>S.length - z.1) (.done ⟨(0,none),⟨by simp,by simp,by simp [qau]⟩,by simp [qab],?_⟩) ?_
 ·cases acc with
  | none=>simp [qbj,qbo]
  | some gl=>simp [qbj,qbo]
 rintro ⟨j,acc2⟩ ⟨p1,p2,p3⟩;dsimp only at p1 p2 p3 ⊢;simp [qab];refine jis (fun hb2=>?_) (fun hb2=>?_)
 ·have hj:j < S.length:=jiy hb2;have hw:=qbg j (by omega);obtain ⟨n,hn⟩:∃ n,S[j] = n:=⟨_,rfl⟩;obtain ⟨hnc,x,hxi,x0,x1,-⟩:=hdff n (by rw [<- hn]; exact ji3 hj);obtain ⟨m,rfl⟩:=Int.eq_ofNat_of_zero_le x0;have hv:=qyt c l cap m (by omega) (by omega);have hr:=qx3 (qg4 (l.getD m 0));have hEn:rdN (qg4 (l.getD m 0)) = E n:=by rw [hE]; simp only [jb4]; rw [c.nd_get hnc,hxi]; rfl
  rw [hEn] at hr;obtain ⟨q,hq⟩:∃ q,qg4 (l.getD m 0) = q:=⟨_,rfl⟩;rw [hq] at hv hr;obtain ⟨y,hy⟩:∃ y,c.n[n] = y:=⟨_,rfl⟩;rw [hy] at hxi;have hnx:=congrArg (List.map u8V) (qft E hj hn);rw [List.map_append,<- p3] at hnx;simp only [List.map_cons,List.map_nil,u8V] at hnx hv hr;have h1:qc1 [(m:Int)] = [.int .i64 (m:Int)]:=rfl;rcases acc with _ | gl <;> rcases acc2 with _ | gl2
  case' none.none=>
   simp [hj,qar,hn,hnc,hy,hxi,qbj,qbo,h1];intro gm
   first | refine ⟨_,_,_,.pure hv (by simp [hrp]),?_⟩ | refine ⟨_,⟨_,_,.pure hv (by simp [hrp])⟩,?_⟩ | refine ⟨_,_,⟨_,.pure hv (by simp)⟩,?_⟩
   simp
   first | refine ⟨_,_,_,.pure hr (by simp),?_⟩ | refine ⟨_,⟨_,_,.pure hr (by simp)⟩,?_⟩ | refine ⟨_,_,⟨_,.pure hr (by simp)⟩,?_⟩
   simp;intro ga gb;refine .done ⟨j + 1,some (gb 55,[.int .u8 (E n:Int)]),⟨hj,by simp,by simpa [qau,u8V] using hnx.symm⟩,by simp [hw],by simp,by omega⟩
  case' some.none=>
   simp [hj,qar,hn,hnc,hy,hxi,qbj,qbo,h1];intro gm
   first | refine ⟨_,_,_,.pure hv (by simp [hrp]),?_⟩ | refine ⟨_,⟨_,_,.pure hv (by simp [hrp])⟩,?_⟩ | refine ⟨_,_,⟨_,.pure hv (by simp)⟩,?_⟩
   simp
   first | refine ⟨_,_,_,.pure hr (by simp),?_⟩ | refine ⟨_,⟨_,_,.pure hr (by simp)⟩,?_⟩ | refine ⟨_,_,⟨_,.pure hr (by simp)⟩,?_⟩
   simp;intro ga gb;refine .done ⟨j + 1,some (gb 55,[.int .u8 (E n:Int)]),⟨hj,by simp,by simpa [qau,u8V] using hnx.symm⟩,by simp [hw],by simp,by omega⟩
  case' none.some=>
   simp [hj,qar,hn,hnc,hy,hxi,qbj,qbo,h1];intro gm
   first | refine ⟨_,_,_,.pure hv (by simp [hrp]),?_⟩ | refine ⟨_,⟨_,_,.pure hv (by simp [hrp])⟩,?_⟩ | refine ⟨_,_,⟨_,.pure hv (by simp)⟩,?_⟩
   simp
   first | refine ⟨_,_,_,.pure hr (by simp),?_⟩ | refine ⟨_,⟨_,_,.pure hr (by simp)⟩,?_⟩ | refine ⟨_,_,⟨_,.pure hr (by simp)⟩,?_⟩
   simp;intro ga gb;refine ⟨by have:=congrArg List.length p3; simp [qau] at this; omega,.done ⟨j + 1,some (gb 55,gl2.2 ++ [.int .u8 (E n:Int)]),⟨hj,by simp,by simpa [qau,u8V] using hnx.symm⟩,by simp [hw],by simp,by omega⟩⟩
  case' some.some=>
   simp [hj,qar,hn,hnc,hy,hxi,qbj,qbo,h1];intro gm
   first | refine ⟨_,_,_,.pure hv (by simp [hrp]),?_⟩ | refine ⟨_,⟨_,_,.pure hv (by simp [hrp])⟩,?_⟩ | refine ⟨_,_,⟨_,.pure hv (by simp)⟩,?_⟩
   simp
   first | refine ⟨_,_,_,.pure hr (by simp),?_⟩ | refine ⟨_,⟨_,_,.pure hr (by simp)⟩,?_⟩ | refine ⟨_,_,⟨_,.pure hr (by simp)⟩,?_⟩
   simp;intro ga gb;refine ⟨by have:=congrArg List.length p3; simp [qau] at this; omega,.done ⟨j + 1,some (gb 55,gl2.2 ++ [.int .u8 (E n:Int)]),⟨hj,by simp,by simpa [qau,u8V] using hnx.symm⟩,by simp [hw],by simp,by omega⟩⟩
 have hj:j = S.length:=by have:=jiz hb2; omega
 subst hj;rw [List.take_length] at p3;have hcO:=qso (c.o.map F) none (by simp; omega);have hcS:=qso (S.map E) none (by simp; omega);generalize c.o.map F = O at q3 hcO ⊢;generalize S.map E = T at p3 hcS ⊢;have htO:List.take O.length (O.map u8V) = O.map u8V:=ji2 (by simp);have htT:List.take T.length (T.map u8V) = T.map u8V:=ji2 (by simp);rcases acc with _ | ⟨ga,ra⟩ <;> rcases acc2 with _ | ⟨gb,rb⟩
 ·have hO:O = []:=by simpa [qau] using q3.symm
  have hT:T = []:=by simpa [qau] using p3.symm
  subst hO hT;simp [qbj,qbo];refine .mk [(3,.ptr 3 g3 0 0),(2,.ptr 2 g2 0 0)] [(3,.row g3 2 [.agg [.nil,.nil]]),(2,.row g2 2 [.agg [.nil,.nil]])] (by simp) (by simp) (.done ?_);simp;intro gm
  first | refine ⟨_,_,_,.pure qdt (by simp),?_⟩ | refine ⟨_,⟨_,_,.pure qdt (by simp)⟩,?_⟩ | refine ⟨_,_,⟨_,.pure qdt (by simp)⟩,?_⟩
  simp
  first | refine ⟨_,_,_,.pure qdt (by simp),?_⟩ | refine ⟨_,⟨_,_,.pure qdt (by simp)⟩,?_⟩ | refine ⟨_,_,⟨_,.pure qdt (by simp)⟩,?_⟩
  simp [qx7]
  try rfl
 ·simp only [qau] at q3 p3;have hO:O = []:=by simpa using q3.symm
  subst hO;subst p3;simp [qbj,qbo];refine .mk [(3,.ptr 3 g3 0 0),(2,.ptr 2 g2 0 0)] [(3,.row g3 2 [.agg [.nil,.ref 55 gb 0 T.length none]]),(2,.row g2 2 [.agg [.nil,.nil]]),(55,.row gb 1 (T.map u8V))] (by simp) (by simp) (.frz (g:=gb) (sz:=1) (es:=T.map u8V) 55 (by simp) (qbt T) (.done ?_));simp [fzF,fzH,fzV,fzf,fzp,Blk.fz,htT];intro gm
  first | refine ⟨_,_,_,.pure qdt (by simp),?_⟩ | refine ⟨_,⟨_,_,.pure qdt (by simp)⟩,?_⟩ | refine ⟨_,_,⟨_,.pure qdt (by simp)⟩,?_⟩
  simp
  first | refine ⟨_,_,_,.pure hcS (by simp),?_⟩ | refine ⟨_,⟨_,_,.pure hcS (by simp)⟩,?_⟩ | refine ⟨_,_,⟨_,.pure hcS (by simp)⟩,?_⟩
  simp [qx7,qak]
  try rfl
 ·simp only [qau] at q3 p3;subst q3;have hT:T = []:=by simpa using p3.symm
  subst hT;simp [qbj,qbo];refine .mk [(3,.ptr 3 g3 0 0),(2,.ptr 2 g2 0 0)] [(3,.row g3 2 [.agg [.ref 24 ga 0 O.length none,.nil]]),(2,.row g2 2 [.agg [.nil,.nil]]),(24,.row ga 1 (O.map u8V))] (by simp) (by simp) (.frz (g:=ga) (sz:=1) (es:=O.map u8V) 24 (by simp) (qbt O) (.done ?_));simp [fzF,fzH,fzV,fzf,fzp,Blk.fz,htO];intro gm
  first | refine ⟨_,_,_,.pure hcO (by simp),?_⟩ | refine ⟨_,⟨_,_,.pure hcO (by simp)⟩,?_⟩ | refine ⟨_,_,⟨_,.pure hcO (by simp)⟩,?_⟩
  simp
  first | refine ⟨_,_,_,.pure qdt (by simp),?_⟩ | refine ⟨_,⟨_,_,.pure qdt (by simp)⟩,?_⟩ | refine ⟨_,_,⟨_,.pure qdt (by simp)⟩,?_⟩
  simp [qx7,qak]
  try rfl
 ·simp only [qau] at q3 p3;subst q3;subst p3;simp [qbj,qbo];refine .mk [(3,.ptr 3 g3 0 0),(2,.ptr 2 g2 0 0)] [(3,.row g3 2 [.agg [.ref 24 ga 0 O.length none,.ref 55 gb 0 T.length none]]),(2,.row g2 2 [.agg [.nil,.nil]]),(24,.row ga 1 (O.map u8V)),(55,.row gb 1 (T.map u8V))] (by simp) (by simp) (.frz (g:=ga) (sz:=1) (es:=O.map u8V) 24 (by simp) (qbt O) (.frz (g:=gb) (sz:=1) (es:=T.map u8V) 55 (by simp [fzH,Blk.fz,qn2 (qbt T)]) (qbt T) (.done ?_)));simp [fzF,fzH,fzV,fzf,fzp,Blk.fz,htO,htT,qak];intro gm
  first | refine ⟨_,_,_,.pure hcO (by simp),?_⟩ | refine ⟨_,⟨_,_,.pure hcO (by simp)⟩,?_⟩ | refine ⟨_,_,⟨_,.pure hcO (by simp)⟩,?_⟩
  simp
  first | refine ⟨_,_,_,.pure hcS (by simp),?_⟩ | refine ⟨_,⟨_,_,.pure hcS (by simp)⟩,?_⟩ | refine ⟨_,_,⟨_,.pure hcS (by simp)⟩,?_⟩
  simp [qx7,qak]
  try rfl
end
section
open Go
theorem qok (N:Nat) (F:Nat->Nat) (n x:Nat):(tab N fun j=>u8V (F j)).set n (.int .u8 (x:Int)) = tab N fun j=>u8V (qfi F n x j):=by
 rw [qi4];refine qcg fun j _=>?_;by_cases h:j = n
 ·subst h; simp [u8V]
 ·rw [qa7 _ _ h,qa7 _ _ h]
theorem qb5 (N:Nat) (F:Nat->Nat):jgy (tab N fun j=>u8V (F j)) = true:=qcd fun _=>rfl
theorem q7v (c:Ci) (hg:c.good) (p:Pt) (hp:p.fit c) (b g:Nat) (h2:b ≠ 2) (h3:b ≠ 3):qa6 Tryz.prog gl0 52 [qjy c (.ref b g 0 c.n.length (some c.n.length)),p.v] [(b,.row g 1 (tab c.n.length fun _=>u8V 0))]
  (fun v h=>v = .tup []/\h = [(b,.row g 1 (tab c.n.length fun i=>u8V (ini c p i)))]):=by
 have hn1:=hg.n1;have l0:=qki 0 c.n;have l1:=qki 14 c.n;have ci:=qpk c (by omega);have cs:=qik c (by omega);have hI0:∀ x ∈ ids 0 c.n 0,x < c.n.length:=fun x hx=>(qs5 hx).1;have hS0:∀ x ∈ ids 14 c.n 0,x < c.n.length:=fun x hx=>(qs5 hx).1;have hIl:(ids 0 c.n 0).length = cnt 0 c.n:=rfl;have hSl:(ids 14 c.n 0).length = cnt 14 c.n:=rfl;have hpi:=hp.i;have hps:=hp.s;unfold ini;generalize ids 0 c.n 0 = I at ci hIl hI0 ⊢;generalize ids 14 c.n 0 = S at cs hSl hS0 ⊢;rw [<- hIl] at ci l0 hpi;rw [<- hSl] at cs l1 hps;obtain ⟨N,hN⟩:∃ N,c.n.length = N:=⟨_,rfl⟩;rw [hN] at hn1 hI0 hS0 l0 l1 ⊢;refine jix ok52 rfl ?_;simp [i52,x52];intro gf1 gf2;generalize gf1 2 = g2;generalize gf2 3 = g3;refine jir ci (by simp) ?_;simp
 refine jit (X:=Nat) (fun i=>[(12,qab i),(11,qab I.length),(10,.sl (qah I) (some I.length)),(3,.ptr 3 g3 0 0),(2,.ptr 2 g2 0 0)])
  (fun i=>[(3,.row g3 2 [p.v]),(2,.row g2 5 [qjy c (.ref b g 0 N (some N))]),(b,.row g 1 (tab N fun j=>u8V (put (I.take i) (p.i.take i) (fun _=>0) j)))])
  (fun i=>i≤I.length) (fun i=>I.length - i) 0 (Nat.zero_le _) (by simp [qab]) (by simp [put,h2,h3]) ?_
 intro i hi;simp [qab];refine jis (fun hb=>?_) (fun hb=>?_)
 ·have hi':i < I.length:=jiy hb;have hip:i < p.i.length:=by omega
  have hw:=qbg i (by omega);obtain ⟨n,hn⟩:∃ n,I[i] = n:=⟨_,rfl⟩;have hnN:n < N:=hI0 n (by rw [<- hn]; exact ji3 hi');obtain ⟨x,hx⟩:∃ x,p.i[i] = x:=⟨_,rfl⟩;have hpt:=qts (f:=fun _=>0) i hpi.symm hi';rw [hn,hx] at hpt;have hst:=qok N (put (I.take i) (p.i.take i) fun _=>0) n x;rw [<- hpt] at hst;simp only [u8V] at hst;simp [hi',hip,qar,hn,hx,u8V,hnN,h2,h3,hw,qa1];exact ⟨i + 1,hi',by simp,⟨Ne.symm h3,Ne.symm h2,hst⟩,by omega⟩
 have hi':i = I.length:=by have:=jiz hb; omega
 subst hi';rw [List.take_length,ji2 (l:=p.i) (by omega)];generalize put I p.i (fun _=>0) = F;simp;refine jir cs (by simp) ?_;simp
 refine jit (X:=Nat) (fun i=>[(31,qab i),(30,qab S.length),(29,.sl (qah S) (some S.length)),(3,.ptr 3 g3 0 0),(2,.ptr 2 g2 0 0)])
  (fun i=>[(3,.row g3 2 [p.v]),(2,.row g2 5 [qjy c (.ref b g 0 N (some N))]),(b,.row g 1 (tab N fun j=>u8V (put (S.take i) (p.s.take i) F j)))])
  (fun i=>i≤S.length) (fun i=>S.length - i) 0 (Nat.zero_le _) (by simp [qab]) (by simp [put,h2,h3]) ?_
 intro i hi;simp [qab];refine jis (fun hb=>?_) (fun hb=>?_)
 ·have hi':i < S.length:=jiy hb;have hip:i < p.s.length:=by omega
  have hw:=qbg i (by omega);obtain ⟨n,hn⟩:∃ n,S[i] = n:=⟨_,rfl⟩;have hnN:n < N:=hS0 n (by rw [<- hn]; exact ji3 hi');obtain ⟨x,hx⟩:∃ x,p.s[i] = x:=⟨_,rfl⟩;have hpt:=qts (f:=F) i hps.symm hi';rw [hn,hx] at hpt;have hst:=qok N (put (S.take i) (p.s.take i) F) n x;rw [<- hpt] at hst;simp only [u8V] at hst;simp [hi',hip,qar,hn,hx,u8V,hnN,h2,h3,hw,qa1];exact ⟨i + 1,hi',by simp,⟨Ne.symm h3,Ne.symm h2,hst⟩,by omega⟩
 ·have hi':i = S.length:=by have:=jiz hb; omega
  subst hi';rw [List.take_length,ji2 (l:=p.s) (by omega)];simp;refine .done ?_;simp [h2,h3]
theorem qxu {c:Ci} (hg:c.good) {f f':Nat->Nat} (h:∀ i,i < c.n.length->f i = f' i):q1u c f = q1u c f'/\q1v c f = q1v c f':=by
 refine ⟨List.map_congr_left fun x hx=>?_,List.map_congr_left fun n hn=>?_⟩
 ·obtain ⟨h0,h1⟩:=hg.o hx;rw [h _ (by omega)]
 ·obtain ⟨hnc,x,hxi,x0,x1,-⟩:=qp3 hg hn;simp only [jb4];rw [c.nd_get hnc,hxi];simp only [];rw [h _ (by omega)]
theorem qus (c:Ci) (hg:c.good) (f:Nat->Nat) (cap:Option Nat):qac Tryz.prog gl0 55 [qjy c (.sl (tab c.n.length fun j=>u8V (f j)) cap)] (qx7 (q1u c f) (q1v c f)):=by
 have h:=qxv c hg (tab c.n.length f) cap (by simp)
 obtain ⟨e1,e2⟩:=qxu hg (f:=fun i=>(tab c.n.length f).getD i 0) (f':=f) fun i hi=>by
  rw [ji0,qg2 _ hi]; rfl
 rw [e1,e2,qol] at h;exact h
set_option maxRecDepth 100000 in
theorem jab (c:Ci) (hg:c.good) (p:Pt) (hp:p.fit c):qac Tryz.prog gl0 20 [c.v,p.v] (.tup [qx7 (q1u c (qel c p)) (q1v c (qel c p)),.sl (tab c.n.length fun i=>u8V (qel c p i)) (some c.n.length),.int .i64 0]):=by
 have hn1:=hg.n1;have hft:=q7f c hg p hp;have hob:=qus c hg (qel c p) (some c.n.length);unfold qjy at hob;have hld:=fun b g=>q7v c hg p hp b g;refine jiu 2 ok20 rfl ?_;simp [i20,x20];intro gf1 gf2 gf3;generalize gf1 2 = g2;generalize gf2 3 = g3;generalize gf3 4 = g4;refine CallO.own 1000 (qrx c hg.wf) (by simp) (by simp) ?_;rintro v h (⟨h1,-⟩ | ⟨-,g,L,rfl,rfl,hR,hpw⟩) gf4
 ·exact absurd hg.chk h1
 have hord:Ord c L:=⟨hR,hpw (by omega)⟩;have hLl:L.length = c.n.length:=hR.len;simp [upH,upS,Blk.rn,qap (qav L)];generalize gf4 1000 + g = g9;refine jir hft (by simp) ?_;simp;intro gm;refine ⟨by omega,rfl,?_⟩;generalize gm 9 = gr;generalize gm 34 = gn
 refine CallO.lend [34] [(34,.row gn 1 (tab c.n.length fun _=>u8V 0))] [(9,.row gr 5 [qjy c (.ref 34 gn 0 c.n.length (some c.n.length))]),(1000,.row g9 1 (qah L)),(4,.row g4 2 [.agg [.nil,.nil]]),(2,.row g2 4 [c.v])]
  (hld 34 gn (by simp) (by simp)) (by simp [jgz]) (by simp [qeh,u8V]) (by simp [jgz,qb5 c.n.length fun _=>0]) (by simp [qjy]) (by simp) ?_
 rintro v h ⟨rfl,rfl⟩;refine ⟨rfl,by simp [jgz,qb5],?_⟩;simp;intro gf5;generalize gf5 39 = g39;have hval:=hg.val;obtain ⟨N,hN⟩:∃ N,c.n.length = N:=⟨_,rfl⟩;rw [hN] at hLl hn1 ⊢;have hLN:∀ x ∈ L,x < N:=fun x hx=>by rw [<- hN]; exact hR.lt x hx
 refine jh2 (X:=Nat × Nat × Nat × List V × Option Nat) (fun z=>[(42,qab z.1),(41,qab N),(40,.ref 1000 g9 0 N (some N)),(10,.ref 2000 z.2.1 0 z.2.2.1 z.2.2.2.2),(9,.ptr 9 gr 0 0),(4,.ptr 4 g4 0 0)])
  (fun z=>[(9,.row gr 5 [qjy c (.ref 34 gn 0 N (some N))]),(1000,.row g9 1 (qah L)),(34,.row gn 1 (tab N fun j=>u8V (evl (q1s c) (qdf c) (L.take z.1) (ini c p) j))),(4,.row g4 2 [.agg [.nil,.nil]]),(2000,.row z.2.1 1 z.2.2.2.1)])
  (fun z=>z.1≤N/\z.2.2.1≤z.2.2.2.1.length) (fun z=>N - z.1) ?_ ?_
 ·refine .move 39 2000 _ (by simp) (by simp; rfl) fun g'=>.done ⟨(0,g',0,[],some 16),⟨by simp,by simp⟩,by simp [qab],?_⟩;simp [evl,qjy,qap (qav L),qap (qb5 N (ini c p)),qbd _ (qfv _),qbd _ (qic _),qbd _ (qc2 _),qbd _ (qqn _)]
  try rfl
 rintro ⟨i,gt,k,es,cap⟩ ⟨q1,q2⟩;dsimp only at q1 q2 ⊢;obtain ⟨F,hF⟩:∃ F,evl (q1s c) (qdf c) (L.take i) (ini c p) = F:=⟨_,rfl⟩;rw [hF];simp [qab];refine jis (fun hb=>?_) (fun hb=>?_)
 ·have hi:i < N:=jiy hb;have hw:=qbg i (by omega);have hiL:i < L.length:=by omega
  obtain ⟨n,hn⟩:∃ n,L[i] = n:=⟨_,rfl⟩;have hnN:n < N:=hLN n (by rw [<- hn]; exact ji3 hiL);have hnc:n < c.n.length:=by omega
  obtain ⟨y,hy⟩:∃ y,c.n[n] = y:=⟨_,rfl⟩
  have hst:evl (q1s c) (qdf c) (L.take (i + 1)) (ini c p) = if qdf c n = true then qfi F n (q1s c n F) else F:=by
   rw [List.take_succ_eq_append_getElem hiL,hn,qnk,hF]
  have hcb:qdf c n = decide (1≤y.k/\y.k≤13):=by unfold qdf qjs; rw [c.nd_get hnc,hy]
  have hyi:=hval.i n hnc;have hyl:=hval.l n hnc;rw [c.nd_get hnc,hy] at hyi hyl;have hcc:=q1e y.k;rw [<- hcb] at hcc;have hyk:=hg.wf.k y (by rw [<- hy]; exact ji3 hnc);simp [hi,hLl,qar,hn,hnc,hy];intro gf6;generalize gf6 13 = g13;refine jir hcc (by simp) ?_
  cases hq:qdf c n with
  | false=>
   rw [hq,if_neg (by simp)] at hst;simp [hw];refine .done ⟨i + 1,gt,k,es,⟨hi,q2⟩,by simp,?_,by omega⟩;simp [hst]
  | true=>
   rw [hq,if_pos rfl] at hst;obtain ⟨l,hl⟩:∃ l,c.g n = l:=⟨_,rfl⟩
   have hyl2:y.i = l.map fun (x:Nat)=>(x:Int):=by
    rw [<- hl];unfold Ci.g;have hq2:qjs (c.nd n).k = true:=hq;rw [if_pos hq2,c.nd_get hnc,hy,List.map_map];have hid:∀ x ∈ y.i,((fun (x:Nat)=>(x:Int)) ∘ Int.toNat) x = id x:=fun x hx=>Int.toNat_of_nonneg (hyi x hx).1;rw [List.map_congr_left hid,List.map_id]
   have hlN:∀ x ∈ l,x < N:=fun x hx=>by
    have:=(hyi (x:Int) (by rw [hyl2]; exact List.mem_map_of_mem hx)).2;omega
   have hll:l.length≤16:=by rw [hyl2] at hyl; simpa using hyl
   have hev:q1s c n F = q3s y.k.toNat (l.map F):=by unfold q1s; rw [c.nd_get hnc,hy,hl]
   have hin:qc1 y.i = qah l:=by rw [hyl2,<- qd3]
   have hyv:y.v = .agg [.int .u8 y.k,.sl (qah l) none,.int .i64 y.a,.int .i64 y.b]:=by unfold Nd.v; rw [hin]
   simp [hin];have hll2:y.i.length = l.length:=by rw [hyl2]; simp
   try rw [hll2]
   refine jhc (X:=Nat × Nat × List V × Option Nat) (fun z=>[(61,qab z.1),(60,qab l.length),(59,.sl (qah l) none),(10,.ref 2000 z.2.1 0 z.1 z.2.2.2),(13,.ptr 13 g13 0 0),(12,qab n),(42,qab i),(41,qab N),(40,.ref 1000 g9 0 N (some N)),(9,.ptr 9 gr 0 0),(4,.ptr 4 g4 0 0)])
    (fun z=>[(13,.row g13 4 [y.v]),(9,.row gr 5 [qjy c (.ref 34 gn 0 N (some N))]),(1000,.row g9 1 (qah L)),(34,.row gn 1 (tab N fun j=>u8V (F j))),(4,.row g4 2 [.agg [.nil,.nil]]),(2000,.row z.2.1 1 z.2.2.1)])
    (fun z=>z.1≤l.length/\z.1≤z.2.2.1.length/\z.2.2.1.take z.1 = ((l.take z.1).map F).map u8V) (fun z=>l.length - z.1) (.done ⟨(0,gt,es,cap),⟨by simp,by simp,by simp⟩,by simp [qab],by simp⟩) ?_
   rintro ⟨j,gt2,es2,cap2⟩ ⟨p1,p2,p3⟩;dsimp only at p1 p2 p3 ⊢;simp [qab];refine jis (fun hb2=>?_) (fun hb2=>?_)
   ·have hj:j < l.length:=jiy hb2;have hw2:=qbg j (by omega);obtain ⟨x,hx⟩:∃ x,l[j] = x:=⟨_,rfl⟩;have hxN:=hlN x (by rw [<- hx]; exact ji3 hj);have hnx:=congrArg (List.map u8V) (qft F hj hx);rw [List.map_append,<- p3] at hnx;simp only [List.map_cons,List.map_nil,u8V] at hnx;simp [hj,qar,hx,hxN,qa1,u8V,hw2];intro ga gb;refine ⟨⟨p2,by omega⟩,.done ⟨j + 1,gb 2000,List.take j es2 ++ [.int .u8 (F x:Int)],⟨hj,by simp; omega,?_⟩,by simp,by simp,by omega⟩⟩;rw [ji2 (by simp; omega)];simpa [u8V] using hnx.symm
   ·have hj:j = l.length:=by have:=jiz hb2; omega
    subst hj;rw [List.take_length] at p3;have hku:u8V y.k.toNat = .int .u8 y.k:=by simp [u8V,Int.toNat_of_nonneg hyk.1]
    have hlog:=q7w y.k.toNat (by omega) (l.map F) cap2 (by simp; omega);rw [<- hev,hku] at hlog;obtain ⟨E,hE⟩:∃ E,q1s c n F = E:=⟨_,rfl⟩;rw [hE] at hlog hst;have hset:=qok N F n E;rw [<- hst] at hset;simp only [u8V] at hlog hset;simp;intro gm2
    first | refine ⟨_,_,_,.borrow 2 hlog ?_ rfl,?_⟩ | refine ⟨_,⟨_,_,.borrow 2 hlog ?_ rfl⟩,?_⟩ | refine ⟨_,_,⟨_,.borrow 2 hlog ?_ rfl⟩,?_⟩
    ·simp only [List.map_cons,List.map_nil];rw [qcq (es:=es2) (sz:=1) (by simp) (by omega),List.drop_zero,p3,qex _ _ (qbt _),qj4 _ _ rfl]
    simp [hnN,qa1,u8V,hw,hset];exact ⟨rfl,.done ⟨i + 1,gt2,l.length,es2,⟨hi,p2⟩,by simp,by simp,by omega⟩⟩
 ·have hi:i = N:=by have:=jiz hb; omega
  subst hi;rw [ji2 (by omega),<- hord.eq] at hF;have hF2:qel c p = F:=hF;rw [hF2,hN] at hob;have hpu:=run_pure c (tab i F) (some i);rw [qol] at hpu;have htk:List.take i (tab i fun j=>u8V (F j)) = tab i fun j=>u8V (F j):=ji2 (by simp);have hmp:=qak (f:=fzf 34 gn (tab i fun j=>u8V (F j))) (p:=fzp 34 gn (tab i fun j=>u8V (F j)));rw [hF2];simp
  refine .mk [(9,.ptr 9 gr 0 0),(4,.ptr 4 g4 0 0)] [(9,.row gr 5 [qjy c (.ref 34 gn 0 i (some i))]),(34,.row gn 1 (tab i fun j=>u8V (F j))),(4,.row g4 2 [.agg [.nil,.nil]])] (by simp) (by simp)
   (.frz (g:=gn) (sz:=1) (es:=tab i fun j=>u8V (F j)) 34 (by simp) (qb5 _ _) (.done ?_))
  simp [fzF,fzH,fzV,fzf,fzp,Blk.fz,qjy,qak,htk];intro gm2
  first | refine ⟨_,_,_,.pure hob (by simpa [qjy] using hpu),?_⟩ | refine ⟨_,⟨_,_,.pure hob (by simpa [qjy] using hpu)⟩,?_⟩ | refine ⟨_,_,⟨_,.pure hob (by simpa [qjy] using hpu)⟩,?_⟩
  simp [qx7,qak,qb5];rfl
end
end Go.Proofs.YtlmniacemoohpaaGreatDoor
