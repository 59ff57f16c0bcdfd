/- Lemmas. Conditions: none. -/
import Derived.Test.YtpaopccohkldlaaGreatDoorI1
import Derived.Test.YtpaopccohkldlaaGreatDoorS4
import Derived.Test.YtpaopccohkldlaaGreatDoorXP
set_option linter.all false
namespace Go.Proofs.YtpaopccohkldlaaGreatDoor
section
open Go
abbrev nev:Nat:=1073741824
def pls (a b:Nat):Nat:=min (a + b) nev
def bst:List (Nat × Nat)->(List Nat->Bool)->Nat
 | [],p=>if p [] = true then 0 else nev
 | t :: ts,p=>min (min (pls t.1 (bst ts fun a=>p (0 :: a))) (pls t.2 (bst ts fun a=>p (1 :: a)))) (bst ts fun a=>p (2 :: a))
def bsk (kp:Int):Nat->List (Nat × Nat)->(List Nat->Bool)->Nat
 | _,[],p=>if p [] = true then 0 else nev
 | i,t :: ts,p=>if (i:Int) = kp then bsk kp (i + 1) ts fun a=>p (2 :: a) else
   min (min (pls t.1 (bsk kp (i + 1) ts fun a=>p (0 :: a))) (pls t.2 (bsk kp (i + 1) ts fun a=>p (1 :: a)))) (bsk kp (i + 1) ts fun a=>p (2 :: a))
theorem qk4 (a b:Nat):pls a b≤nev:=by unfold pls; omega
theorem qj4:∀ (ts:List (Nat × Nat)) (p:List Nat->Bool),bst ts p≤nev
 | [],p=>by unfold bst; split <;> omega
 | t :: ts,p=>by
  have:=qj4 ts fun a=>p (2 :: a);unfold bst; omega
theorem qxh (kp:Int):∀ (ts:List (Nat × Nat)) (i:Nat) (p:List Nat->Bool),bsk kp i ts p≤nev
 | [],_,p=>by unfold bsk; split <;> omega
 | t :: ts,i,p=>by
  have:=qxh kp ts (i + 1) fun a=>p (2 :: a);unfold bsk; split <;> omega
theorem qg6 {kp:Int}:∀ (ts:List (Nat × Nat)) (i:Nat) (p:List Nat->Bool),kp < i->bsk kp i ts p = bst ts p
 | [],_,p,_=>rfl
 | t :: ts,i,p,h=>by
  unfold bsk bst;rw [if_neg (by omega),qg6 ts _ _ (by omega),qg6 ts _ _ (by omega),qg6 ts _ _ (by omega)]
theorem qpd:∀ ts:List (Nat × Nat),(bst ts fun _=>false) = nev
 | []=>rfl
 | t :: ts=>by unfold bst; rw [qpd ts]; unfold pls; omega
def tv (b:Bool) (t:Nat × Nat):Nat:=bif b then t.2 else t.1
def mnV (b:Bool):List (Nat × Nat)->Nat
 | []=>nev
 | t :: ts=>min (tv b t) (mnV b ts)
def smV (b:Bool):List (Nat × Nat)->Nat
 | []=>0
 | t :: ts=>pls (tv b t) (smV b ts)
theorem qk0 (b:Bool):∀ ts,mnV b ts≤nev
 | []=>jpm _
 | t :: ts=>by have:=qk0 b ts; unfold mnV; omega
theorem qul (b:Bool):∀ ts,smV b ts≤nev
 | []=>by unfold smV; omega
 | t :: ts=>qk4 _ _
def evO (e o:Nat):List (Nat × Nat)->Nat × Nat
 | []=>(e,o)
 | t :: ts=>evO (min (pls e t.1) (pls o t.2)) (min (pls e t.2) (pls o t.1)) ts
theorem quz (s:Nat) (ts:List (Nat × Nat)) (t:Nat × Nat) (r:Nat) (hr:r≤1):(bst (t :: ts) fun a=>decide (qer s a = r)) = min (pls t.1 (bst ts fun a=>decide (qer s a = r))) (pls t.2 (bst ts fun a=>decide (qer (1 - s) a = r))):=by
 have h0:∀ a,qer s (0 :: a) = qer s a:=fun a=>by simp [qer]
 have h1:∀ a,qer s (1 :: a) = qer (1 - s) a:=fun a=>by simp [qer]
 have h2:∀ a,qer s (2 :: a) = 2:=fun a=>by simp [qer]
 simp only [bst,h0,h1,h2];have:(fun a:List Nat=>decide ((2:Nat) = r)) = fun _=>false:=by funext a; simp; omega
 rw [this,qpd];unfold pls; omega
theorem qhq (a b c:Nat):pls (pls a b) c = pls a (pls b c):=by unfold pls; omega
theorem qhr (a b:Nat):pls a b = pls b a:=by unfold pls; omega
theorem q8w (a b c:Nat):pls (min a b) c = min (pls a c) (pls b c):=by unfold pls; omega
theorem quc (a b c:Nat):pls c (min a b) = min (pls c a) (pls c b):=by unfold pls; omega
theorem qqm {a:Nat} (h:a≤nev):pls 0 a = a:=by unfold pls; omega
theorem q3w (a:Nat):pls nev a = nev:=by unfold pls; omega
theorem min4 (p q r s:Nat):min (min p q) (min r s) = min (min p r) (min s q):=by omega
theorem qu0:∀ (ts:List (Nat × Nat)) (e o:Nat),e≤nev->o≤nev->
  evO e o ts = (min (pls e (bst ts fun a=>decide (qer 0 a = 0))) (pls o (bst ts fun a=>decide (qer 1 a = 0))),min (pls e (bst ts fun a=>decide (qer 0 a = 1))) (pls o (bst ts fun a=>decide (qer 1 a = 1))))
 | [],e,o,h1,h2=>by
  have a1:pls e 0 = e:=by rw [qhr]; exact qqm h1
  have a2:pls o 0 = o:=by rw [qhr]; exact qqm h2
  have a3:pls e nev = nev:=by rw [qhr]; exact q3w e
  have a4:pls o nev = nev:=by rw [qhr]; exact q3w o
  have b1:(bst [] fun a=>decide (qer 0 a = 0)) = 0:=rfl;have b2:(bst [] fun a=>decide (qer 1 a = 0)) = nev:=rfl;have b3:(bst [] fun a=>decide (qer 0 a = 1)) = nev:=rfl;have b4:(bst [] fun a=>decide (qer 1 a = 1)) = 0:=rfl;rw [b1,b2,b3,b4,a1,a2,a3,a4,evO,Nat.min_eq_left h1,Nat.min_eq_right h2]
 | t :: ts,e,o,h1,h2=>by
  rw [evO,qu0 ts _ _ (by have:=qk4 e t.1; omega) (by have:=qk4 e t.2; omega),quz _ _ _ _ (by omega),quz _ _ _ _ (by omega),quz _ _ _ _ (by omega),quz _ _ _ _ (by omega)];have e1:1 - 0 = 1:=rfl;have e2:1 - 1 = 0:=rfl;rw [e1,e2];simp only [q8w,quc,qhq];refine Prod.ext ?_ ?_
  ·exact min4 _ _ _ _
  ·exact min4 _ _ _ _
theorem jnc (ts:List (Nat × Nat)):evO 0 nev ts = (bst ts fun a=>decide (qer 0 a = 0),bst ts fun a=>decide (qer 0 a = 1)):=by
 rw [qu0 ts 0 nev (by omega) (by omega)];have h1:=qj4 ts fun a=>decide (qer 0 a = 0);have h2:=qj4 ts fun a=>decide (qer 0 a = 1);rw [qqm h1,qqm h2,q3w,q3w,Nat.min_eq_left h1,Nat.min_eq_left h2]
def tb (t:Nat × Nat) (v:Nat):Nat:=if v = 0 then t.1 else if v = 1 then t.2 else 0
def vis {σ:Type} (kp:Int) (up:List Nat->Nat->σ->σ):Nat->List (Nat × Nat)->List Nat->Nat->σ->σ
 | _,[],pre,cost,st=>up pre cost st
 | i,t :: ts,pre,cost,st=>if (i:Int) = kp then vis kp up (i + 1) ts (pre ++ [2]) cost st else
   let s1:=if pls cost t.1 < nev then vis kp up (i + 1) ts (pre ++ [0]) (pls cost t.1) st else st
   let s2:=if pls cost t.2 < nev then vis kp up (i + 1) ts (pre ++ [1]) (pls cost t.2) s1 else s1
   if pls cost 0 < nev then vis kp up (i + 1) ts (pre ++ [2]) (pls cost 0) s2 else s2
def upB (p q:List Nat->Bool) (a:List Nat) (cost:Nat) (s:Nat × Nat):Nat × Nat:=(if p a = true then min s.1 cost else s.1,if q a = true then min s.2 cost else s.2)
theorem q06 (kp:Int) (p q:List Nat->Bool):∀ (ts:List (Nat × Nat)) (i:Nat) (pre:List Nat) (cost:Nat) (s:Nat × Nat),cost < nev->s.1≤nev->s.2≤nev->
  vis kp (upB p q) i ts pre cost s = (min s.1 (pls cost (bsk kp i ts fun a=>p (pre ++ a))),min s.2 (pls cost (bsk kp i ts fun a=>q (pre ++ a))))
 | [],i,pre,cost,s,hc,h1,h2=>by
  have e1:pls cost 0 = cost:=by unfold pls; omega
  have e2:pls cost nev = nev:=by unfold pls; omega
  simp only [vis,upB,bsk,List.append_nil];refine Prod.ext ?_ ?_
  ·by_cases hp:p pre = true
   ·simp only [hp,if_true,e1]
   ·simp only [hp,e2]; simp; omega
  ·by_cases hp:q pre = true
   ·simp only [hp,if_true,e1]
   ·simp only [hp,e2]; simp; omega
 | t :: ts,i,pre,cost,s,hc,h1,h2=>by
  have ih:=q06 kp p q ts (i + 1);simp only [vis,bsk];by_cases hk:(i:Int) = kp
  ·rw [if_pos hk,if_pos hk,if_pos hk,ih _ _ _ hc h1 h2];simp only [List.append_assoc,List.singleton_append]
  ·rw [if_neg hk,if_neg hk,if_neg hk]
   have key:∀ (x v:Nat) (s:Nat × Nat),s.1≤nev->s.2≤nev->(if pls cost x < nev then vis kp (upB p q) (i + 1) ts (pre ++ [v]) (pls cost x) s else s) =
     (min s.1 (pls cost (pls x (bsk kp (i + 1) ts fun a=>p (pre ++ v :: a)))),min s.2 (pls cost (pls x (bsk kp (i + 1) ts fun a=>q (pre ++ v :: a))))):=by
    intro x v s k1 k2;split
    ·rename_i hx;rw [ih _ _ _ hx k1 k2,qhq,qhq];simp only [List.append_assoc,List.singleton_append]
    ·rename_i hx;have e:∀ y,pls cost (pls x y) = nev:=fun y=>by unfold pls at hx ⊢; omega
     rw [e,e];refine Prod.ext ?_ ?_ <;> simp only [] <;> omega
   have e0:pls cost 0 = cost:=by unfold pls; omega
   have hb1:=qxh kp ts (i + 1) fun a=>p (pre ++ 2 :: a);have hb2:=qxh kp ts (i + 1) fun a=>q (pre ++ 2 :: a);rw [key t.1 0 s h1 h2];rw [key t.2 1 _ (by simp only []; omega) (by simp only []; omega)];rw [key 0 2 _ (by simp only []; omega) (by simp only []; omega),qqm hb1,qqm hb2];refine Prod.ext ?_ ?_ <;> simp only [quc] <;> omega
end
section
open Go
def cV (p:Int × Int):V:=.agg [.int .i64 p.1,.int .i64 p.2]
def nC (p:Nat × Nat):V:=.agg [qaa p.1,qaa p.2]
def tbV (t:Nat × Nat):V:=.agg [qaa t.1,qaa t.2,qaa 0]
def q1h (z:Int):Nat:=(min (max z 0) 1073741824).toNat
def qq9 (p:Int × Int):Nat × Nat:=(q1h p.1,q1h p.2)
theorem qxk (z:Int):q1h z≤nev:=by unfold q1h nev; omega
theorem jlt (a b:Nat):min ((a:Int) + b) 1073741824 = ((pls a b:Nat):Int):=by unfold pls nev; omega
theorem jbq (z:Int):min (max z 0) 1073741824 = ((q1h z:Nat):Int):=by unfold q1h; omega
theorem q8k (p:Int × Int):qab Tryz.prog gl0 232 [cV p] (tbV (qq9 p)):=by
 refine jpb 3 jk6 rfl ?_;simp [i232,x232,cV,tbV,qq9,qaa,jbq]
theorem qdq (a b:Nat) (ha:a < 1000000000000) (hb:b < 1000000000000):qab Tryz.prog gl0 219 [qaa a,qaa b] (qaa (pls a b)):=by
 refine jpb 3 jk0 rfl ?_;have hw:IntKind.i64.wrap ((a:Int) + b) = (a:Int) + b:=by rw [qas] <;> omega
 simp [i219,x219,qaa,hw,jlt]
theorem qtf (l:List (Int × Int)):jne (l.map cV) = true:=pureL_map (fun _=>rfl) l
theorem qdl (l:List (Nat × Nat)):jne (l.map tbV) = true:=pureL_map (fun _=>rfl) l
def qwd (l:List (Int × Int)) (i:Nat):List V:=tab l.length fun j=>if j < i then tbV (qq9 (l.getD j (0,0))) else .agg [.int .i64 0,.int .i64 0,.int .i64 0]
@[simp] theorem jg7 (l:List (Int × Int)) (i:Nat):(qwd l i).length = l.length:=by simp [qwd]
theorem q4s (l:List (Int × Int)) (i:Nat) (hi:i < l.length):(qwd l i).set i (tbV (qq9 l[i])) = qwd l (i + 1):=by
 unfold qwd;rw [qff];congr 1;funext j;by_cases h:j = i
 ·subst h;rw [qa4,if_pos (by omega),jph,jpl hi]; rfl
 ·rw [qav _ _ h];by_cases h2:j < i
  ·rw [if_pos h2,if_pos (by omega)]
  ·rw [if_neg h2,if_neg (by omega)]
theorem q4q (l:List (Int × Int)):qwd l l.length = (l.map qq9).map tbV:=by
 unfold qwd;refine List.ext_getElem (by simp) fun j h1 h2=>?_;have hj:j < l.length:=by simpa using h1
 rw [qbr,if_pos hj];simp [jph,hj]
theorem q4r (l:List (Int × Int)):List.replicate l.length (V.agg [.int .i64 0,.int .i64 0,.int .i64 0]) = qwd l 0:=by
 refine List.ext_getElem (by simp) fun j h1 h2=>?_;simp only [qwd];rw [qbr,List.getElem_replicate];simp
theorem q9u (l:List (Int × Int)) (i:Nat) (h:i < (qwd l i).length):(qwd l i)[i] = .agg [.int .i64 0,.int .i64 0,.int .i64 0]:=by simp only [qwd]; rw [qbr,if_neg (Nat.lt_irrefl i)]
theorem q9s {L:List V} (hp:jne L = true) {n:Nat} (hn:n = L.length) (f:Nat->Nat->Nat->Nat->Option Nat->V) (p:Nat->Nat->Nat->Nat->V):List.take n (List.map (fun x=>V.mapR f p x) L) = L:=by
 subst hn
 have:List.map (fun x=>V.mapR f p x) L = L:=by
  conv=>rhs; rw [<- List.map_id L]
  exact List.map_congr_left fun x hx=>qa5 _ ((jnj L).1 hp x hx)
 rw [this,List.take_length]
theorem q4o (l:List (Int × Int)) (cap:Option Nat) (hl:l.length < 1000000):qab Tryz.prog gl0 216 [.sl (l.map cV) cap] (.sl ((l.map qq9).map tbV) (some l.length)):=by
 have h1:=q4q l;have h2:((l.map qq9).map tbV).length = l.length:=by simp
 have h3:=qdl (l.map qq9);generalize (l.map qq9).map tbV = L at h1 h2 h3 ⊢;refine jpb 3 jkx rfl ?_;simp [i216,x216];intro gf;generalize gf 8 = g8;refine ⟨by omega,?_⟩
 refine jpa (X:=Nat) (fun i=>[(11,qaa i),(10,qaa l.length),(9,.sl (l.map cV) cap),(3,.ref 8 g8 0 l.length (some l.length))])
  (fun i=>[(8,.row g8 3 (qwd l i))]) (fun i=>i≤l.length) (fun i=>l.length - i) 0 (by simp) (by simp [qaa]) (by simp [q4r]) ?_
 rintro i q1;simp [qaa];refine jo8 (fun hb=>?_) (fun hb=>?_)
 ·have hi:=jpf hb;have hw:=qa1 i (by omega);simp [hi,cV];intro gf;refine jo7 (q8k l[i]) (by simp [cV]) ?_;have h1:=q9u l i (by simp; exact hi);have h2:=q4s l i hi;simp [hi,h1,hw];exact ⟨⟨rfl,rfl⟩,i + 1,hi,rfl,h2,by omega⟩
 ·have hi:i = l.length:=by have:=jpg hb; omega
  subst hi;rw [h1];simp [h2];exact q9s h3 h2.symm _ _
theorem q60 (k n:Nat) (hk:k < 256) (hn:n < 1000000):qab Tryz.prog gl0 215 [u8V k,qaa n] (.bool (decide (k≤15) && ql5 k n)):=by
 have hf:=qrw k (by omega) (by omega);refine jpb 3 jkw rfl ?_;simp [i215,x215,u8V,qaa];refine jo7 hf (by simp) ?_;simp;refine jo8 (fun h=>?_) (fun h=>?_)
 ·have h1:=jpf h;simp [h1];refine jo8 (fun h=>?_) (fun h=>?_)
  ·have h2:=jpf h;simp [h1,h2,ql5]
  ·have h2:=jpg h;simp [h1,h2,ql5]
 ·have h1:=jpg h;simp [h1]
def qg2 (k:Nat):Nat × Bool:=if k = 5∨k = 6 then (0,true) else if k = 7∨k = 8 then (1,true) else (2,false)
theorem q7v (k:Nat):qab Tryz.prog gl0 221 [u8V k] (.tup [u8V (qg2 k).1,.bool (qg2 k).2]):=by
 refine jpb 3 jd2 rfl ?_;simp [jip,jm9,u8V];refine jo8 (fun h=>?_) (fun h=>?_)
 ·have h1:k = 5:=jpf h;subst h1; simp [qg2]
 ·have h1:¬ k = 5:=jpg h;simp [h1];refine jo8 (fun h=>?_) (fun h=>?_)
  ·have h1:k = 6:=jpf h;subst h1; simp [qg2]
  ·have h2:¬ k = 6:=jpg h;simp [h1,h2];refine jo8 (fun h=>?_) (fun h=>?_)
   ·have h1:k = 7:=jpf h;subst h1; simp [qg2]
   ·have h3:¬ k = 7:=jpg h;simp [h1,h2,h3];refine jo8 (fun h=>?_) (fun h=>?_)
    ·have h1:k = 8:=jpf h;subst h1; simp [qg2]
    ·have h4:¬ k = 8:=jpg h;simp [h1,h2,h3,h4,qg2]
def jis (k:Nat):Bool:=decide (k = 4∨k = 6∨k = 8∨k = 10)
theorem jc1 (k:Nat):qab Tryz.prog gl0 222 [u8V k] (.bool (jis k)):=by
 refine jpb 3 jd3 rfl ?_;have hc:=qh5 (k:Int) [4,6,8,10] (some 4) (by simp);simp [jiq,jna,u8V];intro gf;refine CallO.borrow 1 hc (by simp) rfl ?_;simp [jis]
def swC (k:Nat) (p:Nat × Nat):Nat × Nat:=if jis k = true then (p.2,p.1) else p
theorem qnv (k:Nat) (p:Nat × Nat):qab Tryz.prog gl0 233 [u8V k,nC p] (nC (swC k p)):=by
 have hi:=jc1 k;refine jpb 3 jk7 rfl ?_;simp [i233,x233,u8V,nC,qaa];intro gf gf2;refine jo7 hi (by simp [u8V]) ?_;simp;refine jo8 (fun h=>?_) (fun h=>?_)
 ·simp [swC,h]
 ·simp [swC,h]
theorem qsc (a b:Nat):min (a:Int) (b:Int) = ((min a b:Nat):Int):=by omega
theorem qhl (b:Bool):∀ (l:List (Nat × Nat)) (t:Nat × Nat),tv b t≤nev->mnV b (l ++ [t]) = min (mnV b l) (tv b t)
 | [],t,h=>by simp [mnV]; omega
 | x :: l,t,h=>by simp only [List.cons_append,mnV]; rw [qhl b l t h]; omega
theorem qoq (b:Bool):∀ (l:List (Nat × Nat)) (t:Nat × Nat),tv b t≤nev->smV b (l ++ [t]) = pls (smV b l) (tv b t)
 | [],t,h=>by simp only [List.nil_append,smV]; exact qhr _ _
 | x :: l,t,h=>by simp only [List.cons_append,smV]; rw [qoq b l t h,qhq]
theorem qda {α:Type} (l:List α) (i:Nat) (h:i < l.length):l.take (i + 1) = l.take i ++ [l[i]]:=List.take_succ_eq_append_getElem h
theorem q68 {k:Nat} (hc:(qg2 k).2 = true):qg2 k = (0,true)∨qg2 k = (1,true):=by
 unfold qg2 at hc ⊢;split
 ·exact .inl rfl
 ·split
  ·exact .inr rfl
  ·rename_i h1 h2; rw [if_neg h1,if_neg h2] at hc; simp at hc
theorem qeh (k:Nat) (ts:List (Nat × Nat)) (cap:Option Nat) (hc:(qg2 k).2 = true) (ht:∀ t ∈ ts,t.1≤nev/\t.2≤nev) (hl:ts.length < 1000000) :
  qab Tryz.prog gl0 217 [u8V k,.sl (ts.map tbV) cap] (nC (swC k (if (qg2 k).1 = 0 then (pls (mnV false ts) 1,pls (smV true ts) 1) else (pls (smV false ts) 1,pls (mnV true ts) 1)))):=by
 have hcc:=q7v k;have hn:nev = 1073741824:=rfl;have hu0:IntKind.u8.wrap 0 = 0:=by decide
 have hu1:IntKind.u8.wrap 1 = 1:=by decide
 rcases q68 hc with hk | hk
 all_goals
  rw [hk] at hcc ⊢;refine jpb 3 jky rfl ?_;simp [i217,x217];intro gf;generalize gf 4 = g4;refine jo7 hcc (by simp [u8V]) ?_;simp [u8V]
 ·refine jpa (X:=Nat × Nat × Nat) (fun z=>[(18,qaa z.1),(17,qaa ts.length),(16,.sl (ts.map tbV) cap),(8,qaa z.2.2),(7,qaa z.2.1),(5,u8V 0),(4,.ptr 4 g4 0 0),(0,u8V k)])
   (fun _=>[(4,.row g4 2 [.agg [.int .i64 0,.int .i64 0]])]) (fun z=>z.1≤ts.length/\z.2.1 = mnV false (ts.take z.1)/\z.2.2 = smV true (ts.take z.1)) (fun z=>ts.length - z.1) (0,nev,0) (by simp [mnV,smV]) (by simp [qaa,u8V]) (by simp) ?_
  rintro ⟨i,one,all⟩ ⟨q1,q2,q3⟩;dsimp only at q1 q2 q3 ⊢;simp [qaa,u8V];refine jo8 (fun hb2=>?_) (fun hb2=>?_)
  ·have hi:=jpf hb2;have hw:=qa1 i (by omega);obtain ⟨t,hti⟩:∃ t,ts[i] = t:=⟨_,rfl⟩;have htt:=ht t (hti ▸ jpk hi);have hone:=qk0 false (ts.take i);have hall:=qul true (ts.take i);have hp:=qdq all t.2 (by omega) (by omega);simp [hi,hti,tbV,qaa,u8V,hu0,hu1];intro gf gm
   first | refine ⟨_,_,_,.pure hp (by simp [qaa]),?_⟩ | refine ⟨_,⟨_,_,.pure hp (by simp [qaa])⟩,?_⟩ | refine ⟨_,_,⟨_,.pure hp (by simp [qaa])⟩,?_⟩
   simp [qaa,hw,qsc];refine ⟨by simp [qfk,qgz,qyo,qqf],i + 1,_,_,⟨hi,?_,?_⟩,⟨by omega,rfl,rfl⟩,by omega⟩
   ·rw [qda _ _ hi,hti,qhl _ _ _ (by simp [tv]; omega),q2]; rfl
   ·rw [qda _ _ hi,hti,qoq _ _ _ (by simp [tv]; omega),q3]; rfl
  ·have hi:i = ts.length:=by have:=jpg hb2; omega
   subst hi;rw [List.take_length] at q2 q3;have hone:=qk0 false ts;have hall:=qul true ts;have hp1:=qdq one 1 (by omega) (by omega);have hp2:=qdq all 1 (by omega) (by omega);simp;refine jo7 hp1 (by simp [qaa]) ?_;simp;refine jo7 hp2 (by simp [qaa]) ?_;simp [qaa];refine jo7 (qnv k (pls one 1,pls all 1)) (by simp [u8V,nC,qaa]) ?_;simp [nC,qaa,q2,q3]
 ·refine jpa (X:=Nat × Nat × Nat) (fun z=>[(18,qaa z.1),(17,qaa ts.length),(16,.sl (ts.map tbV) cap),(8,qaa z.2.2),(7,qaa z.2.1),(5,u8V 1),(4,.ptr 4 g4 0 0),(0,u8V k)])
   (fun _=>[(4,.row g4 2 [.agg [.int .i64 0,.int .i64 0]])]) (fun z=>z.1≤ts.length/\z.2.1 = mnV true (ts.take z.1)/\z.2.2 = smV false (ts.take z.1)) (fun z=>ts.length - z.1) (0,nev,0) (by simp [mnV,smV]) (by simp [qaa,u8V]) (by simp) ?_
  rintro ⟨i,one,all⟩ ⟨q1,q2,q3⟩;dsimp only at q1 q2 q3 ⊢;simp [qaa,u8V];refine jo8 (fun hb2=>?_) (fun hb2=>?_)
  ·have hi:=jpf hb2;have hw:=qa1 i (by omega);obtain ⟨t,hti⟩:∃ t,ts[i] = t:=⟨_,rfl⟩;have htt:=ht t (hti ▸ jpk hi);have hone:=qk0 true (ts.take i);have hall:=qul false (ts.take i);have hp:=qdq all t.1 (by omega) (by omega);simp [hi,hti,tbV,qaa,u8V,hu0,hu1];intro gf gm
   first | refine ⟨_,_,_,.pure hp (by simp [qaa]),?_⟩ | refine ⟨_,⟨_,_,.pure hp (by simp [qaa])⟩,?_⟩ | refine ⟨_,_,⟨_,.pure hp (by simp [qaa])⟩,?_⟩
   simp [qaa,hw,qsc];refine ⟨by simp [qfk,qgz,qyo,qqf],i + 1,_,_,⟨hi,?_,?_⟩,⟨by omega,rfl,rfl⟩,by omega⟩
   ·rw [qda _ _ hi,hti,qhl _ _ _ (by simp [tv]; omega),q2]; rfl
   ·rw [qda _ _ hi,hti,qoq _ _ _ (by simp [tv]; omega),q3]; rfl
  ·have hi:i = ts.length:=by have:=jpg hb2; omega
   subst hi;rw [List.take_length] at q2 q3;have hone:=qk0 true ts;have hall:=qul false ts;have hp1:=qdq one 1 (by omega) (by omega);have hp2:=qdq all 1 (by omega) (by omega);simp;refine jo7 hp2 (by simp [qaa]) ?_;simp;refine jo7 hp1 (by simp [qaa]) ?_;simp [qaa];refine jo7 (qnv k (pls all 1,pls one 1)) (by simp [u8V,nC,qaa]) ?_;simp [nC,qaa,q2,q3]
end
end Go.Proofs.YtpaopccohkldlaaGreatDoor
