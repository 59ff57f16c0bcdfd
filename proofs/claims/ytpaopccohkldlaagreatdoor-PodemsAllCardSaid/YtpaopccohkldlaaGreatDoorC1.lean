/- Lemmas for the card. Conditions: none. -/
import Derived.Test.YtpaopccohkldlaaGreatDoorI1
import Derived.Test.YtpaopccohkldlaaGreatDoorS4
import Derived.Test.YtpaopccohkldlaaGreatDoorXP
set_option linter.unusedSimpArgs false
set_option linter.unusedVariables false
namespace Go.Proofs.YtpaopccohkldlaaGreatDoor
section
open Go
abbrev nev : Nat:=1073741824
def pls (a b : Nat) : Nat:=min (a + b) nev
def bst : List (Nat × Nat)->(List Nat->Bool)->Nat
 | [],p=>if p [] = true then 0 else nev
 | t :: ts,p=>min (min (pls t.1 (bst ts fun a=>p (0 :: a))) (pls t.2 (bst ts fun a=>p (1 :: a)))) (bst ts fun a=>p (2 :: a))
def bsk (kp : Int) : Nat->List (Nat × Nat)->(List Nat->Bool)->Nat
 | _,[],p=>if p [] = true then 0 else nev
 | i,t :: ts,p=>if (i : Int) = kp then bsk kp (i + 1) ts fun a=>p (2 :: a) else
   min (min (pls t.1 (bsk kp (i + 1) ts fun a=>p (0 :: a))) (pls t.2 (bsk kp (i + 1) ts fun a=>p (1 :: a)))) (bsk kp (i + 1) ts fun a=>p (2 :: a))
theorem qku (a b : Nat) : pls a b ≤ nev:=by unfold pls; omega
theorem qkg : ∀ (ts : List (Nat × Nat)) (p : List Nat->Bool),bst ts p ≤ nev
 | [],p=>by unfold bst; split <;> omega
 | t :: ts,p=>by
  have:=qkg ts fun a=>p (2 :: a);unfold bst; omega
theorem q0i (kp : Int) : ∀ (ts : List (Nat × Nat)) (i : Nat) (p : List Nat->Bool),bsk kp i ts p ≤ nev
 | [],_,p=>by unfold bsk; split <;> omega
 | t :: ts,i,p=>by
  have:=q0i kp ts (i + 1) fun a=>p (2 :: a);unfold bsk; split <;> omega
theorem qhu {kp : Int} : ∀ (ts : List (Nat × Nat)) (i : Nat) (p : List Nat->Bool),kp < i->bsk kp i ts p = bst ts p
 | [],_,p,_=>rfl
 | t :: ts,i,p,h=>by
  unfold bsk bst;rw [if_neg (by omega),qhu ts _ _ (by omega),qhu ts _ _ (by omega),qhu ts _ _ (by omega)]
theorem qqr : ∀ ts : List (Nat × Nat),(bst ts fun _=>false) = nev
 | []=>rfl
 | t :: ts=>by unfold bst; rw [qqr ts]; unfold pls; omega
def tv (b : Bool) (t : Nat × Nat) : Nat:=bif b then t.2 else t.1
def mnV (b : Bool) : List (Nat × Nat)->Nat
 | []=>nev
 | t :: ts=>min (tv b t) (mnV b ts)
def smV (b : Bool) : List (Nat × Nat)->Nat
 | []=>0
 | t :: ts=>pls (tv b t) (smV b ts)
theorem qlj (b : Bool) : ∀ ts,mnV b ts ≤ nev
 | []=>jpw _
 | t :: ts=>by have:=qlj b ts; unfold mnV; omega
theorem quq (b : Bool) : ∀ ts,smV b ts ≤ nev
 | []=>by unfold smV; omega
 | t :: ts=>qku _ _
def evO (e o : Nat) : List (Nat × Nat)->Nat × Nat
 | []=>(e,o)
 | t :: ts=>evO (min (pls e t.1) (pls o t.2)) (min (pls e t.2) (pls o t.1)) ts
theorem qur (s : Nat) (ts : List (Nat × Nat)) (t : Nat × Nat) (r : Nat) (hr : r ≤ 1) : (bst (t :: ts) fun a=>decide (qew s a = r)) = min (pls t.1 (bst ts fun a=>decide (qew s a = r))) (pls t.2 (bst ts fun a=>decide (qew (1 - s) a = r))):=by
 have h0 : ∀ a,qew s (0 :: a) = qew s a:=fun a=>by simp [qew]
 have h1 : ∀ a,qew s (1 :: a) = qew (1 - s) a:=fun a=>by simp [qew]
 have h2 : ∀ a,qew s (2 :: a) = 2:=fun a=>by simp [qew]
 simp only [bst,h0,h1,h2];have : (fun a : List Nat=>decide ((2 : Nat) = r)) = fun _=>false:=by funext a; simp; omega
 rw [this,qqr];unfold pls; omega
theorem qhv (a b c : Nat) : pls (pls a b) c = pls a (pls b c):=by unfold pls; omega
theorem qhk (a b : Nat) : pls a b = pls b a:=by unfold pls; omega
theorem q9k (a b c : Nat) : pls (min a b) c = min (pls a c) (pls b c):=by unfold pls; omega
theorem qum (a b c : Nat) : pls c (min a b) = min (pls c a) (pls c b):=by unfold pls; omega
theorem qrm {a : Nat} (h : a ≤ nev) : pls 0 a = a:=by unfold pls; omega
theorem q40 (a : Nat) : pls nev a = nev:=by unfold pls; omega
theorem min4 (p q r s : Nat) : min (min p q) (min r s) = min (min p r) (min s q):=by omega
theorem qu4 : ∀ (ts : List (Nat × Nat)) (e o : Nat),e ≤ nev->o ≤ nev->
  evO e o ts = (min (pls e (bst ts fun a=>decide (qew 0 a = 0))) (pls o (bst ts fun a=>decide (qew 1 a = 0))),min (pls e (bst ts fun a=>decide (qew 0 a = 1))) (pls o (bst ts fun a=>decide (qew 1 a = 1))))
 | [],e,o,h1,h2=>by
  have a1 : pls e 0 = e:=by rw [qhk]; exact qrm h1
  have a2 : pls o 0 = o:=by rw [qhk]; exact qrm h2
  have a3 : pls e nev = nev:=by rw [qhk]; exact q40 e
  have a4 : pls o nev = nev:=by rw [qhk]; exact q40 o
  have b1 : (bst [] fun a=>decide (qew 0 a = 0)) = 0:=rfl;have b2 : (bst [] fun a=>decide (qew 1 a = 0)) = nev:=rfl;have b3 : (bst [] fun a=>decide (qew 0 a = 1)) = nev:=rfl;have b4 : (bst [] fun a=>decide (qew 1 a = 1)) = 0:=rfl;rw [b1,b2,b3,b4,a1,a2,a3,a4,evO,Nat.min_eq_left h1,Nat.min_eq_right h2]
 | t :: ts,e,o,h1,h2=>by
  rw [evO,qu4 ts _ _ (by have:=qku e t.1; omega) (by have:=qku e t.2; omega),qur _ _ _ _ (by omega),qur _ _ _ _ (by omega),qur _ _ _ _ (by omega),qur _ _ _ _ (by omega)];have e1 : 1 - 0 = 1:=rfl;have e2 : 1 - 1 = 0:=rfl;rw [e1,e2];simp only [q9k,qum,qhv];refine Prod.ext ?_ ?_
  ·exact min4 _ _ _ _
  ·exact min4 _ _ _ _
theorem jjl (ts : List (Nat × Nat)) : evO 0 nev ts = (bst ts fun a=>decide (qew 0 a = 0),bst ts fun a=>decide (qew 0 a = 1)):=by
 rw [qu4 ts 0 nev (by omega) (by omega)];have h1:=qkg ts fun a=>decide (qew 0 a = 0);have h2:=qkg ts fun a=>decide (qew 0 a = 1);rw [qrm h1,qrm h2,q40,q40,Nat.min_eq_left h1,Nat.min_eq_left h2]
def tb (t : Nat × Nat) (v : Nat) : Nat:=if v = 0 then t.1 else if v = 1 then t.2 else 0
def vis {σ : Type} (kp : Int) (up : List Nat->Nat->σ->σ) : Nat->List (Nat × Nat)->List Nat->Nat->σ->σ
 | _,[],pre,cost,st=>up pre cost st
 | i,t :: ts,pre,cost,st=>if (i : Int) = kp then vis kp up (i + 1) ts (pre ++ [2]) cost st else
   let s1:=if pls cost t.1 < nev then vis kp up (i + 1) ts (pre ++ [0]) (pls cost t.1) st else st
   let s2:=if pls cost t.2 < nev then vis kp up (i + 1) ts (pre ++ [1]) (pls cost t.2) s1 else s1
   if pls cost 0 < nev then vis kp up (i + 1) ts (pre ++ [2]) (pls cost 0) s2 else s2
def upB (p q : List Nat->Bool) (a : List Nat) (cost : Nat) (s : Nat × Nat) : Nat × Nat:=(if p a = true then min s.1 cost else s.1,if q a = true then min s.2 cost else s.2)
theorem qy2 (kp : Int) (p q : List Nat->Bool) : ∀ (ts : List (Nat × Nat)) (i : Nat) (pre : List Nat) (cost : Nat) (s : Nat × Nat),cost < nev->s.1 ≤ nev->s.2 ≤ nev->
  vis kp (upB p q) i ts pre cost s = (min s.1 (pls cost (bsk kp i ts fun a=>p (pre ++ a))),min s.2 (pls cost (bsk kp i ts fun a=>q (pre ++ a))))
 | [],i,pre,cost,s,hc,h1,h2=>by
  have e1 : pls cost 0 = cost:=by unfold pls; omega
  have e2 : pls cost nev = nev:=by unfold pls; omega
  simp only [vis,upB,bsk,List.append_nil];refine Prod.ext ?_ ?_
  ·by_cases hp : p pre = true
   ·simp only [hp,if_true,e1]
   ·simp only [hp,e2]; simp; omega
  ·by_cases hp : q pre = true
   ·simp only [hp,if_true,e1]
   ·simp only [hp,e2]; simp; omega
 | t :: ts,i,pre,cost,s,hc,h1,h2=>by
  have ih:=qy2 kp p q ts (i + 1);simp only [vis,bsk];by_cases hk : (i : Int) = kp
  ·rw [if_pos hk,if_pos hk,if_pos hk,ih _ _ _ hc h1 h2];simp only [List.append_assoc,List.singleton_append]
  ·rw [if_neg hk,if_neg hk,if_neg hk]
   have key : ∀ (x v : Nat) (s : Nat × Nat),s.1 ≤ nev->s.2 ≤ nev->(if pls cost x < nev then vis kp (upB p q) (i + 1) ts (pre ++ [v]) (pls cost x) s else s) =
     (min s.1 (pls cost (pls x (bsk kp (i + 1) ts fun a=>p (pre ++ v :: a)))),min s.2 (pls cost (pls x (bsk kp (i + 1) ts fun a=>q (pre ++ v :: a))))):=by
    intro x v s k1 k2;split
    ·rename_i hx;rw [ih _ _ _ hx k1 k2,qhv,qhv];simp only [List.append_assoc,List.singleton_append]
    ·rename_i hx;have e : ∀ y,pls cost (pls x y) = nev:=fun y=>by unfold pls at hx ⊢; omega
     rw [e,e];refine Prod.ext ?_ ?_ <;> simp only [] <;> omega
   have e0 : pls cost 0 = cost:=by unfold pls; omega
   have hb1:=q0i kp ts (i + 1) fun a=>p (pre ++ 2 :: a);have hb2:=q0i kp ts (i + 1) fun a=>q (pre ++ 2 :: a);rw [key t.1 0 s h1 h2];rw [key t.2 1 _ (by simp only []; omega) (by simp only []; omega)];rw [key 0 2 _ (by simp only []; omega) (by simp only []; omega),qrm hb1,qrm hb2];refine Prod.ext ?_ ?_ <;> simp only [qum] <;> omega
end
section
open Go
def cV (p : Int × Int) : V:=.agg [.int .i64 p.1,.int .i64 p.2]
def nC (p : Nat × Nat) : V:=.agg [qaa p.1,qaa p.2]
def tbV (t : Nat × Nat) : V:=.agg [qaa t.1,qaa t.2,qaa 0]
def q1q (z : Int) : Nat:=(min (max z 0) 1073741824).toNat
def qrs (p : Int × Int) : Nat × Nat:=(q1q p.1,q1q p.2)
theorem q0h (z : Int) : q1q z ≤ nev:=by unfold q1q nev; omega
theorem jkr (a b : Nat) : min ((a : Int) + b) 1073741824 = ((pls a b : Nat) : Int):=by unfold pls nev; omega
theorem jcn (z : Int) : min (max z 0) 1073741824 = ((q1q z : Nat) : Int):=by unfold q1q; omega
theorem q8g (p : Int × Int) : qac Tryz.prog gl0 232 [cV p] (tbV (qrs p)):=by
 refine jpk 3 jh5 rfl ?_;simp [i232,x232,cV,tbV,qrs,qaa,jcn]
theorem qdp (a b : Nat) (ha : a < 1000000000000) (hb : b < 1000000000000) : qac Tryz.prog gl0 219 [qaa a,qaa b] (qaa (pls a b)):=by
 refine jpk 3 jm1 rfl ?_;have hw : IntKind.i64.wrap ((a : Int) + b) = (a : Int) + b:=by rw [qaq] <;> omega
 simp [i219,x219,qaa,hw,jkr]
theorem qtz (l : List (Int × Int)) : jnp (l.map cV) = true:=pureL_map (fun _=>rfl) l
theorem qdo (l : List (Nat × Nat)) : jnp (l.map tbV) = true:=pureL_map (fun _=>rfl) l
def qvi (l : List (Int × Int)) (i : Nat) : List V:=tab l.length fun j=>if j < i then tbV (qrs (l.getD j (0,0))) else .agg [.int .i64 0,.int .i64 0,.int .i64 0]
@[simp] theorem jga (l : List (Int × Int)) (i : Nat) : (qvi l i).length = l.length:=by simp [qvi]
theorem q45 (l : List (Int × Int)) (i : Nat) (hi : i < l.length) : (qvi l i).set i (tbV (qrs l[i])) = qvi l (i + 1):=by
 unfold qvi;rw [qfi];congr 1;funext j;by_cases h : j = i
 ·subst h;rw [qa7,if_pos (by omega),jpr,jpv hi]; rfl
 ·rw [qav _ _ h];by_cases h2 : j < i
  ·rw [if_pos h2,if_pos (by omega)]
  ·rw [if_neg h2,if_neg (by omega)]
theorem q21 (l : List (Int × Int)) : qvi l l.length = (l.map qrs).map tbV:=by
 unfold qvi;refine List.ext_getElem (by simp) fun j h1 h2=>?_;have hj : j < l.length:=by simpa using h1
 rw [qbx,if_pos hj];simp [jpr,hj]
theorem q2i (l : List (Int × Int)) : List.replicate l.length (V.agg [.int .i64 0,.int .i64 0,.int .i64 0]) = qvi l 0:=by
 refine List.ext_getElem (by simp) fun j h1 h2=>?_;simp only [qvi];rw [qbx,List.getElem_replicate];simp
theorem q8y (l : List (Int × Int)) (i : Nat) (h : i < (qvi l i).length) : (qvi l i)[i] = .agg [.int .i64 0,.int .i64 0,.int .i64 0]:=by simp only [qvi]; rw [qbx,if_neg (Nat.lt_irrefl i)]
theorem q7c {L : List V} (hp : jnp L = true) {n : Nat} (hn : n = L.length) (f : Nat->Nat->Nat->Nat->Option Nat->V) (p : Nat->Nat->Nat->Nat->V) : List.take n (List.map (fun x=>V.mapR f p x) L) = L:=by
 subst hn
 have : List.map (fun x=>V.mapR f p x) L = L:=by
  conv=>rhs; rw [<- List.map_id L]
  exact List.map_congr_left fun x hx=>qba _ ((jnu L).1 hp x hx)
 rw [this,List.take_length]
theorem q23 (l : List (Int × Int)) (cap : Option Nat) (hl : l.length < 1000000) : qac Tryz.prog gl0 216 [.sl (l.map cV) cap] (.sl ((l.map qrs).map tbV) (some l.length)):=by
 have h1:=q21 l;have h2 : ((l.map qrs).map tbV).length = l.length:=by simp
 have h3:=qdo (l.map qrs);generalize (l.map qrs).map tbV = L at h1 h2 h3 ⊢;refine jpk 3 jmg rfl ?_;simp [i216,x216];intro gf;generalize gf 8 = g8;refine ⟨by omega,?_⟩
 refine jpj (X:=Nat) (fun i=>[(11,qaa i),(10,qaa l.length),(9,.sl (l.map cV) cap),(3,.ref 8 g8 0 l.length (some l.length))])
  (fun i=>[(8,.row g8 3 (qvi l i))]) (fun i=>i ≤ l.length) (fun i=>l.length - i) 0 (by simp) (by simp [qaa]) (by simp [q2i]) ?_
 rintro i q1;simp [qaa];refine jph (fun hb=>?_) (fun hb=>?_)
 ·have hi:=jpp hb;have hw:=qa1 i (by omega);simp [hi,cV];intro gf;refine jpg (q8g l[i]) (by simp [cV]) ?_;have h1:=q8y l i (by simp; exact hi);have h2:=q45 l i hi;simp [hi,h1,hw];exact ⟨⟨rfl,rfl⟩,i + 1,hi,rfl,h2,by omega⟩
 ·have hi : i = l.length:=by have:=jpq hb; omega
  subst hi;rw [h1];simp [h2];exact q7c h3 h2.symm _ _
theorem q8q (k n : Nat) (hk : k < 256) (hn : n < 1000000) : qac Tryz.prog gl0 215 [u8V k,qaa n] (.bool (decide (k ≤ 15) && qgp k n)):=by
 have hf:=qsv k (by omega) (by omega);refine jpk 3 jje rfl ?_;simp [i215,x215,u8V,qaa];refine jpg hf (by simp) ?_;simp;refine jph (fun h=>?_) (fun h=>?_)
 ·have h1:=jpp h;simp [h1];refine jph (fun h=>?_) (fun h=>?_)
  ·have h2:=jpp h;simp [h1,h2,qgp]
  ·have h2:=jpq h;simp [h1,h2,qgp]
 ·have h1:=jpq h;simp [h1]
def qhi (k : Nat) : Nat × Bool:=if k = 5∨k = 6 then (0,true) else if k = 7∨k = 8 then (1,true) else (2,false)
theorem q69 (k : Nat) : qac Tryz.prog gl0 221 [u8V k] (.tup [u8V (qhi k).1,.bool (qhi k).2]):=by
 refine jpk 3 jbv rfl ?_;simp [jlk,jjh,u8V];refine jph (fun h=>?_) (fun h=>?_)
 ·have h1 : k = 5:=jpp h;subst h1; simp [qhi]
 ·have h1 : ¬ k = 5:=jpq h;simp [h1];refine jph (fun h=>?_) (fun h=>?_)
  ·have h1 : k = 6:=jpp h;subst h1; simp [qhi]
  ·have h2 : ¬ k = 6:=jpq h;simp [h1,h2];refine jph (fun h=>?_) (fun h=>?_)
   ·have h1 : k = 7:=jpp h;subst h1; simp [qhi]
   ·have h3 : ¬ k = 7:=jpq h;simp [h1,h2,h3];refine jph (fun h=>?_) (fun h=>?_)
    ·have h1 : k = 8:=jpp h;subst h1; simp [qhi]
    ·have h4 : ¬ k = 8:=jpq h;simp [h1,h2,h3,h4,qhi]
def jll (k : Nat) : Bool:=decide (k = 4∨k = 6∨k = 8∨k = 10)
theorem jcb (k : Nat) : qac Tryz.prog gl0 222 [u8V k] (.bool (jll k)):=by
 refine jpk 3 jdf rfl ?_;have hc:=qiq (k : Int) [4,6,8,10] (some 4) (by simp);simp [jlw,jmp,u8V];intro gf;refine CallO.borrow 1 hc (by simp) rfl ?_;simp [jll]
def swC (k : Nat) (p : Nat × Nat) : Nat × Nat:=if jll k = true then (p.2,p.1) else p
theorem qov (k : Nat) (p : Nat × Nat) : qac Tryz.prog gl0 233 [u8V k,nC p] (nC (swC k p)):=by
 have hi:=jcb k;refine jpk 3 ji8 rfl ?_;simp [i233,x233,u8V,nC,qaa];intro gf gf2;refine jpg hi (by simp [u8V]) ?_;simp;refine jph (fun h=>?_) (fun h=>?_)
 ·simp [swC,h]
 ·simp [swC,h]
theorem qsr (a b : Nat) : min (a : Int) (b : Int) = ((min a b : Nat) : Int):=by omega
theorem qho (b : Bool) : ∀ (l : List (Nat × Nat)) (t : Nat × Nat),tv b t ≤ nev->mnV b (l ++ [t]) = min (mnV b l) (tv b t)
 | [],t,h=>by simp [mnV]; omega
 | x :: l,t,h=>by simp only [List.cons_append,mnV]; rw [qho b l t h]; omega
theorem qn1 (b : Bool) : ∀ (l : List (Nat × Nat)) (t : Nat × Nat),tv b t ≤ nev->smV b (l ++ [t]) = pls (smV b l) (tv b t)
 | [],t,h=>by simp only [List.nil_append,smV]; exact qhk _ _
 | x :: l,t,h=>by simp only [List.cons_append,smV]; rw [qn1 b l t h,qhv]
theorem qc6 {α : Type} (l : List α) (i : Nat) (h : i < l.length) : l.take (i + 1) = l.take i ++ [l[i]]:=List.take_succ_eq_append_getElem h
theorem jah {k : Nat} (hc : (qhi k).2 = true) : qhi k = (0,true)∨qhi k = (1,true):=by
 unfold qhi at hc ⊢;split
 ·exact .inl rfl
 ·split
  ·exact .inr rfl
  ·rename_i h1 h2; rw [if_neg h1,if_neg h2] at hc; simp at hc
theorem qep (k : Nat) (ts : List (Nat × Nat)) (cap : Option Nat) (hc : (qhi k).2 = true) (ht : ∀ t ∈ ts,t.1 ≤ nev/\t.2 ≤ nev) (hl : ts.length < 1000000) :
  qac Tryz.prog gl0 217 [u8V k,.sl (ts.map tbV) cap] (nC (swC k (if (qhi k).1 = 0 then (pls (mnV false ts) 1,pls (smV true ts) 1) else (pls (smV false ts) 1,pls (mnV true ts) 1)))):=by
 have hcc:=q69 k;have hn : nev = 1073741824:=rfl;have hu0 : IntKind.u8.wrap 0 = 0:=by decide
 have hu1 : IntKind.u8.wrap 1 = 1:=by decide
 rcases jah hc with hk | hk
 all_goals
  rw [hk] at hcc ⊢;refine jpk 3 jlm rfl ?_;simp [i217,x217];intro gf;generalize gf 4 = g4;refine jpg hcc (by simp [u8V]) ?_;simp [u8V]
 ·refine jpj (X:=Nat × Nat × Nat) (fun z=>[(18,qaa z.1),(17,qaa ts.length),(16,.sl (ts.map tbV) cap),(8,qaa z.2.2),(7,qaa z.2.1),(5,u8V 0),(4,.ptr 4 g4 0 0),(0,u8V k)])
   (fun _=>[(4,.row g4 2 [.agg [.int .i64 0,.int .i64 0]])]) (fun z=>z.1 ≤ ts.length/\z.2.1 = mnV false (ts.take z.1)/\z.2.2 = smV true (ts.take z.1)) (fun z=>ts.length - z.1) (0,nev,0) (by simp [mnV,smV]) (by simp [qaa,u8V]) (by simp) ?_
  rintro ⟨i,one,all⟩ ⟨q1,q2,q3⟩;dsimp only at q1 q2 q3 ⊢;simp [qaa,u8V];refine jph (fun hb2=>?_) (fun hb2=>?_)
  ·have hi:=jpp hb2;have hw:=qa1 i (by omega);obtain ⟨t,hti⟩ : ∃ t,ts[i] = t:=⟨_,rfl⟩;have htt:=ht t (hti ▸ jpu hi);have hone:=qlj false (ts.take i);have hall:=quq true (ts.take i);have hp:=qdp all t.2 (by omega) (by omega);simp [hi,hti,tbV,qaa,u8V,hu0,hu1];intro gf gm
   first | refine ⟨_,_,_,.pure hp (by simp [qaa]),?_⟩ | refine ⟨_,⟨_,_,.pure hp (by simp [qaa])⟩,?_⟩ | refine ⟨_,_,⟨_,.pure hp (by simp [qaa])⟩,?_⟩
   simp [qaa,hw,qsr];refine ⟨by simp [qfq,qg8,qxa,qqc],i + 1,_,_,⟨hi,?_,?_⟩,⟨by omega,rfl,rfl⟩,by omega⟩
   ·rw [qc6 _ _ hi,hti,qho _ _ _ (by simp [tv]; omega),q2]; rfl
   ·rw [qc6 _ _ hi,hti,qn1 _ _ _ (by simp [tv]; omega),q3]; rfl
  ·have hi : i = ts.length:=by have:=jpq hb2; omega
   subst hi;rw [List.take_length] at q2 q3;have hone:=qlj false ts;have hall:=quq true ts;have hp1:=qdp one 1 (by omega) (by omega);have hp2:=qdp all 1 (by omega) (by omega);simp;refine jpg hp1 (by simp [qaa]) ?_;simp;refine jpg hp2 (by simp [qaa]) ?_;simp [qaa];refine jpg (qov k (pls one 1,pls all 1)) (by simp [u8V,nC,qaa]) ?_;simp [nC,qaa,q2,q3]
 ·refine jpj (X:=Nat × Nat × Nat) (fun z=>[(18,qaa z.1),(17,qaa ts.length),(16,.sl (ts.map tbV) cap),(8,qaa z.2.2),(7,qaa z.2.1),(5,u8V 1),(4,.ptr 4 g4 0 0),(0,u8V k)])
   (fun _=>[(4,.row g4 2 [.agg [.int .i64 0,.int .i64 0]])]) (fun z=>z.1 ≤ ts.length/\z.2.1 = mnV true (ts.take z.1)/\z.2.2 = smV false (ts.take z.1)) (fun z=>ts.length - z.1) (0,nev,0) (by simp [mnV,smV]) (by simp [qaa,u8V]) (by simp) ?_
  rintro ⟨i,one,all⟩ ⟨q1,q2,q3⟩;dsimp only at q1 q2 q3 ⊢;simp [qaa,u8V];refine jph (fun hb2=>?_) (fun hb2=>?_)
  ·have hi:=jpp hb2;have hw:=qa1 i (by omega);obtain ⟨t,hti⟩ : ∃ t,ts[i] = t:=⟨_,rfl⟩;have htt:=ht t (hti ▸ jpu hi);have hone:=qlj true (ts.take i);have hall:=quq false (ts.take i);have hp:=qdp all t.1 (by omega) (by omega);simp [hi,hti,tbV,qaa,u8V,hu0,hu1];intro gf gm
   first | refine ⟨_,_,_,.pure hp (by simp [qaa]),?_⟩ | refine ⟨_,⟨_,_,.pure hp (by simp [qaa])⟩,?_⟩ | refine ⟨_,_,⟨_,.pure hp (by simp [qaa])⟩,?_⟩
   simp [qaa,hw,qsr];refine ⟨by simp [qfq,qg8,qxa,qqc],i + 1,_,_,⟨hi,?_,?_⟩,⟨by omega,rfl,rfl⟩,by omega⟩
   ·rw [qc6 _ _ hi,hti,qho _ _ _ (by simp [tv]; omega),q2]; rfl
   ·rw [qc6 _ _ hi,hti,qn1 _ _ _ (by simp [tv]; omega),q3]; rfl
  ·have hi : i = ts.length:=by have:=jpq hb2; omega
   subst hi;rw [List.take_length] at q2 q3;have hone:=qlj true ts;have hall:=quq false ts;have hp1:=qdp one 1 (by omega) (by omega);have hp2:=qdp all 1 (by omega) (by omega);simp;refine jpg hp2 (by simp [qaa]) ?_;simp;refine jpg hp1 (by simp [qaa]) ?_;simp [qaa];refine jpg (qov k (pls all 1,pls one 1)) (by simp [u8V,nC,qaa]) ?_;simp [nC,qaa,q2,q3]
end
end Go.Proofs.YtpaopccohkldlaaGreatDoor
