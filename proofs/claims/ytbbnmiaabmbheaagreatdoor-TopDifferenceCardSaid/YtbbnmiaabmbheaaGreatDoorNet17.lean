/- Lemmas. Conditions: none. -/
import Derived.Test.YtbbnmiaabmbheaaGreatDoorNet13
set_option linter.all false
namespace Go.Proofs.YtbbnmiaabmbheaaGreatDoor
section
open Go
def q1a (x:Cx) (l:List Nd) (i:Nat) (y:Nd):Prop:=
 (y.k = 0/\y.i = []/\y.a = 0/\y.b = 0)∨
 (y.k = 14/\(∃ d:Nat,y.i = [(d:Int)]/\d < l.length)/\y.a = 0/\y.b = 0)∨
 (x.mem = true/\y.k = 15/\y.i = []/\y.a = 0/\(y.b = 0∨y.b = 1))∨
 (1≤y.k/\y.k≤13/\ql7 y.k y.i.length = true/\(∀ v ∈ y.i,0≤v/\v < (i:Int))/\(y.k = 13->∀ v ∈ y.i,(l.getD v.toNat default).k = 12)/\y.a = 0/\y.b = 0)
def qhx (x:Cx) (l:List Nd):Prop:=∀ i (h:i < l.length),q1a x l i l[i]
theorem q1a.app {x:Cx} {l:List Nd} {i:Nat} {y:Nd} (h:q1a x l i y) (hi:i < l.length) (r:List Nd):q1a x (l ++ r) i y:=by
 rcases h with h | ⟨h1,⟨d,h2,h3⟩,h4⟩ | h | ⟨h1,h2,h3,h4,h5,h6⟩
 ·exact .inl h
 ·exact .inr (.inl ⟨h1,⟨d,h2,by simp; omega⟩,h4⟩)
 ·exact .inr (.inr (.inl h))
 ·refine .inr (.inr (.inr ⟨h1,h2,h3,h4,fun hk v hv=>?_,h6⟩));have:=h4 v hv;have:=h5 hk v hv;rw [jkd,List.getElem?_append_left (by omega),<- jkd];exact this
theorem qhx.app {x:Cx} {l:List Nd} {z:Nd} (h:qhx x l) (hz:q1a x (l ++ [z]) l.length z):qhx x (l ++ [z]):=by
 intro i hi;by_cases h1:i < l.length
 ·rw [List.getElem_append_left h1];exact (h i h1).app h1 _
 ·have:i = l.length:=by simp at hi; omega
  subst this;simpa using hz
theorem qnc:∀ (l:List Nd) (i t:Nat),t ∈ qej l i->i≤t/\t < i + l.length/\(l.getD (t - i) default).k = 12
 | [],i,t,h=>by simp [qej] at h
 | y :: r,i,t,h=>by
  simp only [qej] at h;by_cases hk:y.k = 12
  ·rw [if_pos hk] at h;rcases List.mem_cons.1 h with rfl | h
   ·simp [hk]
   ·obtain ⟨h1,h2,h3⟩:=qnc r (i + 1) t h;refine ⟨by omega,by simp; omega,?_⟩;rw [show t - i = (t - (i + 1)) + 1 by omega];simpa using h3
  ·rw [if_neg hk] at h;obtain ⟨h1,h2,h3⟩:=qnc r (i + 1) t h;refine ⟨by omega,by simp; omega,?_⟩;rw [show t - i = (t - (i + 1)) + 1 by omega];simpa using h3
theorem qu2 (bus:Bool) (g:Gx) (l:List Nd) (h0:0 < l.length) :
  1≤(qe5 bus g l).1/\(qe5 bus g l).1≤13/\ql7 ((qe5 bus g l).1:Int) (qe5 bus g l).2.length = true/\(∀ v ∈ (qe5 bus g l).2,v < l.length)/\((qe5 bus g l).1 = 13->∀ v ∈ (qe5 bus g l).2,(l.getD v default).k = 12):=by
 have hm:∀ a,a % l.length < l.length:=fun a=>Nat.mod_lt _ h0
 have ht:∀ j,j < (qej l 0).length->(qej l 0).getD j 0 < l.length/\(l.getD ((qej l 0).getD j 0) default).k = 12:=fun j hj=>by
  have:=qnc l 0 _ (show (qej l 0).getD j 0 ∈ qej l 0 by rw [jkd,jkh hj]; exact jkg hj);exact ⟨by omega,by simpa using this.2.2⟩
 unfold qe5;dsimp only;generalize qd6 bus g = k;split
 ·rename_i hk;have hc:k = 0∨k = 1∨k = 2∨k = 3∨k = 4∨k = 5:=by omega
  refine ⟨by simp; omega,by simp; omega,?_,?_,fun h=>by simp at h; omega⟩
  ·rcases hc with rfl | rfl | rfl | rfl | rfl | rfl <;> split <;> simp [ql7,kLo,kHi,tLo,tHi]
  ·intro v hv;simp only [] at hv;split at hv
   ·simp at hv; rcases hv with rfl | rfl | rfl <;> exact hm _
   ·simp at hv; rcases hv with rfl | rfl <;> exact hm _
 ·split
  ·refine ⟨by simp,by simp,by simp [ql7,kLo,kHi,tLo,tHi],?_,fun h=>by simp at h⟩;intro v hv;simp at hv; subst hv; exact hm _
  ·split
   ·refine ⟨by simp,by simp,by simp [ql7,kLo,kHi,tLo,tHi],?_,fun h=>by simp at h⟩;intro v hv;simp at hv; rcases hv with rfl | rfl | rfl <;> exact hm _
   ·split
    ·refine ⟨by simp,by simp,by simp [ql7,kLo,kHi,tLo,tHi],?_,fun h=>by simp at h⟩;intro v hv;simp at hv; rcases hv with rfl | rfl <;> exact hm _
    ·split
     ·rename_i hb
      have h1:∀ v ∈ ((qej l 0).getD (g.a % (qej l 0).length) 0 :: if 1 < (qej l 0).length then [(qej l 0).getD ((g.a % (qej l 0).length + 1) % (qej l 0).length) 0] else []),v < l.length/\(l.getD v default).k = 12:=by
       intro v hv;rcases List.mem_cons.1 hv with rfl | hv
       ·exact ht _ (Nat.mod_lt _ hb.2)
       ·split at hv
        ·simp only [List.mem_singleton] at hv; subst hv; exact ht _ (Nat.mod_lt _ hb.2)
        ·simp at hv
      refine ⟨by simp,by simp,?_,fun v hv=>(h1 v hv).1,fun _ v hv=>(h1 v hv).2⟩;simp only [];split <;> simp [ql7,kLo,kHi,tLo,tHi]
     ·split
      ·have hc:g.a % 2 = 0∨g.a % 2 = 1:=by omega
       refine ⟨by simp,by simp; omega,?_,by simp,fun h=>by simp⟩;rcases hc with h | h <;> simp [h,ql7,kLo,kHi,tLo,tHi]
      ·refine ⟨by simp,by simp,by simp [ql7,kLo,kHi,tLo,tHi],?_,fun h=>by simp at h⟩;intro v hv;simp at hv; subst hv; exact hm _
theorem q19 (x:Cx) (bus:Bool) (g:Gx) (l:List Nd) (h0:0 < l.length):q1a x (l ++ [ndN (qe5 bus g l)]) l.length (ndN (qe5 bus g l)):=by
 obtain ⟨h1,h2,h3,h4,h5⟩:=qu2 bus g l h0;generalize qe5 bus g l = q at *;refine .inr (.inr (.inr ⟨?_,?_,?_,?_,?_,rfl,rfl⟩))
 ·simp only [ndN]; omega
 ·simp only [ndN]; omega
 ·simpa [ndN] using h3
 ·intro v hv;simp only [ndN] at hv;obtain ⟨w,hw,rfl⟩:=List.mem_map.1 hv;have:=h4 w hw;omega
 ·intro hk v hv;simp only [ndN] at hv hk;obtain ⟨w,hw,rfl⟩:=List.mem_map.1 hv;have:=h4 w hw;have:=h5 (by omega) w hw;rw [jkd,List.getElem?_append_left (by simpa using h4 w hw),<- jkd];simpa using this
theorem qrj (x:Cx) (bus:Bool):∀ (gs:List Gx) (l:List Nd),0 < l.length->qhx x l->qhx x (qd7 bus gs l)/\(∃ r,qd7 bus gs l = l ++ r)/\(qd7 bus gs l).length = l.length + gs.length
 | [],l,_,h=>⟨h,⟨[],by simp [qd7]⟩,by simp [qd7]⟩
 | g :: gs,l,h0,h=>by
  obtain ⟨h1,⟨r,h2⟩,h3⟩:=qrj x bus gs (l ++ [ndN (qe5 bus g l)]) (by simp) (h.app (q19 x bus g l h0));refine ⟨h1,⟨ndN (qe5 bus g l) :: r,?_⟩,?_⟩
  ·simp only [qd7,h2]; simp
  ·simp only [qd7,h3]; simp; omega
theorem q03 (x:Cx) (j:Nat):qhx x (x.st1 j):=by
 intro i hi;have hm:=jkg hi;rcases List.mem_append.1 hm with h | h
 ·rw [List.eq_of_mem_replicate h]; exact .inl ⟨rfl,rfl,rfl,rfl⟩
 ·rw [List.eq_of_mem_replicate h]; exact .inr (.inl ⟨rfl,⟨0,rfl,by omega⟩,rfl,rfl⟩)
theorem q89 (x:Cx):qhx x x.st0:=by
 unfold Cx.st0;by_cases hm:x.mem = true
 ·rw [if_pos hm,show [(⟨15,[],0,0⟩:Nd),⟨15,[],0,1⟩] = [⟨15,[],0,0⟩] ++ [⟨15,[],0,1⟩] from rfl,<- List.append_assoc];exact ((q03 x _).app (.inr (.inr (.inl ⟨hm,rfl,rfl,rfl,.inl rfl⟩)))).app (.inr (.inr (.inl ⟨hm,rfl,rfl,rfl,.inr rfl⟩)))
 ·rw [if_neg hm,List.append_nil];exact q03 x _
theorem qwt (x:Cx):0 < x.st0.length/\x.st0.length≤8:=by
 have h1:x.n % 4 < 4:=Nat.mod_lt _ (by omega);have h2:x.f % 3 < 3:=Nat.mod_lt _ (by omega);have h3:(if x.mem = true then [(⟨15,[],0,0⟩:Nd),⟨15,[],0,1⟩] else []).length≤2:=by split <;> simp
 simp only [Cx.st0,Cx.st1,List.length_append,List.length_replicate];omega
theorem qho (x:Cx):qhx x x.ns0/\(∃ r,x.ns0 = x.st0 ++ r)/\0 < x.nn/\x.nn≤16:=by
 obtain ⟨h1,h2,h3⟩:=qrj x x.bus (x.g.take 8) x.st0 (qwt x).1 (q89 x);have:=qwt x;refine ⟨h1,h2,?_,?_⟩
 ·show 0 < x.ns0.length;unfold Cx.ns0; omega
 ·show x.ns0.length≤16;unfold Cx.ns0;have:(x.g.take 8).length≤8:=by simp; omega
  omega
theorem qhx.set {x:Cx} {l:List Nd} {p D:Nat} (h:qhx x l) (hp:p < l.length) (hk:l[p].k = 14) (hD:D < l.length):qhx x (l.set p ⟨l[p].k,[(D:Int)],0,l[p].b⟩):=by
 have hkk:∀ j:Nat,((l.set p ⟨l[p].k,[(D:Int)],0,l[p].b⟩).getD j default).k = (l.getD j default).k:=fun j=>by
  by_cases hj:p = j
  ·subst hj;simp [jkd,hp]
  ·simp [jkd,List.getElem?_set_ne hj]
 intro i hi;rw [List.length_set] at hi;by_cases hj:p = i
 ·subst hj;rw [List.getElem_set_self]
  have hb:l[p].b = 0:=by
   rcases h p hp with q | ⟨-,-,-,q⟩ | ⟨-,q,-⟩ | ⟨-,q,-⟩
   ·omega
   ·exact q
   ·omega
   ·omega
  exact .inr (.inl ⟨hk,⟨D,rfl,by simpa using hD⟩,rfl,hb⟩)
 ·rw [List.getElem_set_ne hj];rcases h i hi with q | ⟨h1,⟨d,h2,h3⟩,h4⟩ | q | ⟨h1,h2,h3,h4,h5,h6⟩
  ·exact .inl q
  ·exact .inr (.inl ⟨h1,⟨d,h2,by simpa using h3⟩,h4⟩)
  ·exact .inr (.inr (.inl q))
  ·exact .inr (.inr (.inr ⟨h1,h2,h3,h4,fun hk v hv=>by rw [hkk]; exact h5 hk v hv,h6⟩))
theorem q2o (x:Cx) {j:Nat} (hj:j < x.f % 3):∃ h:x.n % 4 + 1 + j < x.ns0.length,(x.ns0[x.n % 4 + 1 + j]).k = 14:=by
 obtain ⟨-,⟨r,hr⟩,-⟩:=qho x
 have hst:x.st0[x.n % 4 + 1 + j]? = some (q9s 0):=by
  simp only [Cx.st0,Cx.st1];rw [List.getElem?_append_left (by simp; omega),List.getElem?_append_right (by simp)];simp [hj]
 have hs:x.ns0[x.n % 4 + 1 + j]? = some (q9s 0):=by
  rw [hr,List.getElem?_append_left (List.getElem?_eq_some_iff.1 hst).1];exact hst
 obtain ⟨h1,h2⟩:=List.getElem?_eq_some_iff.1 hs;exact ⟨h1,by rw [h2]; rfl⟩
theorem q0v (x:Cx):∀ i,i≤x.f % 3->qhx x (x.ns1 i)/\(x.ns1 i).length = x.nn/\∀ j,j < x.f % 3->∃ h:x.n % 4 + 1 + j < (x.ns1 i).length,((x.ns1 i)[x.n % 4 + 1 + j]).k = 14
 | 0,_=>⟨(qho x).1,rfl,fun j hj=>q2o x hj⟩
 | i + 1,hi=>by
  obtain ⟨h1,h2,h3⟩:=q0v x i (by omega);obtain ⟨hp,hk⟩:=h3 i (by omega);have hD:x.dat i < (x.ns1 i).length:=by rw [h2]; exact Nat.mod_lt _ (qho x).2.2.1
  have he:x.ns1 (i + 1) = (x.ns1 i).set (x.n % 4 + 1 + i) ⟨((x.ns1 i)[x.n % 4 + 1 + i]).k,[(x.dat i:Int)],0,((x.ns1 i)[x.n % 4 + 1 + i]).b⟩:=by
   simp only [Cx.ns1];rw [jkd,jkh hp];rfl
  rw [he];refine ⟨h1.set hp hk hD,by simpa using h2,fun j hj=>?_⟩;obtain ⟨q1,q2⟩:=h3 j hj;refine ⟨by simpa using q1,?_⟩;by_cases hij:i = j
  ·subst hij;simp [hk]
  ·rw [List.getElem_set_ne (by omega)];exact q2
theorem qmj:∀ {l:List Int} {t:Int},(∀ x ∈ l,x = 0)->qup l t = t
 | [],t,_=>rfl
 | x :: l,t,h=>by
  simp only [qup,h x List.mem_cons_self];simpa using qmj (t:=t) fun y hy=>h y (List.mem_cons_of_mem _ hy)
theorem qyw:∀ k:Fin 17,qk3 [] ((List.range k).map qh6) = false:=by decide +kernel
theorem q6r {x:Cx} {l:List Nd} (hl:l = x.ci.n) {i:Nat} (hi:i < l.length) (h:q1a x l i l[i]):ndE x.ci l[i] = 0:=by
 generalize l[i] = y at h;have ho:∀ v:Int,0≤v->v < l.length->qgg x.ci.n.length v = false:=fun v h1 h2=>by rw [<- hl]; simp [qgg]; omega
 unfold ndE;rcases h with ⟨h1,h2,h3,h4⟩ | ⟨h1,⟨d,h2,h3⟩,h4,h5⟩ | ⟨h0,h1,h2,h3,h4⟩ | ⟨h1,h2,h3,h4,h5,h6,h7⟩
 ·simp [h1,h2,h3,h4,ql7,kLo,kHi,tLo,tHi,qxk]
 ·have:=ho d (by omega) (by omega);simp [h1,h2,h4,h5,ql7,kLo,kHi,tLo,tHi,qxk,this]
 ·have hm:x.ci.m = [⟨[((x.p0 % x.nn:Nat):Int)],[((x.p1 % x.nn:Nat):Int),((x.p2 % x.nn:Nat):Int)],((x.p3 % x.nn:Nat):Int)⟩]:=by simp [Cx.ci,h0]
  rcases h4 with h4 | h4 <;> simp [h1,h2,h3,h4,ql7,kLo,kHi,tLo,tHi,qxk,hm]
 ·have hany:y.i.any (qgg x.ci.n.length) = false:=by
   rw [List.any_eq_false];intro v hv;have:=h4 v hv;simp [ho v this.1 (by omega)]
  rw [if_neg (by omega),if_neg (by simp [h3]),if_neg (by simp [hany]),if_neg,if_neg]
  ·have:¬ y.k = 15:=by omega
   simp [qxk,this,h6,h7]
  ·rintro ⟨hk,hq⟩;rw [List.any_eq_true] at hq;obtain ⟨v,hv,hq⟩:=hq;have:=h5 hk v hv;rw [hl,jkd] at this;simp [Ci.nd,this] at hq
theorem qvi {n:Nat} {a:Nat} (h:a < n):qgg n (a:Int) = false:=by simp [qgg]; omega
theorem qil (x:Cx):qhx x x.ci.n/\x.ci.n.length = x.nn:=by
 obtain ⟨h1,h2,-⟩:=q0v x (x.f % 3) (jki _);exact ⟨h1,h2⟩
theorem qr2 (x:Cx):shE x.ci = 0:=by
 obtain ⟨h1,h2⟩:=qil x;obtain ⟨-,-,h3,h4⟩:=qho x;have hmod:∀ a,qgg x.ci.n.length ((a % x.nn:Nat):Int) = false:=fun a=>qvi (by rw [h2]; exact Nat.mod_lt _ h3);have hmod2:∀ a:Nat,qgg x.ci.n.length ((a:Int) % (x.nn:Int)) = false:=fun a=>by have:=hmod a; simpa using this
 have ho:x.ci.o.length≤4:=by simp [Cx.ci]; omega
 have hm:x.ci.m.length≤1:=by simp only [Cx.ci]; split <;> simp
 unfold shE;rw [if_neg (by simp [qic]; omega),if_neg (by rw [h2]; simp [Cx.ci]),shN,qmj,shS]
 ·have hn:=qyw ⟨x.nn,by omega⟩;rw [if_neg (by simpa [Cx.ci] using hn),shM,qmj,shO,if_neg]
  ·simp only [Bool.not_eq_true,List.any_eq_false];intro v hv;simp only [Cx.ci,List.mem_append,List.mem_map,List.mem_singleton] at hv;rcases hv with ⟨o,-,rfl⟩ | rfl
   ·simp [hmod2 o]
   ·have:=qvi (n:=x.ci.n.length) (a:=x.nn - 1) (by omega);simp [this]
  ·intro e he;obtain ⟨m,hm,rfl⟩:=List.mem_map.1 he;simp only [Cx.ci] at hm;split at hm
   ·simp only [List.mem_singleton] at hm;subst hm;simp [mdE,wrB,hmod2]
   ·simp at hm
 ·intro e he;obtain ⟨y,hy,rfl⟩:=List.mem_map.1 he;obtain ⟨i,hi,rfl⟩:=List.getElem_of_mem hy;exact q6r rfl hi (h1 i hi)
def lvF (c:Ci):Nat->Nat->Nat
 | 0,_=>0
 | k + 1,i=>mx (lvF c k) (c.g i)
theorem qyo {c:Ci} {n:Nat} (h:∀ i,i < n->∀ x ∈ c.g i,x < i):∀ k i,i < n->i < k->lvF c k i = lvF c (i + 1) i:=by
 intro k
 induction k using Nat.strongRecOn with
 | ind k ih=>
  intro i hn hk
  cases k with
  | zero=>omega
  | succ k=>
   simp only [lvF];refine qhl fun x hx=>?_;have hlt:=h i hn x hx;rw [ih k (by omega) x (by omega) (by omega)];by_cases hik:i = k
   ·subst hik; rw [ih i (by omega) x (by omega) hlt]
   ·rw [ih i (by omega) x (by omega) hlt]
theorem qla {c:Ci} (h:∀ i,i < c.n.length->∀ x ∈ c.g i,x < i):qgk c:=
 ⟨fun i=>lvF c (i + 1) i,fun i hi=>by
  show lvF c (i + 1) i = mx (fun j=>lvF c (j + 1) j) (c.g i);simp only [lvF];refine qhl fun x hx=>?_;have hlt:=h i hi x hx;rw [qyo h i x (by omega) hlt];rfl⟩
theorem qq8 (x:Cx):∀ i,i < x.ci.n.length->∀ y ∈ x.ci.g i,y < i:=by
 intro i hi y hy;have h1:=(qil x).1 i hi;unfold Ci.g at hy;rw [x.ci.nd_get hi] at hy;split at hy
 ·rename_i hk;obtain ⟨v,hv,rfl⟩:=List.mem_map.1 hy;simp only [qdz,decide_eq_true_eq] at hk;rcases h1 with ⟨q,-⟩ | ⟨q,-⟩ | ⟨-,q,-⟩ | ⟨-,-,-,q,-⟩
  ·omega
  ·omega
  ·omega
  ·have:=q v hv; omega
 ·simp at hy
theorem q0b (x:Cx):qi5 x.ci = 0:=by
 unfold qi5;rw [if_neg (by simp [qr2 x]),if_pos (qla (qq8 x))]
theorem qxq (x:Cx):x.ci.wf:=by
 refine ⟨fun y hy=>?_,fun s hs=>?_⟩
 ·obtain ⟨i,hi,rfl⟩:=List.getElem_of_mem hy;rcases (qil x).1 i hi with ⟨q,-⟩ | ⟨q,-⟩ | ⟨-,q,-⟩ | ⟨q,q2,-⟩ <;> omega
 ·simp only [Cx.ci] at hs;obtain ⟨i,-,rfl⟩:=List.mem_map.1 hs;simp [qh6]
end
section
open Go
variable {n k:Nat} {lv:Nat->Nat} {L A B:List Nat}
theorem qpz (x:Nat):¬ qdi lv x x:=by rintro (h | ⟨-,h⟩) <;> omega
theorem qyl {x y:Nat} (h:qdi lv x y):¬ qdi lv y x:=by
 rintro (k | ⟨k,k2⟩) <;> rcases h with h | ⟨h,h2⟩ <;> omega
theorem qga:∀ {A B:List Nat},A.Pairwise (qdi lv)->B.Pairwise (qdi lv)->(∀ x,x ∈ A↔x ∈ B)->A = B
 | [],[],_,_,_=>rfl
 | [],b :: B,_,_,h=>absurd ((h b).2 List.mem_cons_self) (by simp)
 | a :: A,[],_,_,h=>absurd ((h a).1 List.mem_cons_self) (by simp)
 | a :: A,b :: B,hA,hB,h=>by
  obtain ⟨a1,a2⟩:=List.pairwise_cons.1 hA;obtain ⟨b1,b2⟩:=List.pairwise_cons.1 hB
  have hab:a = b:=by
   rcases List.mem_cons.1 ((h a).1 List.mem_cons_self) with q | q
   ·exact q
   ·rcases List.mem_cons.1 ((h b).2 List.mem_cons_self) with r | r
    ·exact r.symm
    ·exact absurd (b1 a q) (qyl (a1 b r))
  subst hab;rw [qga a2 b2 fun x=>⟨fun hx=>?_,fun hx=>?_⟩]
  ·rcases List.mem_cons.1 ((h x).1 (List.mem_cons_of_mem _ hx)) with rfl | q
   ·exact absurd (a1 x hx) (qpz x)
   ·exact q
  ·rcases List.mem_cons.1 ((h x).2 (List.mem_cons_of_mem _ hx)) with rfl | q
   ·exact absurd (b1 x hx) (qpz x)
   ·exact q
theorem qcc (h:A.Pairwise (qdi lv)):A.Nodup:=h.imp fun h e=>by subst e; exact qpz _ h
def lvL (n:Nat) (lv:Nat->Nat):Nat->List Nat
 | 0=>[]
 | k + 1=>lvL n lv k ++ (List.range n).filter fun i=>lv i == k
theorem qe8 (k x:Nat):x ∈ lvL n lv k↔x < n/\lv x < k:=by
 induction k with
 | zero=>simp [lvL]
 | succ k ih=>simp [lvL,ih]; omega
theorem qls (k:Nat):(lvL n lv k).Pairwise (qdi lv):=by
 induction k with
 | zero=>simp [lvL]
 | succ k ih=>
  simp only [lvL];refine List.pairwise_append.2 ⟨ih,?_,fun a ha b hb=>?_⟩
  ·refine ((List.pairwise_lt_range (n:=n)).filter _).imp_of_mem ?_;intro a b ha hb hab;simp at ha hb;exact .inr ⟨by omega,hab⟩
  ·have:=(qe8 (n:=n) (lv:=lv) k a).1 ha;simp at hb;exact .inl (by omega)
theorem qvk (k:Nat):(lvL n lv k).length≤n:=qhm (qcc (qls k)) fun x hx=>((qe8 k x).1 hx).1
theorem qyp (hk:n≤(lvL n lv k).length):∀ x,x < n->lv x < k:=fun x hx=>((qe8 k x).1 (qc4 (qcc (qls k)) (fun y hy=>((qe8 k y).1 hy).1) hk x hx)).2
theorem qvj (h:∀ x,x < n->lv x < n):n≤(lvL n lv n).length:=by
 have hs:=qe1 (n:=n) (R:=lvL n lv n) (qcc (qls n)) fun x hx=>((qe8 n x).1 hx).1;have h1:qek (fun _=>1) n≤qek (fun i=>if i ∈ lvL n lv n then 1 else 0) n:=qe0 fun j hj=>by rw [if_pos ((qe8 n j).2 ⟨hj,h j hj⟩)]; exact jki _
 rw [qc7,hs] at h1;omega
theorem q6m (hk:n≤(lvL n lv k).length) (hL:InR n L) (hp:L.Pairwise (qdi lv)):lvL n lv k = L:=by
 refine qga (qls k) hp fun x=>?_;have h1:=qyp hk;have h2:=qc4 (qcc hp) hL.lt (by have:=hL.len; omega);rw [qe8];exact ⟨fun h=>h2 x h.1,fun h=>⟨hL.lt x h,h1 x (hL.lt x h)⟩⟩
end
end Go.Proofs.YtbbnmiaabmbheaaGreatDoor
