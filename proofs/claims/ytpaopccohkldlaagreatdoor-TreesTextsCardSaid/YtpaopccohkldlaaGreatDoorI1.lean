/- Lemmas. Conditions: none. -/
import Derived.Test.YtpaopccohkldlaaGreatDoorNet4
import Derived.Test.YtpaopccohkldlaaGreatDoorNet13
import Derived.Test.YtpaopccohkldlaaGreatDoorBase18
import Derived.Test.YtpaopccohkldlaaGreatDoorNet17
set_option linter.all false
namespace Go.Proofs.YtpaopccohkldlaaGreatDoor
section
open Go
def qfo (v:Nat):Nat:=if 3 < v then 2 else v
def rdN (v:Nat):Nat:=min v 2
def qs8 (v:Nat):Nat:=if v≤1 then 1 - v else 2
def dec (lo hi:Nat):Nat->List Nat->Nat
 | out,[]=>out
 | out,v :: l=>if v = lo then lo else if v = hi then dec lo hi out l else dec lo hi 2 l
def qty:Nat->List Nat->Nat
 | out,[]=>out
 | out,v :: l=>if v = 0 then qty out l else if v = 1 then qty (1 - out) l else 2
def q3b (s a b:Nat):Nat:=if s = 0 then rdN a else if s = 1 then rdN b else if a = b then rdN a else 2
def q4b (e d:Nat):Nat:=if e = 0 then 3 else if e = 1 then rdN d else 2
def q4n (l:List Nat):Nat:=
 match l.find? (fun v=>v != 3) with
 | none=>3
 | some v=>if (0 ∈ l/\1 ∈ l)∨(∃ u ∈ l,qfo u = 2) then 2 else v
def qfj (k:Nat) (l:List Nat):Nat:=
 if k = 1 then 0 else if k = 2 then 1 else if k = 3 then rdN (l.getD 0 0) else if k = 4 then qs8 (l.getD 0 0)
 else if k = 5 then dec 0 1 1 l else if k = 6 then qs8 (dec 0 1 1 l)
 else if k = 7 then dec 1 0 0 l else if k = 8 then qs8 (dec 1 0 0 l)
 else if k = 9 then qty 0 l else if k = 10 then qs8 (qty 0 l)
 else if k = 11 then q3b (l.getD 0 0) (l.getD 1 0) (l.getD 2 0) else if k = 12 then q4b (l.getD 0 0) (l.getD 1 0)
 else if k = 13 then q4n l else 2
def qye (k:Nat) (l:List Nat):Nat:=if (l.length:Int) < kLo k∨kHi k < (l.length:Int) then 2 else qfj k l
theorem qus (lo hi:Nat) (hlo:lo≤2):∀ (l:List Nat) (out:Nat),out≤2->dec lo hi out l≤2
 | [],out,h=>h
 | v :: l,out,h=>by
  rw [dec];split
  ·exact hlo
  split
  ·exact qus lo hi hlo l out h
  ·exact qus lo hi hlo l 2 (by omega)
theorem qrb:∀ (l:List Nat) (out:Nat),out≤2->qty out l≤2
 | [],out,h=>h
 | v :: l,out,h=>by
  rw [qty];split
  ·exact qrb l out h
  split
  ·exact qrb l (1 - out) (by omega)
  ·omega
end
section
open Go
variable {α β:Type}
def evl (ev:Nat->(Nat->α)->α) (cb:Nat->Bool):List Nat->(Nat->α)->(Nat->α)
 | [],f=>f
 | n :: L,f=>evl ev cb L (if cb n = true then qcn f n (ev n f) else f)
theorem qg4 (ev:Nat->(Nat->α)->α) (cb:Nat->Bool) (n:Nat):∀ (L:List Nat) (f:Nat->α),evl ev cb (L ++ [n]) f = if cb n = true then qcn (evl ev cb L f) n (ev n (evl ev cb L f)) else evl ev cb L f
 | [],_=>rfl
 | m :: L,f=>by simp only [List.cons_append,evl,qg4 ev cb n L]
def put:List Nat->List α->(Nat->α)->(Nat->α)
 | n :: ns,v :: vs,f=>put ns vs (qcn f n v)
 | _,_,f=>f
theorem qsb (n:Nat) (v:α):∀ (ns:List Nat) (vs:List α) (f:Nat->α),ns.length = vs.length->put (ns ++ [n]) (vs ++ [v]) f = qcn (put ns vs f) n v
 | [],[],_,_=>rfl
 | [],_ :: _,_,h=>by simp at h
 | _ :: _,[],_,h=>by simp at h
 | m :: ns,w :: vs,f,h=>by
  simp only [List.cons_append,put];exact qsb n v ns vs _ (by simpa using h)
theorem qiy {ns:List Nat} {vs:List α} {f:Nat->α} (i:Nat) (h:ns.length = vs.length) (hi:i < ns.length):put (ns.take (i + 1)) (vs.take (i + 1)) f = qcn (put (ns.take i) (vs.take i) f) ns[i] (vs[i]'(by omega)):=by
 rw [List.take_succ_eq_append_getElem hi,List.take_succ_eq_append_getElem (l:=vs) (by omega)];exact qsb _ _ _ _ _ (by simp; omega)
def jbk (g:Nat->List Nat):List Nat->List Nat->Prop
 | _,[]=>True
 | A,n :: L=>(∀ x ∈ g n,x ∈ A)/\jbk g (n :: A) L
def ids (k:Int):List Nd->Nat->List Nat
 | [],_=>[]
 | n :: r,i=>if n.k = k then i :: ids k r (i + 1) else ids k r (i + 1)
theorem qix (k:Int):∀ (l:List Nd) (i:Nat),qnk [k] l i = qae (ids k l i)
 | [],_=>rfl
 | n :: r,i=>by
  simp only [qnk,ids,List.mem_singleton];split <;> simp [qix k r (i + 1),qae,qaa]
theorem qp6 (k:Int):∀ (l:List Nd) (i x:Nat),x ∈ ids k l i↔∃ j,∃ h:j < l.length,x = i + j/\l[j].k = k
 | [],i,x=>by simp [ids]
 | n :: r,i,x=>by
  have ih:=qp6 k r (i + 1) x
  have hsh:(∃ j,∃ h:j < (n :: r).length,x = i + j/\(n :: r)[j].k = k)↔(x = i/\n.k = k)∨∃ j,∃ h:j < r.length,x = i + 1 + j/\r[j].k = k:=by
   constructor
   ·rintro ⟨j,hj,rfl,hk⟩
    cases j with
    | zero=>exact .inl ⟨rfl,hk⟩
    | succ j=>exact .inr ⟨j,by simpa using hj,by omega,hk⟩
   ·rintro (⟨rfl,hk⟩ | ⟨j,hj,rfl,hk⟩)
    ·exact ⟨0,by simp,rfl,hk⟩
    ·exact ⟨j + 1,by simpa using hj,by omega,hk⟩
  rw [hsh,<- ih];simp only [ids];split
  ·rename_i hk; simp [hk]
  ·rename_i hk; simp [hk]
def cnt (k:Int) (l:List Nd):Nat:=(ids k l 0).length
theorem qhx (k:Int):∀ (l:List Nd) (i:Nat),(ids k l i).length = cnt k l
 | l,0=>rfl
 | [],i + 1=>rfl
 | n :: r,i + 1=>by
  unfold cnt;simp only [ids];split
  ·simp [qhx k r (i + 2),qhx k r 1]
  ·simp [qhx k r (i + 2),qhx k r 1]
theorem qf4 (k:Int) (n:Nd) (r:List Nd):cnt k (n :: r) = (if n.k = k then 1 else 0) + cnt k r:=by
 rw [cnt,ids];split
 ·simp [qhx k r 1]; omega
 ·simp [qhx k r 1]
theorem qb2 (k:Int):∀ l:List Nd,cnt k l≤l.length
 | []=>by simp [cnt,ids]
 | n :: r=>by
  rw [qf4];have:=qb2 k r;simp only [List.length_cons];split <;> omega
theorem qlq {k:Int} {l:List Nd} {x:Nat} (h:x ∈ ids k l 0):∃ hx:x < l.length,l[x].k = k:=by
 obtain ⟨j,hj,rfl,hk⟩:=(qp6 k l 0 x).1 h;simp only [Nat.zero_add];exact ⟨hj,hk⟩
structure Pt where
 i:List Nat
 s:List Nat
def Pt.v (p:Pt):V:=.agg [.sl (p.i.map u8V) none,.sl (p.s.map u8V) none]
end
section
open Go
theorem qxm {N:Nat} {g:Nat->List Nat} {lv:Nat->Nat} (hg:∀ n,n < N->∀ x ∈ g n,x < N) (hlv:qiq N g lv):∀ (L A:List Nat),(∀ x ∈ L,x < N)->(∀ x,x < N->x ∈ A∨x ∈ L)->L.Pairwise (qdg lv)->jbk g A L
 | [],_,_,_,_=>trivial
 | n :: L,A,hl,ha,hp=>by
  obtain ⟨p1,p2⟩:=List.pairwise_cons.1 hp;have hn:=hl n List.mem_cons_self;refine ⟨fun x hx=>?_,qxm hg hlv L (n :: A) (fun x hx=>hl x (List.mem_cons_of_mem _ hx)) (fun x hx=>?_) p2⟩
  ·have h1:lv x < lv n:=by rw [hlv n hn]; exact qs0 hx
   rcases ha x (hg n hn x hx) with h | h
   ·exact h
   ·exfalso;rcases List.mem_cons.1 h with rfl | h
    ·omega
    ·rcases p1 x h with q | ⟨q,-⟩ <;> omega
  ·rcases ha x hx with h | h
   ·exact .inl (List.mem_cons_of_mem _ h)
   ·rcases List.mem_cons.1 h with rfl | h
    ·exact .inl List.mem_cons_self
    ·exact .inr h
structure Ci.good (c:Ci):Prop where
 wf:c.wf
 chk:qri c = 0
 sh:shE c = 0
 ac:qyb c
 m:c.m = []
 k:∀ y ∈ c.n,y.k ≠ 15
 n0:0 < c.n.length
 n1:c.n.length≤20
theorem Ci.good.val {c:Ci} (h:c.good):c.val:=q1k h.wf h.sh
structure Pt.fit (p:Pt) (c:Ci):Prop where
 i:p.i.length = cnt 0 c.n
 s:p.s.length = cnt 14 c.n
 iv:∀ x ∈ p.i,x≤3
 sv:∀ x ∈ p.s,x≤3
def qcv (c:Ci) (n:Nat):Bool:=qen (c.nd n).k
def ini (c:Ci) (p:Pt):Nat->Nat:=put (ids 14 c.n 0) p.s (put (ids 0 c.n 0) p.i fun _=>0)
def qzq (c:Ci) (n:Nat) (f:Nat->Nat):Nat:=qye (c.nd n).k.toNat ((c.g n).map f)
structure Ord (c:Ci) (L:List Nat):Prop where
 r:InR c.n.length L
 p:L.Pairwise (qdg (qqf c))
noncomputable def qpl (c:Ci):List Nat:=Classical.epsilon fun L=>Ord c L
theorem Ord.eq {c:Ci} {L:List Nat} (h:Ord c L):qpl c = L:=by
 have h2:Ord c (qpl c):=Classical.epsilon_spec (p:=fun L=>Ord c L) ⟨L,h⟩;refine qlt h2.p h.p fun x=>?_;have h1:=qes (qdf h.p) h.r.lt (by have:=h.r.len; omega);have h3:=qes (qdf h2.p) h2.r.lt (by have:=h2.r.len; omega);exact ⟨fun hx=>h1 x (h2.r.lt x hx),fun hx=>h3 x (h.r.lt x hx)⟩
noncomputable def qgt (c:Ci) (p:Pt):Nat->Nat:=evl (qzq c) (qcv c) (qpl c) (ini c p)
def qqk (c:Ci) (f:Nat->Nat):List Nat:=c.o.map fun n=>qfo (f n.toNat)
def jae (c:Ci) (f:Nat->Nat) (n:Nat):Nat:=match (c.nd n).i with
 | [x]=>rdN (qfo (f x.toNat))
 | _=>2
def qql (c:Ci) (f:Nat->Nat):List Nat:=(ids 14 c.n 0).map (jae c f)
def qfl (o s:List Nat):V:=.agg [.sl (o.map u8V) (some o.length),.sl (s.map u8V) (some s.length)]
theorem Ci.good.o {c:Ci} (h:c.good) {x:Int} (hx:x ∈ c.o):0≤x/\x < c.n.length:=by
 have h1:=(qgw h.sh).2.2.2.2.2;rw [List.any_eq_false] at h1;have:=h1 x hx;simp [qj1] at this;omega
theorem Ord.topo {c:Ci} {L:List Nat} (hg:c.good) (h:Ord c L):jbk c.g [] L:=by
 have hlv:qiq c.n.length c.g (qqf c):=hg.ac.lv;exact qxm hg.val.g hlv L [] h.r.lt (fun x hx=>.inr (qes (qdf h.p) h.r.lt (by have:=h.r.len; omega) x hx)) h.p
end
section
open Go
variable {α:Type}
theorem qrq {ev:Nat->(Nat->α)->α} {cb:Nat->Bool} {n:Nat}:∀ (L:List Nat) (f:Nat->α),n ∉ L->evl ev cb L f n = f n
 | [],_,_=>rfl
 | m :: L,f,h=>by
  simp only [List.mem_cons,not_or] at h;rw [evl,qrq L _ h.2];split
  ·exact qa1 _ _ h.1
  ·rfl
def qnl (c:Ci) (Q:Nat->Nat->Nat->Nat) (n:Nat) (f:Nat->Nat):List Nat:=(c.nd n).i.mapIdx fun p x=>Q n p (f x.toNat)
def evM (c:Ci) (W:Nat->Nat->Nat) (Q:Nat->Nat->Nat->Nat) (n:Nat) (f:Nat->Nat):Nat:=W n (if qcv c n = true then qye (c.nd n).k.toNat (qnl c Q n f) else f n)
noncomputable def qnj (c:Ci) (W:Nat->Nat->Nat) (Q:Nat->Nat->Nat->Nat) (p:Pt):Nat->Nat:=evl (evM c W Q) (fun _=>true) (qpl c) (ini c p)
def idW:Nat->Nat->Nat:=fun _ v=>v
def idQ:Nat->Nat->Nat->Nat:=fun _ _ v=>v
theorem q66 {c:Ci} {n:Nat} (h:qcv c n = true):c.g n = (c.nd n).i.map Int.toNat:=by
 unfold Ci.g;have h':qen (c.nd n).k = true:=h;rw [if_pos h']
theorem Ord.all {c:Ci} {L:List Nat} (h:Ord c L) {n:Nat} (hn:n < c.n.length):n ∈ L:=qes (qdf h.p) h.r.lt (by have:=h.r.len; omega) n hn
variable {c:Ci} {W:Nat->Nat->Nat} {Q:Nat->Nat->Nat->Nat} {p:Pt}
def qjz (c:Ci) (f:Nat->Nat):List Nat:=c.o.map fun n=>f n.toNat
def jad (c:Ci) (Q:Nat->Nat->Nat->Nat) (f:Nat->Nat) (n:Nat):Nat:=if (qnl c Q n f).getD 0 0 = 3 then 2 else (qnl c Q n f).getD 0 0
def qj0 (c:Ci) (Q:Nat->Nat->Nat->Nat) (f:Nat->Nat):List Nat:=(ids 14 c.n 0).map (jad c Q f)
end
end Go.Proofs.YtpaopccohkldlaaGreatDoor
