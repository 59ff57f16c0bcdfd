/- Lemmas. Conditions: none. -/
import Derived.Test.YtpaopccohkldlaaGreatDoorNet4
import Derived.Test.YtpaopccohkldlaaGreatDoorNet13
import Derived.Test.YtpaopccohkldlaaGreatDoorBase18
import Derived.Test.YtpaopccohkldlaaGreatDoorNet17
set_option linter.all false
namespace Go.Proofs.YtpaopccohkldlaaGreatDoor
section
open Go
def qe3 (v:Nat):Nat:=if 3 < v then 2 else v
def rdN (v:Nat):Nat:=min v 2
def qrw (v:Nat):Nat:=if v≤1 then 1 - v else 2
def dec (lo hi:Nat):Nat->List Nat->Nat
 | out,[]=>out
 | out,v :: l=>if v = lo then lo else if v = hi then dec lo hi out l else dec lo hi 2 l
def qsm:Nat->List Nat->Nat
 | out,[]=>out
 | out,v :: l=>if v = 0 then qsm out l else if v = 1 then qsm (1 - out) l else 2
def q1g (s a b:Nat):Nat:=if s = 0 then rdN a else if s = 1 then rdN b else if a = b then rdN a else 2
def q2d (e d:Nat):Nat:=if e = 0 then 3 else if e = 1 then rdN d else 2
def q2p (l:List Nat):Nat:=
 match l.find? (fun v=>v != 3) with
 | none=>3
 | some v=>if (0 ∈ l/\1 ∈ l)∨(∃ u ∈ l,qe3 u = 2) then 2 else v
def qe0 (k:Nat) (l:List Nat):Nat:=
 if k = 1 then 0 else if k = 2 then 1 else if k = 3 then rdN (l.getD 0 0) else if k = 4 then qrw (l.getD 0 0)
 else if k = 5 then dec 0 1 1 l else if k = 6 then qrw (dec 0 1 1 l)
 else if k = 7 then dec 1 0 0 l else if k = 8 then qrw (dec 1 0 0 l)
 else if k = 9 then qsm 0 l else if k = 10 then qrw (qsm 0 l)
 else if k = 11 then q1g (l.getD 0 0) (l.getD 1 0) (l.getD 2 0) else if k = 12 then q2d (l.getD 0 0) (l.getD 1 0)
 else if k = 13 then q2p l else 2
def qwo (k:Nat) (l:List Nat):Nat:=if (l.length:Int) < kLo k∨kHi k < (l.length:Int) then 2 else qe0 k l
theorem qte (lo hi:Nat) (hlo:lo≤2):∀ (l:List Nat) (out:Nat),out≤2->dec lo hi out l≤2
 | [],out,h=>h
 | v :: l,out,h=>by
  rw [dec];split
  ·exact hlo
  split
  ·exact qte lo hi hlo l out h
  ·exact qte lo hi hlo l 2 (by omega)
theorem qpy:∀ (l:List Nat) (out:Nat),out≤2->qsm out l≤2
 | [],out,h=>h
 | v :: l,out,h=>by
  rw [qsm];split
  ·exact qpy l out h
  split
  ·exact qpy l (1 - out) (by omega)
  ·omega
end
section
open Go
variable {α β:Type}
def evl (ev:Nat->(Nat->α)->α) (cb:Nat->Bool):List Nat->(Nat->α)->(Nat->α)
 | [],f=>f
 | n :: L,f=>evl ev cb L (if cb n = true then qbs f n (ev n f) else f)
theorem qh1 (ev:Nat->(Nat->α)->α) (cb:Nat->Bool) (n:Nat):∀ (L:List Nat) (f:Nat->α),evl ev cb (L ++ [n]) f = if cb n = true then qbs (evl ev cb L f) n (ev n (evl ev cb L f)) else evl ev cb L f
 | [],_=>rfl
 | m :: L,f=>by simp only [List.cons_append,evl,qh1 ev cb n L]
def put:List Nat->List α->(Nat->α)->(Nat->α)
 | n :: ns,v :: vs,f=>put ns vs (qbs f n v)
 | _,_,f=>f
theorem qqx (n:Nat) (v:α):∀ (ns:List Nat) (vs:List α) (f:Nat->α),ns.length = vs.length->put (ns ++ [n]) (vs ++ [v]) f = qbs (put ns vs f) n v
 | [],[],_,_=>rfl
 | [],_ :: _,_,h=>by simp at h
 | _ :: _,[],_,h=>by simp at h
 | m :: ns,w :: vs,f,h=>by
  simp only [List.cons_append,put];exact qqx n v ns vs _ (by simpa using h)
theorem qh7 {ns:List Nat} {vs:List α} {f:Nat->α} (i:Nat) (h:ns.length = vs.length) (hi:i < ns.length):put (ns.take (i + 1)) (vs.take (i + 1)) f = qbs (put (ns.take i) (vs.take i) f) ns[i] (vs[i]'(by omega)):=by
 rw [List.take_succ_eq_append_getElem hi,List.take_succ_eq_append_getElem (l:=vs) (by omega)];exact qqx _ _ _ _ _ (by simp; omega)
def q9k (g:Nat->List Nat):List Nat->List Nat->Prop
 | _,[]=>True
 | A,n :: L=>(∀ x ∈ g n,x ∈ A)/\q9k g (n :: A) L
def ids (k:Int):List Nd->Nat->List Nat
 | [],_=>[]
 | n :: r,i=>if n.k = k then i :: ids k r (i + 1) else ids k r (i + 1)
theorem qh6 (k:Int):∀ (l:List Nd) (i:Nat),qmh [k] l i = qak (ids k l i)
 | [],_=>rfl
 | n :: r,i=>by
  simp only [qmh,ids,List.mem_singleton];split <;> simp [qh6 k r (i + 1),qak,qab]
theorem qt3 (k:Int):∀ (l:List Nd) (i x:Nat),x ∈ ids k l i↔∃ j,∃ h:j < l.length,x = i + j/\l[j].k = k
 | [],i,x=>by simp [ids]
 | n :: r,i,x=>by
  have ih:=qt3 k r (i + 1) x
  have hsh:(∃ j,∃ h:j < (n :: r).length,x = i + j/\(n :: r)[j].k = k)↔(x = i/\n.k = k)∨∃ j,∃ h:j < r.length,x = i + 1 + j/\r[j].k = k:=by
   constructor
   ·rintro ⟨j,hj,rfl,hk⟩
    cases j with
    | zero=>exact .inl ⟨rfl,hk⟩
    | succ j=>exact .inr ⟨j,by simpa using hj,by omega,hk⟩
   ·rintro (⟨rfl,hk⟩ | ⟨j,hj,rfl,hk⟩)
    ·exact ⟨0,by simp,rfl,hk⟩
    ·exact ⟨j + 1,by simpa using hj,by omega,hk⟩
  rw [hsh,<- ih];simp only [ids];split
  ·rename_i hk; simp [hk]
  ·rename_i hk; simp [hk]
def cnt (k:Int) (l:List Nd):Nat:=(ids k l 0).length
theorem qg6 (k:Int):∀ (l:List Nd) (i:Nat),(ids k l i).length = cnt k l
 | l,0=>rfl
 | [],i + 1=>rfl
 | n :: r,i + 1=>by
  unfold cnt;simp only [ids];split
  ·simp [qg6 k r (i + 2),qg6 k r 1]
  ·simp [qg6 k r (i + 2),qg6 k r 1]
theorem qw4 (k:Int) (n:Nd) (r:List Nd):cnt k (n :: r) = (if n.k = k then 1 else 0) + cnt k r:=by
 rw [cnt,ids];split
 ·simp [qg6 k r 1]; omega
 ·simp [qg6 k r 1]
theorem qcd (k:Int):∀ l:List Nd,cnt k l≤l.length
 | []=>by simp [cnt,ids]
 | n :: r=>by
  rw [qw4];have:=qcd k r;simp only [List.length_cons];split <;> omega
theorem qks {k:Int} {l:List Nd} {x:Nat} (h:x ∈ ids k l 0):∃ hx:x < l.length,l[x].k = k:=by
 obtain ⟨j,hj,rfl,hk⟩:=(qt3 k l 0 x).1 h;simp only [Nat.zero_add];exact ⟨hj,hk⟩
structure Pt where
 i:List Nat
 s:List Nat
def Pt.v (p:Pt):V:=.agg [.sl (p.i.map u8V) none,.sl (p.s.map u8V) none]
end
section
open Go
theorem qv0 {N:Nat} {g:Nat->List Nat} {lv:Nat->Nat} (hg:∀ n,n < N->∀ x ∈ g n,x < N) (hlv:qhy N g lv):∀ (L A:List Nat),(∀ x ∈ L,x < N)->(∀ x,x < N->x ∈ A∨x ∈ L)->L.Pairwise (qc4 lv)->q9k g A L
 | [],_,_,_,_=>trivial
 | n :: L,A,hl,ha,hp=>by
  obtain ⟨p1,p2⟩:=List.pairwise_cons.1 hp;have hn:=hl n List.mem_cons_self;refine ⟨fun x hx=>?_,qv0 hg hlv L (n :: A) (fun x hx=>hl x (List.mem_cons_of_mem _ hx)) (fun x hx=>?_) p2⟩
  ·have h1:lv x < lv n:=by rw [hlv n hn]; exact qrn hx
   rcases ha x (hg n hn x hx) with h | h
   ·exact h
   ·exfalso;rcases List.mem_cons.1 h with rfl | h
    ·omega
    ·rcases p1 x h with q | ⟨q,-⟩ <;> omega
  ·rcases ha x hx with h | h
   ·exact .inl (List.mem_cons_of_mem _ h)
   ·rcases List.mem_cons.1 h with rfl | h
    ·exact .inl List.mem_cons_self
    ·exact .inr h
structure Ci.good (c:Ci):Prop where
 wf:c.wf
 chk:qsn c = 0
 sh:shE c = 0
 ac:qwl c
 m:c.m = []
 k:∀ y ∈ c.n,y.k ≠ 15
 n0:0 < c.n.length
 n1:c.n.length≤20
theorem Ci.good.val {c:Ci} (h:c.good):c.val:=qzu h.wf h.sh
structure Pt.fit (p:Pt) (c:Ci):Prop where
 i:p.i.length = cnt 0 c.n
 s:p.s.length = cnt 14 c.n
 iv:∀ x ∈ p.i,x≤3
 sv:∀ x ∈ p.s,x≤3
def qdc (c:Ci) (n:Nat):Bool:=qgc (c.nd n).k
def ini (c:Ci) (p:Pt):Nat->Nat:=put (ids 14 c.n 0) p.s (put (ids 0 c.n 0) p.i fun _=>0)
def qxv (c:Ci) (n:Nat) (f:Nat->Nat):Nat:=qwo (c.nd n).k.toNat ((c.g n).map f)
structure Ord (c:Ci) (L:List Nat):Prop where
 r:InR c.n.length L
 p:L.Pairwise (qc4 (qo9 c))
noncomputable def qqv (c:Ci):List Nat:=Classical.epsilon fun L=>Ord c L
theorem Ord.eq {c:Ci} {L:List Nat} (h:Ord c L):qqv c = L:=by
 have h2:Ord c (qqv c):=Classical.epsilon_spec (p:=fun L=>Ord c L) ⟨L,h⟩;refine qkv h2.p h.p fun x=>?_;have h1:=qed (qdo h.p) h.r.lt (by have:=h.r.len; omega);have h3:=qed (qdo h2.p) h2.r.lt (by have:=h2.r.len; omega);exact ⟨fun hx=>h1 x (h2.r.lt x hx),fun hx=>h3 x (h.r.lt x hx)⟩
noncomputable def qgz (c:Ci) (p:Pt):Nat->Nat:=evl (qxv c) (qdc c) (qqv c) (ini c p)
def qqs (c:Ci) (f:Nat->Nat):List Nat:=c.o.map fun n=>qe3 (f n.toNat)
def q8e (c:Ci) (f:Nat->Nat) (n:Nat):Nat:=match (c.nd n).i with
 | [x]=>rdN (qe3 (f x.toNat))
 | _=>2
def qqt (c:Ci) (f:Nat->Nat):List Nat:=(ids 14 c.n 0).map (q8e c f)
def qfq (o s:List Nat):V:=.agg [.sl (o.map u8V) (some o.length),.sl (s.map u8V) (some s.length)]
theorem Ci.good.o {c:Ci} (h:c.good) {x:Int} (hx:x ∈ c.o):0≤x/\x < c.n.length:=by
 have h1:=(qhd h.sh).2.2.2.2.2;rw [List.any_eq_false] at h1;have:=h1 x hx;simp [qok] at this;omega
theorem Ord.topo {c:Ci} {L:List Nat} (hg:c.good) (h:Ord c L):q9k c.g [] L:=by
 have hlv:qhy c.n.length c.g (qo9 c):=hg.ac.lv;exact qv0 hg.val.g hlv L [] h.r.lt (fun x hx=>.inr (qed (qdo h.p) h.r.lt (by have:=h.r.len; omega) x hx)) h.p
end
section
open Go
variable {α:Type}
theorem qqc {ev:Nat->(Nat->α)->α} {cb:Nat->Bool} {n:Nat}:∀ (L:List Nat) (f:Nat->α),n ∉ L->evl ev cb L f n = f n
 | [],_,_=>rfl
 | m :: L,f,h=>by
  simp only [List.mem_cons,not_or] at h;rw [evl,qqc L _ h.2];split
  ·exact qaw _ _ h.1
  ·rfl
def qmi (c:Ci) (Q:Nat->Nat->Nat->Nat) (n:Nat) (f:Nat->Nat):List Nat:=(c.nd n).i.mapIdx fun p x=>Q n p (f x.toNat)
def evM (c:Ci) (W:Nat->Nat->Nat) (Q:Nat->Nat->Nat->Nat) (n:Nat) (f:Nat->Nat):Nat:=W n (if qdc c n = true then qwo (c.nd n).k.toNat (qmi c Q n f) else f n)
noncomputable def qmg (c:Ci) (W:Nat->Nat->Nat) (Q:Nat->Nat->Nat->Nat) (p:Pt):Nat->Nat:=evl (evM c W Q) (fun _=>true) (qqv c) (ini c p)
def idW:Nat->Nat->Nat:=fun _ v=>v
def idQ:Nat->Nat->Nat->Nat:=fun _ _ v=>v
theorem q44 {c:Ci} {n:Nat} (h:qdc c n = true):c.g n = (c.nd n).i.map Int.toNat:=by
 unfold Ci.g;have h':qgc (c.nd n).k = true:=h;rw [if_pos h']
theorem Ord.all {c:Ci} {L:List Nat} (h:Ord c L) {n:Nat} (hn:n < c.n.length):n ∈ L:=qed (qdo h.p) h.r.lt (by have:=h.r.len; omega) n hn
variable {c:Ci} {W:Nat->Nat->Nat} {Q:Nat->Nat->Nat->Nat} {p:Pt}
def qj4 (c:Ci) (f:Nat->Nat):List Nat:=c.o.map fun n=>f n.toNat
def q8d (c:Ci) (Q:Nat->Nat->Nat->Nat) (f:Nat->Nat) (n:Nat):Nat:=if (qmi c Q n f).getD 0 0 = 3 then 2 else (qmi c Q n f).getD 0 0
def qj5 (c:Ci) (Q:Nat->Nat->Nat->Nat) (f:Nat->Nat):List Nat:=(ids 14 c.n 0).map (q8d c Q f)
end
end Go.Proofs.YtpaopccohkldlaaGreatDoor
