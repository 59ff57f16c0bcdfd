/- Lemmas. Conditions: none. -/
import Derived.Test.YtpaopccohkldlaaGreatDoorNet4
import Derived.Test.YtpaopccohkldlaaGreatDoorNet13
import Derived.Test.YtpaopccohkldlaaGreatDoorBase18
import Derived.Test.YtpaopccohkldlaaGreatDoorNet17
set_option linter.all false
namespace Go.Proofs.YtpaopccohkldlaaGreatDoor
section
open Go
def qed (v:Nat):Nat:=if 3 < v then 2 else v
def rdN (v:Nat):Nat:=min v 2
def qjb (v:Nat):Nat:=if v≤1 then 1 - v else 2
def dec (lo hi:Nat):Nat->List Nat->Nat
 | out,[]=>out
 | out,v :: l=>if v = lo then lo else if v = hi then dec lo hi out l else dec lo hi 2 l
def qer:Nat->List Nat->Nat
 | out,[]=>out
 | out,v :: l=>if v = 0 then qer out l else if v = 1 then qer (1 - out) l else 2
def qwn (s a b:Nat):Nat:=if s = 0 then rdN a else if s = 1 then rdN b else if a = b then rdN a else 2
def q1k (e d:Nat):Nat:=if e = 0 then 3 else if e = 1 then rdN d else 2
def q1x (l:List Nat):Nat:=
 match l.find? (fun v=>v != 3) with
 | none=>3
 | some v=>if (0 ∈ l/\1 ∈ l)∨(∃ u ∈ l,qed u = 2) then 2 else v
def qdy (k:Nat) (l:List Nat):Nat:=
 if k = 1 then 0 else if k = 2 then 1 else if k = 3 then rdN (l.getD 0 0) else if k = 4 then qjb (l.getD 0 0)
 else if k = 5 then dec 0 1 1 l else if k = 6 then qjb (dec 0 1 1 l)
 else if k = 7 then dec 1 0 0 l else if k = 8 then qjb (dec 1 0 0 l)
 else if k = 9 then qer 0 l else if k = 10 then qjb (qer 0 l)
 else if k = 11 then qwn (l.getD 0 0) (l.getD 1 0) (l.getD 2 0) else if k = 12 then q1k (l.getD 0 0) (l.getD 1 0)
 else if k = 13 then q1x l else 2
def qgi (k:Nat) (l:List Nat):Nat:=if (l.length:Int) < kLo k∨kHi k < (l.length:Int) then 2 else qdy k l
theorem qxz (lo hi:Nat) (hlo:lo≤2):∀ (l:List Nat) (out:Nat),out≤2->dec lo hi out l≤2
 | [],out,h=>h
 | v :: l,out,h=>by
  rw [dec];split
  ·exact hlo
  split
  ·exact qxz lo hi hlo l out h
  ·exact qxz lo hi hlo l 2 (by omega)
theorem qs5:∀ (l:List Nat) (out:Nat),out≤2->qer out l≤2
 | [],out,h=>h
 | v :: l,out,h=>by
  rw [qer];split
  ·exact qs5 l out h
  split
  ·exact qs5 l (1 - out) (by omega)
  ·omega
end
section
open Go
variable {α β:Type}
def evl (ev:Nat->(Nat->α)->α) (cb:Nat->Bool):List Nat->(Nat->α)->(Nat->α)
 | [],f=>f
 | n :: L,f=>evl ev cb L (if cb n = true then qdb f n (ev n f) else f)
theorem qg9 (ev:Nat->(Nat->α)->α) (cb:Nat->Bool) (n:Nat):∀ (L:List Nat) (f:Nat->α),evl ev cb (L ++ [n]) f = if cb n = true then qdb (evl ev cb L f) n (ev n (evl ev cb L f)) else evl ev cb L f
 | [],_=>rfl
 | m :: L,f=>by simp only [List.cons_append,evl,qg9 ev cb n L]
def put:List Nat->List α->(Nat->α)->(Nat->α)
 | n :: ns,v :: vs,f=>put ns vs (qdb f n v)
 | _,_,f=>f
theorem que (n:Nat) (v:α):∀ (ns:List Nat) (vs:List α) (f:Nat->α),ns.length = vs.length->put (ns ++ [n]) (vs ++ [v]) f = qdb (put ns vs f) n v
 | [],[],_,_=>rfl
 | [],_ :: _,_,h=>by simp at h
 | _ :: _,[],_,h=>by simp at h
 | m :: ns,w :: vs,f,h=>by
  simp only [List.cons_append,put];exact que n v ns vs _ (by simpa using h)
theorem qjt {ns:List Nat} {vs:List α} {f:Nat->α} (i:Nat) (h:ns.length = vs.length) (hi:i < ns.length):put (ns.take (i + 1)) (vs.take (i + 1)) f = qdb (put (ns.take i) (vs.take i) f) ns[i] (vs[i]'(by omega)):=by
 rw [List.take_succ_eq_append_getElem hi,List.take_succ_eq_append_getElem (l:=vs) (by omega)];exact que _ _ _ _ _ (by simp; omega)
def jfj (g:Nat->List Nat):List Nat->List Nat->Prop
 | _,[]=>True
 | A,n :: L=>(∀ x ∈ g n,x ∈ A)/\jfj g (n :: A) L
def ids (k:Int):List Nd->Nat->List Nat
 | [],_=>[]
 | n :: r,i=>if n.k = k then i :: ids k r (i + 1) else ids k r (i + 1)
theorem qjr (k:Int):∀ (l:List Nd) (i:Nat),qmv [k] l i = qao (ids k l i)
 | [],_=>rfl
 | n :: r,i=>by
  simp only [qmv,ids,List.mem_singleton];split <;> simp [qjr k r (i + 1),qao,qaa]
theorem qnu (k:Int):∀ (l:List Nd) (i x:Nat),x ∈ ids k l i↔∃ j,∃ h:j < l.length,x = i + j/\l[j].k = k
 | [],i,x=>by simp [ids]
 | n :: r,i,x=>by
  have ih:=qnu k r (i + 1) x
  have hsh:(∃ j,∃ h:j < (n :: r).length,x = i + j/\(n :: r)[j].k = k)↔(x = i/\n.k = k)∨∃ j,∃ h:j < r.length,x = i + 1 + j/\r[j].k = k:=by
   constructor
   ·rintro ⟨j,hj,rfl,hk⟩
    cases j with
    | zero=>exact .inl ⟨rfl,hk⟩
    | succ j=>exact .inr ⟨j,by simpa using hj,by omega,hk⟩
   ·rintro (⟨rfl,hk⟩ | ⟨j,hj,rfl,hk⟩)
    ·exact ⟨0,by simp,rfl,hk⟩
    ·exact ⟨j + 1,by simpa using hj,by omega,hk⟩
  rw [hsh,<- ih];simp only [ids];split
  ·rename_i hk; simp [hk]
  ·rename_i hk; simp [hk]
def cnt (k:Int) (l:List Nd):Nat:=(ids k l 0).length
theorem qic (k:Int):∀ (l:List Nd) (i:Nat),(ids k l i).length = cnt k l
 | l,0=>rfl
 | [],i + 1=>rfl
 | n :: r,i + 1=>by
  unfold cnt;simp only [ids];split
  ·simp [qic k r (i + 2),qic k r 1]
  ·simp [qic k r (i + 2),qic k r 1]
theorem qf1 (k:Int) (n:Nd) (r:List Nd):cnt k (n :: r) = (if n.k = k then 1 else 0) + cnt k r:=by
 rw [cnt,ids];split
 ·simp [qic k r 1]; omega
 ·simp [qic k r 1]
theorem qbt (k:Int):∀ l:List Nd,cnt k l≤l.length
 | []=>by simp [cnt,ids]
 | n :: r=>by
  rw [qf1];have:=qbt k r;simp only [List.length_cons];split <;> omega
theorem qiy {k:Int} {l:List Nd} {x:Nat} (h:x ∈ ids k l 0):∃ hx:x < l.length,l[x].k = k:=by
 obtain ⟨j,hj,rfl,hk⟩:=(qnu k l 0 x).1 h;simp only [Nat.zero_add];exact ⟨hj,hk⟩
structure Pt where
 i:List Nat
 s:List Nat
def Pt.v (p:Pt):V:=.agg [.sl (p.i.map u8V) none,.sl (p.s.map u8V) none]
end
section
open Go
theorem q0x {N:Nat} {g:Nat->List Nat} {lv:Nat->Nat} (hg:∀ n,n < N->∀ x ∈ g n,x < N) (hlv:qhz N g lv):∀ (L A:List Nat),(∀ x ∈ L,x < N)->(∀ x,x < N->x ∈ A∨x ∈ L)->L.Pairwise (qdh lv)->jfj g A L
 | [],_,_,_,_=>trivial
 | n :: L,A,hl,ha,hp=>by
  obtain ⟨p1,p2⟩:=List.pairwise_cons.1 hp;have hn:=hl n List.mem_cons_self;refine ⟨fun x hx=>?_,q0x hg hlv L (n :: A) (fun x hx=>hl x (List.mem_cons_of_mem _ hx)) (fun x hx=>?_) p2⟩
  ·have h1:lv x < lv n:=by rw [hlv n hn]; exact qp6 hx
   rcases ha x (hg n hn x hx) with h | h
   ·exact h
   ·exfalso;rcases List.mem_cons.1 h with rfl | h
    ·omega
    ·rcases p1 x h with q | ⟨q,-⟩ <;> omega
  ·rcases ha x hx with h | h
   ·exact .inl (List.mem_cons_of_mem _ h)
   ·rcases List.mem_cons.1 h with rfl | h
    ·exact .inl List.mem_cons_self
    ·exact .inr h
structure Ci.good (c:Ci):Prop where
 wf:c.wf
 chk:qlv c = 0
 sh:shE c = 0
 ac:qu2 c
 m:c.m = []
 k:∀ y ∈ c.n,y.k ≠ 15
 n0:0 < c.n.length
 n1:c.n.length≤20
theorem Ci.good.val {c:Ci} (h:c.good):c.val:=q0f h.wf h.sh
structure Pt.fit (p:Pt) (c:Ci):Prop where
 i:p.i.length = cnt 0 c.n
 s:p.s.length = cnt 14 c.n
 iv:∀ x ∈ p.i,x≤3
 sv:∀ x ∈ p.s,x≤3
def qb3 (c:Ci) (n:Nat):Bool:=qgo (c.nd n).k
def ini (c:Ci) (p:Pt):Nat->Nat:=put (ids 14 c.n 0) p.s (put (ids 0 c.n 0) p.i fun _=>0)
def q1j (c:Ci) (n:Nat) (f:Nat->Nat):Nat:=qgi (c.nd n).k.toNat ((c.g n).map f)
structure Ord (c:Ci) (L:List Nat):Prop where
 r:InR c.n.length L
 p:L.Pairwise (qdh (qhy c))
noncomputable def qij (c:Ci):List Nat:=Classical.epsilon fun L=>Ord c L
theorem Ord.eq {c:Ci} {L:List Nat} (h:Ord c L):qij c = L:=by
 have h2:Ord c (qij c):=Classical.epsilon_spec (p:=fun L=>Ord c L) ⟨L,h⟩;refine qmo h2.p h.p fun x=>?_;have h1:=qey (qc4 h.p) h.r.lt (by have:=h.r.len; omega);have h3:=qey (qc4 h2.p) h2.r.lt (by have:=h2.r.len; omega);exact ⟨fun hx=>h1 x (h2.r.lt x hx),fun hx=>h3 x (h.r.lt x hx)⟩
noncomputable def qbj (c:Ci) (p:Pt):Nat->Nat:=evl (q1j c) (qb3 c) (qij c) (ini c p)
def qms (c:Ci) (f:Nat->Nat):List Nat:=c.o.map fun n=>qed (f n.toNat)
def qwp (c:Ci) (f:Nat->Nat) (n:Nat):Nat:=match (c.nd n).i with
 | [x]=>rdN (qed (f x.toNat))
 | _=>2
def qmt (c:Ci) (f:Nat->Nat):List Nat:=(ids 14 c.n 0).map (qwp c f)
def qf4 (o s:List Nat):V:=.agg [.sl (o.map u8V) (some o.length),.sl (s.map u8V) (some s.length)]
theorem Ci.good.o {c:Ci} (h:c.good) {x:Int} (hx:x ∈ c.o):0≤x/\x < c.n.length:=by
 have h1:=(qgx h.sh).2.2.2.2.2;rw [List.any_eq_false] at h1;have:=h1 x hx;simp [qre] at this;omega
theorem Ord.topo {c:Ci} {L:List Nat} (hg:c.good) (h:Ord c L):jfj c.g [] L:=by
 have hlv:qhz c.n.length c.g (qhy c):=hg.ac.lv;exact q0x hg.val.g hlv L [] h.r.lt (fun x hx=>.inr (qey (qc4 h.p) h.r.lt (by have:=h.r.len; omega) x hx)) h.p
end
section
open Go
variable {α:Type}
theorem qjj {ev:Nat->(Nat->α)->α} {cb:Nat->Bool} {n:Nat}:∀ (L:List Nat) (f:Nat->α),n ∉ L->evl ev cb L f n = f n
 | [],_,_=>rfl
 | m :: L,f,h=>by
  simp only [List.mem_cons,not_or] at h;rw [evl,qjj L _ h.2];split
  ·exact qav _ _ h.1
  ·rfl
def EvC (g:Nat->List Nat) (ev:Nat->(Nat->α)->α):Prop:=∀ n f f',(∀ x ∈ g n,f x = f' x)->f n = f' n->ev n f = ev n f'
theorem qx7 {g:Nat->List Nat} {ev:Nat->(Nat->α)->α} (hc:EvC g ev):∀ (L A:List Nat) (f:Nat->α),jfj g A L->L.Nodup->(∀ x ∈ A,x ∉ L)->
  ∀ n,n ∈ L->evl ev (fun _=>true) L f n = ev n (qdb (evl ev (fun _=>true) L f) n (f n))
 | [],_,_,_,_,_,n,hn=>by simp at hn
 | m :: L,A,f,ht,hd,ha,n,hn=>by
  obtain ⟨hmL,hd'⟩:=List.nodup_cons.1 hd;simp only [evl,if_true]
  have hA:∀ x ∈ m :: A,x ∉ L:=fun x hx=>by
   rcases List.mem_cons.1 hx with rfl | hx
   ·exact hmL
   ·exact fun h=>ha x hx (List.mem_cons_of_mem _ h)
  rcases List.mem_cons.1 hn with rfl | hnL
  ·rw [qjj L _ hmL,qa4];refine hc n _ _ (fun x hx=>?_) (by rw [qa4]);have hxA:=ht.1 x hx;have hxn:x ≠ n:=fun e=>ha x hxA (e ▸ List.mem_cons_self);rw [qav _ _ hxn,qjj L _ (hA x (List.mem_cons_of_mem _ hxA)),qav _ _ hxn]
  ·have hnm:n ≠ m:=fun e=>hmL (e ▸ hnL);have ih:=qx7 hc L (m :: A) (qdb f m (ev m f)) ht.2 hd' hA n hnL;rw [qav _ _ hnm] at ih;exact ih
theorem qx6 {ev:Nat->(Nat->α)->α} {cb:Nat->Bool}:∀ (L:List Nat) (f:Nat->α),evl ev cb L f = evl (fun n f=>if cb n = true then ev n f else f n) (fun _=>true) L f
 | [],_=>rfl
 | m :: L,f=>by
  rw [evl,evl,qx6 L];congr 1;simp only [if_true];split
  ·rfl
  ·funext j;by_cases h:j = m
   ·subst h; rw [qa4]
   ·rw [qav _ _ h]
def qfx (c:Ci) (Q:Nat->Nat->Nat->Nat) (n:Nat) (f:Nat->Nat):List Nat:=(c.nd n).i.mapIdx fun p x=>Q n p (f x.toNat)
def evM (c:Ci) (W:Nat->Nat->Nat) (Q:Nat->Nat->Nat->Nat) (n:Nat) (f:Nat->Nat):Nat:=W n (if qb3 c n = true then qgi (c.nd n).k.toNat (qfx c Q n f) else f n)
noncomputable def qi3 (c:Ci) (W:Nat->Nat->Nat) (Q:Nat->Nat->Nat->Nat) (p:Pt):Nat->Nat:=evl (evM c W Q) (fun _=>true) (qij c) (ini c p)
def idW:Nat->Nat->Nat:=fun _ v=>v
def idQ:Nat->Nat->Nat->Nat:=fun _ _ v=>v
theorem qiw {c:Ci} {n:Nat} (h:qb3 c n = true):c.g n = (c.nd n).i.map Int.toNat:=by
 unfold Ci.g;have h':qgo (c.nd n).k = true:=h;rw [if_pos h']
theorem qil {c:Ci} {Q Q':Nat->Nat->Nat->Nat} {n:Nat} {f f':Nat->Nat} (h:∀ p (hp:p < (c.nd n).i.length),Q n p (f ((c.nd n).i[p]).toNat) = Q' n p (f' ((c.nd n).i[p]).toNat)):qfx c Q n f = qfx c Q' n f':=by
 refine List.ext_getElem (by simp [qfx]) fun p h1 h2=>?_;simp only [qfx,List.getElem_mapIdx];exact h p (by simpa [qfx] using h1)
theorem jie (c:Ci) (W:Nat->Nat->Nat) (Q:Nat->Nat->Nat->Nat):EvC c.g (evM c W Q):=fun n f f' h h'=>by
 unfold evM;by_cases hc:qb3 c n = true
 ·rw [if_pos hc,if_pos hc];congr 2;refine qil fun p hp=>?_;rw [h];rw [qiw hc];exact List.mem_map_of_mem (jpk hp)
 ·rw [if_neg hc,if_neg hc,h']
theorem Ord.all {c:Ci} {L:List Nat} (h:Ord c L) {n:Nat} (hn:n < c.n.length):n ∈ L:=qey (qc4 h.p) h.r.lt (by have:=h.r.len; omega) n hn
theorem q7c {c:Ci} {W:Nat->Nat->Nat} {Q:Nat->Nat->Nat->Nat} (hb:qu2 c) (_hv:c.val) {n:Nat} (hn:n < c.n.length) (G:Nat->Nat) (v:Nat) :
  evM c W Q n (qdb G n v) = W n (if qb3 c n = true then qgi (c.nd n).k.toNat (qfx c Q n G) else v):=by
 unfold evM;by_cases hc:qb3 c n = true
 ·rw [if_pos hc,if_pos hc];congr 2;refine qil fun p hp=>?_;rw [qav];intro e;have hx:((c.nd n).i[p]).toNat ∈ c.g n:=by rw [qiw hc]; exact List.mem_map_of_mem (jpk hp)
  rw [e] at hx;have hlv:qhz c.n.length c.g (qhy c):=hb.lv;have:=hlv n hn;have:=qp6 (f:=qhy c) hx;omega
 ·rw [if_neg hc,if_neg hc,qa4]
variable {c:Ci} {W:Nat->Nat->Nat} {Q:Nat->Nat->Nat->Nat} {p:Pt}
def Sol (c:Ci) (W:Nat->Nat->Nat) (Q:Nat->Nat->Nat->Nat) (p:Pt) (G:Nat->Nat):Prop:=∀ n,n < c.n.length->G n = W n (if qb3 c n = true then qgi (c.nd n).k.toNat (qfx c Q n G) else ini c p n)
theorem qoa (hg:c.good) (ho:Ord c (qij c)):Sol c W Q p (qi3 c W Q p):=fun n hn=>by
 have h:=qx7 (jie c W Q) (qij c) [] (ini c p) (ho.topo hg) (qc4 ho.p) (by simp) n (ho.all hn);rw [q7c hg.ac hg.val hn] at h;exact h
theorem q84 {n:Nat} (h:qb3 c n = true) (f:Nat->Nat):qfx c idQ n f = (c.g n).map f:=by
 rw [qiw h,List.map_map];refine List.ext_getElem (by simp [qfx]) fun p h1 h2=>?_;simp [qfx,idQ]
theorem qqg (c:Ci) (p:Pt):qbj c p = qi3 c idW idQ p:=by
 unfold qbj qi3;rw [qx6];congr 1;funext n f;unfold evM idW;by_cases hc:qb3 c n = true
 ·rw [if_pos hc,if_pos hc,q84 hc]; rfl
 ·rw [if_neg hc,if_neg hc]
theorem q3i (hg:c.good) (ho:Ord c (qij c)):Sol c idW idQ p (qbj c p):=by rw [qqg]; exact qoa hg ho
def qf8 (c:Ci) (f:Nat->Nat):List Nat:=c.o.map fun n=>f n.toNat
def qwo (c:Ci) (Q:Nat->Nat->Nat->Nat) (f:Nat->Nat) (n:Nat):Nat:=if (qfx c Q n f).getD 0 0 = 3 then 2 else (qfx c Q n f).getD 0 0
def qf9 (c:Ci) (Q:Nat->Nat->Nat->Nat) (f:Nat->Nat):List Nat:=(ids 14 c.n 0).map (qwo c Q f)
end
end Go.Proofs.YtpaopccohkldlaaGreatDoor
