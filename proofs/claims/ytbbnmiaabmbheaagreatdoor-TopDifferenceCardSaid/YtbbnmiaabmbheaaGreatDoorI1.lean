/- Lemmas. Conditions: none. -/
import Derived.Test.YtbbnmiaabmbheaaGreatDoorNet4
import Derived.Test.YtbbnmiaabmbheaaGreatDoorNet13
import Derived.Test.YtbbnmiaabmbheaaGreatDoorBase18
import Derived.Test.YtbbnmiaabmbheaaGreatDoorNet17
set_option linter.all false
namespace Go.Proofs.YtbbnmiaabmbheaaGreatDoor
section
open Go
def qde (v:Nat):Nat:=if 3 < v then 2 else v
def rdN (v:Nat):Nat:=min v 2
def qs3 (v:Nat):Nat:=if v≤1 then 1 - v else 2
def dec (lo hi:Nat):Nat->List Nat->Nat
 | out,[]=>out
 | out,v :: l=>if v = lo then lo else if v = hi then dec lo hi out l else dec lo hi 2 l
def qtr:Nat->List Nat->Nat
 | out,[]=>out
 | out,v :: l=>if v = 0 then qtr out l else if v = 1 then qtr (1 - out) l else 2
def q2j (s a b:Nat):Nat:=if s = 0 then rdN a else if s = 1 then rdN b else if a = b then rdN a else 2
def q3n (e d:Nat):Nat:=if e = 0 then 3 else if e = 1 then rdN d else 2
def q3u (l:List Nat):Nat:=
 match l.find? (fun v=>v != 3) with
 | none=>3
 | some v=>if (0 ∈ l/\1 ∈ l)∨(∃ u ∈ l,qde u = 2) then 2 else v
def qfl (k:Nat) (l:List Nat):Nat:=
 if k = 1 then 0 else if k = 2 then 1 else if k = 3 then rdN (l.getD 0 0) else if k = 4 then qs3 (l.getD 0 0)
 else if k = 5 then dec 0 1 1 l else if k = 6 then qs3 (dec 0 1 1 l)
 else if k = 7 then dec 1 0 0 l else if k = 8 then qs3 (dec 1 0 0 l)
 else if k = 9 then qtr 0 l else if k = 10 then qs3 (qtr 0 l)
 else if k = 11 then q2j (l.getD 0 0) (l.getD 1 0) (l.getD 2 0) else if k = 12 then q3n (l.getD 0 0) (l.getD 1 0)
 else if k = 13 then q3u l else 2
def qpg (k:Nat) (l:List Nat):Nat:=if (l.length:Int) < kLo k∨kHi k < (l.length:Int) then 2 else qfl k l
theorem que (lo hi:Nat) (hlo:lo≤2):∀ (l:List Nat) (out:Nat),out≤2->dec lo hi out l≤2
 | [],out,h=>h
 | v :: l,out,h=>by
  rw [dec];split
  ·exact hlo
  split
  ·exact que lo hi hlo l out h
  ·exact que lo hi hlo l 2 (by omega)
theorem qqx:∀ (l:List Nat) (out:Nat),out≤2->qtr out l≤2
 | [],out,h=>h
 | v :: l,out,h=>by
  rw [qtr];split
  ·exact qqx l out h
  split
  ·exact qqx l (1 - out) (by omega)
  ·omega
end
section
open Go
variable {α β:Type}
def evl (ev:Nat->(Nat->α)->α) (cb:Nat->Bool):List Nat->(Nat->α)->(Nat->α)
 | [],f=>f
 | n :: L,f=>evl ev cb L (if cb n = true then qc0 f n (ev n f) else f)
theorem qrd (ev:Nat->(Nat->α)->α) (cb:Nat->Bool) (n:Nat):∀ (L:List Nat) (f:Nat->α),evl ev cb (L ++ [n]) f = if cb n = true then qc0 (evl ev cb L f) n (ev n (evl ev cb L f)) else evl ev cb L f
 | [],_=>rfl
 | m :: L,f=>by simp only [List.cons_append,evl,qrd ev cb n L]
def put:List Nat->List α->(Nat->α)->(Nat->α)
 | n :: ns,v :: vs,f=>put ns vs (qc0 f n v)
 | _,_,f=>f
theorem qrv (n:Nat) (v:α):∀ (ns:List Nat) (vs:List α) (f:Nat->α),ns.length = vs.length->put (ns ++ [n]) (vs ++ [v]) f = qc0 (put ns vs f) n v
 | [],[],_,_=>rfl
 | [],_ :: _,_,h=>by simp at h
 | _ :: _,[],_,h=>by simp at h
 | m :: ns,w :: vs,f,h=>by
  simp only [List.cons_append,put];exact qrv n v ns vs _ (by simpa using h)
theorem qrw {ns:List Nat} {vs:List α} {f:Nat->α} (i:Nat) (h:ns.length = vs.length) (hi:i < ns.length):put (ns.take (i + 1)) (vs.take (i + 1)) f = qc0 (put (ns.take i) (vs.take i) f) ns[i] (vs[i]'(by omega)):=by
 rw [List.take_succ_eq_append_getElem hi,List.take_succ_eq_append_getElem (l:=vs) (by omega)];exact qrv _ _ _ _ _ (by simp; omega)
def q9j (g:Nat->List Nat):List Nat->List Nat->Prop
 | _,[]=>True
 | A,n :: L=>(∀ x ∈ g n,x ∈ A)/\q9j g (n :: A) L
def ids (k:Int):List Nd->Nat->List Nat
 | [],_=>[]
 | n :: r,i=>if n.k = k then i :: ids k r (i + 1) else ids k r (i + 1)
theorem qje (k:Int):∀ (l:List Nd) (i:Nat),qlv [k] l i = qaf (ids k l i)
 | [],_=>rfl
 | n :: r,i=>by
  simp only [qlv,ids,List.mem_singleton];split <;> simp [qje k r (i + 1),qaf,qab]
theorem qu4 (k:Int):∀ (l:List Nd) (i x:Nat),x ∈ ids k l i↔∃ j,∃ h:j < l.length,x = i + j/\l[j].k = k
 | [],i,x=>by simp [ids]
 | n :: r,i,x=>by
  have ih:=qu4 k r (i + 1) x
  have hsh:(∃ j,∃ h:j < (n :: r).length,x = i + j/\(n :: r)[j].k = k)↔(x = i/\n.k = k)∨∃ j,∃ h:j < r.length,x = i + 1 + j/\r[j].k = k:=by
   constructor
   ·rintro ⟨j,hj,rfl,hk⟩
    cases j with
    | zero=>exact .inl ⟨rfl,hk⟩
    | succ j=>exact .inr ⟨j,by simpa using hj,by omega,hk⟩
   ·rintro (⟨rfl,hk⟩ | ⟨j,hj,rfl,hk⟩)
    ·exact ⟨0,by simp,rfl,hk⟩
    ·exact ⟨j + 1,by simpa using hj,by omega,hk⟩
  rw [hsh,<- ih];simp only [ids];split
  ·rename_i hk; simp [hk]
  ·rename_i hk; simp [hk]
def cnt (k:Int) (l:List Nd):Nat:=(ids k l 0).length
theorem qh4 (k:Int):∀ (l:List Nd) (i:Nat),(ids k l i).length = cnt k l
 | l,0=>rfl
 | [],i + 1=>rfl
 | n :: r,i + 1=>by
  unfold cnt;simp only [ids];split
  ·simp [qh4 k r (i + 2),qh4 k r 1]
  ·simp [qh4 k r (i + 2),qh4 k r 1]
theorem qi6 (k:Int) (n:Nd) (r:List Nd):cnt k (n :: r) = (if n.k = k then 1 else 0) + cnt k r:=by
 rw [cnt,ids];split
 ·simp [qh4 k r 1]; omega
 ·simp [qh4 k r 1]
theorem qg8 (k:Int):∀ l:List Nd,cnt k l≤l.length
 | []=>by simp [cnt,ids]
 | n :: r=>by
  rw [qi6];have:=qg8 k r;simp only [List.length_cons];split <;> omega
theorem qrl {k:Int} {l:List Nd} {x:Nat} (h:x ∈ ids k l 0):∃ hx:x < l.length,l[x].k = k:=by
 obtain ⟨j,hj,rfl,hk⟩:=(qu4 k l 0 x).1 h;simp only [Nat.zero_add];exact ⟨hj,hk⟩
structure Pt where
 i:List Nat
 s:List Nat
def Pt.v (p:Pt):V:=.agg [.sl (p.i.map u8V) none,.sl (p.s.map u8V) none]
end
section
open Go
theorem qw0 {N:Nat} {g:Nat->List Nat} {lv:Nat->Nat} (hg:∀ n,n < N->∀ x ∈ g n,x < N) (hlv:qkt N g lv):∀ (L A:List Nat),(∀ x ∈ L,x < N)->(∀ x,x < N->x ∈ A∨x ∈ L)->L.Pairwise (qdi lv)->q9j g A L
 | [],_,_,_,_=>trivial
 | n :: L,A,hl,ha,hp=>by
  obtain ⟨p1,p2⟩:=List.pairwise_cons.1 hp;have hn:=hl n List.mem_cons_self;refine ⟨fun x hx=>?_,qw0 hg hlv L (n :: A) (fun x hx=>hl x (List.mem_cons_of_mem _ hx)) (fun x hx=>?_) p2⟩
  ·have h1:lv x < lv n:=by rw [hlv n hn]; exact qsu hx
   rcases ha x (hg n hn x hx) with h | h
   ·exact h
   ·exfalso;rcases List.mem_cons.1 h with rfl | h
    ·omega
    ·rcases p1 x h with q | ⟨q,-⟩ <;> omega
  ·rcases ha x hx with h | h
   ·exact .inl (List.mem_cons_of_mem _ h)
   ·rcases List.mem_cons.1 h with rfl | h
    ·exact .inl List.mem_cons_self
    ·exact .inr h
structure Ci.good (c:Ci):Prop where
 wf:c.wf
 chk:qi5 c = 0
 sh:shE c = 0
 ac:qgk c
 m:c.m = []
 k:∀ y ∈ c.n,y.k ≠ 15
 n0:0 < c.n.length
 n1:c.n.length≤20
theorem Ci.good.val {c:Ci} (h:c.good):c.val:=qo1 h.wf h.sh
structure Pt.fit (p:Pt) (c:Ci):Prop where
 i:p.i.length = cnt 0 c.n
 s:p.s.length = cnt 14 c.n
 iv:∀ x ∈ p.i,x≤3
 sv:∀ x ∈ p.s,x≤3
def qc9 (c:Ci) (n:Nat):Bool:=qdz (c.nd n).k
def ini (c:Ci) (p:Pt):Nat->Nat:=put (ids 14 c.n 0) p.s (put (ids 0 c.n 0) p.i fun _=>0)
def qmx (c:Ci) (n:Nat) (f:Nat->Nat):Nat:=qpg (c.nd n).k.toNat ((c.g n).map f)
structure Ord (c:Ci) (L:List Nat):Prop where
 r:InR c.n.length L
 p:L.Pairwise (qdi (qew c))
noncomputable def qy4 (c:Ci):List Nat:=Classical.epsilon fun L=>Ord c L
theorem Ord.eq {c:Ci} {L:List Nat} (h:Ord c L):qy4 c = L:=by
 have h2:Ord c (qy4 c):=Classical.epsilon_spec (p:=fun L=>Ord c L) ⟨L,h⟩;refine qga h2.p h.p fun x=>?_;have h1:=qc4 (qcc h.p) h.r.lt (by have:=h.r.len; omega);have h3:=qc4 (qcc h2.p) h2.r.lt (by have:=h2.r.len; omega);exact ⟨fun hx=>h1 x (h2.r.lt x hx),fun hx=>h3 x (h.r.lt x hx)⟩
noncomputable def qg4 (c:Ci) (p:Pt):Nat->Nat:=evl (qmx c) (qc9 c) (qy4 c) (ini c p)
def q2q (c:Ci) (f:Nat->Nat):List Nat:=c.o.map fun n=>qde (f n.toNat)
def jai (c:Ci) (f:Nat->Nat) (n:Nat):Nat:=match (c.nd n).i with
 | [x]=>rdN (qde (f x.toNat))
 | _=>2
def q2r (c:Ci) (f:Nat->Nat):List Nat:=(ids 14 c.n 0).map (jai c f)
def qwe (o s:List Nat):V:=.agg [.sl (o.map u8V) (some o.length),.sl (s.map u8V) (some s.length)]
theorem Ci.good.o {c:Ci} (h:c.good) {x:Int} (hx:x ∈ c.o):0≤x/\x < c.n.length:=by
 have h1:=(qm7 h.sh).2.2.2.2.2;rw [List.any_eq_false] at h1;have:=h1 x hx;simp [qgg] at this;omega
theorem Ord.topo {c:Ci} {L:List Nat} (hg:c.good) (h:Ord c L):q9j c.g [] L:=by
 have hlv:qkt c.n.length c.g (qew c):=hg.ac.lv;exact qw0 hg.val.g hlv L [] h.r.lt (fun x hx=>.inr (qc4 (qcc h.p) h.r.lt (by have:=h.r.len; omega) x hx)) h.p
end
section
open Go
variable {α:Type}
theorem qml {ev:Nat->(Nat->α)->α} {cb:Nat->Bool} {n:Nat}:∀ (L:List Nat) (f:Nat->α),n ∉ L->evl ev cb L f n = f n
 | [],_,_=>rfl
 | m :: L,f,h=>by
  simp only [List.mem_cons,not_or] at h;rw [evl,qml L _ h.2];split
  ·exact qbv _ _ h.1
  ·rfl
def EvC (g:Nat->List Nat) (ev:Nat->(Nat->α)->α):Prop:=∀ n f f',(∀ x ∈ g n,f x = f' x)->f n = f' n->ev n f = ev n f'
theorem q0h {g:Nat->List Nat} {ev:Nat->(Nat->α)->α} (hc:EvC g ev):∀ (L A:List Nat) (f:Nat->α),q9j g A L->L.Nodup->(∀ x ∈ A,x ∉ L)->
  ∀ n,n ∈ L->evl ev (fun _=>true) L f n = ev n (qc0 (evl ev (fun _=>true) L f) n (f n))
 | [],_,_,_,_,_,n,hn=>by simp at hn
 | m :: L,A,f,ht,hd,ha,n,hn=>by
  obtain ⟨hmL,hd'⟩:=List.nodup_cons.1 hd;simp only [evl,if_true]
  have hA:∀ x ∈ m :: A,x ∉ L:=fun x hx=>by
   rcases List.mem_cons.1 hx with rfl | hx
   ·exact hmL
   ·exact fun h=>ha x hx (List.mem_cons_of_mem _ h)
  rcases List.mem_cons.1 hn with rfl | hnL
  ·rw [qml L _ hmL,qcx];refine hc n _ _ (fun x hx=>?_) (by rw [qcx]);have hxA:=ht.1 x hx;have hxn:x ≠ n:=fun e=>ha x hxA (e ▸ List.mem_cons_self);rw [qbv _ _ hxn,qml L _ (hA x (List.mem_cons_of_mem _ hxA)),qbv _ _ hxn]
  ·have hnm:n ≠ m:=fun e=>hmL (e ▸ hnL);have ih:=q0h hc L (m :: A) (qc0 f m (ev m f)) ht.2 hd' hA n hnL;rw [qbv _ _ hnm] at ih;exact ih
theorem qur {ev:Nat->(Nat->α)->α} {cb:Nat->Bool}:∀ (L:List Nat) (f:Nat->α),evl ev cb L f = evl (fun n f=>if cb n = true then ev n f else f n) (fun _=>true) L f
 | [],_=>rfl
 | m :: L,f=>by
  rw [evl,evl,qur L];congr 1;simp only [if_true];split
  ·rfl
  ·funext j;by_cases h:j = m
   ·subst h; rw [qcx]
   ·rw [qbv _ _ h]
def qv8 (c:Ci) (Q:Nat->Nat->Nat->Nat) (n:Nat) (f:Nat->Nat):List Nat:=(c.nd n).i.mapIdx fun p x=>Q n p (f x.toNat)
def evM (c:Ci) (W:Nat->Nat->Nat) (Q:Nat->Nat->Nat->Nat) (n:Nat) (f:Nat->Nat):Nat:=W n (if qc9 c n = true then qpg (c.nd n).k.toNat (qv8 c Q n f) else f n)
noncomputable def jdz (c:Ci) (W:Nat->Nat->Nat) (Q:Nat->Nat->Nat->Nat) (p:Pt):Nat->Nat:=evl (evM c W Q) (fun _=>true) (qy4 c) (ini c p)
def idW:Nat->Nat->Nat:=fun _ v=>v
def idQ:Nat->Nat->Nat->Nat:=fun _ _ v=>v
theorem qu1 {c:Ci} {n:Nat} (h:qc9 c n = true):c.g n = (c.nd n).i.map Int.toNat:=by
 unfold Ci.g;have h':qdz (c.nd n).k = true:=h;rw [if_pos h']
theorem qlz {c:Ci} {Q Q':Nat->Nat->Nat->Nat} {n:Nat} {f f':Nat->Nat} (h:∀ p (hp:p < (c.nd n).i.length),Q n p (f ((c.nd n).i[p]).toNat) = Q' n p (f' ((c.nd n).i[p]).toNat)):qv8 c Q n f = qv8 c Q' n f':=by
 refine List.ext_getElem (by simp [qv8]) fun p h1 h2=>?_;simp only [qv8,List.getElem_mapIdx];exact h p (by simpa [qv8] using h1)
theorem jb3 (c:Ci) (W:Nat->Nat->Nat) (Q:Nat->Nat->Nat->Nat):EvC c.g (evM c W Q):=fun n f f' h h'=>by
 unfold evM;by_cases hc:qc9 c n = true
 ·rw [if_pos hc,if_pos hc];congr 2;refine qlz fun p hp=>?_;rw [h];rw [qu1 hc];exact List.mem_map_of_mem (jkg hp)
 ·rw [if_neg hc,if_neg hc,h']
theorem Ord.all {c:Ci} {L:List Nat} (h:Ord c L) {n:Nat} (hn:n < c.n.length):n ∈ L:=qc4 (qcc h.p) h.r.lt (by have:=h.r.len; omega) n hn
theorem q12 {c:Ci} {W:Nat->Nat->Nat} {Q:Nat->Nat->Nat->Nat} (hb:qgk c) (_hv:c.val) {n:Nat} (hn:n < c.n.length) (G:Nat->Nat) (v:Nat) :
  evM c W Q n (qc0 G n v) = W n (if qc9 c n = true then qpg (c.nd n).k.toNat (qv8 c Q n G) else v):=by
 unfold evM;by_cases hc:qc9 c n = true
 ·rw [if_pos hc,if_pos hc];congr 2;refine qlz fun p hp=>?_;rw [qbv];intro e;have hx:((c.nd n).i[p]).toNat ∈ c.g n:=by rw [qu1 hc]; exact List.mem_map_of_mem (jkg hp)
  rw [e] at hx;have hlv:qkt c.n.length c.g (qew c):=hb.lv;have:=hlv n hn;have:=qsu (f:=qew c) hx;omega
 ·rw [if_neg hc,if_neg hc,qcx]
variable {c:Ci} {W:Nat->Nat->Nat} {Q:Nat->Nat->Nat->Nat} {p:Pt}
def Sol (c:Ci) (W:Nat->Nat->Nat) (Q:Nat->Nat->Nat->Nat) (p:Pt) (G:Nat->Nat):Prop:=∀ n,n < c.n.length->G n = W n (if qc9 c n = true then qpg (c.nd n).k.toNat (qv8 c Q n G) else ini c p n)
theorem qyx (hg:c.good) (ho:Ord c (qy4 c)):Sol c W Q p (jdz c W Q p):=fun n hn=>by
 have h:=q0h (jb3 c W Q) (qy4 c) [] (ini c p) (ho.topo hg) (qcc ho.p) (by simp) n (ho.all hn);rw [q12 hg.ac hg.val hn] at h;exact h
theorem qv9 {n:Nat} (h:qc9 c n = true) (f:Nat->Nat):qv8 c idQ n f = (c.g n).map f:=by
 rw [qu1 h,List.map_map];refine List.ext_getElem (by simp [qv8]) fun p h1 h2=>?_;simp [qv8,idQ]
theorem q0t (c:Ci) (p:Pt):qg4 c p = jdz c idW idQ p:=by
 unfold qg4 jdz;rw [qur];congr 1;funext n f;unfold evM idW;by_cases hc:qc9 c n = true
 ·rw [if_pos hc,if_pos hc,qv9 hc]; rfl
 ·rw [if_neg hc,if_neg hc]
theorem qyz (hg:c.good) (ho:Ord c (qy4 c)):Sol c idW idQ p (qg4 c p):=by rw [q0t]; exact qyx hg ho
end
end Go.Proofs.YtbbnmiaabmbheaaGreatDoor
