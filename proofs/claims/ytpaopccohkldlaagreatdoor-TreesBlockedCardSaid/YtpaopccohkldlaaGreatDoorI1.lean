/- Lemmas. Conditions: none. -/
import Derived.Test.YtpaopccohkldlaaGreatDoorNet4
import Derived.Test.YtpaopccohkldlaaGreatDoorNet13
import Derived.Test.YtpaopccohkldlaaGreatDoorBase18
import Derived.Test.YtpaopccohkldlaaGreatDoorNet17
set_option linter.all false
namespace Go.Proofs.YtpaopccohkldlaaGreatDoor
section
open Go
def qd1 (v:Nat):Nat:=if 3 < v then 2 else v
def rdN (v:Nat):Nat:=min v 2
def qo1 (v:Nat):Nat:=if v≤1 then 1 - v else 2
def dec (lo hi:Nat):Nat->List Nat->Nat
 | out,[]=>out
 | out,v :: l=>if v = lo then lo else if v = hi then dec lo hi out l else dec lo hi 2 l
def qns:Nat->List Nat->Nat
 | out,[]=>out
 | out,v :: l=>if v = 0 then qns out l else if v = 1 then qns (1 - out) l else 2
def qtw (s a b:Nat):Nat:=if s = 0 then rdN a else if s = 1 then rdN b else if a = b then rdN a else 2
def qyc (e d:Nat):Nat:=if e = 0 then 3 else if e = 1 then rdN d else 2
def qyo (l:List Nat):Nat:=
 match l.find? (fun v=>v != 3) with
 | none=>3
 | some v=>if (0 ∈ l/\1 ∈ l)∨(∃ u ∈ l,qd1 u = 2) then 2 else v
def qdo (k:Nat) (l:List Nat):Nat:=
 if k = 1 then 0 else if k = 2 then 1 else if k = 3 then rdN (l.getD 0 0) else if k = 4 then qo1 (l.getD 0 0)
 else if k = 5 then dec 0 1 1 l else if k = 6 then qo1 (dec 0 1 1 l)
 else if k = 7 then dec 1 0 0 l else if k = 8 then qo1 (dec 1 0 0 l)
 else if k = 9 then qns 0 l else if k = 10 then qo1 (qns 0 l)
 else if k = 11 then qtw (l.getD 0 0) (l.getD 1 0) (l.getD 2 0) else if k = 12 then qyc (l.getD 0 0) (l.getD 1 0)
 else if k = 13 then qyo l else 2
def qow (k:Nat) (l:List Nat):Nat:=if (l.length:Int) < kLo k∨kHi k < (l.length:Int) then 2 else qdo k l
theorem quy (lo hi:Nat) (hlo:lo≤2):∀ (l:List Nat) (out:Nat),out≤2->dec lo hi out l≤2
 | [],out,h=>h
 | v :: l,out,h=>by
  rw [dec];split
  ·exact hlo
  split
  ·exact quy lo hi hlo l out h
  ·exact quy lo hi hlo l 2 (by omega)
theorem qra:∀ (l:List Nat) (out:Nat),out≤2->qns out l≤2
 | [],out,h=>h
 | v :: l,out,h=>by
  rw [qns];split
  ·exact qra l out h
  split
  ·exact qra l (1 - out) (by omega)
  ·omega
end
section
open Go
variable {α β:Type}
def evl (ev:Nat->(Nat->α)->α) (cb:Nat->Bool):List Nat->(Nat->α)->(Nat->α)
 | [],f=>f
 | n :: L,f=>evl ev cb L (if cb n = true then qc0 f n (ev n f) else f)
theorem qg0 (ev:Nat->(Nat->α)->α) (cb:Nat->Bool) (n:Nat):∀ (L:List Nat) (f:Nat->α),evl ev cb (L ++ [n]) f = if cb n = true then qc0 (evl ev cb L f) n (ev n (evl ev cb L f)) else evl ev cb L f
 | [],_=>rfl
 | m :: L,f=>by simp only [List.cons_append,evl,qg0 ev cb n L]
def put:List Nat->List α->(Nat->α)->(Nat->α)
 | n :: ns,v :: vs,f=>put ns vs (qc0 f n v)
 | _,_,f=>f
theorem qsc (n:Nat) (v:α):∀ (ns:List Nat) (vs:List α) (f:Nat->α),ns.length = vs.length->put (ns ++ [n]) (vs ++ [v]) f = qc0 (put ns vs f) n v
 | [],[],_,_=>rfl
 | [],_ :: _,_,h=>by simp at h
 | _ :: _,[],_,h=>by simp at h
 | m :: ns,w :: vs,f,h=>by
  simp only [List.cons_append,put];exact qsc n v ns vs _ (by simpa using h)
theorem qi2 {ns:List Nat} {vs:List α} {f:Nat->α} (i:Nat) (h:ns.length = vs.length) (hi:i < ns.length):put (ns.take (i + 1)) (vs.take (i + 1)) f = qc0 (put (ns.take i) (vs.take i) f) ns[i] (vs[i]'(by omega)):=by
 rw [List.take_succ_eq_append_getElem hi,List.take_succ_eq_append_getElem (l:=vs) (by omega)];exact qsc _ _ _ _ _ (by simp; omega)
def jag (g:Nat->List Nat):List Nat->List Nat->Prop
 | _,[]=>True
 | A,n :: L=>(∀ x ∈ g n,x ∈ A)/\jag g (n :: A) L
def ids (k:Int):List Nd->Nat->List Nat
 | [],_=>[]
 | n :: r,i=>if n.k = k then i :: ids k r (i + 1) else ids k r (i + 1)
theorem qi0 (k:Int):∀ (l:List Nd) (i:Nat),qnv [k] l i = qak (ids k l i)
 | [],_=>rfl
 | n :: r,i=>by
  simp only [qnv,ids,List.mem_singleton];split <;> simp [qi0 k r (i + 1),qak,qaa]
theorem qqc (k:Int):∀ (l:List Nd) (i x:Nat),x ∈ ids k l i↔∃ j,∃ h:j < l.length,x = i + j/\l[j].k = k
 | [],i,x=>by simp [ids]
 | n :: r,i,x=>by
  have ih:=qqc k r (i + 1) x
  have hsh:(∃ j,∃ h:j < (n :: r).length,x = i + j/\(n :: r)[j].k = k)↔(x = i/\n.k = k)∨∃ j,∃ h:j < r.length,x = i + 1 + j/\r[j].k = k:=by
   constructor
   ·rintro ⟨j,hj,rfl,hk⟩
    cases j with
    | zero=>exact .inl ⟨rfl,hk⟩
    | succ j=>exact .inr ⟨j,by simpa using hj,by omega,hk⟩
   ·rintro (⟨rfl,hk⟩ | ⟨j,hj,rfl,hk⟩)
    ·exact ⟨0,by simp,rfl,hk⟩
    ·exact ⟨j + 1,by simpa using hj,by omega,hk⟩
  rw [hsh,<- ih];simp only [ids];split
  ·rename_i hk; simp [hk]
  ·rename_i hk; simp [hk]
def cnt (k:Int) (l:List Nd):Nat:=(ids k l 0).length
theorem qhu (k:Int):∀ (l:List Nd) (i:Nat),(ids k l i).length = cnt k l
 | l,0=>rfl
 | [],i + 1=>rfl
 | n :: r,i + 1=>by
  unfold cnt;simp only [ids];split
  ·simp [qhu k r (i + 2),qhu k r 1]
  ·simp [qhu k r (i + 2),qhu k r 1]
theorem qfy (k:Int) (n:Nd) (r:List Nd):cnt k (n :: r) = (if n.k = k then 1 else 0) + cnt k r:=by
 rw [cnt,ids];split
 ·simp [qhu k r 1]; omega
 ·simp [qhu k r 1]
theorem qbn (k:Int):∀ l:List Nd,cnt k l≤l.length
 | []=>by simp [cnt,ids]
 | n :: r=>by
  rw [qfy];have:=qbn k r;simp only [List.length_cons];split <;> omega
theorem qlr {k:Int} {l:List Nd} {x:Nat} (h:x ∈ ids k l 0):∃ hx:x < l.length,l[x].k = k:=by
 obtain ⟨j,hj,rfl,hk⟩:=(qqc k l 0 x).1 h;simp only [Nat.zero_add];exact ⟨hj,hk⟩
structure Pt where
 i:List Nat
 s:List Nat
def Pt.v (p:Pt):V:=.agg [.sl (p.i.map u8V) none,.sl (p.s.map u8V) none]
end
section
open Go
theorem qxu {N:Nat} {g:Nat->List Nat} {lv:Nat->Nat} (hg:∀ n,n < N->∀ x ∈ g n,x < N) (hlv:qil N g lv):∀ (L A:List Nat),(∀ x ∈ L,x < N)->(∀ x,x < N->x ∈ A∨x ∈ L)->L.Pairwise (qdc lv)->jag g A L
 | [],_,_,_,_=>trivial
 | n :: L,A,hl,ha,hp=>by
  obtain ⟨p1,p2⟩:=List.pairwise_cons.1 hp;have hn:=hl n List.mem_cons_self;refine ⟨fun x hx=>?_,qxu hg hlv L (n :: A) (fun x hx=>hl x (List.mem_cons_of_mem _ hx)) (fun x hx=>?_) p2⟩
  ·have h1:lv x < lv n:=by rw [hlv n hn]; exact qqh hx
   rcases ha x (hg n hn x hx) with h | h
   ·exact h
   ·exfalso;rcases List.mem_cons.1 h with rfl | h
    ·omega
    ·rcases p1 x h with q | ⟨q,-⟩ <;> omega
  ·rcases ha x hx with h | h
   ·exact .inl (List.mem_cons_of_mem _ h)
   ·rcases List.mem_cons.1 h with rfl | h
    ·exact .inl List.mem_cons_self
    ·exact .inr h
structure Ci.good (c:Ci):Prop where
 wf:c.wf
 chk:qri c = 0
 sh:shE c = 0
 ac:quc c
 m:c.m = []
 k:∀ y ∈ c.n,y.k ≠ 15
 n0:0 < c.n.length
 n1:c.n.length≤20
theorem Ci.good.val {c:Ci} (h:c.good):c.val:=q19 h.wf h.sh
structure Pt.fit (p:Pt) (c:Ci):Prop where
 i:p.i.length = cnt 0 c.n
 s:p.s.length = cnt 14 c.n
 iv:∀ x ∈ p.i,x≤3
 sv:∀ x ∈ p.s,x≤3
def qbx (c:Ci) (n:Nat):Bool:=qeh (c.nd n).k
def ini (c:Ci) (p:Pt):Nat->Nat:=put (ids 14 c.n 0) p.s (put (ids 0 c.n 0) p.i fun _=>0)
def qyb (c:Ci) (n:Nat) (f:Nat->Nat):Nat:=qow (c.nd n).k.toNat ((c.g n).map f)
structure Ord (c:Ci) (L:List Nat):Prop where
 r:InR c.n.length L
 p:L.Pairwise (qdc (qnu c))
noncomputable def qlz (c:Ci):List Nat:=Classical.epsilon fun L=>Ord c L
theorem Ord.eq {c:Ci} {L:List Nat} (h:Ord c L):qlz c = L:=by
 have h2:Ord c (qlz c):=Classical.epsilon_spec (p:=fun L=>Ord c L) ⟨L,h⟩;refine qlv h2.p h.p fun x=>?_;have h1:=qen (qcm h.p) h.r.lt (by have:=h.r.len; omega);have h3:=qen (qcm h2.p) h2.r.lt (by have:=h2.r.len; omega);exact ⟨fun hx=>h1 x (h2.r.lt x hx),fun hx=>h3 x (h.r.lt x hx)⟩
noncomputable def qb8 (c:Ci) (p:Pt):Nat->Nat:=evl (qyb c) (qbx c) (qlz c) (ini c p)
def qj7 (c:Ci) (f:Nat->Nat):List Nat:=c.o.map fun n=>qd1 (f n.toNat)
def qty (c:Ci) (f:Nat->Nat) (n:Nat):Nat:=match (c.nd n).i with
 | [x]=>rdN (qd1 (f x.toNat))
 | _=>2
def qkx (c:Ci) (f:Nat->Nat):List Nat:=(ids 14 c.n 0).map (qty c f)
def qfg (o s:List Nat):V:=.agg [.sl (o.map u8V) (some o.length),.sl (s.map u8V) (some s.length)]
theorem Ci.good.o {c:Ci} (h:c.good) {x:Int} (hx:x ∈ c.o):0≤x/\x < c.n.length:=by
 have h1:=(qgq h.sh).2.2.2.2.2;rw [List.any_eq_false] at h1;have:=h1 x hx;simp [qj8] at this;omega
theorem Ord.topo {c:Ci} {L:List Nat} (hg:c.good) (h:Ord c L):jag c.g [] L:=by
 have hlv:qil c.n.length c.g (qnu c):=hg.ac.lv;exact qxu hg.val.g hlv L [] h.r.lt (fun x hx=>.inr (qen (qcm h.p) h.r.lt (by have:=h.r.len; omega) x hx)) h.p
end
section
open Go
variable {α:Type}
theorem qiv {ev:Nat->(Nat->α)->α} {cb:Nat->Bool} {n:Nat}:∀ (L:List Nat) (f:Nat->α),n ∉ L->evl ev cb L f n = f n
 | [],_,_=>rfl
 | m :: L,f,h=>by
  simp only [List.mem_cons,not_or] at h;rw [evl,qiv L _ h.2];split
  ·exact qa0 _ _ h.1
  ·rfl
def EvC (g:Nat->List Nat) (ev:Nat->(Nat->α)->α):Prop:=∀ n f f',(∀ x ∈ g n,f x = f' x)->f n = f' n->ev n f = ev n f'
theorem qva {g:Nat->List Nat} {ev:Nat->(Nat->α)->α} (hc:EvC g ev):∀ (L A:List Nat) (f:Nat->α),jag g A L->L.Nodup->(∀ x ∈ A,x ∉ L)->
  ∀ n,n ∈ L->evl ev (fun _=>true) L f n = ev n (qc0 (evl ev (fun _=>true) L f) n (f n))
 | [],_,_,_,_,_,n,hn=>by simp at hn
 | m :: L,A,f,ht,hd,ha,n,hn=>by
  obtain ⟨hmL,hd'⟩:=List.nodup_cons.1 hd;simp only [evl,if_true]
  have hA:∀ x ∈ m :: A,x ∉ L:=fun x hx=>by
   rcases List.mem_cons.1 hx with rfl | hx
   ·exact hmL
   ·exact fun h=>ha x hx (List.mem_cons_of_mem _ h)
  rcases List.mem_cons.1 hn with rfl | hnL
  ·rw [qiv L _ hmL,qbl];refine hc n _ _ (fun x hx=>?_) (by rw [qbl]);have hxA:=ht.1 x hx;have hxn:x ≠ n:=fun e=>ha x hxA (e ▸ List.mem_cons_self);rw [qa0 _ _ hxn,qiv L _ (hA x (List.mem_cons_of_mem _ hxA)),qa0 _ _ hxn]
  ·have hnm:n ≠ m:=fun e=>hmL (e ▸ hnL);have ih:=qva hc L (m :: A) (qc0 f m (ev m f)) ht.2 hd' hA n hnL;rw [qa0 _ _ hnm] at ih;exact ih
theorem qu9 {ev:Nat->(Nat->α)->α} {cb:Nat->Bool}:∀ (L:List Nat) (f:Nat->α),evl ev cb L f = evl (fun n f=>if cb n = true then ev n f else f n) (fun _=>true) L f
 | [],_=>rfl
 | m :: L,f=>by
  rw [evl,evl,qu9 L];congr 1;simp only [if_true];split
  ·rfl
  ·funext j;by_cases h:j = m
   ·subst h; rw [qbl]
   ·rw [qa0 _ _ h]
def qfs (c:Ci) (Q:Nat->Nat->Nat->Nat) (n:Nat) (f:Nat->Nat):List Nat:=(c.nd n).i.mapIdx fun p x=>Q n p (f x.toNat)
def evM (c:Ci) (W:Nat->Nat->Nat) (Q:Nat->Nat->Nat->Nat) (n:Nat) (f:Nat->Nat):Nat:=W n (if qbx c n = true then qow (c.nd n).k.toNat (qfs c Q n f) else f n)
noncomputable def qio (c:Ci) (W:Nat->Nat->Nat) (Q:Nat->Nat->Nat->Nat) (p:Pt):Nat->Nat:=evl (evM c W Q) (fun _=>true) (qlz c) (ini c p)
def idW:Nat->Nat->Nat:=fun _ v=>v
def idQ:Nat->Nat->Nat->Nat:=fun _ _ v=>v
theorem qjv {c:Ci} {n:Nat} (h:qbx c n = true):c.g n = (c.nd n).i.map Int.toNat:=by
 unfold Ci.g;have h':qeh (c.nd n).k = true:=h;rw [if_pos h']
theorem qh2 {c:Ci} {Q Q':Nat->Nat->Nat->Nat} {n:Nat} {f f':Nat->Nat} (h:∀ p (hp:p < (c.nd n).i.length),Q n p (f ((c.nd n).i[p]).toNat) = Q' n p (f' ((c.nd n).i[p]).toNat)):qfs c Q n f = qfs c Q' n f':=by
 refine List.ext_getElem (by simp [qfs]) fun p h1 h2=>?_;simp only [qfs,List.getElem_mapIdx];exact h p (by simpa [qfs] using h1)
theorem jc9 (c:Ci) (W:Nat->Nat->Nat) (Q:Nat->Nat->Nat->Nat):EvC c.g (evM c W Q):=fun n f f' h h'=>by
 unfold evM;by_cases hc:qbx c n = true
 ·rw [if_pos hc,if_pos hc];congr 2;refine qh2 fun p hp=>?_;rw [h];rw [qjv hc];exact List.mem_map_of_mem (jjd hp)
 ·rw [if_neg hc,if_neg hc,h']
theorem Ord.all {c:Ci} {L:List Nat} (h:Ord c L) {n:Nat} (hn:n < c.n.length):n ∈ L:=qen (qcm h.p) h.r.lt (by have:=h.r.len; omega) n hn
theorem q3d {c:Ci} {W:Nat->Nat->Nat} {Q:Nat->Nat->Nat->Nat} (hb:quc c) (_hv:c.val) {n:Nat} (hn:n < c.n.length) (G:Nat->Nat) (v:Nat) :
  evM c W Q n (qc0 G n v) = W n (if qbx c n = true then qow (c.nd n).k.toNat (qfs c Q n G) else v):=by
 unfold evM;by_cases hc:qbx c n = true
 ·rw [if_pos hc,if_pos hc];congr 2;refine qh2 fun p hp=>?_;rw [qa0];intro e;have hx:((c.nd n).i[p]).toNat ∈ c.g n:=by rw [qjv hc]; exact List.mem_map_of_mem (jjd hp)
  rw [e] at hx;have hlv:qil c.n.length c.g (qnu c):=hb.lv;have:=hlv n hn;have:=qqh (f:=qnu c) hx;omega
 ·rw [if_neg hc,if_neg hc,qbl]
variable {c:Ci} {W:Nat->Nat->Nat} {Q:Nat->Nat->Nat->Nat} {p:Pt}
def Sol (c:Ci) (W:Nat->Nat->Nat) (Q:Nat->Nat->Nat->Nat) (p:Pt) (G:Nat->Nat):Prop:=∀ n,n < c.n.length->G n = W n (if qbx c n = true then qow (c.nd n).k.toNat (qfs c Q n G) else ini c p n)
theorem qm7 (hg:c.good) (ho:Ord c (qlz c)):Sol c W Q p (qio c W Q p):=fun n hn=>by
 have h:=qva (jc9 c W Q) (qlz c) [] (ini c p) (ho.topo hg) (qcm ho.p) (by simp) n (ho.all hn);rw [q3d hg.ac hg.val hn] at h;exact h
theorem q4p {n:Nat} (h:qbx c n = true) (f:Nat->Nat):qfs c idQ n f = (c.g n).map f:=by
 rw [qjv h,List.map_map];refine List.ext_getElem (by simp [qfs]) fun p h1 h2=>?_;simp [qfs,idQ]
theorem qr5 (c:Ci) (p:Pt):qb8 c p = qio c idW idQ p:=by
 unfold qb8 qio;rw [qu9];congr 1;funext n f;unfold evM idW;by_cases hc:qbx c n = true
 ·rw [if_pos hc,if_pos hc,q4p hc]; rfl
 ·rw [if_neg hc,if_neg hc]
theorem qzx (hg:c.good) (ho:Ord c (qlz c)):Sol c idW idQ p (qb8 c p):=by rw [qr5]; exact qm7 hg ho
def qfe (c:Ci) (f:Nat->Nat):List Nat:=c.o.map fun n=>f n.toNat
def qtx (c:Ci) (Q:Nat->Nat->Nat->Nat) (f:Nat->Nat) (n:Nat):Nat:=if (qfs c Q n f).getD 0 0 = 3 then 2 else (qfs c Q n f).getD 0 0
def qff (c:Ci) (Q:Nat->Nat->Nat->Nat) (f:Nat->Nat):List Nat:=(ids 14 c.n 0).map (qtx c Q f)
end
end Go.Proofs.YtpaopccohkldlaaGreatDoor
