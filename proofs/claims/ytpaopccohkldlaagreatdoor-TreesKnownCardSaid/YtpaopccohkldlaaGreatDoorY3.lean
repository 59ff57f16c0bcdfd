/- Lemmas. Conditions: none. -/
import Derived.Test.YtpaopccohkldlaaGreatDoorU2
import Derived.Test.YtpaopccohkldlaaGreatDoorT12
set_option linter.all false
namespace Go.Proofs.YtpaopccohkldlaaGreatDoor
section
open Go
abbrev Ft.sW (f:Ft):Nat->Nat->Nat:=atW f fun _=>f.v
abbrev Ft.sQ (f:Ft):Nat->Nat->Nat->Nat:=atQ f fun _=>f.v
noncomputable def Ft.M (c:Ci) (f:Ft) (p:Pt):Nat->Nat:=qmg c f.sW f.sQ p
noncomputable def Ft.det (c:Ci) (f:Ft) (p:Pt):Bool:=visB c f.sW f.sQ p
def quk (c:Ci) (f:Ft) (A B:Nat->Nat) (n:Nat) (F:Nat->Bool):Bool:=
 !(decide (A n≤1) && decide (A n = B n)) && ((decide (n = f.n) && (qdc c n || decide (f.q = 0))) || (qdc c n && (c.g n).any F))
noncomputable def qzn (c:Ci) (f:Ft) (p:Pt):Nat->Bool:=evl (quk c f (qgz c p) (f.M c p)) (fun _=>true) (qqv c) (fun _=>false)
theorem g_ne {c:Ci} (hg:c.good) {n x:Nat} (hn:n < c.n.length) (hx:x ∈ c.g n):qo9 c x < qo9 c n:=by
 have hlv:qhy c.n.length c.g (qo9 c):=hg.ac.lv;have:=hlv n hn;have:=qrn (f:=qo9 c) hx;omega
def inD (c:Ci) (n:Nat):Nat:=((c.nd n).i.getD 0 0).toNat
noncomputable def qht (c:Ci) (f:Ft) (p:Pt):Bool:=
 !(c.o.any fun k=>qzn c f p k.toNat) && (ids 14 c.n 0).all fun n=>if f.n = n/\f.q = 1 then decide (qgz c p (inD c n) = f.v) else !qzn c f p (inD c n)
theorem qz9 {c:Ci} {f:Ft} {p:Pt}:qht c f p = true↔(∀ k ∈ c.o,qzn c f p k.toNat = false)/\∀ n ∈ ids 14 c.n 0,(f.n = n/\f.q = 1->qgz c p (inD c n) = f.v)/\(¬ (f.n = n/\f.q = 1)->qzn c f p (inD c n) = false):=by
 unfold qht;rw [Bool.and_eq_true,Bool.not_eq_true',List.any_eq_false,List.all_eq_true];refine and_congr (forall_congr' fun k=>forall_congr' fun _=>by simp) (forall_congr' fun n=>forall_congr' fun _=>?_);split
 ·rename_i h; simp [h]
 ·rename_i h; simp [h]
theorem q48 {c:Ci} (hg:c.good) {n:Nat} (hn:n ∈ ids 14 c.n 0):n < c.n.length/\(c.nd n).i = [((inD c n:Nat):Int)]/\inD c n < c.n.length/\(c.nd n).k = 14:=by
 obtain ⟨h,x,hx,h0,h1,h2⟩:=qqr hg hn;have hnd:(c.nd n).i = [x]:=by rw [c.nd_get h]; exact hx
 have e:inD c n = x.toNat:=by unfold inD; rw [hnd]; rfl
 rw [e,hnd,c.nd_get h];exact ⟨h,by congr 1; omega,by omega,h2⟩
end
section
open Go
structure Tn where
 i:Int
 z:Int
 o:Int
 deriving Inhabited,DecidableEq
def Tn.v (n:Tn):V:=.agg [.int .i64 n.i,.int .i64 n.z,.int .i64 n.o]
def lfN:Tn:=⟨-1,0,0⟩
inductive DT where
 | lf
 | nd (i:Nat) (z o:DT)
 deriving Inhabited
def DT.sz:DT->Nat
 | .lf=>1
 | .nd _ z o=>1 + z.sz + o.sz
def DT.fl:DT->Nat->List Tn
 | .lf,_=>[lfN]
 | .nd i z o,a=>⟨i,((a + 1:Nat):Int),((a + 1 + z.sz:Nat):Int)⟩ :: (z.fl (a + 1) ++ o.fl (a + 1 + z.sz))
@[simp] theorem jet:∀ (d:DT) (a:Nat),(d.fl a).length = d.sz
 | .lf,_=>rfl
 | .nd _ z o,a=>by simp [DT.fl,DT.sz,jet z,jet o]; omega
theorem DT.sz_pos:∀ d:DT,0 < d.sz
 | .lf=>by simp [DT.sz]
 | .nd _ z o=>by simp [DT.sz]; omega
def DT.ok (bits:Nat):DT->List Nat->Prop
 | .lf,_=>True
 | .nd i z o,us=>i < bits/\i ∉ us/\z.ok bits (i :: us)/\o.ok bits (i :: us)
theorem qp9 {i:Nat} {us vs:List Nat} (h:∀ x ∈ vs,x ∈ us):∀ x ∈ i :: vs,x ∈ i :: us:=fun _ hx=>(List.mem_cons.1 hx).elim (fun e=>e ▸ List.mem_cons_self) fun hx=>List.mem_cons_of_mem _ (h _ hx)
theorem DT.ok_sub {bits:Nat}:∀ (d:DT) {us vs:List Nat},(∀ x ∈ vs,x ∈ us)->d.ok bits us->d.ok bits vs
 | .lf,_,_,_,_=>trivial
 | .nd _ z o,_,_,h,⟨h1,h2,h3,h4⟩=>⟨h1,fun h'=>h2 (h _ h'),z.ok_sub (qp9 h) h3,o.ok_sub (qp9 h) h4⟩
def qka (len i:Nat) (k:Int) (par:Nat->Nat):Option (Nat->Nat):=if k≤(i:Int)∨(len:Int)≤k∨0 < par k.toNat then none else some (qbs par k.toNat (i + 1))
def qew (len:Nat) (bits:Int) (i:Nat) (n:Tn) (par:Nat->Nat):Option (Nat->Nat):=
 if n = lfN then some par else if n.i < 0∨bits≤n.i then none else match qka len i n.z par with
  | none=>none
  | some p=>qka len i n.o p
def qoc (len:Nat) (bits:Int):List Tn->Nat->(Nat->Nat)->Option (Nat->Nat)
 | [],_,p=>some p
 | n :: r,i,p=>match qew len bits i n p with
  | none=>none
  | some p=>qoc len bits r (i + 1) p
def vUp (t:List Tn) (x:Int) (par:Nat->Nat):Nat->Nat->Bool
 | 0,_=>true
 | _ + 1,0=>true
 | m + 1,k + 1=>if (t.getD k default).i = x then false else vUp t x par m (par k)
def qjo (t:List Tn) (par:Nat->Nat) (i:Nat):Bool:=
 !(decide (0 < i) && decide (par i = 0)) && (decide (t.getD i default = lfN) || vUp t (t.getD i default).i par (t.length + 1) (par i))
def qbn (t:List Tn) (bits:Int):Bool:=match qoc t.length bits t 0 (fun _=>0) with
 | none=>false
 | some par=>(List.range t.length).all (qjo t par) && decide (0 < t.length)
def qjx (P:Nat->Nat):DT->Nat->Prop
 | .lf,_=>True
 | .nd _ z o,a=>P (a + 1) = a + 1/\P (a + 1 + z.sz) = a + 1/\qjx P z (a + 1)/\qjx P o (a + 1 + z.sz)
theorem qjx.congr {P P':Nat->Nat}:∀ (d:DT) (a:Nat),(∀ j,a < j->j < a + d.sz->P j = P' j)->qjx P d a->qjx P' d a
 | .lf,_,_,_=>trivial
 | .nd _ z o,a,h,⟨h1,h2,h3,h4⟩=>by
  have hz:=z.sz_pos;have ho:=o.sz_pos;simp only [DT.sz] at h
  exact ⟨by rw [<- h _ (by omega) (by omega)]; exact h1,by rw [<- h _ (by omega) (by omega)]; exact h2,
   qjx.congr z _ (fun j h5 h6=>h j (by omega) (by omega)) h3,qjx.congr o _ (fun j h5 h6=>h j (by omega) (by omega)) h4⟩
theorem qpt {len bits:Nat}:∀ (d:DT) (us:List Nat) (a:Nat) (rest:List Tn) (par:Nat->Nat),d.ok bits us->a + d.sz≤len->(∀ j,a < j->j < a + d.sz->par j = 0)->
  ∃ P,qoc len bits (d.fl a ++ rest) a par = qoc len bits rest (a + d.sz) P/\(∀ j,j≤a∨a + d.sz≤j->P j = par j)/\qjx P d a
 | .lf,us,a,rest,par,_,_,_=>by
  refine ⟨par,?_,fun _ _=>rfl,trivial⟩;simp [DT.fl,qoc,qew,DT.sz]
 | .nd i z o,us,a,rest,par,⟨h1,h2,h3,h4⟩,hl,h0=>by
  have hz:=z.sz_pos;have ho:=o.sz_pos;simp only [DT.sz] at hl h0
  have hne:(⟨(i:Int),((a + 1:Nat):Int),((a + 1 + z.sz:Nat):Int)⟩:Tn) ≠ lfN:=fun e=>by
   have:=congrArg Tn.i e;simp only [lfN] at this;omega
  let p1:=qbs (qbs par (a + 1) (a + 1)) (a + 1 + z.sz) (a + 1)
  have hnode:qew len bits a ⟨(i:Int),((a + 1:Nat):Int),((a + 1 + z.sz:Nat):Int)⟩ par = some p1:=by
   unfold qew;rw [if_neg hne,if_neg (by simp only []; omega)]
   have e1:qka len a ((a + 1:Nat):Int) par = some (qbs par (a + 1) (a + 1)):=by
    unfold qka;rw [Int.toNat_natCast,if_neg (by rw [h0 (a + 1) (by omega) (by omega)]; omega)]
   have e2:qka len a ((a + 1 + z.sz:Nat):Int) (qbs par (a + 1) (a + 1)) = some p1:=by
    unfold qka;rw [Int.toNat_natCast,qaw _ _ (by omega),if_neg (by rw [h0 (a + 1 + z.sz) (by omega) (by omega)]; omega)]
   simp only [e1,e2]
  have hp1:∀ j,j ≠ a + 1->j ≠ a + 1 + z.sz->p1 j = par j:=fun j h5 h6=>by
   show qbs (qbs par (a + 1) (a + 1)) (a + 1 + z.sz) (a + 1) j = par j;rw [qaw _ _ h6,qaw _ _ h5]
  obtain ⟨P1,r1,k1,q1⟩:=qpt (len:=len) z (i :: us) (a + 1) (o.fl (a + 1 + z.sz) ++ rest) p1 h3 (by omega) fun j h5 h6=>by rw [hp1 j (by omega) (by omega)]; exact h0 j (by omega) (by omega)
  obtain ⟨P2,r2,k2,q2⟩:=qpt (len:=len) o (i :: us) (a + 1 + z.sz) rest P1 h4 (by omega) fun j h5 h6=>by
   rw [k1 j (by omega),hp1 j (by omega) (by omega)]; exact h0 j (by omega) (by omega)
  refine ⟨P2,?_,fun j hj=>?_,?_,?_,qjx.congr z _ (fun j h5 h6=>(k2 j (by omega)).symm) q1,q2⟩
  ·simp only [DT.fl,List.cons_append,qoc,hnode,List.append_assoc];rw [r1,r2];simp only [DT.sz];congr 1;omega
  ·simp only [DT.sz] at hj;rw [k2 j (by omega),k1 j (by omega),hp1 j (by omega) (by omega)]
  ·rw [k2 _ (by omega),k1 _ (by omega)];show qbs (qbs par (a + 1) (a + 1)) (a + 1 + z.sz) (a + 1) (a + 1) = a + 1;rw [qaw _ _ (by omega),qbg]
  ·rw [k2 _ (by omega),k1 _ (by omega)];show qbs (qbs par (a + 1) (a + 1)) (a + 1 + z.sz) (a + 1) (a + 1 + z.sz) = a + 1;rw [qbg]
def qju (P:Nat->Nat) (t:List Tn):List Nat->Nat->Prop
 | [],a=>P a = 0
 | u :: us,a=>∃ k,P a = k + 1/\(t.getD k default).i = (u:Int)/\qju P t us k
theorem qjp {P:Nat->Nat} {t:List Tn} {x:Nat}:∀ (us:List Nat) (a m:Nat),qju P t us a->x ∉ us->vUp t (x:Int) P m (P a) = true
 | [],a,m,h,_=>by
  rw [show P a = 0 from h];cases m <;> rfl
 | u :: us,a,m,⟨k,h1,h2,h3⟩,hx=>by
  rw [h1];simp only [List.mem_cons,not_or] at hx
  cases m with
  | zero=>rfl
  | succ m=>
   rw [vUp,if_neg (by rw [h2]; omega)];exact qjp us k m h3 hx.2
theorem qpu {bits:Nat} {P:Nat->Nat} {t:List Tn}:∀ (d:DT) (us:List Nat) (a:Nat),d.ok bits us->qjx P d a->qju P t us a->(∀ k,k < d.sz->t.getD (a + k) default = (d.fl a).getD k default)->(0 < a->P a ≠ 0)->
  ∀ j,a≤j->j < a + d.sz->qjo t P j = true
 | .lf,us,a,_,_,hc,ht,h0,j,h1,h2=>by
  simp only [DT.sz] at h2;have hj:j = a:=by omega
  subst hj;have e:t.getD j default = lfN:=by have:=ht 0 (by simp [DT.sz]); simpa [DT.fl] using this
  unfold qjo;rw [e,decide_eq_true rfl,Bool.true_or,Bool.and_true];by_cases hj:0 < j
  ·simp [h0 hj]
  ·simp [hj]
 | .nd i z o,us,a,⟨o1,o2,o3,o4⟩,⟨p1,p2,p3,p4⟩,hc,ht,h0,j,h1,h2=>by
  have hz:=z.sz_pos;have ho:=o.sz_pos;simp only [DT.sz] at h2 ht;have e:t.getD a default = ⟨i,((a + 1:Nat):Int),((a + 1 + z.sz:Nat):Int)⟩:=by have:=ht 0 (by omega); simpa [DT.fl] using this
  have ei:(t.getD a default).i = (i:Int):=by rw [e]
  have c1:qju P t (i :: us) (a + 1):=⟨a,p1,ei,hc⟩;have c2:qju P t (i :: us) (a + 1 + z.sz):=⟨a,p2,ei,hc⟩
  have t1:∀ k,k < z.sz->t.getD (a + 1 + k) default = (z.fl (a + 1)).getD k default:=fun k hk=>by
   have:=ht (k + 1) (by omega);rw [show a + 1 + k = a + (k + 1) by omega,this];simp only [DT.fl,List.getD_cons_succ];rw [jf0,jf0,List.getElem?_append_left (by simpa using hk)]
  have t2:∀ k,k < o.sz->t.getD (a + 1 + z.sz + k) default = (o.fl (a + 1 + z.sz)).getD k default:=fun k hk=>by
   have:=ht (1 + z.sz + k) (by omega);rw [show a + 1 + z.sz + k = a + (1 + z.sz + k) by omega,this];simp only [DT.fl];rw [show 1 + z.sz + k = (z.sz + k) + 1 by omega,List.getD_cons_succ];rw [jf0,jf0,List.getElem?_append_right (by simp)];simp
  rcases Nat.lt_or_ge a j with h3 | h3
  ·rcases Nat.lt_or_ge j (a + 1 + z.sz) with h4 | h4
   ·exact qpu z (i :: us) (a + 1) o3 p3 c1 t1 (fun _=>by omega) j (by omega) (by omega)
   ·exact qpu o (i :: us) (a + 1 + z.sz) o4 p4 c2 t2 (fun _=>by omega) j (by omega) (by omega)
  ·have hj:j = a:=by omega
   subst hj;unfold qjo;rw [ei,qjp us j _ hc o2,Bool.or_true,Bool.and_true];by_cases hj:0 < j
   ·simp [h0 hj]
   ·simp [hj]
theorem qme {bits:Nat} (d:DT) (h:d.ok bits []):qbn (d.fl 0) bits = true:=by
 obtain ⟨P,h1,h2,h3⟩:=qpt (len:=d.sz) d [] 0 [] (fun _=>0) h (by omega) fun _ _ _=>rfl
 have hr:qoc (d.fl 0).length bits (d.fl 0) 0 (fun _=>0) = some P:=by
  rw [jet];rw [List.append_nil] at h1;rw [h1]; rfl
 unfold qbn;rw [hr];simp only [jet];rw [Bool.and_eq_true,List.all_eq_true,decide_eq_true_eq];refine ⟨fun j hj=>?_,d.sz_pos⟩;rw [List.mem_range] at hj;exact qpu d [] 0 h h3 (h2 0 (.inl (jf5 0))) (fun k _=>by rw [Nat.zero_add]) (fun h=>absurd h (Nat.lt_irrefl 0)) j (Nat.zero_le _) (by omega)
end
section
open Go
def Pt.bit (p:Pt) (k:Nat):Nat:=if k < p.i.length then p.i.getD k 0 else p.s.getD (k - p.i.length) 0
def Pt.set (p:Pt) (k v:Nat):Pt:=if k < p.i.length then ⟨p.i.set k v,p.s⟩ else ⟨p.i,p.s.set (k - p.i.length) v⟩
def Pt.many (p:Pt):Nat:=p.i.length + p.s.length
@[simp] theorem jfl (p:Pt) (k v:Nat):(p.set k v).i.length = p.i.length:=by unfold Pt.set; split <;> simp
@[simp] theorem Pt.set_s (p:Pt) (k v:Nat):(p.set k v).s.length = p.s.length:=by unfold Pt.set; split <;> simp
@[simp] theorem jfp (p:Pt) (k v:Nat):(p.set k v).many = p.many:=by simp [Pt.many]
theorem qkr (l:List Nat) (k j v d:Nat):(l.set k v).getD j d = if j = k/\k < l.length then v else l.getD j d:=by
 simp only [jf0,List.getElem?_set];by_cases h:k = j
 ·subst h;by_cases hk:k < l.length
  ·simp [hk]
  ·simp [hk]
 ·rw [if_neg h,if_neg (fun e=>h e.1.symm)]
theorem jel {p:Pt} {k j v:Nat} (hk:k < p.many):(p.set k v).bit j = if j = k then v else p.bit j:=by
 unfold Pt.many at hk;unfold Pt.bit;rw [jfl];unfold Pt.set;by_cases h:k < p.i.length
 ·rw [if_pos h];simp only [qkr];by_cases hj:j < p.i.length
  ·rw [if_pos hj,if_pos hj];by_cases e:j = k
   ·rw [if_pos ⟨e,h⟩,if_pos e]
   ·rw [if_neg (fun q=>e q.1),if_neg e]
  ·rw [if_neg hj,if_neg hj,if_neg (by omega)]
 ·rw [if_neg h];simp only [qkr];by_cases hj:j < p.i.length
  ·rw [if_pos hj,if_pos hj,if_neg (by omega)]
  ·rw [if_neg hj,if_neg hj];by_cases e:j = k
   ·subst e;rw [if_pos ⟨rfl,by omega⟩,if_pos rfl]
   ·rw [if_neg (by omega),if_neg e]
theorem je7 {p q:Pt} (hi:p.i.length = q.i.length) (hs:p.s.length = q.s.length) (h:∀ k,k < p.many->p.bit k = q.bit k):p = q:=by
 unfold Pt.many Pt.bit at h
 have e1:p.i = q.i:=List.ext_getElem hi fun k h1 h2=>by
  have:=h k (by omega);rw [if_pos h1,if_pos h2] at this;simpa [jf0,h1,h2] using this
 have e2:p.s = q.s:=List.ext_getElem hs fun k h1 h2=>by
  have:=h (p.i.length + k) (by omega);rw [if_neg (by omega),if_neg (by omega),<- hi,Nat.add_sub_cancel_left] at this;simpa [jf0,h1,h2] using this
 cases p; cases q; simp_all
theorem jfg {p:Pt} {k:Nat} (hk:k < p.many) (v:Nat) (h:p.bit k = v):p.set k v = p:=by
 refine je7 (by simp) (by simp) fun j hj=>?_;rw [jel hk];split
 ·rename_i e; rw [e,h]
 ·rfl
theorem Pt.set_set {p:Pt} {k:Nat} (hk:k < p.many) (v w:Nat):(p.set k v).set k w = p.set k w:=by
 refine je7 (by simp) (by simp) fun j hj=>?_;rw [jel (by simpa using hk),jel hk,jel hk];split <;> rfl
theorem jeu {p:Pt} {c:Ci} (h:p.fit c) (k v:Nat) (hv:v≤3):(p.set k v).fit c:=by
 refine ⟨by simpa using h.i,by simpa using h.s,fun x hx=>?_,fun x hx=>?_⟩
 ·unfold Pt.set at hx;split at hx
  ·rcases List.mem_or_eq_of_mem_set hx with hx | rfl
   ·exact h.iv x hx
   ·exact hv
  ·exact h.iv x hx
 ·unfold Pt.set at hx;split at hx
  ·exact h.sv x hx
  ·rcases List.mem_or_eq_of_mem_set hx with hx | rfl
   ·exact h.sv x hx
   ·exact hv
noncomputable def prB (c:Ci) (f:Ft):DT->Pt->Bool
 | .lf,p=>qht c f p
 | .nd i z o,p=>prB c f z (p.set i 0) && prB c f o (p.set i 1)
noncomputable def qb1 (c:Ci) (f:Ft):DT->Pt->DT
 | .lf,_=>.lf
 | .nd i z o,p=>if qht c f p = true then .lf else .nd i (qb1 c f z (p.set i 0)) (qb1 c f o (p.set i 1))
theorem qma {c:Ci} {f:Ft}:∀ (d:DT) (p:Pt),(qb1 c f d p).sz≤d.sz
 | .lf,_=>jf5 _
 | .nd i z o,p=>by
  rw [qb1];have h1:=qma (c:=c) (f:=f) z (p.set i 0);have h2:=qma (c:=c) (f:=f) o (p.set i 1);split
  ·simp [DT.sz]; omega
  ·simp only [DT.sz]; omega
end
section
open Go
def At (t:List Tn) (d:DT) (a:Nat):Prop:=∀ k,k < d.sz->t[a + k]? = (d.fl a)[k]?
theorem At.fl (d:DT):At (d.fl 0) d 0:=fun k _=>by rw [Nat.zero_add]
theorem At.lf {t:List Tn} {a:Nat} (h:At t .lf a):t[a]? = some lfN:=h 0 (by simp [DT.sz])
theorem At.nd {t:List Tn} {i:Nat} {z o:DT} {a:Nat} (h:At t (.nd i z o) a):t[a]? = some ⟨i,((a + 1:Nat):Int),((a + 1 + z.sz:Nat):Int)⟩:=h 0 (by simp [DT.sz]; omega)
theorem At.z {t:List Tn} {i:Nat} {z o:DT} {a:Nat} (h:At t (.nd i z o) a):At t z (a + 1):=fun k hk=>by
 have:=h (k + 1) (by simp only [DT.sz]; omega);rw [show a + 1 + k = a + (k + 1) by omega,this];simp only [DT.fl,List.getElem?_cons_succ];rw [List.getElem?_append_left (by simpa using hk)]
theorem At.o {t:List Tn} {i:Nat} {z o:DT} {a:Nat} (h:At t (.nd i z o) a):At t o (a + 1 + z.sz):=fun k hk=>by
 have:=h (1 + z.sz + k) (by simp only [DT.sz]; omega);rw [show a + 1 + z.sz + k = a + (1 + z.sz + k) by omega,this];simp only [DT.fl];rw [show 1 + z.sz + k = (z.sz + k) + 1 by omega,List.getElem?_cons_succ,List.getElem?_append_right (by simp)];simp
def stP (p:Pt) (i:Nat):Nat->Pt
 | 0=>p
 | 1=>p.set i 0
 | _=>p.set i 1
noncomputable def stB (c:Ci) (f:Ft) (z o:DT) (p:Pt) (i:Nat):Nat->Bool
 | 0=>true
 | 1=>prB c f z (p.set i 0)
 | _=>prB c f z (p.set i 0) && prB c f o (p.set i 1)
theorem q15 {p:Pt} {i:Nat} (hi:i < p.many):∀ j,j < 2->(stP p i j).set i j = stP p i (j + 1)
 | 0,_=>rfl
 | 1,_=>Pt.set_set hi 0 1
theorem qvr {p:Pt} {i:Nat} (hi:i < p.many) (h:p.bit i = 2):(stP p i 2).set i 2 = p:=by
 show (p.set i 1).set i 2 = p;rw [Pt.set_set hi,jfg hi 2 h]
@[simp] theorem jdh (p:Pt) (i j:Nat):(stP p i j).i.length = p.i.length:=by
 match j with
 | 0=>rfl
 | 1=>simp [stP]
 | _ + 2=>simp [stP]
@[simp] theorem jdi (p:Pt) (i j:Nat):(stP p i j).s.length = p.s.length:=by
 match j with
 | 0=>rfl
 | 1=>simp [stP]
 | _ + 2=>simp [stP]
end
end Go.Proofs.YtpaopccohkldlaaGreatDoor
