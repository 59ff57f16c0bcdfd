/- Lemmas. Conditions: none. -/
import Derived.Test.YtpaopccohkldlaaGreatDoorU2
import Derived.Test.YtpaopccohkldlaaGreatDoorT12
set_option linter.all false
namespace Go.Proofs.YtpaopccohkldlaaGreatDoor
section
open Go
abbrev Ft.sW (f:Ft):Nat->Nat->Nat:=atW f fun _=>f.v
abbrev Ft.sQ (f:Ft):Nat->Nat->Nat->Nat:=atQ f fun _=>f.v
noncomputable def Ft.M (c:Ci) (f:Ft) (p:Pt):Nat->Nat:=qnj c f.sW f.sQ p
noncomputable def Ft.det (c:Ci) (f:Ft) (p:Pt):Bool:=visB c f.sW f.sQ p
def qni (c:Ci) (f:Ft) (A B:Nat->Nat) (n:Nat) (F:Nat->Bool):Bool:=
 !(decide (A n≤1) && decide (A n = B n)) && ((decide (n = f.n) && (qcv c n || decide (f.q = 0))) || (qcv c n && (c.g n).any F))
noncomputable def qyf (c:Ci) (f:Ft) (p:Pt):Nat->Bool:=evl (qni c f (qgt c p) (f.M c p)) (fun _=>true) (qpl c) (fun _=>false)
theorem g_ne {c:Ci} (hg:c.good) {n x:Nat} (hn:n < c.n.length) (hx:x ∈ c.g n):qqf c x < qqf c n:=by
 have hlv:qiq c.n.length c.g (qqf c):=hg.ac.lv;have:=hlv n hn;have:=qs0 (f:=qqf c) hx;omega
def inD (c:Ci) (n:Nat):Nat:=((c.nd n).i.getD 0 0).toNat
noncomputable def qgn (c:Ci) (f:Ft) (p:Pt):Bool:=
 !(c.o.any fun k=>qyf c f p k.toNat) && (ids 14 c.n 0).all fun n=>if f.n = n/\f.q = 1 then decide (qgt c p (inD c n) = f.v) else !qyf c f p (inD c n)
theorem que {c:Ci} {f:Ft} {p:Pt}:qgn c f p = true↔(∀ k ∈ c.o,qyf c f p k.toNat = false)/\∀ n ∈ ids 14 c.n 0,(f.n = n/\f.q = 1->qgt c p (inD c n) = f.v)/\(¬ (f.n = n/\f.q = 1)->qyf c f p (inD c n) = false):=by
 unfold qgn;rw [Bool.and_eq_true,Bool.not_eq_true',List.any_eq_false,List.all_eq_true];refine and_congr (forall_congr' fun k=>forall_congr' fun _=>by simp) (forall_congr' fun n=>forall_congr' fun _=>?_);split
 ·rename_i h; simp [h]
 ·rename_i h; simp [h]
theorem q08 {c:Ci} (hg:c.good) {n:Nat} (hn:n ∈ ids 14 c.n 0):n < c.n.length/\(c.nd n).i = [((inD c n:Nat):Int)]/\inD c n < c.n.length/\(c.nd n).k = 14:=by
 obtain ⟨h,x,hx,h0,h1,h2⟩:=qr5 hg hn;have hnd:(c.nd n).i = [x]:=by rw [c.nd_get h]; exact hx
 have e:inD c n = x.toNat:=by unfold inD; rw [hnd]; rfl
 rw [e,hnd,c.nd_get h];exact ⟨h,by congr 1; omega,by omega,h2⟩
end
section
open Go
structure Tn where
 i:Int
 z:Int
 o:Int
 deriving Inhabited,DecidableEq
def Tn.v (n:Tn):V:=.agg [.int .i64 n.i,.int .i64 n.z,.int .i64 n.o]
def lfN:Tn:=⟨-1,0,0⟩
inductive DT where
 | lf
 | nd (i:Nat) (z o:DT)
 deriving Inhabited
def DT.sz:DT->Nat
 | .lf=>1
 | .nd _ z o=>1 + z.sz + o.sz
def DT.fl:DT->Nat->List Tn
 | .lf,_=>[lfN]
 | .nd i z o,a=>⟨i,((a + 1:Nat):Int),((a + 1 + z.sz:Nat):Int)⟩ :: (z.fl (a + 1) ++ o.fl (a + 1 + z.sz))
@[simp] theorem jgy:∀ (d:DT) (a:Nat),(d.fl a).length = d.sz
 | .lf,_=>rfl
 | .nd _ z o,a=>by simp [DT.fl,DT.sz,jgy z,jgy o]; omega
theorem DT.sz_pos:∀ d:DT,0 < d.sz
 | .lf=>by simp [DT.sz]
 | .nd _ z o=>by simp [DT.sz]; omega
def DT.ok (bits:Nat):DT->List Nat->Prop
 | .lf,_=>True
 | .nd i z o,us=>i < bits/\i ∉ us/\z.ok bits (i :: us)/\o.ok bits (i :: us)
def qk7 (len i:Nat) (k:Int) (par:Nat->Nat):Option (Nat->Nat):=if k≤(i:Int)∨(len:Int)≤k∨0 < par k.toNat then none else some (qcn par k.toNat (i + 1))
def qff (len:Nat) (bits:Int) (i:Nat) (n:Tn) (par:Nat->Nat):Option (Nat->Nat):=
 if n = lfN then some par else if n.i < 0∨bits≤n.i then none else match qk7 len i n.z par with
  | none=>none
  | some p=>qk7 len i n.o p
def qpc (len:Nat) (bits:Int):List Tn->Nat->(Nat->Nat)->Option (Nat->Nat)
 | [],_,p=>some p
 | n :: r,i,p=>match qff len bits i n p with
  | none=>none
  | some p=>qpc len bits r (i + 1) p
def vUp (t:List Tn) (x:Int) (par:Nat->Nat):Nat->Nat->Bool
 | 0,_=>true
 | _ + 1,0=>true
 | m + 1,k + 1=>if (t.getD k default).i = x then false else vUp t x par m (par k)
def ql4 (t:List Tn) (par:Nat->Nat) (i:Nat):Bool:=
 !(decide (0 < i) && decide (par i = 0)) && (decide (t.getD i default = lfN) || vUp t (t.getD i default).i par (t.length + 1) (par i))
def qca (t:List Tn) (bits:Int):Bool:=match qpc t.length bits t 0 (fun _=>0) with
 | none=>false
 | some par=>(List.range t.length).all (ql4 t par) && decide (0 < t.length)
def qkv (P:Nat->Nat):DT->Nat->Prop
 | .lf,_=>True
 | .nd _ z o,a=>P (a + 1) = a + 1/\P (a + 1 + z.sz) = a + 1/\qkv P z (a + 1)/\qkv P o (a + 1 + z.sz)
theorem qkv.congr {P P':Nat->Nat}:∀ (d:DT) (a:Nat),(∀ j,a < j->j < a + d.sz->P j = P' j)->qkv P d a->qkv P' d a
 | .lf,_,_,_=>trivial
 | .nd _ z o,a,h,⟨h1,h2,h3,h4⟩=>by
  have hz:=z.sz_pos;have ho:=o.sz_pos;simp only [DT.sz] at h
  exact ⟨by rw [<- h _ (by omega) (by omega)]; exact h1,by rw [<- h _ (by omega) (by omega)]; exact h2,
   qkv.congr z _ (fun j h5 h6=>h j (by omega) (by omega)) h3,qkv.congr o _ (fun j h5 h6=>h j (by omega) (by omega)) h4⟩
theorem qq5 {len bits:Nat}:∀ (d:DT) (us:List Nat) (a:Nat) (rest:List Tn) (par:Nat->Nat),d.ok bits us->a + d.sz≤len->(∀ j,a < j->j < a + d.sz->par j = 0)->
  ∃ P,qpc len bits (d.fl a ++ rest) a par = qpc len bits rest (a + d.sz) P/\(∀ j,j≤a∨a + d.sz≤j->P j = par j)/\qkv P d a
 | .lf,us,a,rest,par,_,_,_=>by
  refine ⟨par,?_,fun _ _=>rfl,trivial⟩;simp [DT.fl,qpc,qff,DT.sz]
 | .nd i z o,us,a,rest,par,⟨h1,h2,h3,h4⟩,hl,h0=>by
  have hz:=z.sz_pos;have ho:=o.sz_pos;simp only [DT.sz] at hl h0
  have hne:(⟨(i:Int),((a + 1:Nat):Int),((a + 1 + z.sz:Nat):Int)⟩:Tn) ≠ lfN:=fun e=>by
   have:=congrArg Tn.i e;simp only [lfN] at this;omega
  let p1:=qcn (qcn par (a + 1) (a + 1)) (a + 1 + z.sz) (a + 1)
  have hnode:qff len bits a ⟨(i:Int),((a + 1:Nat):Int),((a + 1 + z.sz:Nat):Int)⟩ par = some p1:=by
   unfold qff;rw [if_neg hne,if_neg (by simp only []; omega)]
   have e1:qk7 len a ((a + 1:Nat):Int) par = some (qcn par (a + 1) (a + 1)):=by
    unfold qk7;rw [Int.toNat_natCast,if_neg (by rw [h0 (a + 1) (by omega) (by omega)]; omega)]
   have e2:qk7 len a ((a + 1 + z.sz:Nat):Int) (qcn par (a + 1) (a + 1)) = some p1:=by
    unfold qk7;rw [Int.toNat_natCast,qa1 _ _ (by omega),if_neg (by rw [h0 (a + 1 + z.sz) (by omega) (by omega)]; omega)]
   simp only [e1,e2]
  have hp1:∀ j,j ≠ a + 1->j ≠ a + 1 + z.sz->p1 j = par j:=fun j h5 h6=>by
   show qcn (qcn par (a + 1) (a + 1)) (a + 1 + z.sz) (a + 1) j = par j;rw [qa1 _ _ h6,qa1 _ _ h5]
  obtain ⟨P1,r1,k1,q1⟩:=qq5 (len:=len) z (i :: us) (a + 1) (o.fl (a + 1 + z.sz) ++ rest) p1 h3 (by omega) fun j h5 h6=>by rw [hp1 j (by omega) (by omega)]; exact h0 j (by omega) (by omega)
  obtain ⟨P2,r2,k2,q2⟩:=qq5 (len:=len) o (i :: us) (a + 1 + z.sz) rest P1 h4 (by omega) fun j h5 h6=>by
   rw [k1 j (by omega),hp1 j (by omega) (by omega)]; exact h0 j (by omega) (by omega)
  refine ⟨P2,?_,fun j hj=>?_,?_,?_,qkv.congr z _ (fun j h5 h6=>(k2 j (by omega)).symm) q1,q2⟩
  ·simp only [DT.fl,List.cons_append,qpc,hnode,List.append_assoc];rw [r1,r2];simp only [DT.sz];congr 1;omega
  ·simp only [DT.sz] at hj;rw [k2 j (by omega),k1 j (by omega),hp1 j (by omega) (by omega)]
  ·rw [k2 _ (by omega),k1 _ (by omega)];show qcn (qcn par (a + 1) (a + 1)) (a + 1 + z.sz) (a + 1) (a + 1) = a + 1;rw [qa1 _ _ (by omega),qbv]
  ·rw [k2 _ (by omega),k1 _ (by omega)];show qcn (qcn par (a + 1) (a + 1)) (a + 1 + z.sz) (a + 1) (a + 1 + z.sz) = a + 1;rw [qbv]
def ql6 (P:Nat->Nat) (t:List Tn):List Nat->Nat->Prop
 | [],a=>P a = 0
 | u :: us,a=>∃ k,P a = k + 1/\(t.getD k default).i = (u:Int)/\ql6 P t us k
theorem qpd {P:Nat->Nat} {t:List Tn} {x:Nat}:∀ (us:List Nat) (a m:Nat),ql6 P t us a->x ∉ us->vUp t (x:Int) P m (P a) = true
 | [],a,m,h,_=>by
  rw [show P a = 0 from h];cases m <;> rfl
 | u :: us,a,m,⟨k,h1,h2,h3⟩,hx=>by
  rw [h1];simp only [List.mem_cons,not_or] at hx
  cases m with
  | zero=>rfl
  | succ m=>
   rw [vUp,if_neg (by rw [h2]; omega)];exact qpd us k m h3 hx.2
theorem qq6 {bits:Nat} {P:Nat->Nat} {t:List Tn}:∀ (d:DT) (us:List Nat) (a:Nat),d.ok bits us->qkv P d a->ql6 P t us a->(∀ k,k < d.sz->t.getD (a + k) default = (d.fl a).getD k default)->(0 < a->P a ≠ 0)->
  ∀ j,a≤j->j < a + d.sz->ql4 t P j = true
 | .lf,us,a,_,_,hc,ht,h0,j,h1,h2=>by
  simp only [DT.sz] at h2;have hj:j = a:=by omega
  subst hj;have e:t.getD j default = lfN:=by have:=ht 0 (by simp [DT.sz]); simpa [DT.fl] using this
  unfold ql4;rw [e,decide_eq_true rfl,Bool.true_or,Bool.and_true];by_cases hj:0 < j
  ·simp [h0 hj]
  ·simp [hj]
 | .nd i z o,us,a,⟨o1,o2,o3,o4⟩,⟨p1,p2,p3,p4⟩,hc,ht,h0,j,h1,h2=>by
  have hz:=z.sz_pos;have ho:=o.sz_pos;simp only [DT.sz] at h2 ht;have e:t.getD a default = ⟨i,((a + 1:Nat):Int),((a + 1 + z.sz:Nat):Int)⟩:=by have:=ht 0 (by omega); simpa [DT.fl] using this
  have ei:(t.getD a default).i = (i:Int):=by rw [e]
  have c1:ql6 P t (i :: us) (a + 1):=⟨a,p1,ei,hc⟩;have c2:ql6 P t (i :: us) (a + 1 + z.sz):=⟨a,p2,ei,hc⟩
  have t1:∀ k,k < z.sz->t.getD (a + 1 + k) default = (z.fl (a + 1)).getD k default:=fun k hk=>by
   have:=ht (k + 1) (by omega);rw [show a + 1 + k = a + (k + 1) by omega,this];simp only [DT.fl,List.getD_cons_succ];rw [jh0,jh0,List.getElem?_append_left (by simpa using hk)]
  have t2:∀ k,k < o.sz->t.getD (a + 1 + z.sz + k) default = (o.fl (a + 1 + z.sz)).getD k default:=fun k hk=>by
   have:=ht (1 + z.sz + k) (by omega);rw [show a + 1 + z.sz + k = a + (1 + z.sz + k) by omega,this];simp only [DT.fl];rw [show 1 + z.sz + k = (z.sz + k) + 1 by omega,List.getD_cons_succ];rw [jh0,jh0,List.getElem?_append_right (by simp)];simp
  rcases Nat.lt_or_ge a j with h3 | h3
  ·rcases Nat.lt_or_ge j (a + 1 + z.sz) with h4 | h4
   ·exact qq6 z (i :: us) (a + 1) o3 p3 c1 t1 (fun _=>by omega) j (by omega) (by omega)
   ·exact qq6 o (i :: us) (a + 1 + z.sz) o4 p4 c2 t2 (fun _=>by omega) j (by omega) (by omega)
  ·have hj:j = a:=by omega
   subst hj;unfold ql4;rw [ei,qpd us j _ hc o2,Bool.or_true,Bool.and_true];by_cases hj:0 < j
   ·simp [h0 hj]
   ·simp [hj]
theorem qsl {bits:Nat} (d:DT) (h:d.ok bits []):qca (d.fl 0) bits = true:=by
 obtain ⟨P,h1,h2,h3⟩:=qq5 (len:=d.sz) d [] 0 [] (fun _=>0) h (by omega) fun _ _ _=>rfl
 have hr:qpc (d.fl 0).length bits (d.fl 0) 0 (fun _=>0) = some P:=by
  rw [jgy];rw [List.append_nil] at h1;rw [h1]; rfl
 unfold qca;rw [hr];simp only [jgy];rw [Bool.and_eq_true,List.all_eq_true,decide_eq_true_eq];refine ⟨fun j hj=>?_,d.sz_pos⟩;rw [List.mem_range] at hj;exact qq6 d [] 0 h h3 (h2 0 (.inl (jh5 0))) (fun k _=>by rw [Nat.zero_add]) (fun h=>absurd h (Nat.lt_irrefl 0)) j (Nat.zero_le _) (by omega)
end
section
open Go
def Pt.bit (p:Pt) (k:Nat):Nat:=if k < p.i.length then p.i.getD k 0 else p.s.getD (k - p.i.length) 0
def Pt.set (p:Pt) (k v:Nat):Pt:=if k < p.i.length then ⟨p.i.set k v,p.s⟩ else ⟨p.i,p.s.set (k - p.i.length) v⟩
def Pt.many (p:Pt):Nat:=p.i.length + p.s.length
@[simp] theorem jhm (p:Pt) (k v:Nat):(p.set k v).i.length = p.i.length:=by unfold Pt.set; split <;> simp
@[simp] theorem Pt.set_s (p:Pt) (k v:Nat):(p.set k v).s.length = p.s.length:=by unfold Pt.set; split <;> simp
@[simp] theorem jhp (p:Pt) (k v:Nat):(p.set k v).many = p.many:=by simp [Pt.many]
theorem qlp (l:List Nat) (k j v d:Nat):(l.set k v).getD j d = if j = k/\k < l.length then v else l.getD j d:=by
 simp only [jh0,List.getElem?_set];by_cases h:k = j
 ·subst h;by_cases hk:k < l.length
  ·simp [hk]
  ·simp [hk]
 ·rw [if_neg h,if_neg (fun e=>h e.1.symm)]
theorem jgo {p:Pt} {k j v:Nat} (hk:k < p.many):(p.set k v).bit j = if j = k then v else p.bit j:=by
 unfold Pt.many at hk;unfold Pt.bit;rw [jhm];unfold Pt.set;by_cases h:k < p.i.length
 ·rw [if_pos h];simp only [qlp];by_cases hj:j < p.i.length
  ·rw [if_pos hj,if_pos hj];by_cases e:j = k
   ·rw [if_pos ⟨e,h⟩,if_pos e]
   ·rw [if_neg (fun q=>e q.1),if_neg e]
  ·rw [if_neg hj,if_neg hj,if_neg (by omega)]
 ·rw [if_neg h];simp only [qlp];by_cases hj:j < p.i.length
  ·rw [if_pos hj,if_pos hj,if_neg (by omega)]
  ·rw [if_neg hj,if_neg hj];by_cases e:j = k
   ·subst e;rw [if_pos ⟨rfl,by omega⟩,if_pos rfl]
   ·rw [if_neg (by omega),if_neg e]
theorem jg7 {p q:Pt} (hi:p.i.length = q.i.length) (hs:p.s.length = q.s.length) (h:∀ k,k < p.many->p.bit k = q.bit k):p = q:=by
 unfold Pt.many Pt.bit at h
 have e1:p.i = q.i:=List.ext_getElem hi fun k h1 h2=>by
  have:=h k (by omega);rw [if_pos h1,if_pos h2] at this;simpa [jh0,h1,h2] using this
 have e2:p.s = q.s:=List.ext_getElem hs fun k h1 h2=>by
  have:=h (p.i.length + k) (by omega);rw [if_neg (by omega),if_neg (by omega),<- hi,Nat.add_sub_cancel_left] at this;simpa [jh0,h1,h2] using this
 cases p; cases q; simp_all
theorem jhh {p:Pt} {k:Nat} (hk:k < p.many) (v:Nat) (h:p.bit k = v):p.set k v = p:=by
 refine jg7 (by simp) (by simp) fun j hj=>?_;rw [jgo hk];split
 ·rename_i e; rw [e,h]
 ·rfl
theorem Pt.set_set {p:Pt} {k:Nat} (hk:k < p.many) (v w:Nat):(p.set k v).set k w = p.set k w:=by
 refine jg7 (by simp) (by simp) fun j hj=>?_;rw [jgo (by simpa using hk),jgo hk,jgo hk];split <;> rfl
theorem jgt {p:Pt} {c:Ci} (h:p.fit c) (k v:Nat) (hv:v≤3):(p.set k v).fit c:=by
 refine ⟨by simpa using h.i,by simpa using h.s,fun x hx=>?_,fun x hx=>?_⟩
 ·unfold Pt.set at hx;split at hx
  ·rcases List.mem_or_eq_of_mem_set hx with hx | rfl
   ·exact h.iv x hx
   ·exact hv
  ·exact h.iv x hx
 ·unfold Pt.set at hx;split at hx
  ·exact h.sv x hx
  ·rcases List.mem_or_eq_of_mem_set hx with hx | rfl
   ·exact h.sv x hx
   ·exact hv
noncomputable def prB (c:Ci) (f:Ft):DT->Pt->Bool
 | .lf,p=>qgn c f p
 | .nd i z o,p=>prB c f z (p.set i 0) && prB c f o (p.set i 1)
noncomputable def qba (c:Ci) (f:Ft):DT->Pt->DT
 | .lf,_=>.lf
 | .nd i z o,p=>if qgn c f p = true then .lf else .nd i (qba c f z (p.set i 0)) (qba c f o (p.set i 1))
theorem qq3 {c:Ci} {f:Ft} {bits:Nat}:∀ (d:DT) (us:List Nat) (p:Pt),d.ok bits us->(qba c f d p).ok bits us
 | .lf,_,_,_=>trivial
 | .nd i z o,us,p,⟨o1,o2,o3,o4⟩=>by
  rw [qba];split
  ·trivial
  ·exact ⟨o1,o2,qq3 z _ _ o3,qq3 o _ _ o4⟩
theorem qq4 {c:Ci} {f:Ft}:∀ (d:DT) (p:Pt),prB c f d p = true->prB c f (qba c f d p) p = true
 | .lf,_,h=>h
 | .nd i z o,p,h=>by
  rw [qba];split
  ·assumption
  ·simp only [prB,Bool.and_eq_true] at h ⊢;exact ⟨qq4 z _ h.1,qq4 o _ h.2⟩
theorem qkk {c:Ci} {f:Ft}:∀ (d:DT) (p:Pt),qba c f (qba c f d p) p = qba c f d p
 | .lf,_=>rfl
 | .nd i z o,p=>by
  rw [qba];split
  ·rfl
  ·rename_i h;rw [qba,if_neg h,qkk z,qkk o]
theorem qkj {c:Ci} {f:Ft}:∀ (d:DT) (p:Pt),(qba c f d p).sz≤d.sz
 | .lf,_=>jh5 _
 | .nd i z o,p=>by
  rw [qba];have h1:=qkj (c:=c) (f:=f) z (p.set i 0);have h2:=qkj (c:=c) (f:=f) o (p.set i 1);split
  ·simp [DT.sz]; omega
  ·simp only [DT.sz]; omega
end
section
open Go
def At (t:List Tn) (d:DT) (a:Nat):Prop:=∀ k,k < d.sz->t[a + k]? = (d.fl a)[k]?
theorem At.fl (d:DT):At (d.fl 0) d 0:=fun k _=>by rw [Nat.zero_add]
theorem At.lf {t:List Tn} {a:Nat} (h:At t .lf a):t[a]? = some lfN:=h 0 (by simp [DT.sz])
theorem At.nd {t:List Tn} {i:Nat} {z o:DT} {a:Nat} (h:At t (.nd i z o) a):t[a]? = some ⟨i,((a + 1:Nat):Int),((a + 1 + z.sz:Nat):Int)⟩:=h 0 (by simp [DT.sz]; omega)
theorem At.z {t:List Tn} {i:Nat} {z o:DT} {a:Nat} (h:At t (.nd i z o) a):At t z (a + 1):=fun k hk=>by
 have:=h (k + 1) (by simp only [DT.sz]; omega);rw [show a + 1 + k = a + (k + 1) by omega,this];simp only [DT.fl,List.getElem?_cons_succ];rw [List.getElem?_append_left (by simpa using hk)]
theorem At.o {t:List Tn} {i:Nat} {z o:DT} {a:Nat} (h:At t (.nd i z o) a):At t o (a + 1 + z.sz):=fun k hk=>by
 have:=h (1 + z.sz + k) (by simp only [DT.sz]; omega);rw [show a + 1 + z.sz + k = a + (1 + z.sz + k) by omega,this];simp only [DT.fl];rw [show 1 + z.sz + k = (z.sz + k) + 1 by omega,List.getElem?_cons_succ,List.getElem?_append_right (by simp)];simp
def stP (p:Pt) (i:Nat):Nat->Pt
 | 0=>p
 | 1=>p.set i 0
 | _=>p.set i 1
noncomputable def stB (c:Ci) (f:Ft) (z o:DT) (p:Pt) (i:Nat):Nat->Bool
 | 0=>true
 | 1=>prB c f z (p.set i 0)
 | _=>prB c f z (p.set i 0) && prB c f o (p.set i 1)
theorem q34 {p:Pt} {i:Nat} (hi:i < p.many):∀ j,j < 2->(stP p i j).set i j = stP p i (j + 1)
 | 0,_=>rfl
 | 1,_=>Pt.set_set hi 0 1
theorem qxc {p:Pt} {i:Nat} (hi:i < p.many) (h:p.bit i = 2):(stP p i 2).set i 2 = p:=by
 show (p.set i 1).set i 2 = p;rw [Pt.set_set hi,jhh hi 2 h]
@[simp] theorem jfh (p:Pt) (i j:Nat):(stP p i j).i.length = p.i.length:=by
 match j with
 | 0=>rfl
 | 1=>simp [stP]
 | _ + 2=>simp [stP]
@[simp] theorem jfi (p:Pt) (i j:Nat):(stP p i j).s.length = p.s.length:=by
 match j with
 | 0=>rfl
 | 1=>simp [stP]
 | _ + 2=>simp [stP]
end
end Go.Proofs.YtpaopccohkldlaaGreatDoor
