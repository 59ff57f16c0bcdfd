/- Lemmas. Conditions: none. -/
import Derived.Test.YtpaopccohkldlaaGreatDoorU3
import Derived.Test.YtpaopccohkldlaaGreatDoorT12
set_option linter.all false
namespace Go.Proofs.YtpaopccohkldlaaGreatDoor
section
open Go
abbrev Ft.sW (f:Ft):Nat->Nat->Nat:=atW f fun _=>f.v
abbrev Ft.sQ (f:Ft):Nat->Nat->Nat->Nat:=atQ f fun _=>f.v
noncomputable def Ft.M (c:Ci) (f:Ft) (p:Pt):Nat->Nat:=qjo c f.sW f.sQ p
noncomputable def Ft.det (c:Ci) (f:Ft) (p:Pt):Bool:=jgz c f.sW f.sQ p
theorem jiq (f:Ft):LeW f.sW f.sW:=jc4 f fun _ _ _=>.inl rfl
theorem jip (f:Ft):LeQ f.sQ f.sQ:=jc2 f fun _ _ _=>.inl rfl
def qop (c:Ci) (f:Ft) (A B:Nat->Nat) (n:Nat) (F:Nat->Bool):Bool:=
 !(decide (A n≤1) && decide (A n = B n)) && ((decide (n = f.n) && (qb2 c n || decide (f.q = 0))) || (qb2 c n && (c.g n).any F))
theorem qvm {α:Type} {l:List α} {F G:α->Bool} (h:∀ x ∈ l,F x = G x):l.any F = l.any G:=by
 induction l with
 | nil=>rfl
 | cons a l ih=>simp only [List.any_cons]; rw [h a List.mem_cons_self,ih fun x hx=>h x (List.mem_cons_of_mem _ hx)]
theorem q50 {c:Ci} {f:Ft} {A B:Nat->Nat} {n:Nat} {F G:Nat->Bool} (h:∀ x ∈ c.g n,F x = G x):qop c f A B n F = qop c f A B n G:=by
 unfold qop; rw [qvm h]
noncomputable def qq0 (c:Ci) (f:Ft) (p:Pt):Nat->Bool:=evl (qop c f (qbm c p) (f.M c p)) (fun _=>true) (qi5 c) (fun _=>false)
theorem jia {c:Ci} (hg:c.good) {n x:Nat} (hn:n < c.n.length) (hx:x ∈ c.g n):qih c x < qih c n:=by
 have hlv:qij c.n.length c.g (qih c):=hg.ac.lv;have:=hlv n hn;have:=qqt (f:=qih c) hx;omega
theorem qsu {c:Ci} (hg:c.good) (f:Ft) (p:Pt) {n:Nat} (hn:n < c.n.length):qq0 c f p n = qop c f (qbm c p) (f.M c p) n (qq0 c f p):=by
 have ho:=hg.ord;have h:=qyd (g:=c.g) (ev:=qop c f (qbm c p) (f.M c p)) (fun n F F' h _=>q50 h) (qi5 c) [] (fun _=>false) (ho.topo hg) (qc9 ho.p) (by simp) n (ho.all hn);rw [show qq0 c f p n = _ from h];refine q50 fun x hx=>qao _ _ fun e=>?_;have:=jia hg hn hx;rw [e] at this;omega
theorem Ci.good.ind {c:Ci} (hg:c.good) {P:Nat->Prop} (h:∀ n,n < c.n.length->(∀ x ∈ c.g n,P x)->P n):∀ n,n < c.n.length->P n:=by
 have key:∀ k n,qih c n < k->n < c.n.length->P n:=by
  intro k
  induction k with
  | zero=>intro n h1; omega
  | succ k ih=>intro n h1 h2; exact h n h2 fun x hx=>ih x (by have:=jia hg h2 hx; omega) (hg.val.g n h2 x hx)
 exact fun n=>key _ n (Nat.lt_succ_self _)
theorem q51 {c:Ci} (hg:c.good) {f:Ft} {p q:Pt} (h:p.le q):∀ n,n < c.n.length->qq0 c f p n = false->qq0 c f q n = false/\qbm c q n = f.M c q n:=by
 refine hg.ind fun n hn ih hp=>?_;rw [qsu hg f p hn] at hp;rw [qsu hg f q hn];have hA:=quh c h n;have hB:le2 (f.M c p n) (f.M c q n):=qy3 c (jiq f) (jip f) h n;by_cases hd:qbm c p n≤1/\qbm c p n = f.M c p n
 ·have e1:qbm c p n = qbm c q n:=hA.resolve_right (by omega);have e2:f.M c p n = f.M c q n:=hB.resolve_right (by omega);refine ⟨?_,by rw [<- e1,<- e2,hd.2]⟩;unfold qop;rw [<- e1,<- e2];simp [hd.1,hd.2.symm]
 ·have hd':(decide (qbm c p n≤1) && decide (qbm c p n = f.M c p n)) = false:=by
   cases h1:decide (qbm c p n≤1) <;> cases h2:decide (qbm c p n = f.M c p n) <;> simp_all
  unfold qop at hp ⊢;rw [hd',Bool.not_false,Bool.true_and] at hp;obtain ⟨s1,s2⟩:=Bool.or_eq_false_iff.1 hp
  have hin:qb2 c n = true->∀ x ∈ c.g n,qq0 c f q x = false/\qbm c q x = f.M c q x:=fun hc x hx=>by
   rw [hc,Bool.true_and,List.any_eq_false] at s2;exact ih x hx (by simpa using s2 x hx)
  have s3:(qb2 c n && (c.g n).any (qq0 c f q)) = false:=by
   cases hc:qb2 c n with
   | false=>rfl
   | true=>rw [Bool.true_and,List.any_eq_false]; exact fun x hx=>by rw [(hin hc x hx).1]; simp
  refine ⟨by rw [s1,s3]; simp,?_⟩
  have hnf:n = f.n->qb2 c n = false/\f.q ≠ 0:=fun e=>by
   rw [decide_eq_true e,Bool.true_and] at s1;obtain ⟨h1,h2⟩:=Bool.or_eq_false_iff.1 s1;exact ⟨h1,by simpa using h2⟩
  have a1:=q3p (p:=q) hg hg.ord n hn;have a2:f.M c q n = _:=qou (W:=f.sW) (Q:=f.sQ) (p:=q) hg hg.ord n hn;rw [a1,a2]
  have hw:∀ v,f.sW n v = v:=fun v=>by
   unfold Ft.sW atW;rw [if_neg fun e=>(hnf e.2).2 e.1]
  rw [hw];unfold idW;split
  ·rename_i hc;have hne:n ≠ f.n:=fun e=>by rw [(hnf e).1] at hc; cases hc
   congr 1;refine qi7 fun k hk=>?_;unfold Ft.sQ atQ;rw [if_neg fun e=>hne e.2.1];have hx:((c.nd n).i[k]).toNat ∈ c.g n:=by rw [qji hc]; exact List.mem_map_of_mem (jpc hk)
   have:=(hin hc _ hx).2;exact this
  ·rfl
def inD (c:Ci) (n:Nat):Nat:=((c.nd n).i.getD 0 0).toNat
noncomputable def qma (c:Ci) (f:Ft) (p:Pt):Bool:=
 !(c.o.any fun k=>qq0 c f p k.toNat) && (ids 14 c.n 0).all fun n=>if f.n = n/\f.q = 1 then decide (qbm c p (inD c n) = f.v) else !qq0 c f p (inD c n)
theorem qxl {c:Ci} {f:Ft} {p:Pt}:qma c f p = true↔(∀ k ∈ c.o,qq0 c f p k.toNat = false)/\∀ n ∈ ids 14 c.n 0,(f.n = n/\f.q = 1->qbm c p (inD c n) = f.v)/\(¬ (f.n = n/\f.q = 1)->qq0 c f p (inD c n) = false):=by
 unfold qma;rw [Bool.and_eq_true,Bool.not_eq_true',List.any_eq_false,List.all_eq_true];refine and_congr (forall_congr' fun k=>forall_congr' fun _=>by simp) (forall_congr' fun n=>forall_congr' fun _=>?_);split
 ·rename_i h; simp [h]
 ·rename_i h; simp [h]
theorem qqm {c:Ci} (hg:c.good) {n:Nat} (hn:n ∈ ids 14 c.n 0):n < c.n.length/\(c.nd n).i = [((inD c n:Nat):Int)]/\inD c n < c.n.length/\(c.nd n).k = 14:=by
 obtain ⟨h,x,hx,h0,h1,h2⟩:=quk hg hn;have hnd:(c.nd n).i = [x]:=by rw [c.nd_get h]; exact hx
 have e:inD c n = x.toNat:=by unfold inD; rw [hnd]; rfl
 rw [e,hnd,c.nd_get h];exact ⟨h,by congr 1; omega,by omega,h2⟩
theorem qul {c:Ci} (hg:c.good) {n:Nat} (hn:n ∈ ids 14 c.n 0) (Q:Nat->Nat->Nat->Nat) (M:Nat->Nat):q3t c Q M n = if Q n 0 (M (inD c n)) = 3 then 2 else Q n 0 (M (inD c n)):=by
 obtain ⟨-,h1,-⟩:=qqm hg hn;unfold q3t qgd;rw [h1];simp
theorem qum {c:Ci} (hg:c.good) {n:Nat} (hn:n ∈ ids 14 c.n 0) (A:Nat->Nat):q3u c A n = rdN (qe0 (A (inD c n))):=by
 obtain ⟨-,h1,-⟩:=qqm hg hn;unfold q3u;rw [h1];simp
theorem sQ0 (f:Ft) (n v:Nat):f.sQ n 0 v = if f.n = n/\f.q = 1 then f.v else v:=by
 unfold Ft.sQ atQ;by_cases h:f.n = n/\f.q = 1
 ·rw [if_pos h,if_pos ⟨by omega,h.1.symm,by omega⟩]
 ·rw [if_neg h,if_neg fun e=>h ⟨e.2.1.symm,by omega⟩]
theorem q6x {c:Ci} (hg:c.good) {f:Ft} (hf:f.ok c) {p q:Pt} (h:p.le q) (hq:q.fit c) (hb:qma c f p = true):f.det c q = false:=by
 rw [qxl] at hb;have hM:qjo c f.sW f.sQ q = f.M c q:=rfl
 have hO:qgt c (f.M c q) = qnf c (qbm c q):=by
  unfold qgt qnf;refine List.map_congr_left fun k hk=>?_;rw [qj1 (jix hq _)];exact (q51 hg h _ (by have:=hg.o hk; omega) (hb.1 k hk)).2.symm
 have hS:qgu c f.sQ (f.M c q) = qng c (qbm c q):=by
  unfold qgu qng;refine List.map_congr_left fun n hn=>?_;obtain ⟨hnl,h1,h2,h3⟩:=qqm hg hn;have h4:=jix hq (inD c n);have hv:=hf.v;rw [qul hg hn,qum hg hn,qj1 h4];rw [sQ0];unfold rdN;by_cases e:f.n = n/\f.q = 1
  ·have h5:=(hb.2 n hn).1 e;have h6:=quh c h (inD c n);rw [h5] at h6;have h7:=h6.resolve_right (by omega);rw [if_pos e,if_neg (by omega)];omega
  ·have h5:=(q51 hg h _ h2 ((hb.2 n hn).2 e)).2;rw [if_neg e,<- h5];split <;> omega
 unfold Ft.det jgz;rw [hM,hO,hS];exact q0i _ _
theorem stk1 {c:Ci} (hg:c.good) (hk:c.plain) {f:Ft} (hv:f.v≤1) {p:Pt} (hp:p.kn):∀ n,n < c.n.length->f.M c p n≤1:=by
 refine hg.ind fun n hn ih=>?_;have a2:f.M c p n = _:=qou (W:=f.sW) (Q:=f.sQ) (p:=p) hg hg.ord n hn;rw [a2]
 have hw:∀ v,v≤1->f.sW n v≤1:=fun v h=>by
  unfold Ft.sW atW;split <;> omega
 refine hw _ ?_;split
 ·rename_i hc;obtain ⟨h1,h2,h3⟩:=hk n hn hc;refine jdc h1 h2 (by simpa [qgd] using h3) fun v hv'=>?_;unfold qgd at hv';rw [List.mem_mapIdx] at hv';obtain ⟨k,hk',rfl⟩:=hv';have hx:((c.nd n).i[k]).toNat ∈ c.g n:=by rw [qji hc]; exact List.mem_map_of_mem (jpc hk')
  have h5:f.M c p ((c.nd n).i[k]).toNat≤1:=ih _ hx;show f.sQ n k (f.M c p ((c.nd n).i[k]).toNat)≤1;unfold Ft.sQ atQ;split
  ·exact hv
  ·exact h5
 ·exact jd8 _ _ _ hp.2 (jd8 _ _ _ hp.1 fun _=>by omega) n
theorem q52 {c:Ci} (hg:c.good) {f:Ft} {p:Pt} {n:Nat} (hn:n < c.n.length) (h1:qbm c p n≤1) (h:qq0 c f p n = true):qbm c p n ≠ f.M c p n:=fun e=>by
 rw [qsu hg f p hn] at h;unfold qop at h;rw [decide_eq_true h1,decide_eq_true e] at h;simp at h
theorem q1z {c:Ci} (hg:c.good) (hk:c.plain) {f:Ft} (hf:f.ok c) {q:Pt} (hq:q.fit c) (hp:q.kn):f.det c q = !qma c f q:=by
 cases hb:qma c f q with
 | true=>exact q6x hg hf ⟨qm9 rfl fun i _ _=>.inl rfl,qm9 rfl fun i _ _=>.inl rfl⟩ hq hb
 | false=>
  have hM:qjo c f.sW f.sQ q = f.M c q:=rfl;have hA:=net1 hg hk hp;have hB:=stk1 hg hk hf.v hp;unfold Ft.det jgz qmp;rw [hM,Bool.not_false,decide_eq_true_eq];unfold qma at hb;rw [Bool.and_eq_false_iff] at hb;rcases hb with hb | hb
  ·rw [Bool.not_eq_false',List.any_eq_true] at hb;obtain ⟨k,hk1,hk2⟩:=hb;have hkl:k.toNat < c.n.length:=by have:=hg.o hk1; omega
   have hne:=q52 hg hkl (hA _) hk2;obtain ⟨i,hi,rfl⟩:=List.getElem_of_mem hk1
   have:0 < (cons (qnf c (qbm c q)) (qgt c (f.M c q))).length:=by
    rw [qt2];refine ⟨i,by simp [qnf,qgt,hi],?_⟩;have e1:(qnf c (qbm c q)).getD i 0 = qbm c q (c.o[i]).toNat:=by simp [qnf,jo9,hi,qj1 (jix hq _)]
    have e2:(qgt c (f.M c q)).getD i 0 = f.M c q (c.o[i]).toNat:=by simp [qgt,jo9,hi]
    unfold q1n;rw [e1,e2];simp [hA,hB _ hkl,hne]
   omega
  ·rw [List.all_eq_false] at hb;obtain ⟨n,hn,hb⟩:=hb;obtain ⟨hnl,h1,h2,h3⟩:=qqm hg hn;have hv:=hf.v
   have key:q3u c (qbm c q) n≤1/\q3t c f.sQ (f.M c q) n≤1/\q3u c (qbm c q) n ≠ q3t c f.sQ (f.M c q) n:=by
    have hA1:=hA (inD c n);have hB1:=hB _ h2;rw [qul hg hn,qum hg hn,qj1 (by omega)];rw [sQ0];unfold rdN;by_cases e:f.n = n/\f.q = 1
    ·rw [if_pos e] at hb;have hb':¬ qbm c q (inD c n) = f.v:=by simpa using hb
     rw [if_pos e,if_neg (by omega)];omega
    ·rw [if_neg e] at hb;have hb':qq0 c f q (inD c n) = true:=by simpa using hb
     have hne:=q52 hg h2 hA1 hb';rw [if_neg e,if_neg (by omega)];omega
   obtain ⟨i,hi,rfl⟩:=List.getElem_of_mem hn
   have:0 < (cons (qng c (qbm c q)) (qgu c f.sQ (f.M c q))).length:=by
    rw [qt2];refine ⟨i,by simp [qng,qgu,hi],?_⟩;have e1:(qng c (qbm c q)).getD i 0 = q3u c (qbm c q) (ids 14 c.n 0)[i]:=by simp [qng,jo9,hi]
    have e2:(qgu c f.sQ (f.M c q)).getD i 0 = q3t c f.sQ (f.M c q) (ids 14 c.n 0)[i]:=by simp [qgu,jo9,hi]
    unfold q1n;rw [e1,e2];simp [key.1,key.2.1,key.2.2]
   omega
end
section
open Go
structure Tn where
 i:Int
 z:Int
 o:Int
 deriving Inhabited,DecidableEq
def Tn.v (n:Tn):V:=.agg [.int .i64 n.i,.int .i64 n.z,.int .i64 n.o]
def lfN:Tn:=⟨-1,0,0⟩
inductive DT where
 | lf
 | nd (i:Nat) (z o:DT)
 deriving Inhabited
def DT.sz:DT->Nat
 | .lf=>1
 | .nd _ z o=>1 + z.sz + o.sz
def DT.fl:DT->Nat->List Tn
 | .lf,_=>[lfN]
 | .nd i z o,a=>⟨i,((a + 1:Nat):Int),((a + 1 + z.sz:Nat):Int)⟩ :: (z.fl (a + 1) ++ o.fl (a + 1 + z.sz))
@[simp] theorem jny:∀ (d:DT) (a:Nat),(d.fl a).length = d.sz
 | .lf,_=>rfl
 | .nd _ z o,a=>by simp [DT.fl,DT.sz,jny z,jny o]; omega
theorem DT.sz_pos:∀ d:DT,0 < d.sz
 | .lf=>by simp [DT.sz]
 | .nd _ z o=>by simp [DT.sz]; omega
def DT.ok (bits:Nat):DT->List Nat->Prop
 | .lf,_=>True
 | .nd i z o,us=>i < bits/\i ∉ us/\z.ok bits (i :: us)/\o.ok bits (i :: us)
def qrp (len i:Nat) (k:Int) (par:Nat->Nat):Option (Nat->Nat):=if k≤(i:Int)∨(len:Int)≤k∨0 < par k.toNat then none else some (qcw par k.toNat (i + 1))
def qja (len:Nat) (bits:Int) (i:Nat) (n:Tn) (par:Nat->Nat):Option (Nat->Nat):=
 if n = lfN then some par else if n.i < 0∨bits≤n.i then none else match qrp len i n.z par with
  | none=>none
  | some p=>qrp len i n.o p
def qw2 (len:Nat) (bits:Int):List Tn->Nat->(Nat->Nat)->Option (Nat->Nat)
 | [],_,p=>some p
 | n :: r,i,p=>match qja len bits i n p with
  | none=>none
  | some p=>qw2 len bits r (i + 1) p
def vUp (t:List Tn) (x:Int) (par:Nat->Nat):Nat->Nat->Bool
 | 0,_=>true
 | _ + 1,0=>true
 | m + 1,k + 1=>if (t.getD k default).i = x then false else vUp t x par m (par k)
def qti (t:List Tn) (par:Nat->Nat) (i:Nat):Bool:=
 !(decide (0 < i) && decide (par i = 0)) && (decide (t.getD i default = lfN) || vUp t (t.getD i default).i par (t.length + 1) (par i))
def ql6 (t:List Tn) (bits:Int):Bool:=match qw2 t.length bits t 0 (fun _=>0) with
 | none=>false
 | some par=>(List.range t.length).all (qti t par) && decide (0 < t.length)
def qmc (P:Nat->Nat):DT->Nat->Prop
 | .lf,_=>True
 | .nd _ z o,a=>P (a + 1) = a + 1/\P (a + 1 + z.sz) = a + 1/\qmc P z (a + 1)/\qmc P o (a + 1 + z.sz)
theorem qmc.congr {P P':Nat->Nat}:∀ (d:DT) (a:Nat),(∀ j,a < j->j < a + d.sz->P j = P' j)->qmc P d a->qmc P' d a
 | .lf,_,_,_=>trivial
 | .nd _ z o,a,h,⟨h1,h2,h3,h4⟩=>by
  have hz:=z.sz_pos;have ho:=o.sz_pos;simp only [DT.sz] at h
  exact ⟨by rw [<- h _ (by omega) (by omega)]; exact h1,by rw [<- h _ (by omega) (by omega)]; exact h2,
   qmc.congr z _ (fun j h5 h6=>h j (by omega) (by omega)) h3,qmc.congr o _ (fun j h5 h6=>h j (by omega) (by omega)) h4⟩
theorem qth {len bits:Nat}:∀ (d:DT) (us:List Nat) (a:Nat) (rest:List Tn) (par:Nat->Nat),d.ok bits us->a + d.sz≤len->(∀ j,a < j->j < a + d.sz->par j = 0)->
  ∃ P,qw2 len bits (d.fl a ++ rest) a par = qw2 len bits rest (a + d.sz) P/\(∀ j,j≤a∨a + d.sz≤j->P j = par j)/\qmc P d a
 | .lf,us,a,rest,par,_,_,_=>by
  refine ⟨par,?_,fun _ _=>rfl,trivial⟩;simp [DT.fl,qw2,qja,DT.sz]
 | .nd i z o,us,a,rest,par,⟨h1,h2,h3,h4⟩,hl,h0=>by
  have hz:=z.sz_pos;have ho:=o.sz_pos;simp only [DT.sz] at hl h0
  have hne:(⟨(i:Int),((a + 1:Nat):Int),((a + 1 + z.sz:Nat):Int)⟩:Tn) ≠ lfN:=fun e=>by
   have:=congrArg Tn.i e;simp only [lfN] at this;omega
  let p1:=qcw (qcw par (a + 1) (a + 1)) (a + 1 + z.sz) (a + 1)
  have hnode:qja len bits a ⟨(i:Int),((a + 1:Nat):Int),((a + 1 + z.sz:Nat):Int)⟩ par = some p1:=by
   unfold qja;rw [if_neg hne,if_neg (by simp only []; omega)]
   have e1:qrp len a ((a + 1:Nat):Int) par = some (qcw par (a + 1) (a + 1)):=by
    unfold qrp;rw [Int.toNat_natCast,if_neg (by rw [h0 (a + 1) (by omega) (by omega)]; omega)]
   have e2:qrp len a ((a + 1 + z.sz:Nat):Int) (qcw par (a + 1) (a + 1)) = some p1:=by
    unfold qrp;rw [Int.toNat_natCast,qao _ _ (by omega),if_neg (by rw [h0 (a + 1 + z.sz) (by omega) (by omega)]; omega)]
   simp only [e1,e2]
  have hp1:∀ j,j ≠ a + 1->j ≠ a + 1 + z.sz->p1 j = par j:=fun j h5 h6=>by
   show qcw (qcw par (a + 1) (a + 1)) (a + 1 + z.sz) (a + 1) j = par j;rw [qao _ _ h6,qao _ _ h5]
  obtain ⟨P1,r1,k1,q1⟩:=qth (len:=len) z (i :: us) (a + 1) (o.fl (a + 1 + z.sz) ++ rest) p1 h3 (by omega) fun j h5 h6=>by rw [hp1 j (by omega) (by omega)]; exact h0 j (by omega) (by omega)
  obtain ⟨P2,r2,k2,q2⟩:=qth (len:=len) o (i :: us) (a + 1 + z.sz) rest P1 h4 (by omega) fun j h5 h6=>by
   rw [k1 j (by omega),hp1 j (by omega) (by omega)]; exact h0 j (by omega) (by omega)
  refine ⟨P2,?_,fun j hj=>?_,?_,?_,qmc.congr z _ (fun j h5 h6=>(k2 j (by omega)).symm) q1,q2⟩
  ·simp only [DT.fl,List.cons_append,qw2,hnode,List.append_assoc];rw [r1,r2];simp only [DT.sz];congr 1;omega
  ·simp only [DT.sz] at hj;rw [k2 j (by omega),k1 j (by omega),hp1 j (by omega) (by omega)]
  ·rw [k2 _ (by omega),k1 _ (by omega)];show qcw (qcw par (a + 1) (a + 1)) (a + 1 + z.sz) (a + 1) (a + 1) = a + 1;rw [qao _ _ (by omega),qa1]
  ·rw [k2 _ (by omega),k1 _ (by omega)];show qcw (qcw par (a + 1) (a + 1)) (a + 1 + z.sz) (a + 1) (a + 1 + z.sz) = a + 1;rw [qa1]
def qw3 (P:Nat->Nat) (t:List Tn):List Nat->Nat->Prop
 | [],a=>P a = 0
 | u :: us,a=>∃ k,P a = k + 1/\(t.getD k default).i = (u:Int)/\qw3 P t us k
theorem qrq {P:Nat->Nat} {t:List Tn} {x:Nat}:∀ (us:List Nat) (a m:Nat),qw3 P t us a->x ∉ us->vUp t (x:Int) P m (P a) = true
 | [],a,m,h,_=>by
  rw [show P a = 0 from h];cases m <;> rfl
 | u :: us,a,m,⟨k,h1,h2,h3⟩,hx=>by
  rw [h1];simp only [List.mem_cons,not_or] at hx
  cases m with
  | zero=>rfl
  | succ m=>
   rw [vUp,if_neg (by rw [h2]; omega)];exact qrq us k m h3 hx.2
theorem qtj {bits:Nat} {P:Nat->Nat} {t:List Tn}:∀ (d:DT) (us:List Nat) (a:Nat),d.ok bits us->qmc P d a->qw3 P t us a->(∀ k,k < d.sz->t.getD (a + k) default = (d.fl a).getD k default)->(0 < a->P a ≠ 0)->
  ∀ j,a≤j->j < a + d.sz->qti t P j = true
 | .lf,us,a,_,_,hc,ht,h0,j,h1,h2=>by
  simp only [DT.sz] at h2;have hj:j = a:=by omega
  subst hj;have e:t.getD j default = lfN:=by have:=ht 0 (by simp [DT.sz]); simpa [DT.fl] using this
  unfold qti;rw [e,decide_eq_true rfl,Bool.true_or,Bool.and_true];by_cases hj:0 < j
  ·simp [h0 hj]
  ·simp [hj]
 | .nd i z o,us,a,⟨o1,o2,o3,o4⟩,⟨p1,p2,p3,p4⟩,hc,ht,h0,j,h1,h2=>by
  have hz:=z.sz_pos;have ho:=o.sz_pos;simp only [DT.sz] at h2 ht;have e:t.getD a default = ⟨i,((a + 1:Nat):Int),((a + 1 + z.sz:Nat):Int)⟩:=by have:=ht 0 (by omega); simpa [DT.fl] using this
  have ei:(t.getD a default).i = (i:Int):=by rw [e]
  have c1:qw3 P t (i :: us) (a + 1):=⟨a,p1,ei,hc⟩;have c2:qw3 P t (i :: us) (a + 1 + z.sz):=⟨a,p2,ei,hc⟩
  have t1:∀ k,k < z.sz->t.getD (a + 1 + k) default = (z.fl (a + 1)).getD k default:=fun k hk=>by
   have:=ht (k + 1) (by omega);rw [show a + 1 + k = a + (k + 1) by omega,this];simp only [DT.fl,List.getD_cons_succ];rw [jo9,jo9,List.getElem?_append_left (by simpa using hk)]
  have t2:∀ k,k < o.sz->t.getD (a + 1 + z.sz + k) default = (o.fl (a + 1 + z.sz)).getD k default:=fun k hk=>by
   have:=ht (1 + z.sz + k) (by omega);rw [show a + 1 + z.sz + k = a + (1 + z.sz + k) by omega,this];simp only [DT.fl];rw [show 1 + z.sz + k = (z.sz + k) + 1 by omega,List.getD_cons_succ];rw [jo9,jo9,List.getElem?_append_right (by simp)];simp
  rcases Nat.lt_or_ge a j with h3 | h3
  ·rcases Nat.lt_or_ge j (a + 1 + z.sz) with h4 | h4
   ·exact qtj z (i :: us) (a + 1) o3 p3 c1 t1 (fun _=>by omega) j (by omega) (by omega)
   ·exact qtj o (i :: us) (a + 1 + z.sz) o4 p4 c2 t2 (fun _=>by omega) j (by omega) (by omega)
  ·have hj:j = a:=by omega
   subst hj;unfold qti;rw [ei,qrq us j _ hc o2,Bool.or_true,Bool.and_true];by_cases hj:0 < j
   ·simp [h0 hj]
   ·simp [hj]
theorem q45 {bits:Nat} (d:DT) (h:d.ok bits []):ql6 (d.fl 0) bits = true:=by
 obtain ⟨P,h1,h2,h3⟩:=qth (len:=d.sz) d [] 0 [] (fun _=>0) h (by omega) fun _ _ _=>rfl
 have hr:qw2 (d.fl 0).length bits (d.fl 0) 0 (fun _=>0) = some P:=by
  rw [jny];rw [List.append_nil] at h1;rw [h1]; rfl
 unfold ql6;rw [hr];simp only [jny];rw [Bool.and_eq_true,List.all_eq_true,decide_eq_true_eq];refine ⟨fun j hj=>?_,d.sz_pos⟩;rw [List.mem_range] at hj;exact qtj d [] 0 h h3 (h2 0 (.inl (jpe 0))) (fun k _=>by rw [Nat.zero_add]) (fun h=>absurd h (Nat.lt_irrefl 0)) j (Nat.zero_le _) (by omega)
end
section
open Go
def Pt.bit (p:Pt) (k:Nat):Nat:=if k < p.i.length then p.i.getD k 0 else p.s.getD (k - p.i.length) 0
def Pt.set (p:Pt) (k v:Nat):Pt:=if k < p.i.length then ⟨p.i.set k v,p.s⟩ else ⟨p.i,p.s.set (k - p.i.length) v⟩
def Pt.many (p:Pt):Nat:=p.i.length + p.s.length
@[simp] theorem jox (p:Pt) (k v:Nat):(p.set k v).i.length = p.i.length:=by unfold Pt.set; split <;> simp
@[simp] theorem Pt.set_s (p:Pt) (k v:Nat):(p.set k v).s.length = p.s.length:=by unfold Pt.set; split <;> simp
@[simp] theorem jnu (p:Pt) (k v:Nat):(p.set k v).many = p.many:=by simp [Pt.many]
theorem qm6 (l:List Nat) (k j v d:Nat):(l.set k v).getD j d = if j = k/\k < l.length then v else l.getD j d:=by
 simp only [jo9,List.getElem?_set];by_cases h:k = j
 ·subst h;by_cases hk:k < l.length
  ·simp [hk]
  ·simp [hk]
 ·rw [if_neg h,if_neg (fun e=>h e.1.symm)]
theorem jng {p:Pt} {k j v:Nat} (hk:k < p.many):(p.set k v).bit j = if j = k then v else p.bit j:=by
 unfold Pt.many at hk;unfold Pt.bit;rw [jox];unfold Pt.set;by_cases h:k < p.i.length
 ·rw [if_pos h];simp only [qm6];by_cases hj:j < p.i.length
  ·rw [if_pos hj,if_pos hj];by_cases e:j = k
   ·rw [if_pos ⟨e,h⟩,if_pos e]
   ·rw [if_neg (fun q=>e q.1),if_neg e]
  ·rw [if_neg hj,if_neg hj,if_neg (by omega)]
 ·rw [if_neg h];simp only [qm6];by_cases hj:j < p.i.length
  ·rw [if_pos hj,if_pos hj,if_neg (by omega)]
  ·rw [if_neg hj,if_neg hj];by_cases e:j = k
   ·subst e;rw [if_pos ⟨rfl,by omega⟩,if_pos rfl]
   ·rw [if_neg (by omega),if_neg e]
theorem jof {p q:Pt} (hi:p.i.length = q.i.length) (hs:p.s.length = q.s.length) (h:∀ k,k < p.many->p.bit k = q.bit k):p = q:=by
 unfold Pt.many Pt.bit at h
 have e1:p.i = q.i:=List.ext_getElem hi fun k h1 h2=>by
  have:=h k (by omega);rw [if_pos h1,if_pos h2] at this;simpa [jo9,h1,h2] using this
 have e2:p.s = q.s:=List.ext_getElem hs fun k h1 h2=>by
  have:=h (p.i.length + k) (by omega);rw [if_neg (by omega),if_neg (by omega),<- hi,Nat.add_sub_cancel_left] at this;simpa [jo9,h1,h2] using this
 cases p; cases q; simp_all
theorem jog {p:Pt} {k:Nat} (hk:k < p.many) (v:Nat) (h:p.bit k = v):p.set k v = p:=by
 refine jof (by simp) (by simp) fun j hj=>?_;rw [jng hk];split
 ·rename_i e; rw [e,h]
 ·rfl
theorem jn0 {p:Pt} {k:Nat} (hk:k < p.many) (v w:Nat):(p.set k v).set k w = p.set k w:=by
 refine jof (by simp) (by simp) fun j hj=>?_;rw [jng (by simpa using hk),jng hk,jng hk];split <;> rfl
theorem Pt.le_bit {p q:Pt}:p.le q↔p.i.length = q.i.length/\p.s.length = q.s.length/\∀ k,k < p.many->le2 (p.bit k) (q.bit k):=by
 constructor
 ·rintro ⟨h1,h2⟩;refine ⟨qla h1,qla h2,fun k _=>?_⟩;unfold Pt.bit;rw [<- qla h1];split
  ·exact qix h1 k
  ·exact qix h2 _
 ·rintro ⟨h1,h2,h⟩;unfold Pt.many Pt.bit at h;refine ⟨qm9 h1 fun k a b=>?_,qm9 h2 fun k a b=>?_⟩
  ·have:=h k (by omega);rw [if_pos a,if_pos b] at this;simpa [jo9,a,b] using this
  ·have:=h (p.i.length + k) (by omega);rw [if_neg (by omega),if_neg (by omega),<- h1,Nat.add_sub_cancel_left] at this;simpa [jo9,a,b] using this
theorem Pt.le_rfl (p:Pt):p.le p:=Pt.le_bit.2 ⟨rfl,rfl,fun _ _=>.inl rfl⟩
theorem joi {p:Pt} {k:Nat} (hk:k < p.many) (v:Nat) (h:p.bit k = 2):p.le (p.set k v):=Pt.le_bit.2 ⟨by simp,by simp,fun j _=>by
 rw [jng hk];split
 ·rename_i e; subst e; exact .inr h
 ·exact .inl rfl⟩
theorem jnh {p:Pt} {c:Ci} (h:p.fit c) (k v:Nat) (hv:v≤3):(p.set k v).fit c:=by
 refine ⟨by simpa using h.i,by simpa using h.s,fun x hx=>?_,fun x hx=>?_⟩
 ·unfold Pt.set at hx;split at hx
  ·rcases List.mem_or_eq_of_mem_set hx with hx | rfl
   ·exact h.iv x hx
   ·exact hv
  ·exact h.iv x hx
 ·unfold Pt.set at hx;split at hx
  ·exact h.sv x hx
  ·rcases List.mem_or_eq_of_mem_set hx with hx | rfl
   ·exact h.sv x hx
   ·exact hv
noncomputable def prB (c:Ci) (f:Ft):DT->Pt->Bool
 | .lf,p=>qma c f p
 | .nd i z o,p=>prB c f z (p.set i 0) && prB c f o (p.set i 1)
end
section
open Go
def At (t:List Tn) (d:DT) (a:Nat):Prop:=∀ k,k < d.sz->t[a + k]? = (d.fl a)[k]?
theorem At.fl (d:DT):At (d.fl 0) d 0:=fun k _=>by rw [Nat.zero_add]
theorem At.lf {t:List Tn} {a:Nat} (h:At t .lf a):t[a]? = some lfN:=h 0 (by simp [DT.sz])
theorem At.nd {t:List Tn} {i:Nat} {z o:DT} {a:Nat} (h:At t (.nd i z o) a):t[a]? = some ⟨i,((a + 1:Nat):Int),((a + 1 + z.sz:Nat):Int)⟩:=h 0 (by simp [DT.sz]; omega)
theorem At.z {t:List Tn} {i:Nat} {z o:DT} {a:Nat} (h:At t (.nd i z o) a):At t z (a + 1):=fun k hk=>by
 have:=h (k + 1) (by simp only [DT.sz]; omega);rw [show a + 1 + k = a + (k + 1) by omega,this];simp only [DT.fl,List.getElem?_cons_succ];rw [List.getElem?_append_left (by simpa using hk)]
theorem At.o {t:List Tn} {i:Nat} {z o:DT} {a:Nat} (h:At t (.nd i z o) a):At t o (a + 1 + z.sz):=fun k hk=>by
 have:=h (1 + z.sz + k) (by simp only [DT.sz]; omega);rw [show a + 1 + z.sz + k = a + (1 + z.sz + k) by omega,this];simp only [DT.fl];rw [show 1 + z.sz + k = (z.sz + k) + 1 by omega,List.getElem?_cons_succ,List.getElem?_append_right (by simp)];simp
def stP (p:Pt) (i:Nat):Nat->Pt
 | 0=>p
 | 1=>p.set i 0
 | _=>p.set i 1
noncomputable def stB (c:Ci) (f:Ft) (z o:DT) (p:Pt) (i:Nat):Nat->Bool
 | 0=>true
 | 1=>prB c f z (p.set i 0)
 | _=>prB c f z (p.set i 0) && prB c f o (p.set i 1)
theorem q9v {p:Pt} {i:Nat} (hi:i < p.many):∀ j,j < 2->(stP p i j).set i j = stP p i (j + 1)
 | 0,_=>rfl
 | 1,_=>jn0 hi 0 1
theorem q9u {p:Pt} {i:Nat} (hi:i < p.many) (h:p.bit i = 2):(stP p i 2).set i 2 = p:=by
 show (p.set i 1).set i 2 = p;rw [jn0 hi,jog hi 2 h]
@[simp] theorem jmh (p:Pt) (i j:Nat):(stP p i j).i.length = p.i.length:=by
 match j with
 | 0=>rfl
 | 1=>simp [stP]
 | _ + 2=>simp [stP]
@[simp] theorem jmi (p:Pt) (i j:Nat):(stP p i j).s.length = p.s.length:=by
 match j with
 | 0=>rfl
 | 1=>simp [stP]
 | _ + 2=>simp [stP]
end
end Go.Proofs.YtpaopccohkldlaaGreatDoor
