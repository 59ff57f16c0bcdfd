/- Lemmas. Conditions: none. -/
import Derived.Test.YtpaopccohkldlaaGreatDoorU2
import Derived.Test.YtpaopccohkldlaaGreatDoorT12
set_option linter.all false
namespace Go.Proofs.YtpaopccohkldlaaGreatDoor
section
open Go
abbrev Ft.sW (f:Ft):Nat->Nat->Nat:=atW f fun _=>f.v
abbrev Ft.sQ (f:Ft):Nat->Nat->Nat->Nat:=atQ f fun _=>f.v
noncomputable def Ft.M (c:Ci) (f:Ft) (p:Pt):Nat->Nat:=qio c f.sW f.sQ p
noncomputable def Ft.det (c:Ci) (f:Ft) (p:Pt):Bool:=q58 c f.sW f.sQ p
theorem q8f (f:Ft):LeW f.sW f.sW:=q8d f fun _ _ _=>.inl rfl
theorem q8c (f:Ft):LeQ f.sQ f.sQ:=q8a f fun _ _ _=>.inl rfl
theorem qyy (c:Ci) (f:Ft) {p q:Pt} (h:p.le q) (hd:f.det c p = true):f.det c q = true:=q00 c (q8f f) (q8c f) h hd
def qif (c:Ci) (f:Ft) (A B:Nat->Nat) (n:Nat) (F:Nat->Bool):Bool:=
 !(decide (A n≤1) && decide (A n = B n)) && ((decide (n = f.n) && (qbx c n || decide (f.q = 0))) || (qbx c n && (c.g n).any F))
theorem qsq {α:Type} {l:List α} {F G:α->Bool} (h:∀ x ∈ l,F x = G x):l.any F = l.any G:=by
 induction l with
 | nil=>rfl
 | cons a l ih=>simp only [List.any_cons]; rw [h a List.mem_cons_self,ih fun x hx=>h x (List.mem_cons_of_mem _ hx)]
theorem q11 {c:Ci} {f:Ft} {A B:Nat->Nat} {n:Nat} {F G:Nat->Bool} (h:∀ x ∈ c.g n,F x = G x):qif c f A B n F = qif c f A B n G:=by
 unfold qif; rw [qsq h]
noncomputable def qm5 (c:Ci) (f:Ft) (p:Pt):Nat->Bool:=evl (qif c f (qb8 c p) (f.M c p)) (fun _=>true) (qlz c) (fun _=>false)
theorem jdb {c:Ci} (hg:c.good) {n x:Nat} (hn:n < c.n.length) (hx:x ∈ c.g n):qnu c x < qnu c n:=by
 have hlv:qil c.n.length c.g (qnu c):=hg.ac.lv;have:=hlv n hn;have:=qqh (f:=qnu c) hx;omega
theorem qqn {c:Ci} (hg:c.good) (f:Ft) (p:Pt) {n:Nat} (hn:n < c.n.length):qm5 c f p n = qif c f (qb8 c p) (f.M c p) n (qm5 c f p):=by
 have ho:=hg.ord;have h:=qva (g:=c.g) (ev:=qif c f (qb8 c p) (f.M c p)) (fun n F F' h _=>q11 h) (qlz c) [] (fun _=>false) (ho.topo hg) (qcm ho.p) (by simp) n (ho.all hn);rw [show qm5 c f p n = _ from h];refine q11 fun x hx=>qa0 _ _ fun e=>?_;have:=jdb hg hn hx;rw [e] at this;omega
theorem Ci.good.ind {c:Ci} (hg:c.good) {P:Nat->Prop} (h:∀ n,n < c.n.length->(∀ x ∈ c.g n,P x)->P n):∀ n,n < c.n.length->P n:=by
 have key:∀ k n,qnu c n < k->n < c.n.length->P n:=by
  intro k
  induction k with
  | zero=>intro n h1; omega
  | succ k ih=>intro n h1 h2; exact h n h2 fun x hx=>ih x (by have:=jdb hg h2 hx; omega) (hg.val.g n h2 x hx)
 exact fun n=>key _ n (Nat.lt_succ_self _)
theorem qr0 {c:Ci} (hg:c.good) {f:Ft} {p q:Pt} (h:p.le q):∀ n,n < c.n.length->qm5 c f p n = false->qm5 c f q n = false/\qb8 c q n = f.M c q n:=by
 refine hg.ind fun n hn ih hp=>?_;rw [qqn hg f p hn] at hp;rw [qqn hg f q hn];have hA:=qg5 c h n;have hB:le2 (f.M c p n) (f.M c q n):=qmx c (q8f f) (q8c f) h n;by_cases hd:qb8 c p n≤1/\qb8 c p n = f.M c p n
 ·have e1:qb8 c p n = qb8 c q n:=hA.resolve_right (by omega);have e2:f.M c p n = f.M c q n:=hB.resolve_right (by omega);refine ⟨?_,by rw [<- e1,<- e2,hd.2]⟩;unfold qif;rw [<- e1,<- e2];simp [hd.1,hd.2.symm]
 ·have hd':(decide (qb8 c p n≤1) && decide (qb8 c p n = f.M c p n)) = false:=by
   cases h1:decide (qb8 c p n≤1) <;> cases h2:decide (qb8 c p n = f.M c p n) <;> simp_all
  unfold qif at hp ⊢;rw [hd',Bool.not_false,Bool.true_and] at hp;obtain ⟨s1,s2⟩:=Bool.or_eq_false_iff.1 hp
  have hin:qbx c n = true->∀ x ∈ c.g n,qm5 c f q x = false/\qb8 c q x = f.M c q x:=fun hc x hx=>by
   rw [hc,Bool.true_and,List.any_eq_false] at s2;exact ih x hx (by simpa using s2 x hx)
  have s3:(qbx c n && (c.g n).any (qm5 c f q)) = false:=by
   cases hc:qbx c n with
   | false=>rfl
   | true=>rw [Bool.true_and,List.any_eq_false]; exact fun x hx=>by rw [(hin hc x hx).1]; simp
  refine ⟨by rw [s1,s3]; simp,?_⟩
  have hnf:n = f.n->qbx c n = false/\f.q ≠ 0:=fun e=>by
   rw [decide_eq_true e,Bool.true_and] at s1;obtain ⟨h1,h2⟩:=Bool.or_eq_false_iff.1 s1;exact ⟨h1,by simpa using h2⟩
  have a1:=qzx (p:=q) hg hg.ord n hn;have a2:f.M c q n = _:=qm7 (W:=f.sW) (Q:=f.sQ) (p:=q) hg hg.ord n hn;rw [a1,a2]
  have hw:∀ v,f.sW n v = v:=fun v=>by
   unfold Ft.sW atW;rw [if_neg fun e=>(hnf e.2).2 e.1]
  rw [hw];unfold idW;split
  ·rename_i hc;have hne:n ≠ f.n:=fun e=>by rw [(hnf e).1] at hc; cases hc
   congr 1;refine qh2 fun k hk=>?_;unfold Ft.sQ atQ;rw [if_neg fun e=>hne e.2.1];have hx:((c.nd n).i[k]).toNat ∈ c.g n:=by rw [qjv hc]; exact List.mem_map_of_mem (jjd hk)
   have:=(hin hc _ hx).2;exact this
  ·rfl
def inD (c:Ci) (n:Nat):Nat:=((c.nd n).i.getD 0 0).toNat
noncomputable def qew (c:Ci) (f:Ft) (p:Pt):Bool:=
 !(c.o.any fun k=>qm5 c f p k.toNat) && (ids 14 c.n 0).all fun n=>if f.n = n/\f.q = 1 then decide (qb8 c p (inD c n) = f.v) else !qm5 c f p (inD c n)
theorem ql9 {c:Ci} {f:Ft} {p:Pt}:qew c f p = true↔(∀ k ∈ c.o,qm5 c f p k.toNat = false)/\∀ n ∈ ids 14 c.n 0,(f.n = n/\f.q = 1->qb8 c p (inD c n) = f.v)/\(¬ (f.n = n/\f.q = 1)->qm5 c f p (inD c n) = false):=by
 unfold qew;rw [Bool.and_eq_true,Bool.not_eq_true',List.any_eq_false,List.all_eq_true];refine and_congr (forall_congr' fun k=>forall_congr' fun _=>by simp) (forall_congr' fun n=>forall_congr' fun _=>?_);split
 ·rename_i h; simp [h]
 ·rename_i h; simp [h]
theorem qjz {c:Ci} (hg:c.good) {n:Nat} (hn:n ∈ ids 14 c.n 0):n < c.n.length/\(c.nd n).i = [((inD c n:Nat):Int)]/\inD c n < c.n.length/\(c.nd n).k = 14:=by
 obtain ⟨h,x,hx,h0,h1,h2⟩:=qr4 hg hn;have hnd:(c.nd n).i = [x]:=by rw [c.nd_get h]; exact hx
 have e:inD c n = x.toNat:=by unfold inD; rw [hnd]; rfl
 rw [e,hnd,c.nd_get h];exact ⟨h,by congr 1; omega,by omega,h2⟩
theorem qym {c:Ci} (hg:c.good) {f:Ft} (hf:f.ok c) {p q:Pt} (h:p.le q) (hb:qew c f p = true):qew c f q = true:=by
 rw [ql9] at hb ⊢;refine ⟨fun k hk=>(qr0 hg h _ (by have:=hg.o hk; omega) (hb.1 k hk)).1,fun n hn=>⟨fun e=>?_,fun e=>?_⟩⟩
 ·have h1:=(hb.2 n hn).1 e;have h2:=qg5 c h (inD c n);have hv:=hf.v;rw [h1] at h2;exact (h2.resolve_right (by omega)).symm
 ·exact (qr0 hg h _ (qjz hg hn).2.2.1 ((hb.2 n hn).2 e)).1
theorem qr6 {c:Ci} (hg:c.good) {n:Nat} (hn:n ∈ ids 14 c.n 0) (Q:Nat->Nat->Nat->Nat) (M:Nat->Nat):qtx c Q M n = if Q n 0 (M (inD c n)) = 3 then 2 else Q n 0 (M (inD c n)):=by
 obtain ⟨-,h1,-⟩:=qjz hg hn;unfold qtx qfs;rw [h1];simp
theorem qr7 {c:Ci} (hg:c.good) {n:Nat} (hn:n ∈ ids 14 c.n 0) (A:Nat->Nat):qty c A n = rdN (qd1 (A (inD c n))):=by
 obtain ⟨-,h1,-⟩:=qjz hg hn;unfold qty;rw [h1];simp
theorem sQ0 (f:Ft) (n v:Nat):f.sQ n 0 v = if f.n = n/\f.q = 1 then f.v else v:=by
 unfold Ft.sQ atQ;by_cases h:f.n = n/\f.q = 1
 ·rw [if_pos h,if_pos ⟨by omega,h.1.symm,by omega⟩]
 ·rw [if_neg h,if_neg fun e=>h ⟨e.2.1.symm,by omega⟩]
theorem qpy {c:Ci} (hg:c.good) {f:Ft} (hf:f.ok c) {p q:Pt} (h:p.le q) (hq:q.fit c) (hb:qew c f p = true):f.det c q = false:=by
 rw [ql9] at hb;have hM:qio c f.sW f.sQ q = f.M c q:=rfl
 have hO:qfe c (f.M c q) = qj7 c (qb8 c q):=by
  unfold qfe qj7;refine List.map_congr_left fun k hk=>?_;rw [qit (jd0 hq _)];exact (qr0 hg h _ (by have:=hg.o hk; omega) (hb.1 k hk)).2.symm
 have hS:qff c f.sQ (f.M c q) = qkx c (qb8 c q):=by
  unfold qff qkx;refine List.map_congr_left fun n hn=>?_;obtain ⟨hnl,h1,h2,h3⟩:=qjz hg hn;have h4:=jd0 hq (inD c n);have hv:=hf.v;rw [qr6 hg hn,qr7 hg hn,qit h4];rw [sQ0];unfold rdN;by_cases e:f.n = n/\f.q = 1
  ·have h5:=(hb.2 n hn).1 e;have h6:=qg5 c h (inD c n);rw [h5] at h6;have h7:=h6.resolve_right (by omega);rw [if_pos e,if_neg (by omega)];omega
  ·have h5:=(qr0 hg h _ h2 ((hb.2 n hn).2 e)).2;rw [if_neg e,<- h5];split <;> omega
 unfold Ft.det q58;rw [hM,hO,hS];exact qxa _ _
theorem stk1 {c:Ci} (hg:c.good) (hk:c.plain) {f:Ft} (hv:f.v≤1) {p:Pt} (hp:p.kn):∀ n,n < c.n.length->f.M c p n≤1:=by
 refine hg.ind fun n hn ih=>?_;have a2:f.M c p n = _:=qm7 (W:=f.sW) (Q:=f.sQ) (p:=p) hg hg.ord n hn;rw [a2]
 have hw:∀ v,v≤1->f.sW n v≤1:=fun v h=>by
  unfold Ft.sW atW;split <;> omega
 refine hw _ ?_;split
 ·rename_i hc;obtain ⟨h1,h2,h3⟩:=hk n hn hc;refine q8m h1 h2 (by simpa [qfs] using h3) fun v hv'=>?_;unfold qfs at hv';rw [List.mem_mapIdx] at hv';obtain ⟨k,hk',rfl⟩:=hv';have hx:((c.nd n).i[k]).toNat ∈ c.g n:=by rw [qjv hc]; exact List.mem_map_of_mem (jjd hk')
  have h5:f.M c p ((c.nd n).i[k]).toNat≤1:=ih _ hx;show f.sQ n k (f.M c p ((c.nd n).i[k]).toNat)≤1;unfold Ft.sQ atQ;split
  ·exact hv
  ·exact h5
 ·exact q9p _ _ _ hp.2 (q9p _ _ _ hp.1 fun _=>by omega) n
theorem q12 {c:Ci} (hg:c.good) {f:Ft} {p:Pt} {n:Nat} (hn:n < c.n.length) (h1:qb8 c p n≤1) (h:qm5 c f p n = true):qb8 c p n ≠ f.M c p n:=fun e=>by
 rw [qqn hg f p hn] at h;unfold qif at h;rw [decide_eq_true h1,decide_eq_true e] at h;simp at h
theorem qyl {c:Ci} (hg:c.good) (hk:c.plain) {f:Ft} (hf:f.ok c) {q:Pt} (hq:q.fit c) (hp:q.kn):f.det c q = !qew c f q:=by
 cases hb:qew c f q with
 | true=>exact qpy hg hf ⟨qlt rfl fun i _ _=>.inl rfl,qlt rfl fun i _ _=>.inl rfl⟩ hq hb
 | false=>
  have hM:qio c f.sW f.sQ q = f.M c q:=rfl;have hA:=net1 hg hk hp;have hB:=stk1 hg hk hf.v hp;unfold Ft.det q58 qh3;rw [hM,Bool.not_false,decide_eq_true_eq];unfold qew at hb;rw [Bool.and_eq_false_iff] at hb;rcases hb with hb | hb
  ·rw [Bool.not_eq_false',List.any_eq_true] at hb;obtain ⟨k,hk1,hk2⟩:=hb;have hkl:k.toNat < c.n.length:=by have:=hg.o hk1; omega
   have hne:=q12 hg hkl (hA _) hk2;obtain ⟨i,hi,rfl⟩:=List.getElem_of_mem hk1
   have:0 < (cons (qj7 c (qb8 c q)) (qfe c (f.M c q))).length:=by
    rw [qmc];refine ⟨i,by simp [qj7,qfe,hi],?_⟩;have e1:(qj7 c (qb8 c q)).getD i 0 = qb8 c q (c.o[i]).toNat:=by simp [qj7,jja,hi,qit (jd0 hq _)]
    have e2:(qfe c (f.M c q)).getD i 0 = f.M c q (c.o[i]).toNat:=by simp [qfe,jja,hi]
    unfold qsw;rw [e1,e2];simp [hA,hB _ hkl,hne]
   omega
  ·rw [List.all_eq_false] at hb;obtain ⟨n,hn,hb⟩:=hb;obtain ⟨hnl,h1,h2,h3⟩:=qjz hg hn;have hv:=hf.v
   have key:qty c (qb8 c q) n≤1/\qtx c f.sQ (f.M c q) n≤1/\qty c (qb8 c q) n ≠ qtx c f.sQ (f.M c q) n:=by
    have hA1:=hA (inD c n);have hB1:=hB _ h2;rw [qr6 hg hn,qr7 hg hn,qit (by omega)];rw [sQ0];unfold rdN;by_cases e:f.n = n/\f.q = 1
    ·rw [if_pos e] at hb;have hb':¬ qb8 c q (inD c n) = f.v:=by simpa using hb
     rw [if_pos e,if_neg (by omega)];omega
    ·rw [if_neg e] at hb;have hb':qm5 c f q (inD c n) = true:=by simpa using hb
     have hne:=q12 hg h2 hA1 hb';rw [if_neg e,if_neg (by omega)];omega
   obtain ⟨i,hi,rfl⟩:=List.getElem_of_mem hn
   have:0 < (cons (qkx c (qb8 c q)) (qff c f.sQ (f.M c q))).length:=by
    rw [qmc];refine ⟨i,by simp [qkx,qff,hi],?_⟩;have e1:(qkx c (qb8 c q)).getD i 0 = qty c (qb8 c q) (ids 14 c.n 0)[i]:=by simp [qkx,jja,hi]
    have e2:(qff c f.sQ (f.M c q)).getD i 0 = qtx c f.sQ (f.M c q) (ids 14 c.n 0)[i]:=by simp [qff,jja,hi]
    unfold qsw;rw [e1,e2];simp [key.1,key.2.1,key.2.2]
   omega
end
section
open Go
structure Tn where
 i:Int
 z:Int
 o:Int
 deriving Inhabited,DecidableEq
def Tn.v (n:Tn):V:=.agg [.int .i64 n.i,.int .i64 n.z,.int .i64 n.o]
def lfN:Tn:=⟨-1,0,0⟩
inductive DT where
 | lf
 | nd (i:Nat) (z o:DT)
 deriving Inhabited
def DT.sz:DT->Nat
 | .lf=>1
 | .nd _ z o=>1 + z.sz + o.sz
def DT.fl:DT->Nat->List Tn
 | .lf,_=>[lfN]
 | .nd i z o,a=>⟨i,((a + 1:Nat):Int),((a + 1 + z.sz:Nat):Int)⟩ :: (z.fl (a + 1) ++ o.fl (a + 1 + z.sz))
@[simp] theorem jh7:∀ (d:DT) (a:Nat),(d.fl a).length = d.sz
 | .lf,_=>rfl
 | .nd _ z o,a=>by simp [DT.fl,DT.sz,jh7 z,jh7 o]; omega
theorem DT.sz_pos:∀ d:DT,0 < d.sz
 | .lf=>by simp [DT.sz]
 | .nd _ z o=>by simp [DT.sz]; omega
def DT.ok (bits:Nat):DT->List Nat->Prop
 | .lf,_=>True
 | .nd i z o,us=>i < bits/\i ∉ us/\z.ok bits (i :: us)/\o.ok bits (i :: us)
def qpm (len i:Nat) (k:Int) (par:Nat->Nat):Option (Nat->Nat):=if k≤(i:Int)∨(len:Int)≤k∨0 < par k.toNat then none else some (qc0 par k.toNat (i + 1))
def qh6 (len:Nat) (bits:Int) (i:Nat) (n:Tn) (par:Nat->Nat):Option (Nat->Nat):=
 if n = lfN then some par else if n.i < 0∨bits≤n.i then none else match qpm len i n.z par with
  | none=>none
  | some p=>qpm len i n.o p
def qt2 (len:Nat) (bits:Int):List Tn->Nat->(Nat->Nat)->Option (Nat->Nat)
 | [],_,p=>some p
 | n :: r,i,p=>match qh6 len bits i n p with
  | none=>none
  | some p=>qt2 len bits r (i + 1) p
def vUp (t:List Tn) (x:Int) (par:Nat->Nat):Nat->Nat->Bool
 | 0,_=>true
 | _ + 1,0=>true
 | m + 1,k + 1=>if (t.getD k default).i = x then false else vUp t x par m (par k)
def qq5 (t:List Tn) (par:Nat->Nat) (i:Nat):Bool:=
 !(decide (0 < i) && decide (par i = 0)) && (decide (t.getD i default = lfN) || vUp t (t.getD i default).i par (t.length + 1) (par i))
def qde (t:List Tn) (bits:Int):Bool:=match qt2 t.length bits t 0 (fun _=>0) with
 | none=>false
 | some par=>(List.range t.length).all (qq5 t par) && decide (0 < t.length)
def qk0 (P:Nat->Nat):DT->Nat->Prop
 | .lf,_=>True
 | .nd _ z o,a=>P (a + 1) = a + 1/\P (a + 1 + z.sz) = a + 1/\qk0 P z (a + 1)/\qk0 P o (a + 1 + z.sz)
theorem qk0.congr {P P':Nat->Nat}:∀ (d:DT) (a:Nat),(∀ j,a < j->j < a + d.sz->P j = P' j)->qk0 P d a->qk0 P' d a
 | .lf,_,_,_=>trivial
 | .nd _ z o,a,h,⟨h1,h2,h3,h4⟩=>by
  have hz:=z.sz_pos;have ho:=o.sz_pos;simp only [DT.sz] at h
  exact ⟨by rw [<- h _ (by omega) (by omega)]; exact h1,by rw [<- h _ (by omega) (by omega)]; exact h2,
   qk0.congr z _ (fun j h5 h6=>h j (by omega) (by omega)) h3,qk0.congr o _ (fun j h5 h6=>h j (by omega) (by omega)) h4⟩
theorem qq4 {len bits:Nat}:∀ (d:DT) (us:List Nat) (a:Nat) (rest:List Tn) (par:Nat->Nat),d.ok bits us->a + d.sz≤len->(∀ j,a < j->j < a + d.sz->par j = 0)->
  ∃ P,qt2 len bits (d.fl a ++ rest) a par = qt2 len bits rest (a + d.sz) P/\(∀ j,j≤a∨a + d.sz≤j->P j = par j)/\qk0 P d a
 | .lf,us,a,rest,par,_,_,_=>by
  refine ⟨par,?_,fun _ _=>rfl,trivial⟩;simp [DT.fl,qt2,qh6,DT.sz]
 | .nd i z o,us,a,rest,par,⟨h1,h2,h3,h4⟩,hl,h0=>by
  have hz:=z.sz_pos;have ho:=o.sz_pos;simp only [DT.sz] at hl h0
  have hne:(⟨(i:Int),((a + 1:Nat):Int),((a + 1 + z.sz:Nat):Int)⟩:Tn) ≠ lfN:=fun e=>by
   have:=congrArg Tn.i e;simp only [lfN] at this;omega
  let p1:=qc0 (qc0 par (a + 1) (a + 1)) (a + 1 + z.sz) (a + 1)
  have hnode:qh6 len bits a ⟨(i:Int),((a + 1:Nat):Int),((a + 1 + z.sz:Nat):Int)⟩ par = some p1:=by
   unfold qh6;rw [if_neg hne,if_neg (by simp only []; omega)]
   have e1:qpm len a ((a + 1:Nat):Int) par = some (qc0 par (a + 1) (a + 1)):=by
    unfold qpm;rw [Int.toNat_natCast,if_neg (by rw [h0 (a + 1) (by omega) (by omega)]; omega)]
   have e2:qpm len a ((a + 1 + z.sz:Nat):Int) (qc0 par (a + 1) (a + 1)) = some p1:=by
    unfold qpm;rw [Int.toNat_natCast,qa0 _ _ (by omega),if_neg (by rw [h0 (a + 1 + z.sz) (by omega) (by omega)]; omega)]
   simp only [e1,e2]
  have hp1:∀ j,j ≠ a + 1->j ≠ a + 1 + z.sz->p1 j = par j:=fun j h5 h6=>by
   show qc0 (qc0 par (a + 1) (a + 1)) (a + 1 + z.sz) (a + 1) j = par j;rw [qa0 _ _ h6,qa0 _ _ h5]
  obtain ⟨P1,r1,k1,q1⟩:=qq4 (len:=len) z (i :: us) (a + 1) (o.fl (a + 1 + z.sz) ++ rest) p1 h3 (by omega) fun j h5 h6=>by rw [hp1 j (by omega) (by omega)]; exact h0 j (by omega) (by omega)
  obtain ⟨P2,r2,k2,q2⟩:=qq4 (len:=len) o (i :: us) (a + 1 + z.sz) rest P1 h4 (by omega) fun j h5 h6=>by
   rw [k1 j (by omega),hp1 j (by omega) (by omega)]; exact h0 j (by omega) (by omega)
  refine ⟨P2,?_,fun j hj=>?_,?_,?_,qk0.congr z _ (fun j h5 h6=>(k2 j (by omega)).symm) q1,q2⟩
  ·simp only [DT.fl,List.cons_append,qt2,hnode,List.append_assoc];rw [r1,r2];simp only [DT.sz];congr 1;omega
  ·simp only [DT.sz] at hj;rw [k2 j (by omega),k1 j (by omega),hp1 j (by omega) (by omega)]
  ·rw [k2 _ (by omega),k1 _ (by omega)];show qc0 (qc0 par (a + 1) (a + 1)) (a + 1 + z.sz) (a + 1) (a + 1) = a + 1;rw [qa0 _ _ (by omega),qbl]
  ·rw [k2 _ (by omega),k1 _ (by omega)];show qc0 (qc0 par (a + 1) (a + 1)) (a + 1 + z.sz) (a + 1) (a + 1 + z.sz) = a + 1;rw [qbl]
def qt4 (P:Nat->Nat) (t:List Tn):List Nat->Nat->Prop
 | [],a=>P a = 0
 | u :: us,a=>∃ k,P a = k + 1/\(t.getD k default).i = (u:Int)/\qt4 P t us k
theorem qpn {P:Nat->Nat} {t:List Tn} {x:Nat}:∀ (us:List Nat) (a m:Nat),qt4 P t us a->x ∉ us->vUp t (x:Int) P m (P a) = true
 | [],a,m,h,_=>by
  rw [show P a = 0 from h];cases m <;> rfl
 | u :: us,a,m,⟨k,h1,h2,h3⟩,hx=>by
  rw [h1];simp only [List.mem_cons,not_or] at hx
  cases m with
  | zero=>rfl
  | succ m=>
   rw [vUp,if_neg (by rw [h2]; omega)];exact qpn us k m h3 hx.2
theorem qq6 {bits:Nat} {P:Nat->Nat} {t:List Tn}:∀ (d:DT) (us:List Nat) (a:Nat),d.ok bits us->qk0 P d a->qt4 P t us a->(∀ k,k < d.sz->t.getD (a + k) default = (d.fl a).getD k default)->(0 < a->P a ≠ 0)->
  ∀ j,a≤j->j < a + d.sz->qq5 t P j = true
 | .lf,us,a,_,_,hc,ht,h0,j,h1,h2=>by
  simp only [DT.sz] at h2;have hj:j = a:=by omega
  subst hj;have e:t.getD j default = lfN:=by have:=ht 0 (by simp [DT.sz]); simpa [DT.fl] using this
  unfold qq5;rw [e,decide_eq_true rfl,Bool.true_or,Bool.and_true];by_cases hj:0 < j
  ·simp [h0 hj]
  ·simp [hj]
 | .nd i z o,us,a,⟨o1,o2,o3,o4⟩,⟨p1,p2,p3,p4⟩,hc,ht,h0,j,h1,h2=>by
  have hz:=z.sz_pos;have ho:=o.sz_pos;simp only [DT.sz] at h2 ht;have e:t.getD a default = ⟨i,((a + 1:Nat):Int),((a + 1 + z.sz:Nat):Int)⟩:=by have:=ht 0 (by omega); simpa [DT.fl] using this
  have ei:(t.getD a default).i = (i:Int):=by rw [e]
  have c1:qt4 P t (i :: us) (a + 1):=⟨a,p1,ei,hc⟩;have c2:qt4 P t (i :: us) (a + 1 + z.sz):=⟨a,p2,ei,hc⟩
  have t1:∀ k,k < z.sz->t.getD (a + 1 + k) default = (z.fl (a + 1)).getD k default:=fun k hk=>by
   have:=ht (k + 1) (by omega);rw [show a + 1 + k = a + (k + 1) by omega,this];simp only [DT.fl,List.getD_cons_succ];rw [jja,jja,List.getElem?_append_left (by simpa using hk)]
  have t2:∀ k,k < o.sz->t.getD (a + 1 + z.sz + k) default = (o.fl (a + 1 + z.sz)).getD k default:=fun k hk=>by
   have:=ht (1 + z.sz + k) (by omega);rw [show a + 1 + z.sz + k = a + (1 + z.sz + k) by omega,this];simp only [DT.fl];rw [show 1 + z.sz + k = (z.sz + k) + 1 by omega,List.getD_cons_succ];rw [jja,jja,List.getElem?_append_right (by simp)];simp
  rcases Nat.lt_or_ge a j with h3 | h3
  ·rcases Nat.lt_or_ge j (a + 1 + z.sz) with h4 | h4
   ·exact qq6 z (i :: us) (a + 1) o3 p3 c1 t1 (fun _=>by omega) j (by omega) (by omega)
   ·exact qq6 o (i :: us) (a + 1 + z.sz) o4 p4 c2 t2 (fun _=>by omega) j (by omega) (by omega)
  ·have hj:j = a:=by omega
   subst hj;unfold qq5;rw [ei,qpn us j _ hc o2,Bool.or_true,Bool.and_true];by_cases hj:0 < j
   ·simp [h0 hj]
   ·simp [hj]
theorem q0z {bits:Nat} (d:DT) (h:d.ok bits []):qde (d.fl 0) bits = true:=by
 obtain ⟨P,h1,h2,h3⟩:=qq4 (len:=d.sz) d [] 0 [] (fun _=>0) h (by omega) fun _ _ _=>rfl
 have hr:qt2 (d.fl 0).length bits (d.fl 0) 0 (fun _=>0) = some P:=by
  rw [jh7];rw [List.append_nil] at h1;rw [h1]; rfl
 unfold qde;rw [hr];simp only [jh7];rw [Bool.and_eq_true,List.all_eq_true,decide_eq_true_eq];refine ⟨fun j hj=>?_,d.sz_pos⟩;rw [List.mem_range] at hj;exact qq6 d [] 0 h h3 (h2 0 (.inl (jjf 0))) (fun k _=>by rw [Nat.zero_add]) (fun h=>absurd h (Nat.lt_irrefl 0)) j (Nat.zero_le _) (by omega)
end
section
open Go
def Pt.bit (p:Pt) (k:Nat):Nat:=if k < p.i.length then p.i.getD k 0 else p.s.getD (k - p.i.length) 0
def Pt.set (p:Pt) (k v:Nat):Pt:=if k < p.i.length then ⟨p.i.set k v,p.s⟩ else ⟨p.i,p.s.set (k - p.i.length) v⟩
def Pt.many (p:Pt):Nat:=p.i.length + p.s.length
@[simp] theorem jiw (p:Pt) (k v:Nat):(p.set k v).i.length = p.i.length:=by unfold Pt.set; split <;> simp
@[simp] theorem Pt.set_s (p:Pt) (k v:Nat):(p.set k v).s.length = p.s.length:=by unfold Pt.set; split <;> simp
@[simp] theorem jiz (p:Pt) (k v:Nat):(p.set k v).many = p.many:=by simp [Pt.many]
theorem qlq (l:List Nat) (k j v d:Nat):(l.set k v).getD j d = if j = k/\k < l.length then v else l.getD j d:=by
 simp only [jja,List.getElem?_set];by_cases h:k = j
 ·subst h;by_cases hk:k < l.length
  ·simp [hk]
  ·simp [hk]
 ·rw [if_neg h,if_neg (fun e=>h e.1.symm)]
theorem jht {p:Pt} {k j v:Nat} (hk:k < p.many):(p.set k v).bit j = if j = k then v else p.bit j:=by
 unfold Pt.many at hk;unfold Pt.bit;rw [jiw];unfold Pt.set;by_cases h:k < p.i.length
 ·rw [if_pos h];simp only [qlq];by_cases hj:j < p.i.length
  ·rw [if_pos hj,if_pos hj];by_cases e:j = k
   ·rw [if_pos ⟨e,h⟩,if_pos e]
   ·rw [if_neg (fun q=>e q.1),if_neg e]
  ·rw [if_neg hj,if_neg hj,if_neg (by omega)]
 ·rw [if_neg h];simp only [qlq];by_cases hj:j < p.i.length
  ·rw [if_pos hj,if_pos hj,if_neg (by omega)]
  ·rw [if_neg hj,if_neg hj];by_cases e:j = k
   ·subst e;rw [if_pos ⟨rfl,by omega⟩,if_pos rfl]
   ·rw [if_neg (by omega),if_neg e]
theorem jif {p q:Pt} (hi:p.i.length = q.i.length) (hs:p.s.length = q.s.length) (h:∀ k,k < p.many->p.bit k = q.bit k):p = q:=by
 unfold Pt.many Pt.bit at h
 have e1:p.i = q.i:=List.ext_getElem hi fun k h1 h2=>by
  have:=h k (by omega);rw [if_pos h1,if_pos h2] at this;simpa [jja,h1,h2] using this
 have e2:p.s = q.s:=List.ext_getElem hs fun k h1 h2=>by
  have:=h (p.i.length + k) (by omega);rw [if_neg (by omega),if_neg (by omega),<- hi,Nat.add_sub_cancel_left] at this;simpa [jja,h1,h2] using this
 cases p; cases q; simp_all
theorem jip {p:Pt} {k:Nat} (hk:k < p.many) (v:Nat) (h:p.bit k = v):p.set k v = p:=by
 refine jif (by simp) (by simp) fun j hj=>?_;rw [jht hk];split
 ·rename_i e; rw [e,h]
 ·rfl
theorem jh9 {p:Pt} {k:Nat} (hk:k < p.many) (v w:Nat):(p.set k v).set k w = p.set k w:=by
 refine jif (by simp) (by simp) fun j hj=>?_;rw [jht (by simpa using hk),jht hk,jht hk];split <;> rfl
theorem Pt.le_bit {p q:Pt}:p.le q↔p.i.length = q.i.length/\p.s.length = q.s.length/\∀ k,k < p.many->le2 (p.bit k) (q.bit k):=by
 constructor
 ·rintro ⟨h1,h2⟩;refine ⟨qgn h1,qgn h2,fun k _=>?_⟩;unfold Pt.bit;rw [<- qgn h1];split
  ·exact qe3 h1 k
  ·exact qe3 h2 _
 ·rintro ⟨h1,h2,h⟩;unfold Pt.many Pt.bit at h;refine ⟨qlt h1 fun k a b=>?_,qlt h2 fun k a b=>?_⟩
  ·have:=h k (by omega);rw [if_pos a,if_pos b] at this;simpa [jja,a,b] using this
  ·have:=h (p.i.length + k) (by omega);rw [if_neg (by omega),if_neg (by omega),<- h1,Nat.add_sub_cancel_left] at this;simpa [jja,a,b] using this
theorem jis (p:Pt):p.le p:=Pt.le_bit.2 ⟨rfl,rfl,fun _ _=>.inl rfl⟩
theorem jit {p:Pt} {k:Nat} (hk:k < p.many) (v:Nat) (h:p.bit k = 2):p.le (p.set k v):=Pt.le_bit.2 ⟨by simp,by simp,fun j _=>by
 rw [jht hk];split
 ·rename_i e; subst e; exact .inr h
 ·exact .inl rfl⟩
theorem Pt.kn_bit {p:Pt}:p.kn↔∀ k,k < p.many->p.bit k≤1:=by
 unfold Pt.kn Pt.many Pt.bit;constructor
 ·rintro ⟨h1,h2⟩ k _;split
  ·exact qvm h1 k
  ·exact qvm h2 _
 ·intro h;refine ⟨fun x hx=>?_,fun x hx=>?_⟩
  ·obtain ⟨k,hk,rfl⟩:=List.getElem_of_mem hx;have:=h k (by omega);rw [if_pos hk] at this;simpa [jja,hk] using this
  ·obtain ⟨k,hk,rfl⟩:=List.getElem_of_mem hx;have:=h (p.i.length + k) (by omega);rw [if_neg (by omega),Nat.add_sub_cancel_left] at this;simpa [jja,hk] using this
theorem jh3 {p:Pt} {c:Ci} (h:p.fit c) (k v:Nat) (hv:v≤3):(p.set k v).fit c:=by
 refine ⟨by simpa using h.i,by simpa using h.s,fun x hx=>?_,fun x hx=>?_⟩
 ·unfold Pt.set at hx;split at hx
  ·rcases List.mem_or_eq_of_mem_set hx with hx | rfl
   ·exact h.iv x hx
   ·exact hv
  ·exact h.iv x hx
 ·unfold Pt.set at hx;split at hx
  ·exact h.sv x hx
  ·rcases List.mem_or_eq_of_mem_set hx with hx | rfl
   ·exact h.sv x hx
   ·exact hv
noncomputable def prB (c:Ci) (f:Ft):DT->Pt->Bool
 | .lf,p=>qew c f p
 | .nd i z o,p=>prB c f z (p.set i 0) && prB c f o (p.set i 1)
noncomputable def qb7 (c:Ci) (f:Ft):DT->Pt->DT
 | .lf,_=>.lf
 | .nd i z o,p=>if qew c f p = true then .lf else .nd i (qb7 c f z (p.set i 0)) (qb7 c f o (p.set i 1))
theorem qnn {c:Ci} {f:Ft}:∀ (d:DT) (p:Pt),(qb7 c f d p).sz≤d.sz
 | .lf,_=>jjf _
 | .nd i z o,p=>by
  rw [qb7];have h1:=qnn (c:=c) (f:=f) z (p.set i 0);have h2:=qnn (c:=c) (f:=f) o (p.set i 1);split
  ·simp [DT.sz]; omega
  ·simp only [DT.sz]; omega
end
section
open Go
def At (t:List Tn) (d:DT) (a:Nat):Prop:=∀ k,k < d.sz->t[a + k]? = (d.fl a)[k]?
theorem At.fl (d:DT):At (d.fl 0) d 0:=fun k _=>by rw [Nat.zero_add]
theorem At.lf {t:List Tn} {a:Nat} (h:At t .lf a):t[a]? = some lfN:=h 0 (by simp [DT.sz])
theorem At.nd {t:List Tn} {i:Nat} {z o:DT} {a:Nat} (h:At t (.nd i z o) a):t[a]? = some ⟨i,((a + 1:Nat):Int),((a + 1 + z.sz:Nat):Int)⟩:=h 0 (by simp [DT.sz]; omega)
theorem At.z {t:List Tn} {i:Nat} {z o:DT} {a:Nat} (h:At t (.nd i z o) a):At t z (a + 1):=fun k hk=>by
 have:=h (k + 1) (by simp only [DT.sz]; omega);rw [show a + 1 + k = a + (k + 1) by omega,this];simp only [DT.fl,List.getElem?_cons_succ];rw [List.getElem?_append_left (by simpa using hk)]
theorem At.o {t:List Tn} {i:Nat} {z o:DT} {a:Nat} (h:At t (.nd i z o) a):At t o (a + 1 + z.sz):=fun k hk=>by
 have:=h (1 + z.sz + k) (by simp only [DT.sz]; omega);rw [show a + 1 + z.sz + k = a + (1 + z.sz + k) by omega,this];simp only [DT.fl];rw [show 1 + z.sz + k = (z.sz + k) + 1 by omega,List.getElem?_cons_succ,List.getElem?_append_right (by simp)];simp
def stP (p:Pt) (i:Nat):Nat->Pt
 | 0=>p
 | 1=>p.set i 0
 | _=>p.set i 1
noncomputable def stB (c:Ci) (f:Ft) (z o:DT) (p:Pt) (i:Nat):Nat->Bool
 | 0=>true
 | 1=>prB c f z (p.set i 0)
 | _=>prB c f z (p.set i 0) && prB c f o (p.set i 1)
theorem q4x {p:Pt} {i:Nat} (hi:i < p.many):∀ j,j < 2->(stP p i j).set i j = stP p i (j + 1)
 | 0,_=>rfl
 | 1,_=>jh9 hi 0 1
theorem qxk {p:Pt} {i:Nat} (hi:i < p.many) (h:p.bit i = 2):(stP p i 2).set i 2 = p:=by
 show (p.set i 1).set i 2 = p;rw [jh9 hi,jip hi 2 h]
@[simp] theorem jgs (p:Pt) (i j:Nat):(stP p i j).i.length = p.i.length:=by
 match j with
 | 0=>rfl
 | 1=>simp [stP]
 | _ + 2=>simp [stP]
@[simp] theorem jgt (p:Pt) (i j:Nat):(stP p i j).s.length = p.s.length:=by
 match j with
 | 0=>rfl
 | 1=>simp [stP]
 | _ + 2=>simp [stP]
end
end Go.Proofs.YtpaopccohkldlaaGreatDoor
