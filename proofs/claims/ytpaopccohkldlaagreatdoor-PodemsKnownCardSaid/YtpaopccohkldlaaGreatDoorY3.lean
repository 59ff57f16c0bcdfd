/- Lemmas. Conditions: none. -/
import Derived.Test.YtpaopccohkldlaaGreatDoorU3
import Derived.Test.YtpaopccohkldlaaGreatDoorT12
set_option linter.all false
namespace Go.Proofs.YtpaopccohkldlaaGreatDoor
section
open Go
abbrev Ft.sW (f:Ft):Nat->Nat->Nat:=atW f fun _=>f.v
abbrev Ft.sQ (f:Ft):Nat->Nat->Nat->Nat:=atQ f fun _=>f.v
noncomputable def Ft.M (c:Ci) (f:Ft) (p:Pt):Nat->Nat:=qi3 c f.sW f.sQ p
noncomputable def Ft.det (c:Ci) (f:Ft) (p:Pt):Bool:=jay c f.sW f.sQ p
theorem jdb (f:Ft):LeW f.sW f.sW:=jc9 f fun _ _ _=>.inl rfl
theorem jc8 (f:Ft):LeQ f.sQ f.sQ:=jc6 f fun _ _ _=>.inl rfl
theorem det_mono (c:Ci) (f:Ft) {p q:Pt} (h:p.le q) (hd:f.det c p = true):f.det c q = true:=q4z c (jdb f) (jc8 f) h hd
def qn6 (c:Ci) (f:Ft) (A B:Nat->Nat) (n:Nat) (F:Nat->Bool):Bool:=
 !(decide (A n≤1) && decide (A n = B n)) && ((decide (n = f.n) && (qb3 c n || decide (f.q = 0))) || (qb3 c n && (c.g n).any F))
theorem qu3 {α:Type} {l:List α} {F G:α->Bool} (h:∀ x ∈ l,F x = G x):l.any F = l.any G:=by
 induction l with
 | nil=>rfl
 | cons a l ih=>simp only [List.any_cons]; rw [h a List.mem_cons_self,ih fun x hx=>h x (List.mem_cons_of_mem _ hx)]
theorem q5w {c:Ci} {f:Ft} {A B:Nat->Nat} {n:Nat} {F G:Nat->Bool} (h:∀ x ∈ c.g n,F x = G x):qn6 c f A B n F = qn6 c f A B n G:=by
 unfold qn6; rw [qu3 h]
noncomputable def qqe (c:Ci) (f:Ft) (p:Pt):Nat->Bool:=evl (qn6 c f (qbj c p) (f.M c p)) (fun _=>true) (qij c) (fun _=>false)
theorem jih {c:Ci} (hg:c.good) {n x:Nat} (hn:n < c.n.length) (hx:x ∈ c.g n):qhy c x < qhy c n:=by
 have hlv:qhz c.n.length c.g (qhy c):=hg.ac.lv;have:=hlv n hn;have:=qp6 (f:=qhy c) hx;omega
theorem qsa {c:Ci} (hg:c.good) (f:Ft) (p:Pt) {n:Nat} (hn:n < c.n.length):qqe c f p n = qn6 c f (qbj c p) (f.M c p) n (qqe c f p):=by
 have ho:=hg.ord;have h:=qx7 (g:=c.g) (ev:=qn6 c f (qbj c p) (f.M c p)) (fun n F F' h _=>q5w h) (qij c) [] (fun _=>false) (ho.topo hg) (qc4 ho.p) (by simp) n (ho.all hn);rw [show qqe c f p n = _ from h];refine q5w fun x hx=>qav _ _ fun e=>?_;have:=jih hg hn hx;rw [e] at this;omega
theorem Ci.good.ind {c:Ci} (hg:c.good) {P:Nat->Prop} (h:∀ n,n < c.n.length->(∀ x ∈ c.g n,P x)->P n):∀ n,n < c.n.length->P n:=by
 have key:∀ k n,qhy c n < k->n < c.n.length->P n:=by
  intro k
  induction k with
  | zero=>intro n h1; omega
  | succ k ih=>intro n h1 h2; exact h n h2 fun x hx=>ih x (by have:=jih hg h2 hx; omega) (hg.val.g n h2 x hx)
 exact fun n=>key _ n (Nat.lt_succ_self _)
theorem q5x {c:Ci} (hg:c.good) {f:Ft} {p q:Pt} (h:p.le q):∀ n,n < c.n.length->qqe c f p n = false->qqe c f q n = false/\qbj c q n = f.M c q n:=by
 refine hg.ind fun n hn ih hp=>?_;rw [qsa hg f p hn] at hp;rw [qsa hg f q hn];have hA:=qjp c h n;have hB:le2 (f.M c p n) (f.M c q n):=qny c (jdb f) (jc8 f) h n;by_cases hd:qbj c p n≤1/\qbj c p n = f.M c p n
 ·have e1:qbj c p n = qbj c q n:=hA.resolve_right (by omega);have e2:f.M c p n = f.M c q n:=hB.resolve_right (by omega);refine ⟨?_,by rw [<- e1,<- e2,hd.2]⟩;unfold qn6;rw [<- e1,<- e2];simp [hd.1,hd.2.symm]
 ·have hd':(decide (qbj c p n≤1) && decide (qbj c p n = f.M c p n)) = false:=by
   cases h1:decide (qbj c p n≤1) <;> cases h2:decide (qbj c p n = f.M c p n) <;> simp_all
  unfold qn6 at hp ⊢;rw [hd',Bool.not_false,Bool.true_and] at hp;obtain ⟨s1,s2⟩:=Bool.or_eq_false_iff.1 hp
  have hin:qb3 c n = true->∀ x ∈ c.g n,qqe c f q x = false/\qbj c q x = f.M c q x:=fun hc x hx=>by
   rw [hc,Bool.true_and,List.any_eq_false] at s2;exact ih x hx (by simpa using s2 x hx)
  have s3:(qb3 c n && (c.g n).any (qqe c f q)) = false:=by
   cases hc:qb3 c n with
   | false=>rfl
   | true=>rw [Bool.true_and,List.any_eq_false]; exact fun x hx=>by rw [(hin hc x hx).1]; simp
  refine ⟨by rw [s1,s3]; simp,?_⟩
  have hnf:n = f.n->qb3 c n = false/\f.q ≠ 0:=fun e=>by
   rw [decide_eq_true e,Bool.true_and] at s1;obtain ⟨h1,h2⟩:=Bool.or_eq_false_iff.1 s1;exact ⟨h1,by simpa using h2⟩
  have a1:=q3i (p:=q) hg hg.ord n hn;have a2:f.M c q n = _:=qoa (W:=f.sW) (Q:=f.sQ) (p:=q) hg hg.ord n hn;rw [a1,a2]
  have hw:∀ v,f.sW n v = v:=fun v=>by
   unfold Ft.sW atW;rw [if_neg fun e=>(hnf e.2).2 e.1]
  rw [hw];unfold idW;split
  ·rename_i hc;have hne:n ≠ f.n:=fun e=>by rw [(hnf e).1] at hc; cases hc
   congr 1;refine qil fun k hk=>?_;unfold Ft.sQ atQ;rw [if_neg fun e=>hne e.2.1];have hx:((c.nd n).i[k]).toNat ∈ c.g n:=by rw [qiw hc]; exact List.mem_map_of_mem (jpk hk)
   have:=(hin hc _ hx).2;exact this
  ·rfl
def inD (c:Ci) (n:Nat):Nat:=((c.nd n).i.getD 0 0).toNat
noncomputable def qlr (c:Ci) (f:Ft) (p:Pt):Bool:=
 !(c.o.any fun k=>qqe c f p k.toNat) && (ids 14 c.n 0).all fun n=>if f.n = n/\f.q = 1 then decide (qbj c p (inD c n) = f.v) else !qqe c f p (inD c n)
theorem qxe {c:Ci} {f:Ft} {p:Pt}:qlr c f p = true↔(∀ k ∈ c.o,qqe c f p k.toNat = false)/\∀ n ∈ ids 14 c.n 0,(f.n = n/\f.q = 1->qbj c p (inD c n) = f.v)/\(¬ (f.n = n/\f.q = 1)->qqe c f p (inD c n) = false):=by
 unfold qlr;rw [Bool.and_eq_true,Bool.not_eq_true',List.any_eq_false,List.all_eq_true];refine and_congr (forall_congr' fun k=>forall_congr' fun _=>by simp) (forall_congr' fun n=>forall_congr' fun _=>?_);split
 ·rename_i h; simp [h]
 ·rename_i h; simp [h]
theorem qpy {c:Ci} (hg:c.good) {n:Nat} (hn:n ∈ ids 14 c.n 0):n < c.n.length/\(c.nd n).i = [((inD c n:Nat):Int)]/\inD c n < c.n.length/\(c.nd n).k = 14:=by
 obtain ⟨h,x,hx,h0,h1,h2⟩:=qt3 hg hn;have hnd:(c.nd n).i = [x]:=by rw [c.nd_get h]; exact hx
 have e:inD c n = x.toNat:=by unfold inD; rw [hnd]; rfl
 rw [e,hnd,c.nd_get h];exact ⟨h,by congr 1; omega,by omega,h2⟩
theorem qt5 {c:Ci} (hg:c.good) {n:Nat} (hn:n ∈ ids 14 c.n 0) (Q:Nat->Nat->Nat->Nat) (M:Nat->Nat):qwo c Q M n = if Q n 0 (M (inD c n)) = 3 then 2 else Q n 0 (M (inD c n)):=by
 obtain ⟨-,h1,-⟩:=qpy hg hn;unfold qwo qfx;rw [h1];simp
theorem qt6 {c:Ci} (hg:c.good) {n:Nat} (hn:n ∈ ids 14 c.n 0) (A:Nat->Nat):qwp c A n = rdN (qed (A (inD c n))):=by
 obtain ⟨-,h1,-⟩:=qpy hg hn;unfold qwp;rw [h1];simp
theorem sQ0 (f:Ft) (n v:Nat):f.sQ n 0 v = if f.n = n/\f.q = 1 then f.v else v:=by
 unfold Ft.sQ atQ;by_cases h:f.n = n/\f.q = 1
 ·rw [if_pos h,if_pos ⟨by omega,h.1.symm,by omega⟩]
 ·rw [if_neg h,if_neg fun e=>h ⟨e.2.1.symm,by omega⟩]
theorem qxd {c:Ci} (hg:c.good) {f:Ft} (hf:f.ok c) {p q:Pt} (h:p.le q) (hq:q.fit c) (hb:qlr c f p = true):f.det c q = false:=by
 rw [qxe] at hb;have hM:qi3 c f.sW f.sQ q = f.M c q:=rfl
 have hO:qf8 c (f.M c q) = qms c (qbj c q):=by
  unfold qf8 qms;refine List.map_congr_left fun k hk=>?_;rw [qjg (ji0 hq _)];exact (q5x hg h _ (by have:=hg.o hk; omega) (hb.1 k hk)).2.symm
 have hS:qf9 c f.sQ (f.M c q) = qmt c (qbj c q):=by
  unfold qf9 qmt;refine List.map_congr_left fun n hn=>?_;obtain ⟨hnl,h1,h2,h3⟩:=qpy hg hn;have h4:=ji0 hq (inD c n);have hv:=hf.v;rw [qt5 hg hn,qt6 hg hn,qjg h4];rw [sQ0];unfold rdN;by_cases e:f.n = n/\f.q = 1
  ·have h5:=(hb.2 n hn).1 e;have h6:=qjp c h (inD c n);rw [h5] at h6;have h7:=h6.resolve_right (by omega);rw [if_pos e,if_neg (by omega)];omega
  ·have h5:=(q5x hg h _ h2 ((hb.2 n hn).2 e)).2;rw [if_neg e,<- h5];split <;> omega
 unfold Ft.det jay;rw [hM,hO,hS];exact q0d _ _
theorem stk1 {c:Ci} (hg:c.good) (hk:c.plain) {f:Ft} (hv:f.v≤1) {p:Pt} (hp:p.kn):∀ n,n < c.n.length->f.M c p n≤1:=by
 refine hg.ind fun n hn ih=>?_;have a2:f.M c p n = _:=qoa (W:=f.sW) (Q:=f.sQ) (p:=p) hg hg.ord n hn;rw [a2]
 have hw:∀ v,v≤1->f.sW n v≤1:=fun v h=>by
  unfold Ft.sW atW;split <;> omega
 refine hw _ ?_;split
 ·rename_i hc;obtain ⟨h1,h2,h3⟩:=hk n hn hc;refine jdl h1 h2 (by simpa [qfx] using h3) fun v hv'=>?_;unfold qfx at hv';rw [List.mem_mapIdx] at hv';obtain ⟨k,hk',rfl⟩:=hv';have hx:((c.nd n).i[k]).toNat ∈ c.g n:=by rw [qiw hc]; exact List.mem_map_of_mem (jpk hk')
  have h5:f.M c p ((c.nd n).i[k]).toNat≤1:=ih _ hx;show f.sQ n k (f.M c p ((c.nd n).i[k]).toNat)≤1;unfold Ft.sQ atQ;split
  ·exact hv
  ·exact h5
 ·exact jeg _ _ _ hp.2 (jeg _ _ _ hp.1 fun _=>by omega) n
theorem q5y {c:Ci} (hg:c.good) {f:Ft} {p:Pt} {n:Nat} (hn:n < c.n.length) (h1:qbj c p n≤1) (h:qqe c f p n = true):qbj c p n ≠ f.M c p n:=fun e=>by
 rw [qsa hg f p hn] at h;unfold qn6 at h;rw [decide_eq_true h1,decide_eq_true e] at h;simp at h
theorem q1t {c:Ci} (hg:c.good) (hk:c.plain) {f:Ft} (hf:f.ok c) {q:Pt} (hq:q.fit c) (hp:q.kn):f.det c q = !qlr c f q:=by
 cases hb:qlr c f q with
 | true=>exact qxd hg hf ⟨qhh rfl fun i _ _=>.inl rfl,qhh rfl fun i _ _=>.inl rfl⟩ hq hb
 | false=>
  have hM:qi3 c f.sW f.sQ q = f.M c q:=rfl;have hA:=net1 hg hk hp;have hB:=stk1 hg hk hf.v hp;unfold Ft.det jay qim;rw [hM,Bool.not_false,decide_eq_true_eq];unfold qlr at hb;rw [Bool.and_eq_false_iff] at hb;rcases hb with hb | hb
  ·rw [Bool.not_eq_false',List.any_eq_true] at hb;obtain ⟨k,hk1,hk2⟩:=hb;have hkl:k.toNat < c.n.length:=by have:=hg.o hk1; omega
   have hne:=q5y hg hkl (hA _) hk2;obtain ⟨i,hi,rfl⟩:=List.getElem_of_mem hk1
   have:0 < (cons (qms c (qbj c q)) (qf8 c (f.M c q))).length:=by
    rw [qnh];refine ⟨i,by simp [qms,qf8,hi],?_⟩;have e1:(qms c (qbj c q)).getD i 0 = qbj c q (c.o[i]).toNat:=by simp [qms,jph,hi,qjg (ji0 hq _)]
    have e2:(qf8 c (f.M c q)).getD i 0 = f.M c q (c.o[i]).toNat:=by simp [qf8,jph,hi]
    unfold qvb;rw [e1,e2];simp [hA,hB _ hkl,hne]
   omega
  ·rw [List.all_eq_false] at hb;obtain ⟨n,hn,hb⟩:=hb;obtain ⟨hnl,h1,h2,h3⟩:=qpy hg hn;have hv:=hf.v
   have key:qwp c (qbj c q) n≤1/\qwo c f.sQ (f.M c q) n≤1/\qwp c (qbj c q) n ≠ qwo c f.sQ (f.M c q) n:=by
    have hA1:=hA (inD c n);have hB1:=hB _ h2;rw [qt5 hg hn,qt6 hg hn,qjg (by omega)];rw [sQ0];unfold rdN;by_cases e:f.n = n/\f.q = 1
    ·rw [if_pos e] at hb;have hb':¬ qbj c q (inD c n) = f.v:=by simpa using hb
     rw [if_pos e,if_neg (by omega)];omega
    ·rw [if_neg e] at hb;have hb':qqe c f q (inD c n) = true:=by simpa using hb
     have hne:=q5y hg h2 hA1 hb';rw [if_neg e,if_neg (by omega)];omega
   obtain ⟨i,hi,rfl⟩:=List.getElem_of_mem hn
   have:0 < (cons (qmt c (qbj c q)) (qf9 c f.sQ (f.M c q))).length:=by
    rw [qnh];refine ⟨i,by simp [qmt,qf9,hi],?_⟩;have e1:(qmt c (qbj c q)).getD i 0 = qwp c (qbj c q) (ids 14 c.n 0)[i]:=by simp [qmt,jph,hi]
    have e2:(qf9 c f.sQ (f.M c q)).getD i 0 = qwo c f.sQ (f.M c q) (ids 14 c.n 0)[i]:=by simp [qf9,jph,hi]
    unfold qvb;rw [e1,e2];simp [key.1,key.2.1,key.2.2]
   omega
end
section
open Go
structure Tn where
 i:Int
 z:Int
 o:Int
 deriving Inhabited,DecidableEq
def Tn.v (n:Tn):V:=.agg [.int .i64 n.i,.int .i64 n.z,.int .i64 n.o]
def lfN:Tn:=⟨-1,0,0⟩
inductive DT where
 | lf
 | nd (i:Nat) (z o:DT)
 deriving Inhabited
def DT.sz:DT->Nat
 | .lf=>1
 | .nd _ z o=>1 + z.sz + o.sz
def DT.fl:DT->Nat->List Tn
 | .lf,_=>[lfN]
 | .nd i z o,a=>⟨i,((a + 1:Nat):Int),((a + 1 + z.sz:Nat):Int)⟩ :: (z.fl (a + 1) ++ o.fl (a + 1 + z.sz))
@[simp] theorem jn4:∀ (d:DT) (a:Nat),(d.fl a).length = d.sz
 | .lf,_=>rfl
 | .nd _ z o,a=>by simp [DT.fl,DT.sz,jn4 z,jn4 o]; omega
theorem DT.sz_pos:∀ d:DT,0 < d.sz
 | .lf=>by simp [DT.sz]
 | .nd _ z o=>by simp [DT.sz]; omega
def DT.ok (bits:Nat):DT->List Nat->Prop
 | .lf,_=>True
 | .nd i z o,us=>i < bits/\i ∉ us/\z.ok bits (i :: us)/\o.ok bits (i :: us)
def qq3 (len i:Nat) (k:Int) (par:Nat->Nat):Option (Nat->Nat):=if k≤(i:Int)∨(len:Int)≤k∨0 < par k.toNat then none else some (qdb par k.toNat (i + 1))
def qio (len:Nat) (bits:Int) (i:Nat) (n:Tn) (par:Nat->Nat):Option (Nat->Nat):=
 if n = lfN then some par else if n.i < 0∨bits≤n.i then none else match qq3 len i n.z par with
  | none=>none
  | some p=>qq3 len i n.o p
def qws (len:Nat) (bits:Int):List Tn->Nat->(Nat->Nat)->Option (Nat->Nat)
 | [],_,p=>some p
 | n :: r,i,p=>match qio len bits i n p with
  | none=>none
  | some p=>qws len bits r (i + 1) p
def vUp (t:List Tn) (x:Int) (par:Nat->Nat):Nat->Nat->Bool
 | 0,_=>true
 | _ + 1,0=>true
 | m + 1,k + 1=>if (t.getD k default).i = x then false else vUp t x par m (par k)
def qsy (t:List Tn) (par:Nat->Nat) (i:Nat):Bool:=
 !(decide (0 < i) && decide (par i = 0)) && (decide (t.getD i default = lfN) || vUp t (t.getD i default).i par (t.length + 1) (par i))
def qln (t:List Tn) (bits:Int):Bool:=match qws t.length bits t 0 (fun _=>0) with
 | none=>false
 | some par=>(List.range t.length).all (qsy t par) && decide (0 < t.length)
def qlt (P:Nat->Nat):DT->Nat->Prop
 | .lf,_=>True
 | .nd _ z o,a=>P (a + 1) = a + 1/\P (a + 1 + z.sz) = a + 1/\qlt P z (a + 1)/\qlt P o (a + 1 + z.sz)
theorem qlt.congr {P P':Nat->Nat}:∀ (d:DT) (a:Nat),(∀ j,a < j->j < a + d.sz->P j = P' j)->qlt P d a->qlt P' d a
 | .lf,_,_,_=>trivial
 | .nd _ z o,a,h,⟨h1,h2,h3,h4⟩=>by
  have hz:=z.sz_pos;have ho:=o.sz_pos;simp only [DT.sz] at h
  exact ⟨by rw [<- h _ (by omega) (by omega)]; exact h1,by rw [<- h _ (by omega) (by omega)]; exact h2,
   qlt.congr z _ (fun j h5 h6=>h j (by omega) (by omega)) h3,qlt.congr o _ (fun j h5 h6=>h j (by omega) (by omega)) h4⟩
theorem qsx {len bits:Nat}:∀ (d:DT) (us:List Nat) (a:Nat) (rest:List Tn) (par:Nat->Nat),d.ok bits us->a + d.sz≤len->(∀ j,a < j->j < a + d.sz->par j = 0)->
  ∃ P,qws len bits (d.fl a ++ rest) a par = qws len bits rest (a + d.sz) P/\(∀ j,j≤a∨a + d.sz≤j->P j = par j)/\qlt P d a
 | .lf,us,a,rest,par,_,_,_=>by
  refine ⟨par,?_,fun _ _=>rfl,trivial⟩;simp [DT.fl,qws,qio,DT.sz]
 | .nd i z o,us,a,rest,par,⟨h1,h2,h3,h4⟩,hl,h0=>by
  have hz:=z.sz_pos;have ho:=o.sz_pos;simp only [DT.sz] at hl h0
  have hne:(⟨(i:Int),((a + 1:Nat):Int),((a + 1 + z.sz:Nat):Int)⟩:Tn) ≠ lfN:=fun e=>by
   have:=congrArg Tn.i e;simp only [lfN] at this;omega
  let p1:=qdb (qdb par (a + 1) (a + 1)) (a + 1 + z.sz) (a + 1)
  have hnode:qio len bits a ⟨(i:Int),((a + 1:Nat):Int),((a + 1 + z.sz:Nat):Int)⟩ par = some p1:=by
   unfold qio;rw [if_neg hne,if_neg (by simp only []; omega)]
   have e1:qq3 len a ((a + 1:Nat):Int) par = some (qdb par (a + 1) (a + 1)):=by
    unfold qq3;rw [Int.toNat_natCast,if_neg (by rw [h0 (a + 1) (by omega) (by omega)]; omega)]
   have e2:qq3 len a ((a + 1 + z.sz:Nat):Int) (qdb par (a + 1) (a + 1)) = some p1:=by
    unfold qq3;rw [Int.toNat_natCast,qav _ _ (by omega),if_neg (by rw [h0 (a + 1 + z.sz) (by omega) (by omega)]; omega)]
   simp only [e1,e2]
  have hp1:∀ j,j ≠ a + 1->j ≠ a + 1 + z.sz->p1 j = par j:=fun j h5 h6=>by
   show qdb (qdb par (a + 1) (a + 1)) (a + 1 + z.sz) (a + 1) j = par j;rw [qav _ _ h6,qav _ _ h5]
  obtain ⟨P1,r1,k1,q1⟩:=qsx (len:=len) z (i :: us) (a + 1) (o.fl (a + 1 + z.sz) ++ rest) p1 h3 (by omega) fun j h5 h6=>by rw [hp1 j (by omega) (by omega)]; exact h0 j (by omega) (by omega)
  obtain ⟨P2,r2,k2,q2⟩:=qsx (len:=len) o (i :: us) (a + 1 + z.sz) rest P1 h4 (by omega) fun j h5 h6=>by
   rw [k1 j (by omega),hp1 j (by omega) (by omega)]; exact h0 j (by omega) (by omega)
  refine ⟨P2,?_,fun j hj=>?_,?_,?_,qlt.congr z _ (fun j h5 h6=>(k2 j (by omega)).symm) q1,q2⟩
  ·simp only [DT.fl,List.cons_append,qws,hnode,List.append_assoc];rw [r1,r2];simp only [DT.sz];congr 1;omega
  ·simp only [DT.sz] at hj;rw [k2 j (by omega),k1 j (by omega),hp1 j (by omega) (by omega)]
  ·rw [k2 _ (by omega),k1 _ (by omega)];show qdb (qdb par (a + 1) (a + 1)) (a + 1 + z.sz) (a + 1) (a + 1) = a + 1;rw [qav _ _ (by omega),qa4]
  ·rw [k2 _ (by omega),k1 _ (by omega)];show qdb (qdb par (a + 1) (a + 1)) (a + 1 + z.sz) (a + 1) (a + 1 + z.sz) = a + 1;rw [qa4]
def qwv (P:Nat->Nat) (t:List Tn):List Nat->Nat->Prop
 | [],a=>P a = 0
 | u :: us,a=>∃ k,P a = k + 1/\(t.getD k default).i = (u:Int)/\qwv P t us k
theorem qq4 {P:Nat->Nat} {t:List Tn} {x:Nat}:∀ (us:List Nat) (a m:Nat),qwv P t us a->x ∉ us->vUp t (x:Int) P m (P a) = true
 | [],a,m,h,_=>by
  rw [show P a = 0 from h];cases m <;> rfl
 | u :: us,a,m,⟨k,h1,h2,h3⟩,hx=>by
  rw [h1];simp only [List.mem_cons,not_or] at hx
  cases m with
  | zero=>rfl
  | succ m=>
   rw [vUp,if_neg (by rw [h2]; omega)];exact qq4 us k m h3 hx.2
theorem qsz {bits:Nat} {P:Nat->Nat} {t:List Tn}:∀ (d:DT) (us:List Nat) (a:Nat),d.ok bits us->qlt P d a->qwv P t us a->(∀ k,k < d.sz->t.getD (a + k) default = (d.fl a).getD k default)->(0 < a->P a ≠ 0)->
  ∀ j,a≤j->j < a + d.sz->qsy t P j = true
 | .lf,us,a,_,_,hc,ht,h0,j,h1,h2=>by
  simp only [DT.sz] at h2;have hj:j = a:=by omega
  subst hj;have e:t.getD j default = lfN:=by have:=ht 0 (by simp [DT.sz]); simpa [DT.fl] using this
  unfold qsy;rw [e,decide_eq_true rfl,Bool.true_or,Bool.and_true];by_cases hj:0 < j
  ·simp [h0 hj]
  ·simp [hj]
 | .nd i z o,us,a,⟨o1,o2,o3,o4⟩,⟨p1,p2,p3,p4⟩,hc,ht,h0,j,h1,h2=>by
  have hz:=z.sz_pos;have ho:=o.sz_pos;simp only [DT.sz] at h2 ht;have e:t.getD a default = ⟨i,((a + 1:Nat):Int),((a + 1 + z.sz:Nat):Int)⟩:=by have:=ht 0 (by omega); simpa [DT.fl] using this
  have ei:(t.getD a default).i = (i:Int):=by rw [e]
  have c1:qwv P t (i :: us) (a + 1):=⟨a,p1,ei,hc⟩;have c2:qwv P t (i :: us) (a + 1 + z.sz):=⟨a,p2,ei,hc⟩
  have t1:∀ k,k < z.sz->t.getD (a + 1 + k) default = (z.fl (a + 1)).getD k default:=fun k hk=>by
   have:=ht (k + 1) (by omega);rw [show a + 1 + k = a + (k + 1) by omega,this];simp only [DT.fl,List.getD_cons_succ];rw [jph,jph,List.getElem?_append_left (by simpa using hk)]
  have t2:∀ k,k < o.sz->t.getD (a + 1 + z.sz + k) default = (o.fl (a + 1 + z.sz)).getD k default:=fun k hk=>by
   have:=ht (1 + z.sz + k) (by omega);rw [show a + 1 + z.sz + k = a + (1 + z.sz + k) by omega,this];simp only [DT.fl];rw [show 1 + z.sz + k = (z.sz + k) + 1 by omega,List.getD_cons_succ];rw [jph,jph,List.getElem?_append_right (by simp)];simp
  rcases Nat.lt_or_ge a j with h3 | h3
  ·rcases Nat.lt_or_ge j (a + 1 + z.sz) with h4 | h4
   ·exact qsz z (i :: us) (a + 1) o3 p3 c1 t1 (fun _=>by omega) j (by omega) (by omega)
   ·exact qsz o (i :: us) (a + 1 + z.sz) o4 p4 c2 t2 (fun _=>by omega) j (by omega) (by omega)
  ·have hj:j = a:=by omega
   subst hj;unfold qsy;rw [ei,qq4 us j _ hc o2,Bool.or_true,Bool.and_true];by_cases hj:0 < j
   ·simp [h0 hj]
   ·simp [hj]
theorem q4x {bits:Nat} (d:DT) (h:d.ok bits []):qln (d.fl 0) bits = true:=by
 obtain ⟨P,h1,h2,h3⟩:=qsx (len:=d.sz) d [] 0 [] (fun _=>0) h (by omega) fun _ _ _=>rfl
 have hr:qws (d.fl 0).length bits (d.fl 0) 0 (fun _=>0) = some P:=by
  rw [jn4];rw [List.append_nil] at h1;rw [h1]; rfl
 unfold qln;rw [hr];simp only [jn4];rw [Bool.and_eq_true,List.all_eq_true,decide_eq_true_eq];refine ⟨fun j hj=>?_,d.sz_pos⟩;rw [List.mem_range] at hj;exact qsz d [] 0 h h3 (h2 0 (.inl (jpm 0))) (fun k _=>by rw [Nat.zero_add]) (fun h=>absurd h (Nat.lt_irrefl 0)) j (Nat.zero_le _) (by omega)
end
section
open Go
def Pt.bit (p:Pt) (k:Nat):Nat:=if k < p.i.length then p.i.getD k 0 else p.s.getD (k - p.i.length) 0
def Pt.set (p:Pt) (k v:Nat):Pt:=if k < p.i.length then ⟨p.i.set k v,p.s⟩ else ⟨p.i,p.s.set (k - p.i.length) v⟩
def Pt.many (p:Pt):Nat:=p.i.length + p.s.length
@[simp] theorem jo5 (p:Pt) (k v:Nat):(p.set k v).i.length = p.i.length:=by unfold Pt.set; split <;> simp
@[simp] theorem Pt.set_s (p:Pt) (k v:Nat):(p.set k v).s.length = p.s.length:=by unfold Pt.set; split <;> simp
@[simp] theorem jnx (p:Pt) (k v:Nat):(p.set k v).many = p.many:=by simp [Pt.many]
theorem qml (l:List Nat) (k j v d:Nat):(l.set k v).getD j d = if j = k/\k < l.length then v else l.getD j d:=by
 simp only [jph,List.getElem?_set];by_cases h:k = j
 ·subst h;by_cases hk:k < l.length
  ·simp [hk]
  ·simp [hk]
 ·rw [if_neg h,if_neg (fun e=>h e.1.symm)]
theorem jnm {p:Pt} {k j v:Nat} (hk:k < p.many):(p.set k v).bit j = if j = k then v else p.bit j:=by
 unfold Pt.many at hk;unfold Pt.bit;rw [jo5];unfold Pt.set;by_cases h:k < p.i.length
 ·rw [if_pos h];simp only [qml];by_cases hj:j < p.i.length
  ·rw [if_pos hj,if_pos hj];by_cases e:j = k
   ·rw [if_pos ⟨e,h⟩,if_pos e]
   ·rw [if_neg (fun q=>e q.1),if_neg e]
  ·rw [if_neg hj,if_neg hj,if_neg (by omega)]
 ·rw [if_neg h];simp only [qml];by_cases hj:j < p.i.length
  ·rw [if_pos hj,if_pos hj,if_neg (by omega)]
  ·rw [if_neg hj,if_neg hj];by_cases e:j = k
   ·subst e;rw [if_pos ⟨rfl,by omega⟩,if_pos rfl]
   ·rw [if_neg (by omega),if_neg e]
theorem jok {p q:Pt} (hi:p.i.length = q.i.length) (hs:p.s.length = q.s.length) (h:∀ k,k < p.many->p.bit k = q.bit k):p = q:=by
 unfold Pt.many Pt.bit at h
 have e1:p.i = q.i:=List.ext_getElem hi fun k h1 h2=>by
  have:=h k (by omega);rw [if_pos h1,if_pos h2] at this;simpa [jph,h1,h2] using this
 have e2:p.s = q.s:=List.ext_getElem hs fun k h1 h2=>by
  have:=h (p.i.length + k) (by omega);rw [if_neg (by omega),if_neg (by omega),<- hi,Nat.add_sub_cancel_left] at this;simpa [jph,h1,h2] using this
 cases p; cases q; simp_all
theorem jol {p:Pt} {k:Nat} (hk:k < p.many) (v:Nat) (h:p.bit k = v):p.set k v = p:=by
 refine jok (by simp) (by simp) fun j hj=>?_;rw [jnm hk];split
 ·rename_i e; rw [e,h]
 ·rfl
theorem jn7 {p:Pt} {k:Nat} (hk:k < p.many) (v w:Nat):(p.set k v).set k w = p.set k w:=by
 refine jok (by simp) (by simp) fun j hj=>?_;rw [jnm (by simpa using hk),jnm hk,jnm hk];split <;> rfl
theorem Pt.le_bit {p q:Pt}:p.le q↔p.i.length = q.i.length/\p.s.length = q.s.length/\∀ k,k < p.many->le2 (p.bit k) (q.bit k):=by
 constructor
 ·rintro ⟨h1,h2⟩;refine ⟨qgs h1,qgs h2,fun k _=>?_⟩;unfold Pt.bit;rw [<- qgs h1];split
  ·exact qfa h1 k
  ·exact qfa h2 _
 ·rintro ⟨h1,h2,h⟩;unfold Pt.many Pt.bit at h;refine ⟨qhh h1 fun k a b=>?_,qhh h2 fun k a b=>?_⟩
  ·have:=h k (by omega);rw [if_pos a,if_pos b] at this;simpa [jph,a,b] using this
  ·have:=h (p.i.length + k) (by omega);rw [if_neg (by omega),if_neg (by omega),<- h1,Nat.add_sub_cancel_left] at this;simpa [jph,a,b] using this
theorem Pt.le_rfl (p:Pt):p.le p:=Pt.le_bit.2 ⟨rfl,rfl,fun _ _=>.inl rfl⟩
theorem joo {p:Pt} {k:Nat} (hk:k < p.many) (v:Nat) (h:p.bit k = 2):p.le (p.set k v):=Pt.le_bit.2 ⟨by simp,by simp,fun j _=>by
 rw [jnm hk];split
 ·rename_i e; subst e; exact .inr h
 ·exact .inl rfl⟩
theorem jo1 {p q:Pt} (h:p.le q) {k:Nat} (hk:k < p.many):(p.set k (q.bit k)).le q:=by
 obtain ⟨h1,h2,h3⟩:=Pt.le_bit.1 h;refine Pt.le_bit.2 ⟨by simpa using h1,by simpa using h2,fun j hj=>?_⟩;rw [jnm hk];split
 ·rename_i e; subst e; exact .inl rfl
 ·exact h3 j (by simpa using hj)
theorem Pt.kn_bit {p:Pt}:p.kn↔∀ k,k < p.many->p.bit k≤1:=by
 unfold Pt.kn Pt.many Pt.bit;constructor
 ·rintro ⟨h1,h2⟩ k _;split
  ·exact qyl h1 k
  ·exact qyl h2 _
 ·intro h;refine ⟨fun x hx=>?_,fun x hx=>?_⟩
  ·obtain ⟨k,hk,rfl⟩:=List.getElem_of_mem hx;have:=h k (by omega);rw [if_pos hk] at this;simpa [jph,hk] using this
  ·obtain ⟨k,hk,rfl⟩:=List.getElem_of_mem hx;have:=h (p.i.length + k) (by omega);rw [if_neg (by omega),Nat.add_sub_cancel_left] at this;simpa [jph,hk] using this
theorem jnn {p:Pt} {c:Ci} (h:p.fit c) (k v:Nat) (hv:v≤3):(p.set k v).fit c:=by
 refine ⟨by simpa using h.i,by simpa using h.s,fun x hx=>?_,fun x hx=>?_⟩
 ·unfold Pt.set at hx;split at hx
  ·rcases List.mem_or_eq_of_mem_set hx with hx | rfl
   ·exact h.iv x hx
   ·exact hv
  ·exact h.iv x hx
 ·unfold Pt.set at hx;split at hx
  ·exact h.sv x hx
  ·rcases List.mem_or_eq_of_mem_set hx with hx | rfl
   ·exact h.sv x hx
   ·exact hv
noncomputable def prB (c:Ci) (f:Ft):DT->Pt->Bool
 | .lf,p=>qlr c f p
 | .nd i z o,p=>prB c f z (p.set i 0) && prB c f o (p.set i 1)
theorem qsl {c:Ci} (hg:c.good) {f:Ft} (hf:f.ok c) {q:Pt} (hq:q.fit c) (hk:q.kn):∀ (d:DT) (us:List Nat) (p:Pt),d.ok q.many us->p.le q->prB c f d p = true->f.det c q = false
 | .lf,_,_,_,h,hp=>qxd hg hf h hq hp
 | .nd i z o,us,p,⟨o1,_,o3,o4⟩,h,hp=>by
  simp only [prB,Bool.and_eq_true] at hp;have hl:=Pt.le_bit.1 h;have hi:i < p.many:=by unfold Pt.many at *; omega
  have h1:=jo1 h hi;have h2:=Pt.kn_bit.1 hk i o1;have h3:q.bit i = 0∨q.bit i = 1:=by omega
  rcases h3 with e | e
  ·rw [e] at h1; exact qsl hg hf hq hk z _ _ o3 h1 hp.1
  ·rw [e] at h1; exact qsl hg hf hq hk o _ _ o4 h1 hp.2
end
section
open Go
def At (t:List Tn) (d:DT) (a:Nat):Prop:=∀ k,k < d.sz->t[a + k]? = (d.fl a)[k]?
theorem At.fl (d:DT):At (d.fl 0) d 0:=fun k _=>by rw [Nat.zero_add]
theorem At.lf {t:List Tn} {a:Nat} (h:At t .lf a):t[a]? = some lfN:=h 0 (by simp [DT.sz])
theorem At.nd {t:List Tn} {i:Nat} {z o:DT} {a:Nat} (h:At t (.nd i z o) a):t[a]? = some ⟨i,((a + 1:Nat):Int),((a + 1 + z.sz:Nat):Int)⟩:=h 0 (by simp [DT.sz]; omega)
theorem At.z {t:List Tn} {i:Nat} {z o:DT} {a:Nat} (h:At t (.nd i z o) a):At t z (a + 1):=fun k hk=>by
 have:=h (k + 1) (by simp only [DT.sz]; omega);rw [show a + 1 + k = a + (k + 1) by omega,this];simp only [DT.fl,List.getElem?_cons_succ];rw [List.getElem?_append_left (by simpa using hk)]
theorem At.o {t:List Tn} {i:Nat} {z o:DT} {a:Nat} (h:At t (.nd i z o) a):At t o (a + 1 + z.sz):=fun k hk=>by
 have:=h (1 + z.sz + k) (by simp only [DT.sz]; omega);rw [show a + 1 + z.sz + k = a + (1 + z.sz + k) by omega,this];simp only [DT.fl];rw [show 1 + z.sz + k = (z.sz + k) + 1 by omega,List.getElem?_cons_succ,List.getElem?_append_right (by simp)];simp
def stP (p:Pt) (i:Nat):Nat->Pt
 | 0=>p
 | 1=>p.set i 0
 | _=>p.set i 1
noncomputable def stB (c:Ci) (f:Ft) (z o:DT) (p:Pt) (i:Nat):Nat->Bool
 | 0=>true
 | 1=>prB c f z (p.set i 0)
 | _=>prB c f z (p.set i 0) && prB c f o (p.set i 1)
theorem q9p {p:Pt} {i:Nat} (hi:i < p.many):∀ j,j < 2->(stP p i j).set i j = stP p i (j + 1)
 | 0,_=>rfl
 | 1,_=>jn7 hi 0 1
theorem q9o {p:Pt} {i:Nat} (hi:i < p.many) (h:p.bit i = 2):(stP p i 2).set i 2 = p:=by
 show (p.set i 1).set i 2 = p;rw [jn7 hi,jol hi 2 h]
@[simp] theorem jmo (p:Pt) (i j:Nat):(stP p i j).i.length = p.i.length:=by
 match j with
 | 0=>rfl
 | 1=>simp [stP]
 | _ + 2=>simp [stP]
@[simp] theorem jmp (p:Pt) (i j:Nat):(stP p i j).s.length = p.s.length:=by
 match j with
 | 0=>rfl
 | 1=>simp [stP]
 | _ + 2=>simp [stP]
end
end Go.Proofs.YtpaopccohkldlaaGreatDoor
