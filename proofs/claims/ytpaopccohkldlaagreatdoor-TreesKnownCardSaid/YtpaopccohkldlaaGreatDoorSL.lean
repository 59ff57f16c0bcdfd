/- Lemmas. Conditions: none. -/
import Derived.Test.YtpaopccohkldlaaGreatDoorR2
import Derived.Test.YtpaopccohkldlaaGreatDoorSE
import Derived.Test.YtpaopccohkldlaaGreatDoorR4
import Derived.Test.YtpaopccohkldlaaGreatDoorRA
import Derived.Test.YtpaopccohkldlaaGreatDoorXL4
set_option linter.all false
namespace Go.Proofs.YtpaopccohkldlaaGreatDoor
section
open Go
def qec (t:List Tn) (bits:Int) (P:Nat->Nat) (i:Nat):Prop:=
 t.getD i default = lfN∨∃ x z o:Nat,t.getD i default = ⟨x,z,o⟩/\(x:Int) < bits/\i < z/\z < t.length/\i < o/\o < t.length/\z ≠ o/\P z = i + 1/\P o = i + 1
def quy (t:List Tn) (P:Nat->Nat) (j:Nat):Prop:=
 P j ≠ 0->∃ i,i < j/\P j = i + 1/\∃ x z o:Nat,t.getD i default = ⟨x,z,o⟩/\(j = z∨j = o)
theorem qo5 {x z o:Nat}:(⟨x,z,o⟩:Tn) ≠ lfN:=fun e=>by
 have:=congrArg Tn.i e;simp only [lfN] at this;omega
theorem qnp {x z o x' z' o':Nat} (h:(⟨x,z,o⟩:Tn) = ⟨x',z',o'⟩):x = x'/\z = z'/\o = o':=by
 have h1:=congrArg Tn.i h;have h2:=congrArg Tn.z h;have h3:=congrArg Tn.o h;dsimp only at h1 h2 h3;exact ⟨by omega,by omega,by omega⟩
theorem qob {len i:Nat} {k:Int} {p q:Nat->Nat} (h:qka len i k p = some q):∃ z:Nat,k = z/\i < z/\z < len/\p z = 0/\q = qbs p z (i + 1):=by
 unfold qka at h;split at h
 ·cases h
 ·rename_i hn;refine ⟨k.toNat,by omega,by omega,by omega,by omega,(Option.some.inj h).symm⟩
theorem qv9 {len i z:Nat} {p:Nat->Nat} (h1:i < z) (h2:z < len) (h3:p z = 0):qka len i (z:Int) p = some (qbs p z (i + 1)):=by
 unfold qka;rw [Int.toNat_natCast,if_neg (by omega)]
theorem qsi {len i:Nat} {bits:Int} {n:Tn} {p q:Nat->Nat} (h:qew len bits i n p = some q):(n = lfN/\q = p)∨
  ∃ x z o:Nat,n = ⟨x,z,o⟩/\(x:Int) < bits/\i < z/\z < len/\i < o/\o < len/\p z = 0/\p o = 0/\z ≠ o/\q = qbs (qbs p z (i + 1)) o (i + 1):=by
 unfold qew at h;split at h
 ·rename_i e; exact .inl ⟨e,(Option.some.inj h).symm⟩
 split at h
 ·cases h
 rename_i hx;split at h
 ·cases h
 rename_i p1 hk;obtain ⟨z,z1,z2,z3,z4,rfl⟩:=qob hk;obtain ⟨o,o1,o2,o3,o4,rfl⟩:=qob h;have hzo:z ≠ o:=fun e=>by subst e; rw [qbg] at o4; omega
 rw [qaw _ _ (fun e=>hzo e.symm)] at o4;refine .inr ⟨n.i.toNat,z,o,?_,by omega,z2,z3,o2,o3,z4,o4,hzo,rfl⟩;cases n;simp only [Tn.mk.injEq] at *;exact ⟨by omega,z1,o1⟩
theorem qec.mono {t:List Tn} {bits:Int} {P Q:Nat->Nat} {i:Nat} (hPQ:∀ j,P j ≠ 0->Q j = P j) (h:qec t bits P i):qec t bits Q i:=by
 rcases h with h | ⟨x,z,o,h,h1,h2,h3,h4,h5,h6,h7,h8⟩
 ·exact .inl h
 ·exact .inr ⟨x,z,o,h,h1,h2,h3,h4,h5,h6,by rw [hPQ z (by omega)]; exact h7,by rw [hPQ o (by omega)]; exact h8⟩
theorem qmc {t:List Tn} {bits:Int}:∀ (r:List Tn) (i:Nat) (p P:Nat->Nat),i + r.length = t.length->(∀ k,k < r.length->t.getD (i + k) default = r.getD k default)->(∀ k,k < i->qec t bits p k)->(∀ j,quy t p j)->
  qoc t.length bits r i p = some P->(∀ k,k < t.length->qec t bits P k)/\∀ j,quy t P j
 | [],i,p,P,hl,_,hn,hp,h=>by
  simp only [List.length_nil,Nat.add_zero] at hl;simp only [qoc,Option.some.injEq] at h;subst h hl;exact ⟨hn,hp⟩
 | n :: r,i,p,P,hl,ht,hn,hp,h=>by
  simp only [List.length_cons] at hl ht;have e0:t.getD i default = n:=by have:=ht 0 (by omega); simpa using this
  have ht':∀ k,k < r.length->t.getD (i + 1 + k) default = r.getD k default:=fun k hk=>by
   have:=ht (k + 1) (by omega);rw [show i + 1 + k = i + (k + 1) by omega,this];rfl
  unfold qoc at h;split at h
  ·cases h
  rename_i q hq;rcases qsi hq with ⟨e,rfl⟩ | ⟨x,z,o,e,h1,h2,h3,h4,h5,h6,h7,h8,rfl⟩
  ·refine qmc r (i + 1) q P (by omega) ht' (fun k hk=>?_) hp h;by_cases hki:k = i
   ·subst hki; exact .inl (by rw [e0,e])
   ·exact hn k (by omega)
  ·have ho:qbs (qbs p z (i + 1)) o (i + 1) o = i + 1:=qbg ..;have hz:qbs (qbs p z (i + 1)) o (i + 1) z = i + 1:=by rw [qaw _ _ h8,qbg]
   have hj:∀ j,j ≠ z->j ≠ o->qbs (qbs p z (i + 1)) o (i + 1) j = p j:=fun j a b=>by rw [qaw _ _ b,qaw _ _ a]
   generalize qbs (qbs p z (i + 1)) o (i + 1) = q at h ho hz hj;refine qmc r (i + 1) q P (by omega) ht' (fun k hk=>?_) (fun j hj2=>?_) h
   ·by_cases hki:k = i
    ·subst hki; exact .inr ⟨x,z,o,by rw [e0,e],h1,h2,h3,h4,h5,h8,hz,ho⟩
    ·exact (hn k (by omega)).mono fun j hj2=>hj j (fun e=>by subst e; exact hj2 h6) fun e=>by subst e; exact hj2 h7
   ·by_cases jz:j = z
    ·exact ⟨i,by omega,by rw [jz,hz],x,z,o,by rw [e0,e],.inl jz⟩
    ·by_cases jo:j = o
     ·exact ⟨i,by omega,by rw [jo,ho],x,z,o,by rw [e0,e],.inr jo⟩
     ·rw [hj j jz jo] at hj2 ⊢;exact hp j hj2
theorem qmd {t:List Tn} {bits:Int} {P:Nat->Nat} (hn:∀ k,k < t.length->qec t bits P k) (hp:∀ j,j < t.length->quy t P j):∀ (r:List Tn) (i:Nat) (p:Nat->Nat),i + r.length = t.length->
  (∀ k,k < r.length->t.getD (i + k) default = r.getD k default)->(∀ j,j < t.length->p j = if P j≤i then P j else 0)->∃ Q,qoc t.length bits r i p = some Q/\∀ j,j < t.length->Q j = P j
 | [],i,p,hl,_,h=>by
  simp only [List.length_nil,Nat.add_zero] at hl;refine ⟨p,rfl,fun j hj=>?_⟩;rw [h j hj];split
  ·rfl
  ·rename_i hc;obtain ⟨i',h1,h2,-⟩:=hp j hj (by omega);omega
 | n :: r,i,p,hl,ht,h=>by
  simp only [List.length_cons] at hl ht;have e0:t.getD i default = n:=by have:=ht 0 (by omega); simpa using this
  have ht':∀ k,k < r.length->t.getD (i + 1 + k) default = r.getD k default:=fun k hk=>by
   have:=ht (k + 1) (by omega);rw [show i + 1 + k = i + (k + 1) by omega,this];rfl
  have hi:=hn i (by omega);unfold qoc;rcases hi with e | ⟨x,z,o,e,h1,h2,h3,h4,h5,h6,h7,h8⟩
  ·rw [e0] at e;have e1:qew t.length bits i n p = some p:=by unfold qew; rw [if_pos e]
   rw [e1];refine qmd hn hp r (i + 1) p (by omega) ht' fun j hj=>?_;rw [h j hj]
   have hne:P j ≠ i + 1:=fun e2=>by
    obtain ⟨i',a1,a2,x,z,o,a3,-⟩:=hp j hj (by omega);obtain rfl:i' = i:=by omega
    rw [e0,e] at a3;exact qo5 a3.symm
   by_cases hc:P j≤i
   ·rw [if_pos hc,if_pos (by omega)]
   ·rw [if_neg hc,if_neg (by omega)]
  ·rw [e0] at e;have pz:p z = 0:=by rw [h z h3,if_neg (by omega)]
   have po:qbs p z (i + 1) o = 0:=by rw [qaw _ _ (fun e=>h6 e.symm),h o h5,if_neg (by omega)]
   have e1:qew t.length bits i n p = some (qbs (qbs p z (i + 1)) o (i + 1)):=by
    unfold qew;rw [e,if_neg qo5,if_neg (by dsimp only; omega)];simp only [qv9 h2 h3 pz,qv9 h4 h5 po]
   rw [e1];refine qmd hn hp r (i + 1) _ (by omega) ht' fun j hj=>?_;by_cases jo:j = o
   ·subst jo; rw [qbg,h8,if_pos (jf5 _)]
   ·rw [qaw _ _ jo];by_cases jz:j = z
    ·subst jz; rw [qbg,h7,if_pos (jf5 _)]
    ·rw [qaw _ _ jz,h j hj]
     have hne:P j ≠ i + 1:=fun e2=>by
      obtain ⟨i',a1,a2,x',z',o',a3,a4⟩:=hp j hj (by omega);obtain rfl:i' = i:=by omega
      rw [e0,e] at a3;obtain ⟨-,rfl,rfl⟩:=qnp a3;exact a4.elim jz jo
     by_cases hc:P j≤i
     ·rw [if_pos hc,if_pos (by omega)]
     ·rw [if_neg hc,if_neg (by omega)]
theorem qod {t:List Tn} {x:Int} {P Q:Nat->Nat} {n:Nat} (h:∀ j,j < n->P j = Q j) (hp:∀ j,j < n->P j≤j):∀ m k,k≤n->vUp t x P m k = vUp t x Q m k
 | 0,_,_=>rfl
 | _ + 1,0,_=>rfl
 | m + 1,k + 1,hk=>by
  unfold vUp;rw [<- h k (by omega),qod h hp m (P k) (by have:=hp k (by omega); omega)]
theorem qoe {t:List Tn} {bits:Int}:qbn t bits = true↔0 < t.length/\∃ P,(∀ k,k < t.length->qec t bits P k)/\(∀ j,j < t.length->quy t P j)/\∀ j,j < t.length->qjo t P j = true:=by
 unfold qbn;constructor
 ·intro h;split at h
  ·cases h
  rename_i P hP;rw [Bool.and_eq_true,List.all_eq_true,decide_eq_true_eq] at h;obtain ⟨h1,h2⟩:=qmc (t:=t) t 0 (fun _=>0) P (by simp) (fun k _=>by rw [Nat.zero_add]) (fun k hk=>absurd hk (Nat.not_lt_zero k)) (fun j hj=>absurd rfl hj) hP;exact ⟨h.2,P,h1,fun j _=>h2 j,fun j hj=>h.1 j (List.mem_range.2 hj)⟩
 ·rintro ⟨h0,P,h1,h2,h3⟩
  have hle:∀ j,j < t.length->P j≤j:=fun j hj=>by
   by_cases h:P j = 0
   ·omega
   ·obtain ⟨i,a,b,-⟩:=h2 j hj h; omega
  obtain ⟨Q,hQ,hQP⟩:=qmd h1 h2 t 0 (fun _=>0) (by simp) (fun k _=>by rw [Nat.zero_add]) fun j hj=>by
   by_cases h:P j≤0
   ·rw [if_pos h]; omega
   ·rw [if_neg h]
  rw [hQ];simp only [];rw [Bool.and_eq_true,List.all_eq_true,decide_eq_true_eq];refine ⟨fun j hj=>?_,h0⟩;rw [List.mem_range] at hj;rw [<- h3 j hj];unfold qjo;rw [hQP j hj,qod hQP (fun i hi=>by rw [hQP i hi]; exact hle i hi) _ _ (by have:=hle j hj; omega)]
theorem qwb {P:Nat->Nat} {t:List Tn} {x:Nat}:∀ (us:List Nat) (a m:Nat),qju P t us a->us.length≤m->vUp t (x:Int) P m (P a) = true->x ∉ us
 | [],_,_,_,_,_=>by simp
 | u :: us,a,0,_,h,_=>by simp at h
 | u :: us,a,m + 1,⟨k,h1,h2,h3⟩,hl,h=>by
  rw [h1] at h;unfold vUp at h;split at h
  ·cases h
  rename_i hx;rw [h2] at hx;have:=qwb us k m h3 (by simpa using hl) h;simp only [List.mem_cons,not_or];exact ⟨fun e=>hx (by rw [e]),this⟩
def RpX (t:List Tn):DT->Nat->List Nat->Prop
 | .lf,a,I=>t.getD a default = lfN/\a < t.length/\I = [a]
 | .nd i z o,a,I=>∃ (p q:Nat) (J K:List Nat),t.getD a default = ⟨i,p,q⟩/\a < t.length/\a < p/\a < q/\RpX t z p J/\RpX t o q K/\I = a :: (J ++ K)
theorem getD_some {t:List Tn} {a:Nat} (h:a < t.length):t[a]? = some (t.getD a default):=by
 rw [jf0,jf4 h]; rfl
theorem RpX.rp {t:List Tn}:∀ (d:DT) (a:Nat) (I:List Nat),RpX t d a I->Rp t d a
 | .lf,a,I,⟨h1,h2,_⟩=>by show t[a]? = some lfN; rw [getD_some h2,h1]
 | .nd i z o,a,I,⟨p,q,J,K,h1,h2,_,_,h3,h4,_⟩=>⟨p,q,by rw [getD_some h2,h1],h3.rp z p J,h4.rp o q K⟩
theorem RpX.lt {t:List Tn}:∀ (d:DT) (a:Nat) (I:List Nat),RpX t d a I->∀ j ∈ I,a≤j/\j < t.length
 | .lf,a,I,⟨_,h2,h3⟩,j,hj=>by subst h3; simp only [List.mem_singleton] at hj; subst hj; exact ⟨jf5 _,h2⟩
 | .nd i z o,a,I,⟨p,q,J,K,h1,h2,a1,a2,h3,h4,h5⟩,j,hj=>by
  subst h5;simp only [List.mem_cons,List.mem_append] at hj;rcases hj with rfl | hj | hj
  ·exact ⟨jf5 _,h2⟩
  ·have:=h3.lt z p J j hj; omega
  ·have:=h4.lt o q K j hj; omega
theorem RpX.self {t:List Tn}:∀ (d:DT) (a:Nat) (I:List Nat),RpX t d a I->a ∈ I
 | .lf,a,I,⟨_,_,h3⟩=>by subst h3; simp
 | .nd i z o,a,I,⟨p,q,J,K,h1,h2,a1,a2,h3,h4,h5⟩=>by subst h5; simp
theorem RpX.kids {t:List Tn}:∀ (d:DT) (a:Nat) (I:List Nat),RpX t d a I->∀ j ∈ I,∀ x z o:Nat,t.getD j default = ⟨x,z,o⟩->z ∈ I/\o ∈ I
 | .lf,a,I,⟨h1,_,h3⟩,j,hj,x,z,o,e=>by
  subst h3; simp only [List.mem_singleton] at hj; subst hj;rw [h1] at e;exact absurd e.symm qo5
 | .nd i z o,a,I,⟨p,q,J,K,h1,h2,a1,a2,h3,h4,h5⟩,j,hj,x,z',o',e=>by
  subst h5;simp only [List.mem_cons,List.mem_append] at hj ⊢;rcases hj with rfl | hj | hj
  ·rw [h1] at e;obtain ⟨-,rfl,rfl⟩:=qnp e;exact ⟨.inr (.inl (h3.self)),.inr (.inr (h4.self))⟩
  ·have:=h3.kids z p J j hj x z' o' e;exact ⟨.inr (.inl this.1),.inr (.inl this.2)⟩
  ·have:=h4.kids o q K j hj x z' o' e;exact ⟨.inr (.inr this.1),.inr (.inr this.2)⟩
theorem qps {t:List Tn} {bits:Int} {P:Nat->Nat} (hn:∀ k,k < t.length->qec t bits P k) (hv:∀ j,j < t.length->qjo t P j = true):∀ (n a:Nat) (us:List Nat),t.length≤a + n->a < t.length->qju P t us a->us.length≤a->
  ∃ d I,RpX t d a I/\d.ok bits.toNat us
 | 0,a,_,h,ha,_,_=>by omega
 | n + 1,a,us,h,ha,hc,hl=>by
  rcases hn a ha with e | ⟨x,z,o,e,h1,h2,h3,h4,h5,h6,h7,h8⟩
  ·exact ⟨.lf,[a],⟨e,ha,rfl⟩,trivial⟩
  ·have hx:x ∉ us:=by
    have:=hv a ha;unfold qjo at this;rw [e,Bool.and_eq_true,Bool.or_eq_true,decide_eq_true_eq] at this;exact qwb us a _ hc (by omega) (this.2.resolve_left qo5)
   have hcz:qju P t (x :: us) z:=⟨a,h7,by rw [e],hc⟩;have hco:qju P t (x :: us) o:=⟨a,h8,by rw [e],hc⟩;obtain ⟨dz,J,r1,r2⟩:=qps hn hv n z (x :: us) (by omega) h3 hcz (by simp only [List.length_cons]; omega);obtain ⟨dd,K,r3,r4⟩:=qps hn hv n o (x :: us) (by omega) h5 hco (by simp only [List.length_cons]; omega);exact ⟨.nd x dz dd,a :: (J ++ K),⟨z,o,J,K,e,ha,h2,h4,r1,r3,rfl⟩,by omega,hx,r2,r4⟩
inductive Anc (P:Nat->Nat) (a:Nat):Nat->Prop
 | refl:Anc P a a
 | step {j k:Nat} (h:P j = k + 1) (hk:Anc P a k):Anc P a j
theorem Anc.le {P:Nat->Nat} {a j:Nat} (hP:∀ j,P j≤j) (h:Anc P a j):a≤j:=by
 induction h with
 | refl=>exact jf5 _
 | @step j k h _ ih=>have:=hP j; omega
theorem Anc.two {P:Nat->Nat} {a b i j:Nat} (hP:∀ j,P j≤j) (ha:P a = i + 1) (hb:P b = i + 1) (hab:a ≠ b) (h1:Anc P a j):¬ Anc P b j:=by
 induction h1 with
 | refl=>
  intro h2
  cases h2 with
  | refl=>exact hab rfl
  | step h hk=>
   have:=hk.le hP;have:=hP b;omega
 | step h hk ih=>
  intro h2
  cases h2 with
  | refl=>have:=hk.le hP; have:=hP a; omega
  | step h' hk'=>
   rw [h] at h';have:=Nat.succ.inj h';subst this;exact ih hk'
theorem RpX.anc {t:List Tn} {bits:Int} {P:Nat->Nat} (hn:∀ k,k < t.length->qec t bits P k):∀ (d:DT) (a:Nat) (I:List Nat),RpX t d a I->∀ r,Anc P r a->∀ j ∈ I,Anc P r j
 | .lf,a,I,⟨_,_,h3⟩,r,hr,j,hj=>by subst h3; simp only [List.mem_singleton] at hj; subst hj; exact hr
 | .nd i z o,a,I,⟨p,q,J,K,h1,h2,a1,a2,h3,h4,h5⟩,r,hr,j,hj=>by
  subst h5
  obtain ⟨h7,h8⟩:P p = a + 1/\P q = a + 1:=by
   rcases hn a h2 with e | ⟨x,z,o,e,-,-,-,-,-,-,h7,h8⟩
   ·rw [h1] at e; exact absurd e qo5
   ·rw [h1] at e; obtain ⟨-,rfl,rfl⟩:=qnp e; exact ⟨h7,h8⟩
  simp only [List.mem_cons,List.mem_append] at hj;rcases hj with rfl | hj | hj
  ·exact hr
  ·exact h3.anc hn z p J r (.step h7 hr) j hj
  ·exact h4.anc hn o q K r (.step h8 hr) j hj
theorem RpX.nodup {t:List Tn} {bits:Int} {P:Nat->Nat} (hn:∀ k,k < t.length->qec t bits P k) (hP:∀ j,P j≤j):∀ (d:DT) (a:Nat) (I:List Nat),RpX t d a I->I.Nodup
 | .lf,a,I,⟨_,_,h3⟩=>by subst h3; simp
 | .nd i z o,a,I,⟨p,q,J,K,h1,h2,a1,a2,h3,h4,h5⟩=>by
  subst h5
  obtain ⟨h6,h7,h8⟩:p ≠ q/\P p = a + 1/\P q = a + 1:=by
   rcases hn a h2 with e | ⟨x,z,o,e,-,-,-,-,-,h6,h7,h8⟩
   ·rw [h1] at e; exact absurd e qo5
   ·rw [h1] at e; obtain ⟨-,rfl,rfl⟩:=qnp e; exact ⟨h6,h7,h8⟩
  rw [List.nodup_cons,List.nodup_append];refine ⟨fun hm=>?_,h3.nodup hn hP,h4.nodup hn hP,fun x hx y hy e=>?_⟩
  ·rcases List.mem_append.1 hm with hm | hm
   ·have:=h3.lt _ _ _ a hm; omega
   ·have:=h4.lt _ _ _ a hm; omega
  ·subst e;exact Anc.two hP h7 h8 h6 (h3.anc hn _ _ _ p .refl x hx) (h4.anc hn _ _ _ q .refl x hy)
theorem qhf {t:List Tn} {bits:Int} (h:qbn t bits = true):0 < t.length/\∃ d I,RpX t d 0 I/\d.ok bits.toNat []/\I.Nodup/\∀ j,j < t.length->j ∈ I:=by
 obtain ⟨h0,P,h1,h2,h3⟩:=qoe.1 h;obtain ⟨Q,hQ⟩:∃ Q:Nat->Nat,Q = fun j=>if j < t.length then P j else 0:=⟨_,rfl⟩
 have hQP:∀ j,j < t.length->Q j = P j:=fun j hj=>by rw [hQ]; simp only []; rw [if_pos hj]
 have hnQ:∀ k,k < t.length->qec t bits Q k:=fun k hk=>by
  rcases h1 k hk with e | ⟨x,z,o,e,a1,a2,a3,a4,a5,a6,a7,a8⟩
  ·exact .inl e
  ·exact .inr ⟨x,z,o,e,a1,a2,a3,a4,a5,a6,by rw [hQP z a3]; exact a7,by rw [hQP o a5]; exact a8⟩
 have hQ0:∀ j,Q j≤j:=fun j=>by
  rw [hQ]; simp only [];split
  ·rename_i hj;by_cases h:P j = 0
   ·omega
   ·obtain ⟨i,a,b,-⟩:=h2 j hj h; omega
  ·omega
 have hP0:P 0 = 0:=Decidable.byContradiction fun h=>by obtain ⟨i,a,-⟩:=h2 0 h0 h; omega
 obtain ⟨d,I,r1,r2⟩:=qps h1 h3 t.length 0 [] (by omega) h0 hP0 (jf5 _);refine ⟨h0,d,I,r1,r2,r1.nodup hnQ hQ0,fun j=>?_⟩
 induction j using Nat.strongRecOn with
 | _ j ih=>
  intro hj;by_cases j0:j = 0
  ·subst j0; exact r1.self
  ·have hv:=h3 j hj;unfold qjo at hv;rw [Bool.and_eq_true] at hv
   have hpj:P j ≠ 0:=fun e=>by
    have:=hv.1;rw [e,decide_eq_true rfl,decide_eq_true (by omega)] at this;cases this
   obtain ⟨i,b1,b2,x,z,o,b3,b4⟩:=h2 j hj hpj;have:=r1.kids _ _ _ i (ih i b1 (by omega)) x z o b3;rcases b4 with rfl | rfl
   ·exact this.1
   ·exact this.2
theorem ql9 {t:List Tn} {bits:Int}:∀ (d:DT) (a:Nat) (I us:List Nat),RpX t d a I->I.Nodup->d.ok bits.toNat us->∃ P:Nat->Nat,(∀ i ∈ I,qec t bits P i)/\(∀ j,j ∉ I->P j = 0)/\P a = 0/\(∀ j,quy t P j)/\∀ j ∈ I,j ≠ a->P j ≠ 0
 | .lf,a,I,us,⟨h1,h2,h3⟩,_,_=>by
  subst h3;refine ⟨fun _=>0,fun i hi=>?_,fun _ _=>rfl,rfl,fun _ h=>absurd rfl h,fun j hj h=>?_⟩
  ·simp only [List.mem_singleton] at hi; subst hi; exact .inl h1
  ·simp only [List.mem_singleton] at hj; exact absurd hj h
 | .nd i z o,a,I,us,⟨p,q,J,K,h1,h2,a1,a2,h3,h4,h5⟩,hnd,⟨o1,o2,o3,o4⟩=>by
  subst h5;rw [List.nodup_cons,List.nodup_append] at hnd;obtain ⟨n1,n2,n3,n4⟩:=hnd;obtain ⟨PJ,j1,j2,j3,j4,j5⟩:=ql9 (bits:=bits) z p J _ h3 n2 o3;obtain ⟨PK,k1,k2,k3,k4,k5⟩:=ql9 (bits:=bits) o q K _ h4 n3 o4;have pJ:=h3.self;have qK:=h4.self;have hpq:p ≠ q:=n4 p pJ q qK;have dj:∀ j ∈ J,j ∉ K:=fun j hj hk=>n4 j hj j hk rfl;have dk:∀ j ∈ K,j ∉ J:=fun j hk hj=>n4 j hj j hk rfl;have pl:=h3.lt _ _ _ p pJ;have ql:=h4.lt _ _ _ q qK;refine ⟨fun j=>if j = p∨j = q then a + 1 else PJ j + PK j,?_,?_,?_,?_,?_⟩
  ·intro j hj;simp only [List.mem_cons,List.mem_append] at hj;rcases hj with rfl | hj | hj
   ·exact .inr ⟨i,p,q,h1,by omega,a1,pl.2,a2,ql.2,hpq,if_pos (.inl rfl),if_pos (.inr rfl)⟩
   ·refine (j1 j hj).mono fun x hx=>?_;have xJ:x ∈ J:=Decidable.byContradiction fun h=>hx (j2 x h);rw [if_neg,k2 x (dj x xJ),Nat.add_zero];rintro (rfl | rfl)
    ·exact hx j3
    ·exact dj _ xJ qK
   ·refine (k1 j hj).mono fun x hx=>?_;have xK:x ∈ K:=Decidable.byContradiction fun h=>hx (k2 x h);rw [if_neg,j2 x (dk x xK),Nat.zero_add];rintro (rfl | rfl)
    ·exact dk _ xK pJ
    ·exact hx k3
  ·intro j hj;simp only [List.mem_cons,List.mem_append,not_or] at hj;dsimp only;rw [if_neg,j2 j hj.2.1,k2 j hj.2.2];rintro (rfl | rfl)
   ·exact hj.2.1 pJ
   ·exact hj.2.2 qK
  ·dsimp only;rw [if_neg (by omega),j2 a (fun h=>n1 (List.mem_append_left _ h)),k2 a (fun h=>n1 (List.mem_append_right _ h))]
  ·intro j hj;dsimp only at hj ⊢;by_cases hc:j = p∨j = q
   ·rw [if_pos hc];exact ⟨a,by omega,rfl,i,p,q,h1,hc⟩
   ·rw [if_neg hc] at hj ⊢;by_cases hJ:PJ j = 0
    ·rw [hJ,Nat.zero_add] at hj ⊢;exact k4 j hj
    ·have jJ:j ∈ J:=Decidable.byContradiction fun h=>hJ (j2 j h);rw [k2 j (dj j jJ),Nat.add_zero];exact j4 j hJ
  ·intro j hj hja;dsimp only;by_cases hc:j = p∨j = q
   ·rw [if_pos hc]; omega
   ·rw [if_neg hc];simp only [not_or] at hc;simp only [List.mem_cons,List.mem_append] at hj;rcases hj with hj | hj | hj
    ·exact absurd hj hja
    ·have:=j5 j hj hc.1; omega
    ·have:=k5 j hj hc.2; omega
theorem qmb {t:List Tn} {bits:Int} {b:Nat} {P:Nat->Nat}:∀ (d:DT) (us:List Nat) (a:Nat) (I:List Nat),RpX t d a I->d.ok b us->(∀ i ∈ I,qec t bits P i)->qju P t us a->(0 < a->P a ≠ 0)->∀ j ∈ I,qjo t P j = true
 | .lf,us,a,I,⟨h1,h2,h3⟩,_,_,_,h0,j,hj=>by
  subst h3;simp only [List.mem_singleton] at hj;subst hj;unfold qjo;rw [h1,decide_eq_true rfl,Bool.true_or,Bool.and_true];by_cases hj:0 < j
  ·simp [h0 hj]
  ·simp [hj]
 | .nd i z o,us,a,I,⟨p,q,J,K,h1,h2,a1,a2,h3,h4,h5⟩,⟨o1,o2,o3,o4⟩,hn,hc,h0,j,hj=>by
  subst h5
  obtain ⟨h7,h8⟩:P p = a + 1/\P q = a + 1:=by
   rcases hn a List.mem_cons_self with e | ⟨x,z,o,e,-,-,-,-,-,-,h7,h8⟩
   ·rw [h1] at e; exact absurd e qo5
   ·rw [h1] at e; obtain ⟨-,rfl,rfl⟩:=qnp e; exact ⟨h7,h8⟩
  have ei:(t.getD a default).i = (i:Int):=by rw [h1]
  simp only [List.mem_cons,List.mem_append] at hj;rcases hj with rfl | hj | hj
  ·unfold qjo;rw [ei,qjp us j _ hc o2,Bool.or_true,Bool.and_true];by_cases hj:0 < j
   ·simp [h0 hj]
   ·simp [hj]
  ·exact qmb z (i :: us) p J h3 o3 (fun k hk=>hn k (List.mem_cons_of_mem _ (List.mem_append_left _ hk))) ⟨a,h7,ei,hc⟩ (fun _=>by omega) j hj
  ·exact qmb o (i :: us) q K h4 o4 (fun k hk=>hn k (List.mem_cons_of_mem _ (List.mem_append_right _ hk))) ⟨a,h8,ei,hc⟩ (fun _=>by omega) j hj
theorem qk5 {t:List Tn} {bits:Int} {d:DT} {I:List Nat} (h:RpX t d 0 I) (hd:d.ok bits.toNat []) (hI:I.Nodup) (hall:∀ j,j < t.length->j ∈ I):qbn t bits = true:=by
 obtain ⟨P,p1,p2,p3,p4,p5⟩:=ql9 (bits:=bits) d 0 I [] h hI hd;have h0:=(h.lt _ _ _ 0 h.self).2;exact qoe.2 ⟨h0,P,fun k hk=>p1 k (hall k hk),fun j _=>p4 j,fun j hj=>qmb d [] 0 I h hd p1 p3 (fun h=>absurd h (Nat.lt_irrefl 0)) j (hall j hj)⟩
end
section
open Go
theorem DT.tx_le:∀ d:DT,d.lim->d.tx.length + 9≤10 * d.sz
 | .lf,_=>by simp [DT.tx,DT.sz]
 | .nd i z o,⟨h1,h2,h3⟩=>by
  have a:=qep 4 i (by simp; omega);have b:=z.tx_le h2;have c:=o.tx_le h3;simp only [DT.tx,DT.sz,List.length_cons,List.length_append,List.length_nil];omega
theorem dig1 {x:Nat} (h:x < 10):Lib.decDigits x = [UInt8.ofNat (48 + x)]:=by rw [Lib.decDigits,dif_pos h]
theorem dig2 {x:Nat} (h:10≤x) (h2:x < 100):Lib.decDigits x = [UInt8.ofNat (48 + x / 10),UInt8.ofNat (48 + x % 10)]:=by
 rw [Lib.decDigits,dif_neg (by omega),dig1 (by omega)]; rfl
set_option maxRecDepth 100000 in
set_option maxHeartbeats 4000000 in
theorem qwh (t:List Tn) (ht:t.length < 1000000):∀ (d:DT) (us:List Nat) (a:Nat),At t d a->a + d.sz≤t.length->d.ok 100 us->qac Tryz.prog gl0 25 [.sl (t.map Tn.v) none,qab a] (.str d.tx):=by
 have hTp:jd6 (t.map Tn.v) = true:=qa6 t;have hTl:(t.map Tn.v).length = t.length:=by simp
 have hTe:∀ a n,t[a]? = some n->∀ h:a < (t.map Tn.v).length,(t.map Tn.v)[a] = n.v:=fun a n h h2=>by
  obtain ⟨h3,h4⟩:=List.getElem?_eq_some_iff.1 h;simp [h4]
 generalize t.map Tn.v = T at *;generalize hn:t.length = n at *;intro d
 induction d with
 | lf=>
  intro us a hat hal _;have ha:a < n:=by simp only [DT.sz] at hal; omega
  have hx:=hTe a _ hat.lf;refine jfu 2 ok25 rfl ?_;simp [i25,x25,qab,hTl,ha,hx,lfN,Tn.v];rfl
 | nd i z o ihz iho=>
  intro us a hat hal ⟨o1,o2,o3,o4⟩;simp only [DT.sz] at hal;have ha:a < n:=by omega
  have hx:=hTe a _ hat.nd;have h1:=ihz (i :: us) (a + 1) hat.z (by omega) o3;have h2:=iho (i :: us) (a + 1 + z.sz) hat.o (by omega) o4;generalize a + 1 = a1 at *;generalize a1 + z.sz = a2 at *;simp only [qab] at h1 h2 ⊢;refine jfu 2 ok25 rfl ?_;obtain ⟨p,hp⟩:∃ p,i % 10 = p:=⟨_,rfl⟩;obtain ⟨q,hq⟩:∃ q,i / 10 = q:=⟨_,rfl⟩;have m1:((i:Int)).tmod 10 = (p:Int):=qzo hp;have m2:((i:Int)).tdiv 10 = (q:Int):=by rw [<- hq]; rfl
  have hp9:p < 10:=by omega
  have hq9:q < 10:=by omega
  have m8:IntKind.i64.wrap (q:Int) = (q:Int):=by rw [qau] <;> omega
  have lz:=z.tx_le (z.ok_lim (by omega) o3);have lo:=o.tx_le (o.ok_lim (by omega) o4);have hdt:(DT.nd i z o).tx = 40 :: (Lib.decDigits i ++ 32 :: (z.tx ++ 32 :: (o.tx ++ [41]))):=rfl;rw [hdt];have lz2:z.tx.length≤10000000:=by omega
  have lo2:o.tx.length≤10000000:=by omega
  clear hdt lz lo ihz iho;generalize z.tx = Z at *;generalize o.tx = O at *;have z3:3 + Z.length≤4294967296:=by omega
  have z1:Z.length≤4294967291:=by omega
  have z2:Z.length≤4294967292:=by omega
  have z5:Z.length + 1 + 1 + 1 + 1 + 1 + O.length≤4294967296:=by omega
  have z6:Z.length + 1 + 1 + 1 + 1 + O.length≤4294967296:=by omega
  have z7:Z.length + (O.length + 1)≤4294967291:=by omega
  have z8:Z.length + (O.length + 1)≤4294967292:=by omega
  have z4:4 + Z.length≤4294967296:=by omega
  have m3:∀ k:Nat,k < 10->IntKind.i64.wrap (48 + (k:Int)) = 48 + (k:Int):=fun k hk=>by rw [qau] <;> omega
  have m4:∀ k:Nat,k < 10->IntKind.u8.wrap (48 + (k:Int)) = 48 + (k:Int):=fun k hk=>by rw [qwg] <;> omega
  have m5:∀ k:Nat,k < 10->(48 + (k:Int)) < 128:=fun k hk=>by omega
  have m6:∀ k:Nat,0≤(48 + (k:Int)):=fun k=>by omega
  have m7:∀ k:Nat,(48 + (k:Int)).toNat = 48 + k:=fun k=>by omega
  simp [i25,x25,hTl,ha,hx,Tn.v,m1,m2,m3 p hp9,m4 p hp9,m5 p hp9,m6 p,m7 p,m3 q hq9,m4 q hq9,m5 q hq9,m6 q,m7 q,m8,nop];intro gf;by_cases h9:9 < i
  ·have hdd:=dig2 (by omega) o1 (x:=i);rw [hp,hq] at hdd;simp [h9,nop,m1,m2,m3 p hp9,m4 p hp9,m5 p hp9,m6 p,m7 p,m3 q hq9,m4 q hq9,m5 q hq9,m6 q,m7 q,m8];intro gm
   first | refine ⟨_,_,_,.pure h1 (by simp [hTp]),?_⟩ | refine ⟨_,⟨_,_,.pure h1 (by simp [hTp])⟩,?_⟩ | refine ⟨_,_,⟨_,.pure h1 (by simp [hTp])⟩,?_⟩
   simp [z1,z2,z3,z4]
   first | refine ⟨_,_,_,.pure h2 (by simp [hTp]),?_⟩ | refine ⟨_,⟨_,_,.pure h2 (by simp [hTp])⟩,?_⟩ | refine ⟨_,_,⟨_,.pure h2 (by simp [hTp])⟩,?_⟩
   simp [z5,z6,z7,z8];refine ⟨by decide,?_⟩;simp [hdd]
  ·have hdd:=dig1 (x:=i) (by omega);obtain rfl:i = p:=by omega
   simp [h9];intro gm
   first | refine ⟨_,_,_,.pure h1 (by simp [hTp]),?_⟩ | refine ⟨_,⟨_,_,.pure h1 (by simp [hTp])⟩,?_⟩ | refine ⟨_,_,⟨_,.pure h1 (by simp [hTp])⟩,?_⟩
   simp [z1,z2,z3,z4]
   first | refine ⟨_,_,_,.pure h2 (by simp [hTp]),?_⟩ | refine ⟨_,⟨_,_,.pure h2 (by simp [hTp])⟩,?_⟩ | refine ⟨_,_,⟨_,.pure h2 (by simp [hTp])⟩,?_⟩
   simp [z5,z6,z7,z8];refine ⟨by decide,?_⟩;simp [hdd]
end
section
open Go
theorem RpX.pow {t:List Tn}:∀ (d:DT) (a:Nat) (I:List Nat),RpX t d a I->d.sz + 1≤2 ^ (t.length - a)
 | .lf,a,_,⟨_,h,_⟩=>by
  obtain ⟨k,hk⟩:∃ k,t.length - a = k + 1:=⟨t.length - a - 1,by omega⟩;have:1≤2 ^ k:=Nat.one_le_two_pow;rw [hk,Nat.pow_succ]; simp only [DT.sz]; omega
 | .nd _ z o,a,_,⟨p,q,J,K,_,h,h1,h2,h3,h4,_⟩=>by
  have z1:=h3.pow;have o1:=h4.pow;have a1:2 ^ (t.length - p)≤2 ^ (t.length - a - 1):=Nat.pow_le_pow_right (by omega) (by omega);have a2:2 ^ (t.length - q)≤2 ^ (t.length - a - 1):=Nat.pow_le_pow_right (by omega) (by omega);obtain ⟨k,hk⟩:∃ k,t.length - a = k + 1:=⟨t.length - a - 1,by omega⟩;rw [hk] at a1 a2 ⊢;rw [Nat.add_sub_cancel] at a1 a2;rw [Nat.pow_succ]; simp only [DT.sz]; omega
theorem DT.tx_ne (d:DT):d.tx ≠ []:=by cases d <;> simp [DT.tx]
theorem q2b (t:List Tn) (ht:t.length≤40):∃ r,(r = []↔qbn t 16384 = false)/\qac Tryz.prog gl0 23 [.sl (t.map Tn.v) none] (.str r):=by
 cases hv:qbn t 16384 with
 | false=>
  have h:=qvy t (by omega) .lf (fun h=>by rw [hv] at h; cases h) (by simp [DT.tx]);rw [hv,if_neg (by simp)] at h;exact ⟨[],by simp,h⟩
 | true=>
  obtain ⟨h0,d,I,h1,h2,h3,h4⟩:=qhf hv;have hlim:d.lim:=d.ok_lim (b:=(16384:Int).toNat) (us:=[]) (by decide) h2;have hp:=h1.pow;have hq:2 ^ (t.length - 0)≤2 ^ 40:=Nat.pow_le_pow_right (by omega) (by omega);have hx:=d.tx_le hlim;have h:=qvy t (by omega) d (fun _=>⟨h1.rp,hlim⟩) (by omega);rw [hv,if_pos rfl] at h;exact ⟨d.tx,by simp [d.tx_ne],h⟩
theorem qyw (l:List Nat):(qmk l 12).lim:=(qmk l 12).ok_lim (by omega) (qpr l 12)
theorem qr0 {s:List UInt8} {d:DT} (h:qcc s = some d):s = d.tx/\d.lim/\qbn (d.fl 0) 16384 = true:=by
 unfold qcc at h;split at h
 ·rename_i d' h';split at h
  ·rename_i hv;cases h;obtain ⟨h1,h2⟩:=qfm _ _ _ _ h';rw [List.append_nil] at h1;exact ⟨h1,h2,hv⟩
  ·cases h
 ·cases h
theorem q64 (l:List Tn) (j:Nat) (h:j < (l.map Tn.v).length):∃ x y z,(l.map Tn.v)[j] = .agg [.int .i64 x,.int .i64 y,.int .i64 z]:=by
 simp only [List.length_map] at h;exact ⟨_,_,_,List.getElem_map ..⟩
theorem DT.ok_bits {b b':Nat} (hb:b≤b'):∀ (d:DT) (us:List Nat),d.ok b us->d.ok b' us
 | .lf,_,_=>trivial
 | .nd _ z o,_,⟨h1,h2,h3,h4⟩=>⟨by omega,h2,z.ok_bits hb _ h3,o.ok_bits hb _ h4⟩
noncomputable def r4:XC:=xs2 (xs2 (xs2 (xs2 (xs2 x4))))
noncomputable def u4:XC:=xs2 r4
noncomputable def v4:XC:=xs2 u4
noncomputable def w4:XC:=xs2 v4
theorem q68:v4 = .seq (xs1 v4) w4:=rfl
theorem jd4:x4 = .seq (xs1 x4) (.seq (xs1 (xs2 x4)) (.seq (xs1 (xs2 (xs2 x4))) (.seq (xs1 (xs2 (xs2 (xs2 x4)))) (.seq (xs1 (xs2 (xs2 (xs2 (xs2 x4))))) r4)))):=rfl
theorem jdb:r4 = .seq (xs1 r4) u4:=rfl
theorem jdk:u4 = .seq (xs1 u4) v4:=rfl
set_option maxRecDepth 100000 in
set_option maxHeartbeats 4000000 in
theorem w4_c (s:List UInt8) (hs:s.length≤200) (fr:Fr) (f6:lk fr 6 = some (.bool false)) (f1:lk fr 1 = some (.str s)) (h:Hp) :
  w4.wpF Tryz.prog gl0 (qyh [.tmp 6] 2 (.bool true)) fr h:=by
 have hlv:=qg8;have hpa:=qfb s (by omega);unfold qj7 at hpa
 cases hp:qcc s with
 | none=>
  rw [hp] at hpa;simp [w4,v4,u4,r4,xs2,x4,f6,f1];refine jfq hpa rfl ?_;simp [f6,f1];refine jfq hlv rfl ?_;simp
 | some d=>
  rw [hp] at hpa;obtain ⟨h1,h2,h3⟩:=qr0 hp;have hsz:=d.sz_tx;rw [<- h1] at hsz;have hval:=qd1 (d.fl 0) 16384 (some d.sz) (by simp; omega);rw [h3] at hval;have htx:=ql8 d (by omega) h2 (by rw [<- h1]; omega) (some d.sz);rw [h3,if_pos rfl,<- h1] at htx;have hTp:jd6 ((d.fl 0).map Tn.v) = true:=qa6 _;dsimp only at hpa;clear h1;generalize (d.fl 0).map Tn.v = T at *;simp [w4,v4,u4,r4,xs2,x4,f6,f1];refine jfq hpa rfl ?_;simp [f6,f1];refine jfq hval (by simp [hTp]) ?_;simp [f6,f1];refine jfq htx (by simp [hTp]) ?_;simp [f6,f1];refine jfq hlv rfl ?_;simp
set_option maxRecDepth 100000 in
set_option maxHeartbeats 4000000 in
theorem v4_c (s:List UInt8) (hs:s.length≤200) (raw:List Tn) (hr:raw.length≤40) (fr:Fr) (f6:lk fr 6 = some (.bool false)) (f1:lk fr 1 = some (.str s)) (f2:lk fr 2 = some (.sl (raw.map Tn.v) none)) (h:Hp) :
  v4.wpF Tryz.prog gl0 (qyh [.tmp 6] 2 (.bool true)) fr h:=by
 have hlv:=qg8;have hval:=qd1 raw 16384 none (by omega);obtain ⟨r,hr1,htr⟩:=q2b raw hr;have hpa:=qfb s (by omega);have hTp:jd6 (raw.map Tn.v) = true:=qa6 raw;generalize raw.map Tn.v = R at *
 cases hv:qbn raw 16384 with
 | false=>
  obtain rfl:=hr1.2 hv;rw [hv] at hval;rw [q68];simp [xs1,v4,u4,r4,xs2,x4,f6,f1,f2];refine jfq hval (by simp [hTp]) ?_;simp [f6,f1,f2];refine jfq htr (by simp [hTp]) ?_;simp [f6,f1,f2];exact w4_c s hs _ (by simp [f6]) (by simp [f1]) h
 | true=>
  have hr0:r ≠ []:=fun e=>by have:=hr1.1 e; rw [hv] at this; cases this
  rw [hv] at hval;rw [q68];simp [xs1,v4,u4,r4,xs2,x4,f6,f1,f2];refine jfq hval (by simp [hTp]) ?_;simp [f6,f1,f2];refine jfq htr (by simp [hTp]) ?_;simp [f6,f1,f2,hr0];exact w4_c s hs _ (by simp [f6]) (by simp [f1]) h
set_option maxRecDepth 100000 in
set_option maxHeartbeats 4000000 in
theorem qub (l:List Nat) (hb:∀ x ∈ l,x < 256) (s:List UInt8) (raw:List Tn):qac Tryz.prog gl0 4 [.sl (l.map u8V) none,.str s,.sl (raw.map Tn.v) none] (.bool true):=by
 have hlv:=qg8;have hlp:jd6 (l.map u8V) = true:=qaj l;have hTp:jd6 (raw.map Tn.v) = true:=qa6 raw;by_cases h1:150 < l.length
 ·refine jfu 2 ok4 rfl ?_;simp [i4,x4,h1];refine jfq hlv rfl ?_;simp
 by_cases h2:200 < s.length
 ·refine jfu 2 ok4 rfl ?_;simp [i4,x4,h1,h2];refine jfq hlv rfl ?_;simp
 by_cases h3:40 < raw.length
 ·refine jfu 2 ok4 rfl ?_;simp [i4,x4,h1,h2,h3];refine jfq hlv rfl ?_;simp
 have hto:=qpr l 12;have hts:=qv1 l 12;have htr:=q65 l 12 hb (by omega) (by omega);have hlim:=qyw l;have hv:=qme (qmk l 12) ((qmk l 12).ok_bits (b':=16384) (by omega) [] hto);have htl:=(qmk l 12).tx_le hlim;generalize qmk l 12 = d at *;have hx:=ql8 d (by omega) hlim (by omega) none;rw [show ((16384:Nat):Int) = 16384 from rfl] at hv;rw [hv,if_pos rfl] at hx;have hpa:=qfb d.tx (by omega);unfold qj7 at hpa;rw [qfl d hlim hv] at hpa;have hwr:=qwh (d.fl 0) (by simp; omega) d [] 0 (At.fl d) (by simp) (d.ok_bits (by omega) [] hto);have hDp:jd6 ((d.fl 0).map Tn.v) = true:=qa6 _;have hDl:((d.fl 0).map Tn.v).length = d.sz:=by simp
 have hDc:=q64 (d.fl 0);have hne:=d.tx_ne;have hv4:=v4_c s (by omega) raw (by omega);dsimp only at hpa;have hsb:d.sz≤301:=by omega
 clear hto hts hb hlim hv htl;generalize hD:(d.fl 0).map Tn.v = D at *;clear hD;generalize d.tx = X at *;obtain ⟨n,hn⟩:∃ n,d.sz = n:=⟨_,rfl⟩;rw [hn] at hpa hDl hsb;simp only [qab] at htr hwr;refine jfu 2 ok4 rfl ?_;change XC.wpF _ _ x4 _ _ _;rw [jd4,jdb,jdk];simp [i4,xs1,xs2,r4,u4,x4,h1,h2,h3];refine jfq htr (by simp [hlp]) ?_;simp;refine jfq hx (by simp [hDp]) ?_;simp;refine jfq hpa rfl ?_;simp [hDl];refine jfq hwr (by simp [hDp]) ?_;simp [hDl]
 refine jft (X:=Nat) (fun j=>[(11,qab j),(9,.sl D (some n)),(7,.sl D none),(6,.bool false),(1,.str s),(2,.sl (raw.map Tn.v) none)]) (fun _=>[])
  (fun j=>j≤n) (fun j=>n - j) 0 (Nat.zero_le _) (by simp [qab]) (by simp) ?_
 intro j hj;simp [qab,hDl];refine jfr (fun hb=>?_) (fun hb=>?_)
 ·have hj2:j < n:=jfy hb;have hwj:=qbi j (by omega);obtain ⟨x,y,z,hcl⟩:=hDc j (by omega);simp [hj2,hcl,hDl];exact ⟨j + 1,hj2,by simpa using hwj,by omega⟩
 ·simp;exact hv4 _ (by simp) (by simp) (by simp) _
end
end Go.Proofs.YtpaopccohkldlaaGreatDoor
