/- Lemmas. Conditions: none. -/
import Derived.Test.YtpaopccohkldlaaGreatDoorY3
import Derived.Test.YtpaopccohkldlaaGreatDoorXT
import Derived.Test.YtpaopccohkldlaaGreatDoorA2
import Derived.Test.YtpaopccohkldlaaGreatDoorS7
set_option linter.all false
namespace Go.Proofs.YtpaopccohkldlaaGreatDoor
section
open Go
def pT (n:Nat) (p:Nat->Nat):List V:=tab n fun j=>qab (p j)
@[simp] theorem pT_len (n:Nat) (p:Nat->Nat):(pT n p).length = n:=by simp [pT]
theorem qb3 (n:Nat) (p:Nat->Nat) (i:Nat) (h:i < (pT n p).length):(pT n p)[i] = .int .i64 (p i:Int):=by simp only [pT]; rw [qda]; rfl
theorem qcv (n:Nat) (p:Nat->Nat) (i v:Nat):(pT n p).set i (.int .i64 (v:Int)) = pT n (qbs p i v):=by
 unfold pT;rw [qhe];refine qca fun j _=>?_;by_cases e:j = i
 ·subst e; simp [qab]
 ·rw [qaw _ _ e,qaw _ _ e]
theorem qzr (n:Nat):List.replicate n (V.int .i64 0) = pT n fun _=>0:=by unfold pT; rw [qel]; rfl
theorem qv8 {len i:Nat} {k:Int} {p q:Nat->Nat} (h:qka len i k p = some q) (hp:∀ j,p j≤j):∀ j,q j≤j:=by
 unfold qka at h;split at h
 ·cases h
 ·cases h;intro j;by_cases e:j = k.toNat
  ·subst e; rw [qbg]; omega
  ·rw [qaw _ _ e]; exact hp j
theorem qyz {len i:Nat} {bits:Int} {n:Tn} {p q:Nat->Nat} (h:qew len bits i n p = some q) (hp:∀ j,p j≤j):∀ j,q j≤j:=by
 unfold qew at h;split at h
 ·cases h; exact hp
 ·split at h
  ·cases h
  ·split at h
   ·cases h
   ·rename_i hk; exact qv8 h (qv8 hk hp)
theorem qq6 {t:List Tn} {x:Int} {P:Nat->Nat} (hP:∀ j,P j≤j):∀ (k m:Nat),k≤m->vUp t x P m k = vUp t x P k k:=by
 intro k
 induction k using Nat.strongRecOn with
 | _ k ih=>
  intro m hm
  cases k with
  | zero=>cases m <;> rfl
  | succ k=>
   cases m with
   | zero=>omega
   | succ m=>
    rw [vUp,vUp];have h1:=hP k;split
    ·rfl
    ·rw [ih (P k) (by omega) m (by omega),ih (P k) (by omega) k h1]
def vU (t:List Tn) (x:Int) (P:Nat->Nat) (k:Nat):Bool:=vUp t x P k k
theorem q2h {t:List Tn} {x:Int} {P:Nat->Nat} (hP:∀ j,P j≤j) (k:Nat):vU t x P (k + 1) = if (t.getD k default).i = x then false else vU t x P (P k):=by
 unfold vU;rw [vUp,qq6 hP (P k) k (hP k)]
theorem q2g {t:List Tn} {P:Nat->Nat} (hP:∀ j,P j≤j) {i:Nat} (hi:i < t.length):qjo t P i = (!(decide (0 < i) && decide (P i = 0)) && (decide (t.getD i default = lfN) || vU t (t.getD i default).i P (P i))):=by
 unfold qjo vU;have:=hP i;rw [qq6 hP (P i) (t.length + 1) (by omega)]
theorem qql (n:Tn):n = lfN↔n.i = -1/\n.z = 0/\n.o = 0:=by
 obtain ⟨a,b,d⟩:=n;simp [lfN]
theorem qa6 (t:List Tn):jd6 (t.map Tn.v) = true:=pureL_map (fun _=>rfl) t
set_option maxRecDepth 100000 in
set_option maxHeartbeats 4000000 in
theorem qd1 (t:List Tn) (bits:Int) (cap:Option Nat) (hl:t.length < 1000000000):qac Tryz.prog gl0 26 [.sl (t.map Tn.v) cap,.int .i64 bits] (.bool (qbn t bits)):=by
 obtain ⟨len,hlen⟩:∃ n,t.length = n:=⟨_,rfl⟩;obtain ⟨R,hR⟩:∃ R,qbn t bits = R:=⟨_,rfl⟩
 have hv:R = match qoc len bits t 0 (fun _=>0) with
  | none=>false
  | some par=>(List.range len).all (qjo t par) && decide (0 < len):=by rw [<- hR,<- hlen]; rfl
 rw [hR];obtain ⟨T,hT⟩:∃ T,t.map Tn.v = T:=⟨_,rfl⟩;have hTl:T.length = len:=by rw [<- hT]; simpa using hlen
 have hTg:∀ i (h:i < T.length) (h':i < t.length),T[i] = .agg [.int .i64 t[i].i,.int .i64 t[i].z,.int .i64 t[i].o]:=fun i h h'=>by
  subst hT; simp [Tn.v]
 rw [hT];obtain ⟨R0,hR0⟩:∃ r,qoc len bits t 0 (fun _=>0) = r:=⟨_,rfl⟩;rw [hR0] at hv;refine jfu 2 ok26 rfl ?_;simp [i26,x26];intro gf;refine ⟨by omega,?_⟩;generalize gf 15 = g15;rw [hTl,qzr]
 refine jft (X:=Nat × (Nat->Nat)) (fun z=>[(18,qab z.1),(17,qab len),(16,.sl T cap),(5,.ref 15 g15 0 len (some len)),(1,.int .i64 bits),(0,.sl T cap)])
  (fun z=>[(15,.row g15 1 (pT len z.2))])
  (fun z=>z.1≤len/\qoc len bits (t.drop z.1) z.1 z.2 = R0/\∀ j,z.2 j≤j) (fun z=>len - z.1) (0,fun _=>0) ⟨Nat.zero_le _,by simpa using hR0,fun _=>Nat.zero_le _⟩ (by simp [qab]) (by simp) ?_
 rintro ⟨i,p⟩ ⟨hi,hrun,hp⟩;dsimp only at hi hrun hp ⊢;simp [qab];refine jfr (fun hb=>?_) (fun hb=>?_)
 ·have hi':=jfy hb;have hw:=qbi i (by omega);have hit:i < t.length:=by omega
  have hdrop:t.drop i = t[i] :: t.drop (i + 1):=List.drop_eq_getElem_cons hit;have hTi:∀ h,T[i]'h = .agg [.int .i64 t[i].i,.int .i64 t[i].z,.int .i64 t[i].o]:=fun h=>hTg i h hit;obtain ⟨n,hn⟩:∃ n,t[i] = n:=⟨_,rfl⟩;rw [hdrop,hn,qoc] at hrun;rw [hn] at hTi;by_cases hlf:n = lfN
  ·have hnode:qew len bits i n p = some p:=by unfold qew; rw [if_pos hlf]
   rw [hnode] at hrun;subst hlf;simp [hi',hTl,hTi,lfN,qcw];exact ⟨i + 1,p,⟨hi',hrun,hp⟩,hw,rfl,by omega⟩
  ·have hne:¬ (n.i = -1/\n.z = 0/\n.o = 0):=fun h=>hlf ((qql n).2 h)
   have hnode:qew len bits i n p = if n.i < 0∨bits≤n.i then none else match qka len i n.z p with
    | none=>none
    | some p=>qka len i n.o p:=by unfold qew; rw [if_neg hlf]; rfl
   obtain ⟨a,b,d⟩:=n;dsimp only at hne hnode hTi
   have heq:(decide (a = -1) && (decide (b = 0) && decide (d = 0))) = false:=by
    cases h1:decide (a = -1) <;> cases h2:decide (b = 0) <;> cases h3:decide (d = 0) <;> simp_all
   have hnone:qew len bits i ⟨a,b,d⟩ p = none->R = false:=fun h=>by
    rw [h] at hrun;rw [<- hrun] at hv;exact hv
   by_cases h1:a < 0
   ·have hRf:=hnone (by rw [hnode,if_pos (.inl h1)]);simp [hi',hTl,hTi,qcw,heq,h1,hRf]
   by_cases h2:bits≤a
   ·have hRf:=hnone (by rw [hnode,if_pos (.inr h2)]);simp [hi',hTl,hTi,qcw,heq,h1,h2,hRf]
   rw [if_neg (by omega)] at hnode;simp [hi',hTl,hTi,qcw,heq,h1,h2];intro gf2;obtain ⟨Q,hQ⟩:∃ Q:Nat->(Nat->Nat)->Prop,∀ j q,Q j q↔(j = 0/\q = p)∨(j = 1/\qka len i b p = some q)∨(j = 2/\qew len bits i ⟨a,b,d⟩ p = some q):=⟨_,fun _ _=>Iff.rfl⟩
   refine jft (X:=Nat × (Nat->Nat)) (fun z=>[(40,qab z.1),(39,.agg [.int .i64 b,.int .i64 d]),(6,qab i),(18,qab i),(17,qab len),(16,.sl T cap),(5,.ref 15 g15 0 len (some len)),(1,.int .i64 bits),(0,.sl T cap)])
    (fun z=>[(15,.row g15 1 (pT len z.2))]) (fun z=>z.1≤2/\Q z.1 z.2) (fun z=>2 - z.1) (0,p) ⟨Nat.zero_le _,(hQ _ _).2 (.inl ⟨rfl,rfl⟩)⟩ (by simp [qab]) (by simp) ?_
   rintro ⟨j,q⟩ ⟨hj,hq⟩;dsimp only at hj hq ⊢;simp [qab];refine jfr (fun hb2=>?_) (fun hb2=>?_)
   ·have hj':=jfy hb2;have hwj:=qbi j (by omega);have hwi:=qbi i (by omega)
    -- the kid of this round
    obtain ⟨k,hk,hgetk,hk2⟩:∃ k:Int,(∀ q',qka len i k q = some q'->Q (j + 1) q')/\(∀ h:j < [V.int .i64 b,V.int .i64 d].length,[V.int .i64 b,V.int .i64 d][j]'h = .int .i64 k)/\(qka len i k q = none->R = false):=by
     rcases (hQ _ _).1 hq with ⟨rfl,rfl⟩ | ⟨rfl,h⟩ | ⟨rfl,h⟩
     ·exact ⟨b,fun q' h=>(hQ _ _).2 (.inr (.inl ⟨rfl,h⟩)),fun _=>rfl,fun h=>hnone (by rw [hnode,h])⟩
     ·exact ⟨d,fun q' h2=>(hQ _ _).2 (.inr (.inr ⟨rfl,by rw [hnode,h]; exact h2⟩)),fun _=>rfl,fun h2=>hnone (by rw [hnode,h]; exact h2)⟩
     ·omega
    have hj2:j < 2:=hj';by_cases c1:k≤(i:Int)
    ·have hRf:=hk2 (by unfold qka; rw [if_pos (.inl c1)]);simp [hj2,hgetk,c1,hRf]
    by_cases c2:(len:Int)≤k
    ·have hRf:=hk2 (by unfold qka; rw [if_pos (.inr (.inl c2))]);simp [hj2,hgetk,c1,c2,hTl,hRf]
    obtain ⟨m,rfl⟩:∃ m:Nat,k = (m:Int):=Int.eq_ofNat_of_zero_le (by omega);have hml:m < len:=by omega
    by_cases c3:0 < q m
    ·have hRf:=hk2 (by unfold qka; rw [if_pos (.inr (.inr (by simpa using c3)))]);simp [hj2,hgetk,hml,qb3,c3,show ¬ m≤i by omega,show ¬ T.length≤m by omega,hRf]
    ·have hq':=hk (qbs q m (i + 1)) (by unfold qka; rw [if_neg (by simp; omega)]; rfl);have hset:(pT len q).set m (.int .i64 ((i:Int) + 1)) = pT len (qbs q m (i + 1)):=by have:=qcv len q m (i + 1); simpa using this
     simp [hj2,hgetk,hml,qb3,c3,show ¬ m≤i by omega,show ¬ T.length≤m by omega,hwi,hwj,hset];exact ⟨j + 1,qbs q m (i + 1),⟨hj2,hq'⟩,rfl,rfl,by omega⟩
   ·have hj':j = 2:=by have:=jfz hb2; omega
    subst hj'
    have hq2:qew len bits i ⟨a,b,d⟩ p = some q:=by
     rcases (hQ _ _).1 hq with ⟨h,_⟩ | ⟨h,_⟩ | ⟨_,h⟩
     ·omega
     ·omega
     ·exact h
    rw [hq2] at hrun;simp [hw];exact ⟨i + 1,q,⟨hi',hrun,qyz hq2 hp⟩,rfl,rfl,by omega⟩
 ·have hi':i = len:=by have:=jfz hb; omega
  subst hi';rw [List.drop_of_length_le (by omega),qoc] at hrun;rw [<- hrun] at hv;simp only at hv;simp [hTl]
  refine jft (X:=Nat) (fun j=>[(68,qab j),(67,qab i),(66,.sl T cap),(5,.ref 15 g15 0 i (some i)),(0,.sl T cap)])
   (fun _=>[(15,.row g15 1 (pT i p))]) (fun j=>j≤i/\∀ m,m < j->qjo t p m = true) (fun j=>i - j) 0 ⟨Nat.zero_le _,fun m h=>by omega⟩ (by simp [qab]) (by simp) ?_
  rintro j ⟨hj,hall⟩;simp [qab];refine jfr (fun hb2=>?_) (fun hb2=>?_)
  ·have hj':=jfy hb2;have hw:=qbi j (by omega);have hjt:j < t.length:=by omega
   have hTi:∀ h,T[j]'h = .agg [.int .i64 t[j].i,.int .i64 t[j].z,.int .i64 t[j].o]:=fun h=>hTg j h hjt;have h2:=q2g hp hjt;have hgd:t.getD j default = t[j]:=by rw [jf0,jf4 hjt]; rfl
   rw [hgd] at h2;obtain ⟨n,hn⟩:∃ n,t[j] = n:=⟨_,rfl⟩;rw [hn] at hTi h2
   have hbad:qjo t p j = false->R = false:=fun h=>by
    rw [hv,Bool.and_eq_false_iff];left;rw [List.all_eq_false];exact ⟨j,List.mem_range.2 hj',by rw [h]; simp⟩
   have hnext:qjo t p j = true->∀ m,m < j + 1->qjo t p m = true:=fun h m hm=>by
    by_cases e:m = j
    ·subst e; exact h
    ·exact hall m (by omega)
   by_cases c1:0 < j/\p j = 0
   ·have hRf:=hbad (by rw [h2,decide_eq_true c1.1,decide_eq_true c1.2]; rfl);simp [hj',hTl,hTi,qb3,c1.1,c1.2,hRf]
   have h3:qjo t p j = (decide (n = lfN) || vU t n.i p (p j)):=by
    rw [h2]
    have:(decide (0 < j) && decide (p j = 0)) = false:=by
     cases e1:decide (0 < j) <;> cases e2:decide (p j = 0) <;> simp_all
    rw [this]; rfl
   have hpj:=hp j;obtain ⟨U,hU⟩:∃ U:Nat->Bool,∀ k,U k = vU t n.i p k:=⟨_,fun _=>rfl⟩;have hU0:U 0 = true:=by rw [hU]; rfl
   have hU1:∀ k,U (k + 1) = if (t.getD k default).i = n.i then false else U (p k):=fun k=>by rw [hU,hU,q2h hp]
   rw [<- hU] at h3;obtain ⟨a,b,d⟩:=n;dsimp only at hTi hU1
   have heq:(⟨a,b,d⟩:Tn) ≠ lfN->(decide (a = -1) && (decide (b = 0) && decide (d = 0))) = false:=fun h=>by
    rw [Ne,qql] at h;dsimp only at h;cases h1:decide (a = -1) <;> cases h2:decide (b = 0) <;> cases h3:decide (d = 0) <;> simp_all
   have hpre:(0 < j/\¬ p j = 0)∨¬ 0 < j:=by
    by_cases h:0 < j
    ·exact .inl ⟨h,fun e=>c1 ⟨h,e⟩⟩
    ·exact .inr h
   rcases hpre with ⟨hj0,hpj0⟩ | hj0
   case' inl=>simp [hj',hTl,hTi,qb3,hj0,hpj0]
   case' inr=>simp [hj',hTl,hTi,qb3,hj0]
   all_goals
    intro gf3;generalize gf3 11 = g11
    refine jft (X:=Nat) (fun k=>[(12,qab k),(11,.ptr 11 g11 0 0),(10,qab j),(68,qab j),(67,qab i),(66,.sl T cap),(5,.ref 15 g15 0 i (some i)),(0,.sl T cap)])
     (fun _=>[(11,.row g11 3 [.agg [.int .i64 a,.int .i64 b,.int .i64 d]]),(15,.row g15 1 (pT i p))])
     (fun k=>k≤i/\U k = U (p j)) (fun k=>k) (p j) ⟨by omega,rfl⟩ (by simp [qab]) (by simp) ?_
    rintro k ⟨hk,hUk⟩;by_cases hk0:k = 0
    ·subst hk0;have hT2:qjo t p j = true:=by rw [h3,<- hUk,hU0,Bool.or_true]
     simp [qab,hw];exact ⟨j + 1,⟨hj',hnext hT2⟩,rfl,by omega⟩
    by_cases hlf:(⟨a,b,d⟩:Tn) = lfN
    ·have hT2:qjo t p j = true:=by rw [h3,decide_eq_true hlf]; rfl
     rw [qql] at hlf;obtain ⟨e1,e2,e3⟩:=hlf;dsimp only at e1 e2 e3;simp [qab,hk0,qcw,e1,e2,e3,hw,show 0 < k by omega];exact ⟨j + 1,⟨hj',hnext hT2⟩,rfl,by omega⟩
    have hq:=heq hlf;rw [decide_eq_false hlf,Bool.false_or] at h3;obtain ⟨m,rfl⟩:∃ m,k = m + 1:=⟨k - 1,by omega⟩;have hmt:m < t.length:=by omega
    have hgm:t.getD m default = t[m]:=by rw [jf0,jf4 hmt]; rfl
    have hTm:∀ h,T[m]'h = .agg [.int .i64 t[m].i,.int .i64 t[m].z,.int .i64 t[m].o]:=fun h=>hTg m h hmt;obtain ⟨x,hx⟩:∃ x,t[m] = x:=⟨_,rfl⟩;rw [hx] at hTm hgm;have hUm:=hU1 m;rw [hgm] at hUm;have hpm:=hp m;obtain ⟨k,hk1⟩:∃ k,m + 1 = k:=⟨_,rfl⟩;have hsub:IntKind.i64.wrap ((k:Int) - 1) = (m:Int):=by rw [qau] <;> omega
    have hmi:m < i:=by omega
    rw [hk1] at hk hUk hUm ⊢;have hk0':0 < k:=by omega
    by_cases hxa:x.i = a
    ·rw [if_pos hxa] at hUm;have hRf:=hbad (by rw [h3,<- hUk,hUm]);simp [qab,hk0',qcw,hq,hsub,hTl,hmi,hTm,hxa,hRf]
    ·rw [if_neg hxa] at hUm;simp [qab,hk0',qcw,hq,hsub,hTl,hmi,hTm,hxa,qb3];exact ⟨p m,⟨by omega,by rw [<- hUm,hUk]⟩,rfl,by omega⟩
  ·have hj':j = i:=by have:=jfz hb2; omega
   have hRt:R = decide (0 < i):=by
    rw [hv]
    have:(List.range i).all (qjo t p) = true:=by
     rw [List.all_eq_true]; intro m hm; exact hall m (by rw [List.mem_range] at hm; omega)
    rw [this,Bool.true_and]
   simp [hTl,hRt]
end
section
open Go
def ptV (b1 g1 b2 g2:Nat) (p:Pt):V:=.agg [.ref b1 g1 0 p.i.length (some p.i.length),.ref b2 g2 0 p.s.length (some p.s.length)]
def ptH (b1 g1 b2 g2:Nat) (p:Pt):Hp:=[(b1,.row g1 1 (p.i.map u8V)),(b2,.row g2 1 (p.s.map u8V))]
theorem qv6 (l:List Nat) (k v:Nat):(l.map u8V).set k (.int .u8 (v:Int)) = (l.set k v).map u8V:=by rw [List.map_set]; rfl
theorem q6m (p:Pt) (i v b1 g1 b2 g2:Nat) (hi:i < p.many) (h1:b1 ≠ 3) (h2:b2 ≠ 3) (h3:b1 ≠ b2) (hl:p.i.length < 1000/\p.s.length < 1000) :
  qan Tryz.prog gl0 63 [ptV b1 g1 b2 g2 p,qab i,u8V v] (ptH b1 g1 b2 g2 p) fun r h=>r = .tup []/\h = ptH b1 g1 b2 g2 (p.set i v):=by
 obtain ⟨m,hm⟩:∃ m,p.i.length = m:=⟨_,rfl⟩;obtain ⟨n,hn⟩:∃ n,p.s.length = n:=⟨_,rfl⟩;refine jfx ok63 rfl ?_;by_cases c1:i < m
 ·have hs:p.set i v = ⟨p.i.set i v,p.s⟩:=by unfold Pt.set; rw [if_pos (by omega)]
  simp [i63,x63,ptV,ptH,qab,u8V,hm,hn,h1,h2,h3,h3.symm,c1,Ne.symm h1,Ne.symm h2];intro gf;refine .done ?_;simp [hs,qv6,Ne.symm h3,h3,h1,h2]
 ·have hs:p.set i v = ⟨p.i,p.s.set (i - m) v⟩:=by unfold Pt.set; rw [if_neg (by omega),hm]
  unfold Pt.many at hi;have hsub:IntKind.i64.wrap ((i:Int) - (m:Int)) = ((i - m:Nat):Int):=qn4 (by omega) (by omega);have hk:i - m < n:=by omega
  have hk2:i - m < p.s.length:=by omega
  obtain ⟨x,hx⟩:∃ x,p.s[i - m] = x:=⟨_,rfl⟩;simp [i63,x63,ptV,ptH,qab,u8V,hm,hn,h1,h2,h3,h3.symm,c1,Ne.symm h1,Ne.symm h2,hsub,hk,hk2,hx];intro gf;refine .done ?_;simp [hs,qv6,Ne.symm h3,h3,h1,h2]
theorem jc4 (p:Pt) (ca cb:Option Nat):VLe (.agg [.sl (p.i.map u8V) ca,.sl (p.s.map u8V) cb]) p.v:=VLe.agg ⟨VLe.cap _ _,VLe.cap _ _,trivial⟩
theorem qih (c:Ci) (hg:c.good) (f:Ft) (hf:f.ok c) (hm:f.m = 0) (p:Pt) (hp:p.fit c) (ca cb:Option Nat):qac Tryz.prog gl0 62 [c.v,f.w,.agg [.sl (p.i.map u8V) ca,.sl (p.s.map u8V) cb]] (.bool (qht c f p)):=
 qac.wide (qp5 c hg f hf hm p hp) ⟨.refl _,.refl _,jc4 p ca cb,trivial⟩ (.refl _)
def ckV (c:Ci) (f:Ft) (T:List V) (g8 g9:Nat):List V:=[.iptr (.sl T none) 0,.iptr c.v 0,.iptr f.w 0,.ptr 9008 g8 0 0,.ptr 9009 g9 0 0]
def ckH (c:Ci) (f:Ft) (T:List V) (g8 g9 g1 g2:Nat) (p:Pt):Hp:=
 [(9008,.row g8 2 [ptV 9100 g1 9101 g2 p]),(9009,.row g9 1 [.fn 61 [] (ckV c f T g8 g9)]),(9100,.row g1 1 (p.i.map u8V)),(9101,.row g2 1 (p.s.map u8V))]
theorem q1t {b1 g1 b2 g2:Nat} {p q:Pt} (h1:p.i.length = q.i.length) (h2:p.s.length = q.s.length):ptV b1 g1 b2 g2 p = ptV b1 g1 b2 g2 q:=by unfold ptV; rw [h1,h2]
theorem qs8 (c:Ci) (f:Ft) (T:List V) (hT:jd6 T = true) (g8 g9:Nat):jd9 [9008,9009,9100,9101] (ckV c f T g8 g9) = true:=by
 simp [ckV,jd9,V.inB,jd7 _ _ hT,jeh _ _ (qb2 c),jeh _ _ (qlk f)]
theorem qs7 (c:Ci) (f:Ft) (T:List V) (hT:jd6 T = true) (g8 g9 g1 g2:Nat) (p:Pt):qbc [9008,9009,9100,9101] (ckH c f T g8 g9 g1 g2 p) = true:=by
 have:=qs8 c f T hT g8 g9;simp [qbc,ckH,Blk.inB,jd9,V.inB,ptV,this,jd7 _ _ (qaj _)]
set_option maxRecDepth 100000 in
set_option maxHeartbeats 4000000 in
theorem qly (c:Ci) (hg:c.good) (f:Ft) (hf:f.ok c) (hm:f.m = 0) (t:List Tn) (ht:t.length < 1000000000) (g8 g9 g1 g2:Nat) :
  ∀ (d:DT) (us:List Nat) (a:Nat) (p:Pt),At t d a->a + d.sz≤t.length->d.ok p.many us->p.fit c->(∀ k,k < p.many->k ∉ us->p.bit k = 2)->
   qan Tryz.prog gl0 61 (qab a :: ckV c f (t.map Tn.v) g8 g9) (ckH c f (t.map Tn.v) g8 g9 g1 g2 p) fun r h=>r = .bool (prB c f d p)/\h = ckH c f (t.map Tn.v) g8 g9 g1 g2 p
 | .lf,us,a,p,hat,hal,_,hp,_=>by
  have h1:=qih c hg f hf hm p hp (some p.i.length) (some p.s.length);have hlt:a < t.length:=by simp only [DT.sz] at hal; omega
  have hta:∀ h,(t.map Tn.v)[a]'h = lfN.v:=fun h=>by
   have:=hat.lf;rw [jf4 hlt] at this;simp [Option.some.inj this]
  obtain ⟨T,hT⟩:∃ T,t.map Tn.v = T:=⟨_,rfl⟩;have hTp:jd6 T = true:=by rw [<- hT]; exact qa6 t
  have hTl:T.length = t.length:=by rw [<- hT]; simp
  have hti:∀ l:List Nat,List.take l.length (l.map u8V) = l.map u8V:=fun l=>jf2 (by simp);rw [hT] at hta ⊢;rw [prB];generalize qht c f p = R at h1 ⊢;simp only [Ft.w,u8V,qab] at h1;refine jfx ok61 rfl ?_;simp [i61,x61,ckV,ckH,qab,hTl,hlt,hta,Tn.v,lfN,qcw,ptV,Ft.w,u8V];intro gf;refine CallO.borrow 2 h1 (by simp [qap _ (qb2 c),frz,V.mapR,jd8,qar (qaj _),hti,u8V]) rfl ?_;simp;refine .done ?_;simp
 | .nd i z o,us,a,p,hat,hal,hok,hp,h2=>by
  obtain ⟨o1,o2,o3,o4⟩:=hok;have hzs:=z.sz_pos;have hos:=o.sz_pos;simp only [DT.sz] at hal;have hlt:a < t.length:=by omega
  have hb2:=h2 i o1 o2
  have hpl:p.i.length < 1000/\p.s.length < 1000:=by
   have:=hg.n1; have:=qcd 0 c.n; have:=qcd 14 c.n;rw [hp.i,hp.s]; omega
  have hfit:∀ j,(stP p i j).fit c:=fun j=>match j with
   | 0=>hp
   | 1=>jeu hp i 0 (by omega)
   | _ + 2=>jeu hp i 1 (by omega)
  have hmany:∀ j,(stP p i j).many = p.many:=fun j=>by simp [Pt.many]
  have hbits:∀ j k,k < p.many->k ∉ i :: us->(stP p i (j + 1)).bit k = 2:=fun j k h3 h4=>by
   simp only [List.mem_cons,not_or] at h4
   match j with
   | 0=>show (p.set i 0).bit k = 2; rw [jel o1,if_neg h4.1]; exact h2 k h3 h4.2
   | _ + 1=>show (p.set i 1).bit k = 2; rw [jel o1,if_neg h4.1]; exact h2 k h3 h4.2
  have hrec:∀ j,j < 2->∃ b:Nat,(∀ h,[V.int .i64 ((a:Int) + 1),V.int .i64 ((a:Int) + 1 + (z.sz:Int))][j]'h = qab b)/\
    (stB c f z o p i j = true->qan Tryz.prog gl0 61 (qab b :: ckV c f (t.map Tn.v) g8 g9) (ckH c f (t.map Tn.v) g8 g9 g1 g2 (stP p i (j + 1))) fun r h=>r = .bool (stB c f z o p i (j + 1))/\h = ckH c f (t.map Tn.v) g8 g9 g1 g2 (stP p i (j + 1)))/\
    (stB c f z o p i j = false->stB c f z o p i (j + 1) = false):=fun j hj=>by
   have hc:j = 0∨j = 1:=by omega
   rcases hc with rfl | rfl
   ·have ih:=qly c hg f hf hm t ht g8 g9 g1 g2 z (i :: us) (a + 1) (stP p i 1) hat.z (by omega) (by rw [hmany]; exact o3) (hfit 1) (by rw [hmany]; exact hbits 0);exact ⟨a + 1,fun _=>rfl,fun _=>ih,fun h=>by cases h⟩
   ·have ih:=qly c hg f hf hm t ht g8 g9 g1 g2 o (i :: us) (a + 1 + z.sz) (stP p i 2) hat.o (by omega) (by rw [hmany]; exact o4) (hfit 2) (by rw [hmany]; exact hbits 1);refine ⟨a + 1 + z.sz,fun _=>by simp [qab],fun h=>?_,fun h=>?_⟩
    ·have e:stB c f z o p i 2 = prB c f o (stP p i 2):=by
      show (prB c f z (p.set i 0) && prB c f o (p.set i 1)) = prB c f o (p.set i 1);rw [show prB c f z (p.set i 0) = true from h,Bool.true_and]
     rw [e]; exact ih
    ·show (prB c f z (p.set i 0) && prB c f o (p.set i 1)) = false;rw [show prB c f z (p.set i 0) = false from h,Bool.false_and]
  have hta:∀ h,(t.map Tn.v)[a]'h = .agg [qab i,.int .i64 ((a:Int) + 1),.int .i64 ((a:Int) + 1 + (z.sz:Int))]:=fun h=>by
   have:=hat.nd;rw [jf4 hlt] at this;simp [Option.some.inj this,Tn.v,qab]
  have hset:=fun j (hj:j < 2)=>q15 o1 j hj;have hend:=qvr o1 hb2;have hR:prB c f (.nd i z o) p = stB c f z o p i 2:=rfl;have hput:=fun j v=>q6m (stP p i j) i v 9100 g1 9101 g2 (by rw [hmany]; exact o1) (by omega) (by omega) (by omega) (by simpa using hpl);have hV:∀ j,ptV 9100 g1 9101 g2 (stP p i j) = ptV 9100 g1 9101 g2 p:=fun j=>q1t (by simp) (by simp);have hP0:stP p i 0 = p:=rfl;have hB0:stB c f z o p i 0 = true:=rfl;rw [hR];have hSL:∀ j,(stP p i j).i.length = p.i.length:=fun j=>jdh _ _ _;have hSM:∀ j,(stP p i j).s.length = p.s.length:=fun j=>jdi _ _ _;generalize stB c f z o p i = B at *;generalize stP p i = S at *;obtain ⟨T,hT⟩:∃ T,t.map Tn.v = T:=⟨_,rfl⟩;have hTp:jd6 T = true:=by rw [<- hT]; exact qa6 t
  have hTl:T.length = t.length:=by rw [<- hT]; simp
  have hIn:=fun q=>qs7 c f T hTp g8 g9 g1 g2 q;have hIv:=qs8 c f T hTp g8 g9;rw [hT] at hta hrec ⊢;simp only [hV] at hput;simp only [ptV,qab,u8V] at hput;simp only [ckV,qab,Ft.w,u8V] at hIv;simp only [ckH,ckV,ptV,qab,Ft.w,u8V] at hIn hrec ⊢;obtain ⟨PL,hPL⟩:∃ n,p.i.length = n:=⟨_,rfl⟩;obtain ⟨PS,hPS⟩:∃ n,p.s.length = n:=⟨_,rfl⟩;have hSi:∀ j,(S j).i.length = PL:=fun j=>(hSL j).trans hPL;have hSs:∀ j,(S j).s.length = PS:=fun j=>(hSM j).trans hPS;simp only [hPL,hPS,hSi,hSs] at hput hrec ⊢;refine jfx ok61 rfl ?_;simp [i61,x61,hTl,hlt,hta,qcw,qab];intro gf;generalize gf 8 = gn;obtain ⟨zs,hzs2⟩:∃ n,z.sz = n:=⟨_,rfl⟩;rw [hzs2] at hrec ⊢
  refine jft (X:=Nat) (fun j=>[(28,qab j),(27,.agg [.int .i64 ((a:Int) + 1),.int .i64 ((a:Int) + 1 + (zs:Int))]),(9,.bool (B j)),(8,.ptr 8 gn 0 0),(5,.ptr 9009 g9 0 0),(4,.ptr 9008 g8 0 0)])
   (fun j=>(8,.row gn 3 [.agg [.int .i64 (i:Int),.int .i64 ((a:Int) + 1),.int .i64 ((a:Int) + 1 + (zs:Int))]]) :: ckH c f T g8 g9 g1 g2 (S j)) (fun j=>j≤2) (fun j=>2 - j) 0 (Nat.zero_le _) (by simp [qab,hB0]) (by simp [ckH,ckV,ptV,hP0,hPL,hPS,Ft.w,u8V,qab]) ?_
  intro j hj;simp [qab,ckH,ckV,ptV,hSi,hSs];refine jfr (fun hb=>?_) (fun hb=>?_)
  ·have hj':j < 2:=jfy hb;have hw:=qbi j (by omega)
   have hcv:IntKind.u8.wrap (j:Int) = (j:Int):=by
    have:j = 0∨j = 1:=by omega
    rcases this with rfl | rfl <;> rfl
   obtain ⟨b,hb1,hb3,hb4⟩:=hrec j hj';have hs1:=hset j hj';have hpj:=hput j j;rw [hs1] at hpj;simp [hj',hb1,hcv,qab]
   refine CallO.lend [9100,9101] (ptH 9100 g1 9101 g2 (S j)) [(8,.row gn 3 [.agg [.int .i64 (i:Int),.int .i64 ((a:Int) + 1),.int .i64 ((a:Int) + 1 + (zs:Int))]]),(9008,.row g8 2 [ptV 9100 g1 9101 g2 (S j)]),(9009,.row g9 1 [.fn 61 [] (ckV c f T g8 g9)])]
    hpj (by simp [jd9,V.inB]) (by simp [ptH]) (by simp [ptH,qbc,Blk.inB,jd7 _ _ (qaj _)]) (by simp [ptV,hSi,hSs,ckV,Ft.w,u8V,qab]) (by simp) ?_
   rintro v h ⟨rfl,rfl⟩;refine ⟨rfl,by simp [ptH,qbc,Blk.inB,jd7 _ _ (qaj _)],?_⟩;simp [ptH,ptV,hSi,hSs,ckV,Ft.w,u8V,qab]
   cases hB:B j with
   | false=>
    have hB2:=hb4 hB;simp [hw];exact ⟨j + 1,hj',by simp [hB2],by simp,by omega⟩
   | true=>
    have hc1:=hb3 hB;simp
    refine CallO.lend [9008,9009,9100,9101] (ckH c f T g8 g9 g1 g2 (S (j + 1))) [(8,.row gn 3 [.agg [.int .i64 (i:Int),.int .i64 ((a:Int) + 1),.int .i64 ((a:Int) + 1 + (zs:Int))]])]
     (by simpa [ckH,ckV,ptV,hSi,hSs,Ft.w,u8V,qab] using hc1) (by simpa [jd9,V.inB] using hIv) (by simp [ckH,ckV,ptV,hSi,hSs,Ft.w,u8V,qab]) (qs7 c f T hTp g8 g9 g1 g2 _) (by simp) (by simp) ?_
    rintro v h ⟨rfl,rfl⟩;refine ⟨rfl,by simpa [ckH,ckV,ptV,hSi,hSs,Ft.w,u8V,qab] using qs7 c f T hTp g8 g9 g1 g2 (S (j + 1)),?_⟩;simp [hw];exact ⟨j + 1,hj',by simp,by simp,by omega⟩
  ·have hj':j = 2:=by have:=jfz hb; omega
   subst hj';have hpj:=hput 2 2;rw [hend] at hpj;simp
   refine CallO.lend [9100,9101] (ptH 9100 g1 9101 g2 (S 2)) [(9008,.row g8 2 [ptV 9100 g1 9101 g2 p]),(9009,.row g9 1 [.fn 61 [] (ckV c f T g8 g9)])]
    hpj (by simp [jd9,V.inB]) (by simp [ptH]) (by simp [ptH,qbc,Blk.inB,jd7 _ _ (qaj _)]) (by simp [ptV,hPL,hPS,ckV,Ft.w,u8V,qab]) (by simp) ?_
   rintro v h ⟨rfl,rfl⟩;refine ⟨rfl,by simp [ptH,qbc,Blk.inB,jd7 _ _ (qaj _)],?_⟩;simp [ptH,ptV,ckV,hPL,hPS,Ft.w,u8V,qab];refine .done ?_;simp
end
section
open Go
theorem qp4 {c:Ci} {k:Nat} (h:k < (qc6 c).many):(qc6 c).bit k = 2:=by
 unfold Pt.many at h;unfold Pt.bit;split
 ·rename_i h1;simp only [qc6,List.length_replicate] at h1;simp [qc6,jf0,List.getElem?_replicate,h1]
 ·rename_i h1;simp only [qc6,List.length_replicate] at h1 h;simp only [qc6,List.length_replicate,jf0,List.getElem?_replicate];rw [if_pos (by omega)]; rfl
theorem qms (c:Ci):(qc6 c).many = cnt 0 c.n + cnt 14 c.n:=by simp [Pt.many,qc6]
set_option maxRecDepth 100000 in
set_option maxHeartbeats 4000000 in
theorem qw0 (c:Ci) (hg:c.good) (hk:c.plain) (f:Ft) (hf:f.ok c) (hm:f.m = 0) (t:List Tn) (ht:t.length < 1000000000) (R:Bool)
  (hv:qbn t ((cnt 0 c.n + cnt 14 c.n:Nat):Int) = false->R = false)
  (hR:qbn t ((cnt 0 c.n + cnt 14 c.n:Nat):Int) = true->∀ g8 g9 g1 g2,qan Tryz.prog gl0 61 (qab 0 :: ckV c f (t.map Tn.v) g8 g9) (ckH c f (t.map Tn.v) g8 g9 g1 g2 (qc6 c)) fun r h=>r = .bool R/\h = ckH c f (t.map Tn.v) g8 g9 g1 g2 (qc6 c)) :
  qac Tryz.prog gl0 18 [c.v,f.w,.sl (t.map Tn.v) none] (.int .i64 (if R = true then 0 else 10)):=by
 have h1:=qq4 c hg hk f hf hm;have hbl:=qp3 c hg;have hval:=qd1 t ((cnt 0 c.n + cnt 14 c.n:Nat):Int) none ht;have hn1:=hg.n1;have l0:=qcd 0 c.n;have l1:=qcd 14 c.n;have hbi:(qc6 c).i.map u8V = List.replicate (cnt 0 c.n) (.int .u8 2):=by simp [qc6,u8V]
 have hbs:(qc6 c).s.map u8V = List.replicate (cnt 14 c.n) (.int .u8 2):=by simp [qc6,u8V]
 have hil:(qc6 c).i.length = cnt 0 c.n:=by simp [qc6]
 have hsl:(qc6 c).s.length = cnt 14 c.n:=by simp [qc6]
 obtain ⟨T,hT⟩:∃ T,t.map Tn.v = T:=⟨_,rfl⟩;have hTp:jd6 T = true:=by rw [<- hT]; exact qa6 t
 rw [hT] at hval hR ⊢;unfold q7e at hbl;simp only [ckH,ptV,hil,hsl,hbi,hbs] at hR;generalize qbn t ((cnt 0 c.n + cnt 14 c.n:Nat):Int) = W at hv hR hval;have hadd:IntKind.i64.wrap ((cnt 0 c.n:Int) + (cnt 14 c.n:Int)) = ((cnt 0 c.n + cnt 14 c.n:Nat):Int):=qq9 rfl (by omega);generalize cnt 0 c.n = A at *;generalize cnt 14 c.n = B at *;obtain ⟨Z,hZ⟩:∃ Z,A + B = Z:=⟨_,rfl⟩;rw [hZ] at hval hadd;have hpA:jd6 (List.replicate A (V.int .u8 2)) = true:=qdr A;have hpB:jd6 (List.replicate B (V.int .u8 2)) = true:=qdr B;simp only [ckV,Ft.w,u8V,qab] at h1 hR;refine qac.of_WM 5 2 ok18 rfl ?_;simp [i18,x18,Ft.w,u8V,qab];intro gf1 gf2 gf3;generalize gf1 3 = g3;generalize gf2 4 = g4;generalize gf3 5 = g5;refine KM.mk (.done ?_);simp;refine jfq h1 (by simp) ?_;simp;refine KM.mk (.done ?_);simp;refine CallO.own 9100 hbl (by simp) (by simp) ?_;rintro v h ⟨q1,q2,rfl,rfl⟩ gf4;simp [upH,upS,Blk.rn];intro gf5;generalize gf5 8 = g8;generalize gf4 9100 + q1 = g1;generalize gf4 9101 + q2 = g2;refine KM.mk (.done ?_);simp [hadd];refine jfq hval (by simp [hTp]) ?_
 cases W with
 | false=>simp [hv rfl]
 | true=>
  have hr:=hR rfl;clear hR hv;simp;refine KM.mk (.done ?_);simp;intro gf6;generalize gf6 9 = g9;have hTr:∀ (f:Nat->Nat->Nat->Nat->Option Nat->V) (q:Nat->Nat->Nat->Nat->V),jd8 f q T = T:=fun _ _=>qae _ hTp;have hAr:∀ (f:Nat->Nat->Nat->Nat->Option Nat->V) (q:Nat->Nat->Nat->Nat->V),jd8 f q (List.replicate A (V.int .u8 2)) = List.replicate A (V.int .u8 2):=fun _ _=>qae _ hpA;have hBr:∀ (f:Nat->Nat->Nat->Nat->Option Nat->V) (q:Nat->Nat->Nat->Nat->V),jd8 f q (List.replicate B (V.int .u8 2)) = List.replicate B (V.int .u8 2):=fun _ _=>qae _ hpB;have hcp:∀ (f:Nat->Nat->Nat->Nat->Option Nat->V) (q:Nat->Nat->Nat->Nat->V),V.mapR f q c.v = c.v:=fun _ _=>qap _ (qb2 c);have mA:∀ b g es,List.map (fzV b g es) (List.replicate A (V.int .u8 2)) = List.replicate A (V.int .u8 2):=fun _ _ _=>qdp hpA;have mB:∀ b g es,List.map (fzV b g es) (List.replicate B (V.int .u8 2)) = List.replicate B (V.int .u8 2):=fun _ _ _=>qdp hpB;refine KM.mk (.frz (g:=g3) (sz:=4) (es:=[c.v]) 3 (by simp) (by simp) (.frz (g:=g4) (sz:=5) (es:=[f.w]) 4 (by simp [fzH,Blk.fz,fzV,V.mapR,jd8,Ft.w,u8V,qab]) (by simp) (.frz (g:=g5) (sz:=1) (es:=[.sl T none]) 5 (by simp [fzH,Blk.fz,fzV,V.mapR,jd8,hTr]) (by simp [jd6,V.pure,hTp]) ?_)));simp [fzF,fzH,fzV,Blk.fz,V.mapR,jd8,fzp,fzf,hTr,hAr,hBr,hcp,mA,mB,qap _ (qlk f),Ft.w,u8V,qab];refine .move 8 9008 _ (by simp) (by simp; rfl) fun g8'=>.move 9 9009 _ (by simp) (by simp; rfl) fun g9'=>.done ?_;simp [qaz hpA,qaz hpB,qa0 _ hTp,qcy _ (qb2 c),Blk.rn];have hr':=hr g8' g9' g1 g2;refine qan.sub ?_ (qan.mono hr' ?_)
  ·simp
  ·rintro r h ⟨rfl,rfl⟩;cases R <;> simp
theorem qp6 (c:Ci) (hg:c.good) (hk:c.plain) (f:Ft) (hf:f.ok c) (hm:f.m = 0) (d:DT) (hd:d.ok (cnt 0 c.n + cnt 14 c.n) []) (hs:d.sz < 1000000000) :
  qac Tryz.prog gl0 18 [c.v,f.w,.sl ((d.fl 0).map Tn.v) none] (.int .i64 (if prB c f d (qc6 c) = true then 0 else 10)):=by
 have hv:=qme d hd;refine qw0 c hg hk f hf hm _ (by simpa using hs) _ (fun h=>by rw [hv] at h; cases h) fun _ g8 g9 g1 g2=>?_;exact qly c hg f hf hm _ (by simpa using hs) g8 g9 g1 g2 d [] 0 (qc6 c) (At.fl d) (by simp) (by rw [qms]; exact hd) (qs1 c) fun k h _=>qp4 h
end
end Go.Proofs.YtpaopccohkldlaaGreatDoor
