/- Lemmas. Conditions: none. -/
import Derived.Test.YtlmniacemoohpaaGreatDoorPA
import Derived.Test.YtlmniacemoohpaaGreatDoorP9
set_option linter.all false
namespace Go.Proofs.YtlmniacemoohpaaGreatDoor
section
open Go
def chP (c:Ci) (P:Pth):List Pth:=(ext c (qb1 P)).map fun l=>P ++ [l]
def qqz (c:Ci):Nat->List Pth
 | 0=>qi3 c c.n.length
 | k + 1=>(qqz c k).flatMap (chP c)
def obP (c:Ci) (P:Pth):Bool:=qjw c (qb1 P)
def lev (c:Ci) (k:Nat):List Pth:=(qqz c k).filter (obP c)
theorem qy9 {c:Ci} (hg:c.good) (hr:c.nar):∀ (A B O:List Pth) (k:Nat),mT c (A ++ B)≤k->(qm7 c k (A ++ B) O).length < 5000->
  ∃ k',mT c (B ++ A.flatMap (chP c))≤k'/\k'≤k/\qm7 c k (A ++ B) O = qm7 c k' (B ++ A.flatMap (chP c)) (O ++ A.filter (obP c)):=by
 intro A
 induction A with
 | nil=>
  intro B O k hm ho;exact ⟨k,by simpa using hm,ji5 _,by simp⟩
 | cons P A ih=>
  intro B O k hm ho;have hs:=qrr hg hr P (A ++ B);rw [List.cons_append] at hm ho ⊢;obtain ⟨k,rfl⟩:∃ k',k = k' + 1:=⟨k - 1,by omega⟩;rw [qm7] at ho ⊢;split at ho
  ·rename_i hlt;rw [if_pos hlt];have he:A ++ B ++ (ext c (qb1 P)).map (fun l=>P ++ [l]) = A ++ (B ++ chP c P):=by rw [List.append_assoc]; rfl
   rw [he] at ho hs ⊢;obtain ⟨k',h1,h2,h3⟩:=ih (B ++ chP c P) _ k (by omega) ho;refine ⟨k',?_,by omega,?_⟩
   ·rw [List.flatMap_cons,<- List.append_assoc]; exact h1
   ·rw [h3,List.flatMap_cons,<- List.append_assoc];congr 1;by_cases hp:qjw c (qb1 P) = true
    ·rw [if_pos hp,List.filter_cons_of_pos (by exact hp),List.append_assoc]; rfl
    ·rw [if_neg hp,List.filter_cons_of_neg (by exact hp),List.append_nil]
  ·omega
theorem qz6 {c:Ci} (hg:c.good) (hr:c.nar) (k f:Nat) (O:List Pth) (hm:mT c (qqz c k)≤f) (ho:(qm7 c f (qqz c k) O).length < 5000) :
  ∃ f',mT c (qqz c (k + 1))≤f'/\qm7 c f (qqz c k) O = qm7 c f' (qqz c (k + 1)) (O ++ lev c k):=by
 have h:=qy9 hg hr (qqz c k) [] O f (by simpa using hm) (by simpa using ho);rw [List.append_nil] at h;obtain ⟨f',h1,-,h3⟩:=h;exact ⟨f',h1,h3⟩
def qit (c:Ci) (k:Nat):List Pth:=(List.range k).flatMap (lev c)
theorem qgj (c:Ci) (k:Nat):qit c (k + 1) = qit c k ++ lev c k:=by simp [qit,List.range_succ]
theorem qox {c:Ci} (hg:c.good) (hr:c.nar) (ho:(allP c).length < 5000):∀ k,∃ f,mT c (qqz c k)≤f/\allP c = qm7 c f (qqz c k) (qit c k)
 | 0=>⟨_,qym hg hr,rfl⟩
 | k + 1=>by
  obtain ⟨f,h1,h2⟩:=qox hg hr ho k;rw [h2] at ho;obtain ⟨f',h3,h4⟩:=qz6 hg hr k f _ h1 ho;exact ⟨f',h3,by rw [h2,h4,qgj]⟩
theorem qrk {c:Ci}:∀ k,∀ P ∈ qqz c k,PP c P/\P.length = k + 1
 | 0,P,hP=>by
  refine ⟨(qt4.start c).t P hP,?_⟩;obtain ⟨n,-,rfl⟩:=List.mem_map.1 hP;rfl
 | k + 1,P,hP=>by
  obtain ⟨Q,hQ,hP⟩:=List.mem_flatMap.1 hP;obtain ⟨h1,h2⟩:=qrk k Q hQ;obtain ⟨l,hl,rfl⟩:=List.mem_map.1 hP;exact ⟨qr1 h1 hl,by simp [h2]⟩
theorem qnw {c:Ci} (hg:c.good) (hr:c.nar) {k:Nat} (hk:c.n.length≤k):qqz c k = []:=by
 cases h:qqz c k with
 | nil=>rfl
 | cons P T=>
  obtain ⟨h1,h2⟩:=qrk k P (by rw [h]; exact List.mem_cons_self);have:=qtp hg hr h1;omega
theorem q2f {c:Ci} (hg:c.good) (hr:c.nar) (ho:(allP c).length < 5000):allP c = qit c c.n.length:=by
 obtain ⟨f,-,h2⟩:=qox hg hr ho c.n.length;rw [h2,qnw hg hr (ji5 _)];cases f <;> rfl
def dfs (c:Ci):Nat->Pth->List Pth
 | 0,P=>if qjw c (qb1 P) = true then [P] else []
 | k + 1,P=>(ext c (qb1 P)).flatMap fun l=>dfs c k (P ++ [l])
def exN (c:Ci):Nat->Pth->List Pth
 | 0,P=>[P]
 | k + 1,P=>(chP c P).flatMap (exN c k)
theorem qsu (c:Ci):∀ k P,exN c (k + 1) P = (exN c k P).flatMap (chP c)
 | 0,P=>by simp [exN]
 | k + 1,P=>by
  rw [exN,exN,List.flatMap_assoc];congr 1;funext Q;exact qsu c k Q
theorem qwa (c:Ci):∀ k P,dfs c k P = (exN c k P).filter (obP c)
 | 0,P=>by
  rw [dfs,exN];by_cases h:qjw c (qb1 P) = true
  ·rw [if_pos h,List.filter_cons_of_pos (by exact h)]; rfl
  ·rw [if_neg h,List.filter_cons_of_neg (by exact h)]; rfl
 | k + 1,P=>by
  rw [dfs,exN,List.filter_flatMap,chP,List.flatMap_map];congr 1;funext l;exact qwa c k _
theorem qs6 (c:Ci):∀ k,qqz c k = (qi3 c c.n.length).flatMap (exN c k)
 | 0=>by
  rw [qqz]
  induction qi3 c c.n.length with
  | nil=>rfl
  | cons a T ih=>rw [List.flatMap_cons,<- ih]; rfl
 | k + 1=>by
  rw [qqz,qs6 c k,List.flatMap_assoc];congr 1;funext P;exact (qsu c k P).symm
theorem q3n (c:Ci) (k:Nat):lev c k = (qi3 c c.n.length).flatMap (dfs c k):=by
 rw [lev,qs6,List.filter_flatMap];congr 1;funext P;exact (qwa c k P).symm
def qgv (c:Ci):Nat->List Pth
 | 0=>[]
 | k + 1=>lev c k ++ qgv c k
theorem qtd {c:Ci} (hg:c.good) (hr:c.nar):∀ j,qgv c (c.n.length + j) = qgv c c.n.length
 | 0=>rfl
 | j + 1=>by
  rw [<- Nat.add_assoc,qgv,qtd hg hr j];have:lev c (c.n.length + j) = []:=by rw [lev,qnw hg hr (Nat.le_add_right _ _)]; rfl
  rw [this];rfl
theorem qw9 {c:Ci} {k:Nat} {P:Pth} (h:P ∈ lev c k):P.length = k + 1:=(qrk k P ((List.mem_filter.1 h).1)).2
theorem qk1 {c:Ci} (s:Nat):∀ k,(qit c k).filter (fun P=>decide (P.length = s + 1)) = if s < k then lev c s else []
 | 0=>by simp [qit]
 | k + 1=>by
  rw [qgj,List.filter_append,qk1 s k];by_cases h:s = k
  ·subst h;rw [if_neg (by omega),if_pos (by omega),List.nil_append,List.filter_eq_self];exact fun P hP=>by simp [qw9 hP]
  ·have:(lev c k).filter (fun P=>decide (P.length = s + 1)) = []:=by
    rw [List.filter_eq_nil_iff];intro P hP;have:=qw9 hP;simp;omega
   rw [this,List.append_nil];by_cases h2:s < k
   ·rw [if_pos h2,if_pos (by omega)]
   ·rw [if_neg h2,if_neg (by omega)]
end
section
open Go
def StI (c:Ci) (n k:Nat) (L:Fam):Prop:=L.length = c.n.length/\∀ (m:Nat) x,L[m]? = some x->(x = none∨qau x ≠ [])/\jgy (qau x) = true/\qau x = (qoq c m n ++ if (c.nd n).k = 14 then [] else qee (c.nd n).i m n k).map lnI
theorem StI.start (c:Ci):StI c 0 0 (List.replicate c.n.length none):=by
 refine ⟨by simp,fun j x hj=>?_⟩;rw [List.getElem?_replicate] at hj;split at hj
 ·cases hj;exact ⟨.inl rfl,rfl,by simp [qau,qoq,qee]⟩
 ·cases hj
theorem StI.next {c:Ci} {n:Nat} {L:Fam} (h:StI c n (c.nd n).i.length L):StI c (n + 1) 0 L:=by
 refine ⟨h.1,fun m x hm=>?_⟩;obtain ⟨h1,h2,h3⟩:=h.2 m x hm;refine ⟨h1,h2,?_⟩;rw [h3,qh2];unfold qvk;simp [qee]
theorem StI.skip {c:Ci} {n k:Nat} {L:Fam} (h:StI c n k L) (hx:(c.nd n).k = 14):StI c n (k + 1) L:=by
 refine ⟨h.1,fun m x hm=>?_⟩;obtain ⟨h1,h2,h3⟩:=h.2 m x hm;refine ⟨h1,h2,?_⟩;rw [h3,if_pos hx,if_pos hx]
theorem StI.add {c:Ci} {n k:Nat} {L:Fam} (h:StI c n k L) (hk14:¬ (c.nd n).k = 14) {m:Nat} {x:Option (Nat × List V)} (hm:L[m]? = some x) (hx:(c.nd n).i.getD k 0 = (m:Int)) (g:Nat):StI c n (k + 1) (L.set m (some (g,qau x ++ [qia n k]))):=by
 refine ⟨by simpa using h.1,fun j y hj=>?_⟩;rw [List.getElem?_set] at hj;by_cases hjm:m = j
 ·subst hjm;have hl:m < L.length:=(List.getElem?_eq_some_iff.1 hm).1;simp [hl] at hj;subst hj;obtain ⟨h1,h2,h3⟩:=h.2 m x hm;refine ⟨.inr (by simp [qau]),qa9 h2 rfl,?_⟩;rw [if_neg hk14] at h3 ⊢;rw [qhp,if_pos hx];simp only [qau.eq_2];rw [h3];simp [lnI,qia]
 ·rw [if_neg hjm] at hj;obtain ⟨h1,h2,h3⟩:=h.2 j y hj;refine ⟨h1,h2,?_⟩;rw [h3,if_neg hk14,if_neg hk14,qhp,if_neg (by rw [hx]; omega),List.append_nil]
theorem qzr {sz:Nat} (b:Nat) (L:Fam) (h:Hp) (n:Nat) (hk:∀ (i g:Nat) l,L[i]? = some (some (g,l))->lk h (b + i) = some (.row g sz l)/\jgy l = true/\l ≠ []):(qhk b L).map (frz h (n + 1)) = L.map fun x=>qgk (qau x):=by
 induction L generalizing b with
 | nil=>rfl
 | cons x r ih=>
  simp only [qhk,List.map_cons];rw [ih (b + 1) fun i g l hi=>by have:=hk (i + 1) g l (by simpa using hi); rwa [show b + (i + 1) = b + 1 + i by omega] at this];congr 1
  cases x with
  | none=>simp [qbj,qgk,qau,frz]
  | some p=>
   obtain ⟨g,l⟩:=p;obtain ⟨q1,q2,q3⟩:=hk 0 g l (by simp);rw [Nat.add_zero] at q1;simp only [qbj];rw [qcq q1 (by omega),List.drop_zero,List.take_length,qex h n q2]
   cases l with
   | nil=>exact absurd rfl q3
   | cons a l=>rfl
def qhc (c:Ci):List V:=tab c.n.length fun m=>qgk ((ext c m).map lnI)
set_option maxRecDepth 100000 in
set_option maxHeartbeats 4000000 in
theorem q4u (c:Ci) (hg:c.good) (hr:c.nar):qac Tryz.prog gl0 71 [c.v] (.sl (qhc c) (some c.n.length)):=by
 have hval:=hg.val;have hn1:=hr.n;refine jiu 2 ok71 rfl ?_;simp [i71,x71,Ci.v];intro gf gf2;generalize gf 1 = g1;generalize gf2 11 = g11;refine ⟨by omega,?_⟩
 refine jit (X:=Nat × Fam) (fun x=>[(15,qab x.1),(14,qab c.n.length),(13,.sl (c.n.map Nd.v) none),(3,.ref 11 g11 0 c.n.length (some c.n.length)),(1,.ptr 1 g1 0 0)])
  (fun x=>(11,.row g11 1 (qhk 1000 x.2)) :: (1,.row g1 4 [c.v]) :: qil 2 1000 x.2)
  (fun x=>x.1≤c.n.length/\StI c x.1 0 x.2) (fun x=>c.n.length - x.1) (0,List.replicate c.n.length none) ⟨by simp,StI.start c⟩ (by simp [qab]) (by simp [qpc,qpb,Ci.v]) ?_
 rintro ⟨n,L⟩ ⟨h1,h2⟩;dsimp only at h1 h2;simp [qab];refine jis (fun hb=>?_) (fun hb=>?_)
 ·have hn:n < c.n.length:=jiy hb;have hw:=qbg n (by omega);obtain ⟨y,hy⟩:∃ y,c.n[n] = y:=⟨_,rfl⟩;have hyn:c.nd n = y:=by rw [c.nd_get hn,hy]
  have hyi:=hval.i n hn;have hyl:=hr.i n hn;rw [hyn] at hyi hyl;simp [hn,hy,Nd.v];intro gf5;generalize gf5 5 = g5
  refine jhc (X:=Nat × Fam) (fun x=>[(23,qab x.1),(22,qab y.i.length),(21,.sl (qc1 y.i) none),(4,qab n),(5,.ptr 5 g5 0 0),(15,qab n),(14,qab c.n.length),(13,.sl (c.n.map Nd.v) none),(3,.ref 11 g11 0 c.n.length (some c.n.length)),(1,.ptr 1 g1 0 0)])
   (fun x=>(11,.row g11 1 (qhk 1000 x.2)) :: (5,.row g5 4 [y.v]) :: (1,.row g1 4 [c.v]) :: qil 2 1000 x.2)
   (fun x=>x.1≤y.i.length/\StI c n x.1 x.2) (fun x=>y.i.length - x.1) ?_ ?_
  ·refine .done ⟨(0,L),⟨by simp,h2⟩,by simp [qab],?_⟩;simp [Nd.v];exact qbm fun t ht=>by simp [show ¬ t = 5 by omega,show ¬ t = 11 by omega,show ¬ t = 1 by omega]
  ·clear h2 L;rintro ⟨k,L⟩ ⟨h3,h2⟩;dsimp only at h2 h3;simp [qab];refine jis (fun hc=>?_) (fun hc=>?_)
   ·have hk:k < y.i.length:=jiy hc;have hwk:=qbg k (by omega);obtain ⟨hm0,hmN⟩:=hyi y.i[k] (ji3 hk);obtain ⟨m,hm⟩:∃ m:Nat,y.i[k] = (m:Int):=⟨y.i[k].toNat,by omega⟩;rw [hm] at hmN;have hml:m < c.n.length:=by omega
    have hmL:m < L.length:=by rw [h2.1]; exact hml
    have hgd:(c.nd n).i.getD k 0 = (m:Int):=by rw [hyn,ji0,ji4 hk,hm]; rfl
    by_cases h14:y.k = 14
    ·simp [hk,qb9,hm,h14,hwk,Nd.v];refine .done ⟨k + 1,L,⟨hk,h2.skip (by rw [hyn]; exact h14)⟩,by simp,?_,by omega⟩;simp;exact qbm fun t ht=>by simp [show ¬ t = 5 by omega,show ¬ t = 11 by omega,show ¬ t = 1 by omega]
    ·obtain ⟨x,hx⟩:∃ x,L[m]? = some x:=⟨_,ji4 hmL⟩;have hadd:=fun g=>h2.add (by rw [hyn]; exact h14) hx hgd g;have hlk:=qfr 2 1000 L m hx;have hpu:=(h2.2 m _ hx).2.1;have hfv:m < (qhk 1000 L).length:=by rw [qbl]; exact hmL
     have hget:=qno 1000 L m hx hfv
     have hlen:(qau x).length≤1000:=by
      rw [(h2.2 m _ hx).2.2,List.length_map,List.length_append];have q1:=qj1 hr m n (by omega);have q2:=qg1 (c.nd n).i m n k;split <;> simp <;> omega
     simp [hk,qb9,hm,h14,hml,hget,qbl,hmL,Nd.v]
     cases x with
     | none=>
      simp [qbj,hwk,hml,hget,qbl,hmL];refine fun gf1 gf2=>.move 41 (1000 + m) _ (by omega) (by simp; rfl) fun g2=>.done ⟨k + 1,L.set m (some (g2,[qia n k])),⟨hk,hadd g2⟩,?_⟩;have n1:¬ 1000 + m = 41:=by omega
      have n2:¬ 1000 + m = 11:=by omega
      have n3:¬ 1000 + m = 1:=by omega
      have n4:¬ 11 = 1000 + m:=by omega
      have n5:¬ 1 = 1000 + m:=by omega
      have n6:¬ 40 = 1000 + m:=by omega
      have n7:¬ 41 = 1000 + m:=by omega
      have n8:¬ 5 = 1000 + m:=by omega
      have n9:¬ 1000 + m = 5:=by omega
      have hfr:=qwo (mvS 41 (gf2 41) (1000 + m) g2) 1000 L (qmr _ _ _ _ _ (by omega));simp [n4,n5,n6,n7,n8,qbd _ (qfv _),qbd _ (qc2 _),qi0 _ (qq5 c),List.map_set,hfr,<- qj2,qbj,qia];refine ⟨qf2 (by simp [n2]) fun j g3 l3 hj hL=>?_,by omega⟩;have q1:¬ 1000 + j = 1000 + m:=by omega
      have q2:¬ 1000 + j = 11:=by omega
      have q3:¬ 1000 + j = 40:=by omega
      have q4:¬ 1000 + j = 1:=by omega
      have q5:¬ 1000 + j = 41:=by omega
      have q7:¬ 1000 + j = 5:=by omega
      have q6:=(h2.2 j _ hL).2.1;simp [hj,q2,q3,q4,q7,qpw (s:=mvS 41 (gf2 41) (1000 + m) g2) (g:=g2) (b:=41) (by omega) q1 q5 hL q6]
     | some p=>
      obtain ⟨g,l⟩:=p;simp only [qau] at hlen hpu;have hle:l.length≤274877906943:=by omega
      have n1:¬ 1000 + m = 40:=by omega
      have n2:¬ 1000 + m = 11:=by omega
      have n3:¬ 1000 + m = 1:=by omega
      have n4:¬ 11 = 1000 + m:=by omega
      have n9:¬ 1000 + m = 5:=by omega
      simp [qbj,hwk,hml,hget,qbl,hmL,hlk,qzo,hle,n1,n2,n3,n4,n9];refine fun gf1 gf2=>.done ⟨k + 1,L.set m (some (gf2 (1000 + m),l ++ [qia n k])),⟨hk,hadd _⟩,?_⟩;have n5:¬ 1 = 1000 + m:=by omega
      have n8:¬ 5 = 1000 + m:=by omega
      simp [n5,n8,<- qj2,qbj,qia];refine ⟨qf2 (by simp [n2]) fun j g3 l3 hj hL=>?_,by omega⟩;have q1:¬ 1000 + j = 1000 + m:=by omega
      have q2:¬ 1000 + j = 11:=by omega
      have q3:¬ 1000 + j = 40:=by omega
      have q4:¬ 1000 + j = 1:=by omega
      have q7:¬ 1000 + j = 5:=by omega
      simp [hj,q2,q3,q4,q7,qfr 2 1000 L j hL,qzo]
   ·have hk:k = y.i.length:=by have:=jiz hc; omega
    subst hk;simp [hw];refine ⟨n + 1,L,⟨hn,StI.next (by rw [hyn]; exact h2)⟩,by simp,⟨rfl,qbm fun t ht=>by simp [show ¬ t = 5 by omega,show ¬ t = 11 by omega,show ¬ t = 1 by omega]⟩,by omega⟩
 ·have hn:n = c.n.length:=by have:=jiz hb; omega
  subst hn;simp [-frz];have hcl:(qhk 1000 L).length = c.n.length:=by rw [qbl,h2.1]
  rw [qcq (es:=qhk 1000 L) (sz:=1) (by simp) (by rw [hcl]; omega),List.drop_zero,ji2 (by rw [hcl]; exact ji5 _),qzr (sz:=2) 1000 L _ _ fun i g l hi=>⟨by simp [show ¬ 1000 + i = 11 by omega,show ¬ 1000 + i = 1 by omega,qfr 2 1000 L i hi,qzo],(h2.2 i _ hi).2.1,by
   rcases (h2.2 i _ hi).1 with h | h
   ·cases h
   ·exact h⟩]
  congr 1;unfold qhc tab;refine List.ext_getElem? fun i=>?_;simp only [List.getElem?_map]
  cases hx:L[i]? with
  | none=>
   have:¬ i < c.n.length:=by rw [<- h2.1]; simpa using hx
   simp [this]
  | some x=>
   have hi:i < c.n.length:=by rw [<- h2.1]; exact (List.getElem?_eq_some_iff.1 hx).1
   have hx3:=(h2.2 i x hx).2.2;have hz:(if (c.nd c.n.length).k = 14 then [] else qee (c.nd c.n.length).i i c.n.length 0) = []:=by split <;> simp [qee]
   rw [hz,List.append_nil] at hx3;simp [hi,hx3,ext]
end
section
open Go
theorem qv0 (c:Ci):∀ k P,qjc c (ext c) k (qb1 P) = false->dfs c k P = []
 | 0,P,h=>by
  rw [dfs,if_neg (by rw [qjc] at h; rw [h]; simp)]
 | k + 1,P,h=>by
  rw [qjc,List.any_eq_false] at h;rw [dfs,List.flatMap_eq_nil_iff];intro l hl;refine qv0 c k (P ++ [l]) ?_;rw [qml];simpa using h l hl
end
end Go.Proofs.YtlmniacemoohpaaGreatDoor
