/- Trees: the law Blocked. Conditions: none. -/
import Derived.Test.YtpaopccohkldlaaGreatDoorRE
import Derived.Test.YtpaopccohkldlaaGreatDoorRA
set_option linter.all false
namespace Go.Proofs.YtpaopccohkldlaaGreatDoor
open Go
theorem quq:∀ l:List Nd,cnt 0 l + cnt 14 l≤l.length
 | []=>by simp [cnt,ids]
 | x :: l=>by
  have:=quq l;rw [qfy,qfy];simp only [List.length_cons];by_cases h0:x.k = 0
  ·rw [if_pos h0,if_neg (by omega)]; omega
  ·rw [if_neg h0]; split <;> omega
theorem jgv (l:List Nat) (n:Nat):∀ x ∈ tkN l n 3,x≤2:=by
 intro x hx;unfold tkN tab at hx;obtain ⟨j,-,rfl⟩:=List.mem_map.1 hx;split
 ·omega
 ·have:=Nat.mod_lt (l.getD (j % l.length) 0) (show 0 < 3 by omega);omega
theorem quw (c:Ci) (p:Pt):(q1g c p).cu:=⟨fun x hx=>by
  obtain ⟨y,-,rfl⟩:=List.mem_map.1 hx;omega,jgv _ _⟩
theorem qyw (c:Ci) (p:Pt):(q1g c p).fit c:=by
 have h:=quw c p;exact ⟨by simp [q1g],by simp [q1g],fun x hx=>by have:=h.1 x hx; omega,fun x hx=>by have:=h.2 x hx; omega⟩
theorem qrt {c:Ci} {p:Pt} (h:p.fit c):p.many = cnt 0 c.n + cnt 14 c.n:=by
 unfold Pt.many; rw [h.i,h.s]
theorem q1n (i k:Nat) (hk:k < 64):fb (BitVec.ofNat 64 i) k = i / 2 ^ k % 2:=by
 unfold fb;rw [Nat.mod_eq_of_lt hk,BitVec.getLsbD_ofNat,decide_eq_true hk,Bool.true_and,Nat.testBit_eq_decide_div_mod_eq];have:=Nat.mod_lt (i / 2 ^ k) (show 0 < 2 by omega);by_cases h:i / 2 ^ k % 2 = 1
 ·simp [h]
 ·simp [h]; omega
theorem qy9 (c:Ci) (i k:Nat) (hk:k < cnt 0 c.n + cnt 14 c.n) (h64:cnt 0 c.n + cnt 14 c.n≤60):(q1q c i).bit k = i / 2 ^ k % 2:=by
 unfold q1q qhr Pt.bit;dsimp only;rw [qgk];split
 ·rename_i h;unfold fbL;rw [jja,qnl _ h,Nat.zero_add];exact q1n i k (by omega)
 ·rename_i h;unfold fbL;rw [jja,qnl _ (by omega),show cnt 0 c.n + (k - cnt 0 c.n) = k by omega];exact q1n i k (by omega)
theorem q1f {c:Ci} {q:Pt} (hq:q.fit c) (h64:cnt 0 c.n + cnt 14 c.n≤60) (i:Nat) (h:qsz q i q.many = true):q.le (q1q c i):=by
 have hf:=qmu c i;refine Pt.le_bit.2 ⟨by rw [hq.i,hf.i],by rw [hq.s,hf.s],fun k hk=>?_⟩;have h1:=ji8 (List.all_eq_true.1 h k (List.mem_range.2 hk));rw [qrt hq] at hk;rw [qy9 c i k hk h64];exact h1.elim .inr .inl
theorem q65 {q:Pt} (h:q.cu) (k v:Nat) (hv:v≤2):(q.set k v).cu:=by
 have g:∀ (l:List Nat) (j:Nat),(∀ x ∈ l,x≤2)->∀ x ∈ l.set j v,x≤2:=fun l j hl x hx=>(List.mem_or_eq_of_mem_set hx).elim (hl x) fun e=>by omega
 unfold Pt.set;split
 ·exact ⟨g _ _ h.1,h.2⟩
 ·exact ⟨h.1,g _ _ h.2⟩
theorem qul (c:Ci):c.v = .agg [.sl (c.n.map Nd.v) none,.sl (c.s.map .str) none,.sl (c.m.map Md.v) none,.sl (qc5 c.o) none]:=rfl
def opn (q:Pt) (j:Nat):Bool:=(List.range j).any fun k=>decide (q.bit k = 2)
theorem q4i (q:Pt) (j:Nat):opn q (j + 1) = (opn q j || decide (q.bit j = 2)):=by
 unfold opn; rw [List.range_succ,List.any_append]; simp
theorem jge {q:Pt} {B:Nat} (h:opn q B = false) (k:Nat) (hk:k < B):q.bit k ≠ 2:=fun e=>by
 have:=List.any_eq_false.1 h k (List.mem_range.2 hk);rw [decide_eq_true e] at this;exact this rfl
set_option maxRecDepth 100000 in
theorem q77 (x:Cx) (hx:x.ok) (z:Fx) (hz:z.ok) (p:Pt):qad Tryz.prog gl0 6 [x.v,z.v,p.v] (.bool true):=by
 have hcs:=q4k x hx;have hcp:=qme x;have hg:=q36 x.pl;have hpl:=qys x.pl.nm rfl rfl;generalize x.pl.nm.ci = c at hcs hg hpl;have hn1:=hg.n1;have hst:=q4z c hg z hz;obtain ⟨hf,hfm⟩:=q93 c hg z;generalize stF c z = f at hst hf hfm;have hcu:=q66 p c (by omega);have hqf:=qyw c p;have hqc:=quw c p;generalize q1g c p = q at hcu hqf hqc;have hlv:=q3x;have hb:=q6l c (by omega);have l2:=quq c.n;have hmany:=qrt hqf;have hB60:cnt 0 c.n + cnt 14 c.n≤60:=by omega
 rw [<- hmany] at hb;obtain ⟨B,hB⟩:∃ B,q.many = B:=⟨_,rfl⟩;have hB20:B≤20:=by omega
 have hsh:=jgr hB20;have hp20:=q9m hB20;have hbl:=qhn c hg hpl f hf hfm q hqf hqc;have hse:=qw8 c hg hpl f hf hfm q hqf hqc;have hlw:=qss c hg f hf hfm q hqf;have hbit:=fun k hk=>q05 q k hk (by omega);have hb2:=fun k=>q06 (m:=2) hqc k;have hwi:=fun k v hk=>q49 q k v hk (by omega);have hbw:=fun k v (hv:v≤2)=>qhn c hg hpl f hf hfm (q.set k v) (jh3 hqf k v (by omega)) (q65 hqc k v hv);have hmo:qew c f q = true->∀ k v,k < B->q.bit k = 2->qew c f (q.set k v) = true:=fun h k v hk h2=>qym hg hf (jit (by omega) v h2) h;have hns:qew c f q = true->f.det c q = false:=fun h=>qpy hg hf (jis q) hqf h;have hful:(∀ k,k < B->q.bit k ≠ 2)->f.det c q = !qew c f q:=fun h=>qyl hg hpl hf hqf (Pt.kn_bit.2 fun k hk=>by have:=h k (by omega); have:=hb2 k; omega);have hco:=fun i hi=>qyv q i hi (by omega) hqc;have hfu:=fun i hi=>q7v c (by omega) i hi;have hdt:=fun i=>q1h c hg f hf hfm _ (qmu c i);have hbd:qew c f q = true->∀ i,qsz q i B = true->f.det c (q1q c i) = false:=fun h i hi=>qpy hg hf (q1f hqf hB60 i (by rw [hB]; exact hi)) (qmu c i) h;have hsd:f.det c q = true->∀ i,qsz q i B = true->f.det c (q1q c i) = true:=fun h i hi=>qyy c f (q1f hqf hB60 i (by rw [hB]; exact hi)) h;have hpa:=qz9 c hg hpl f hf hfm q hqf hqc;have hr1:=q0i c hg q hqf;have hr2:=qw0 c hg f hf hfm q hqf;have e1:(tab c.n.length fun i=>u8V (qb8 c q i)) = tU c.n.length (qb8 c q):=rfl;rw [e1] at hr1;have hs1:=qw5 c.n.length (qb8 c q) (some c.n.length) (some c.n.length) (by omega);have hs2:=qw5 c.n.length (f.M c q) (some c.n.length) (some c.n.length) (by omega);have pu1:jhf (tU c.n.length (qb8 c q)) = true:=qbr _ _;have pu2:jhf (tU c.n.length (f.M c q)) = true:=qbr _ _;have po1:jhf ((qj7 c (qb8 c q)).map u8V) = true:=qab _;rw [hB] at hb hbit hwi;simp only [hB] at hco;generalize qew c f q = OK at *;generalize hDet:f.det c q = SN at *;simp only [qfg] at hr1 hr2;generalize tU c.n.length (qb8 c q) = TA at *;generalize tU c.n.length (f.M c q) = TB at *;generalize (qj7 c (qb8 c q)).map u8V = o1 at *;generalize (qkx c (qb8 c q)).map u8V = o2 at *;generalize (qfe c (f.M c q)).map u8V = o3 at *;generalize (qff c f.sQ (f.M c q)).map u8V = o4 at *;simp only [Cx.v] at hcs hcp;simp only [Fx.v,u8V] at hst;simp only [qaa,Ft.w,u8V,Pt.v] at hb hst hbl hse hlw hcu hpa hr1 hr2;refine ji4 2 ok6 rfl ?_;simp [i6,x6,nop,Cx.v,Fx.v,u8V,Pt.v];intro gf2 gf3 gf4;refine ji0 hcs (by simp only [jhf,Bool.and_true]; exact hcp) ?_;simp;intro gf5;refine ji0 hst (by simp [qaf,qag,qae,qae,qab]) ?_;simp;intro gf6;refine ji0 hcu (by simp [qaf,qag,qae,qab]) ?_;simp;intro gf7;refine ji0 hb (by simp [qaf,qag,qae,qab]) ?_;simp;refine ji0 hbl (by simp [qaf,qag,qae,qab]) ?_;simp;refine ji0 hse (by simp [qaf,qag,qae,qab]) ?_;simp;refine ji0 hlw (by simp [qaf,qag,qae,qab]) ?_;simp;clear hcs hcp hst hcu hb hbl hse hlw;generalize gf5 7 = g7;generalize gf6 8 = g8;generalize gf7 9 = g9
 have hcase:(OK = true/\SN = false)∨(OK = false/\SN = true)∨(OK = false/\SN = false):=by
  cases OK with
  | true=>exact .inl ⟨rfl,hns rfl⟩
  | false=>cases SN <;> simp
 rcases hcase with ⟨k1,k2⟩ | ⟨k1,k2⟩ | ⟨k1,k2⟩
 ·subst k1 k2;simp
  refine ji3 (X:=Nat) (fun j=>[(16,qaa j),(15,.bool (opn q j)),(13,.bool false),(11,.bool true),(10,qaa B),(9,.ptr 9 g9 0 0),(8,.ptr 8 g8 0 0),(7,.ptr 7 g7 0 0)]) (fun _=>[(9,.row g9 2 [q.v]),(8,.row g8 5 [f.w]),(7,.row g7 4 [c.v])])
   (fun j=>j≤B) (fun j=>B - j) 0 (Nat.zero_le _) (by simp [qaa,opn]) (by simp [Ft.w,u8V,qaa,Pt.v,qul]) ?_
  intro j hj;simp [qaa];refine ji1 (fun hb=>?_) (fun hb=>?_)
  ·have hj2:j < B:=ji8 hb;have hwj:=qa5 j (by omega);have h1:=hbit j hj2;have hos:=q4i q j;obtain ⟨x,hx⟩:∃ x,q.bit j = x:=⟨_,rfl⟩;have hx2:=hb2 j;rw [hx] at h1 hos hx2;simp only [qaa,Pt.v] at h1;simp [Pt.v];refine ji0 h1 (by simp [qab]) ?_;by_cases kx:x = 2
   ·have hos2:opn q (j + 1) = true:=by rw [hos,decide_eq_true kx,Bool.or_true]
    subst kx;simp [u8V]
    refine ji3 (X:=Nat) (fun v=>[(17,u8V v),(16,qaa j),(15,.bool true),(13,.bool false),(11,.bool true),(10,qaa B),(9,.ptr 9 g9 0 0),(8,.ptr 8 g8 0 0),(7,.ptr 7 g7 0 0)]) (fun _=>[(9,.row g9 2 [q.v]),(8,.row g8 5 [f.w]),(7,.row g7 4 [c.v])])
     (fun v=>v≤2) (fun v=>2 - v) 0 (Nat.zero_le _) (by simp [qaa,u8V]) (by simp [Ft.w,u8V,qaa,Pt.v,qul]) ?_
    intro v hv;have h2:=hwi j v hj2;have h3:=hbw j v hv;simp only [qaa,Pt.v,Ft.w,u8V] at h2 h3;rcases (by omega:v = 0∨v = 1∨v = 2) with rfl | rfl | rfl
    ·have hmm:=hmo rfl j 0 hj2 hx;rw [hmm] at h3;simp [u8V,qaa,Pt.v,Ft.w];intro gm
     first | refine ⟨_,_,_,.pure h2 (by simp [qaf,qag,qae,qab]),?_⟩ | refine ⟨_,⟨_,_,.pure h2 (by simp [qaf,qag,qae,qab])⟩,?_⟩ | refine ⟨_,_,⟨_,.pure h2 (by simp [qaf,qag,qae,qab])⟩,?_⟩
     simp
     first | refine ⟨_,_,_,.pure h3 (by simp [qaf,qag,qae,qab]),?_⟩ | refine ⟨_,⟨_,_,.pure h3 (by simp [qaf,qag,qae,qab])⟩,?_⟩ | refine ⟨_,_,⟨_,.pure h3 (by simp [qaf,qag,qae,qab])⟩,?_⟩
     simp;refine ⟨by decide,?_⟩;exact ⟨1,by omega,by simp; rfl,by omega⟩
    ·have hmm:=hmo rfl j 1 hj2 hx;rw [hmm] at h3;simp [u8V,qaa,Pt.v,Ft.w];intro gm
     first | refine ⟨_,_,_,.pure h2 (by simp [qaf,qag,qae,qab]),?_⟩ | refine ⟨_,⟨_,_,.pure h2 (by simp [qaf,qag,qae,qab])⟩,?_⟩ | refine ⟨_,_,⟨_,.pure h2 (by simp [qaf,qag,qae,qab])⟩,?_⟩
     simp
     first | refine ⟨_,_,_,.pure h3 (by simp [qaf,qag,qae,qab]),?_⟩ | refine ⟨_,⟨_,_,.pure h3 (by simp [qaf,qag,qae,qab])⟩,?_⟩ | refine ⟨_,_,⟨_,.pure h3 (by simp [qaf,qag,qae,qab])⟩,?_⟩
     simp;refine ⟨by decide,?_⟩;exact ⟨2,by omega,by simp; rfl,by omega⟩
    ·simp [u8V,qaa,Pt.v];exact ⟨j + 1,hj2,by simp [hos2,hwj],by omega⟩
   ·have hos2:opn q (j + 1) = opn q j:=by rw [hos,decide_eq_false kx,Bool.or_false]
    simp [u8V,kx];exact ⟨j + 1,hj2,by simp [hos2,hwj],by omega⟩
  ·have hj3:j = B:=by have:=ji9 hb; omega
   subst hj3
   have hO:opn q j = true∨opn q j = false:=by
    cases hO:opn q j with
    | true=>exact .inl rfl
    | false=>exact .inr rfl
   rcases hO with hO | hO
   ·obtain ⟨M,hM⟩:∃ M,2 ^ j = M:=⟨_,rfl⟩;rw [hM] at hsh hp20;simp [hO]
    refine ji3 (X:=Nat) (fun i=>[(20,qaa i),(13,.bool false),(11,.bool true),(10,qaa j),(9,.ptr 9 g9 0 0),(8,.ptr 8 g8 0 0),(7,.ptr 7 g7 0 0)]) (fun _=>[(9,.row g9 2 [q.v]),(8,.row g8 5 [f.w]),(7,.row g7 4 [c.v])])
     (fun i=>i≤M) (fun i=>M - i) 0 (Nat.zero_le _) (by simp [qaa]) (by simp [Ft.w,u8V,qaa,Pt.v,qul]) ?_
    intro i hi;simp [qaa,hsh];refine ji1 (fun hb4=>?_) (fun hb4=>?_)
    ·have hi2:i < M:=ji8 hb4;have hwi2:=qa5 i (by omega);have h1:=hco i (by omega);have h2:=hfu i (by omega);have h3:=hdt i
     have hu:IntKind.u64.wrap (i:Int) = (i:Int):=by
      show ((i:Int) % 18446744073709551616) = _;omega
     simp only [qaa,Pt.v,Ft.w,u8V] at h1 h2 h3;simp [hi2,Pt.v];refine ji0 h1 (by simp [qab]) ?_
     cases hc:qsz q i j with
     | true=>
      have hdv:=hbd rfl i hc;rw [hdv] at h3;simp [hu,Ft.w,u8V,qaa];intro gm
      first | refine ⟨_,_,_,.pure h2 (by simp [qaf,qag,qae,qab]),?_⟩ | refine ⟨_,⟨_,_,.pure h2 (by simp [qaf,qag,qae,qab])⟩,?_⟩ | refine ⟨_,_,⟨_,.pure h2 (by simp [qaf,qag,qae,qab])⟩,?_⟩
      simp
      first | refine ⟨_,_,_,.pure h3 (by simp [qaf,qag,qae,qab]),?_⟩ | refine ⟨_,⟨_,_,.pure h3 (by simp [qaf,qag,qae,qab])⟩,?_⟩ | refine ⟨_,_,⟨_,.pure h3 (by simp [qaf,qag,qae,qab])⟩,?_⟩
      simp;refine ⟨by decide,?_⟩;exact ⟨i + 1,hi2,by simp [hwi2],by omega⟩
     | false=>
      simp;exact ⟨i + 1,hi2,by simp [hwi2],by omega⟩
    ·have hi3:i = M:=by have:=ji9 hb4; omega
     subst hi3;simp [Pt.v,Ft.w,u8V,qaa];refine ji0 hpa (by simp [qaf,qag,qae,qab]) ?_;simp;refine ji0 hr1 (by simp [qaf,qag,qae,qab]) ?_;simp;intro gfa;refine ji0 hr2 (by simp [qaf,qag,qae,qab]) ?_;simp;intro gfb;refine ji0 hs1 (by simp [pu1]) ?_;simp;refine ji0 hs2 (by simp [pu2]) ?_;simp;refine ji0 hlv rfl ?_;simp
   ·obtain ⟨M,hM⟩:∃ M,2 ^ j = M:=⟨_,rfl⟩;rw [hM] at hsh hp20;simp [hO]
    refine ji3 (X:=Nat) (fun i=>[(20,qaa i),(13,.bool false),(11,.bool true),(10,qaa j),(9,.ptr 9 g9 0 0),(8,.ptr 8 g8 0 0),(7,.ptr 7 g7 0 0)]) (fun _=>[(9,.row g9 2 [q.v]),(8,.row g8 5 [f.w]),(7,.row g7 4 [c.v])])
     (fun i=>i≤M) (fun i=>M - i) 0 (Nat.zero_le _) (by simp [qaa]) (by simp [Ft.w,u8V,qaa,Pt.v,qul]) ?_
    intro i hi;simp [qaa,hsh];refine ji1 (fun hb4=>?_) (fun hb4=>?_)
    ·have hi2:i < M:=ji8 hb4;have hwi2:=qa5 i (by omega);have h1:=hco i (by omega);have h2:=hfu i (by omega);have h3:=hdt i
     have hu:IntKind.u64.wrap (i:Int) = (i:Int):=by
      show ((i:Int) % 18446744073709551616) = _;omega
     simp only [qaa,Pt.v,Ft.w,u8V] at h1 h2 h3;simp [hi2,Pt.v];refine ji0 h1 (by simp [qab]) ?_
     cases hc:qsz q i j with
     | true=>
      have hdv:=hbd rfl i hc;rw [hdv] at h3;simp [hu,Ft.w,u8V,qaa];intro gm
      first | refine ⟨_,_,_,.pure h2 (by simp [qaf,qag,qae,qab]),?_⟩ | refine ⟨_,⟨_,_,.pure h2 (by simp [qaf,qag,qae,qab])⟩,?_⟩ | refine ⟨_,_,⟨_,.pure h2 (by simp [qaf,qag,qae,qab])⟩,?_⟩
      simp
      first | refine ⟨_,_,_,.pure h3 (by simp [qaf,qag,qae,qab]),?_⟩ | refine ⟨_,⟨_,_,.pure h3 (by simp [qaf,qag,qae,qab])⟩,?_⟩ | refine ⟨_,_,⟨_,.pure h3 (by simp [qaf,qag,qae,qab])⟩,?_⟩
      simp;refine ⟨by decide,?_⟩;exact ⟨i + 1,hi2,by simp [hwi2],by omega⟩
     | false=>
      simp;exact ⟨i + 1,hi2,by simp [hwi2],by omega⟩
    ·have hi3:i = M:=by have:=ji9 hb4; omega
     subst hi3;simp [Pt.v,Ft.w,u8V,qaa];refine ji0 hpa (by simp [qaf,qag,qae,qab]) ?_;simp;refine ji0 hr1 (by simp [qaf,qag,qae,qab]) ?_;simp;intro gfa;refine ji0 hr2 (by simp [qaf,qag,qae,qab]) ?_;simp;intro gfb;refine ji0 hs1 (by simp [pu1]) ?_;simp;refine ji0 hs2 (by simp [pu2]) ?_;simp;refine ji0 hlv rfl ?_;simp
 ·subst k1 k2;simp
  refine ji3 (X:=Nat) (fun j=>[(16,qaa j),(15,.bool (opn q j)),(13,.bool true),(11,.bool false),(10,qaa B),(9,.ptr 9 g9 0 0),(8,.ptr 8 g8 0 0),(7,.ptr 7 g7 0 0)]) (fun _=>[(9,.row g9 2 [q.v]),(8,.row g8 5 [f.w]),(7,.row g7 4 [c.v])])
   (fun j=>j≤B) (fun j=>B - j) 0 (Nat.zero_le _) (by simp [qaa,opn]) (by simp [Ft.w,u8V,qaa,Pt.v,qul]) ?_
  intro j hj;simp [qaa];refine ji1 (fun hb=>?_) (fun hb=>?_)
  ·have hj2:j < B:=ji8 hb;have hwj:=qa5 j (by omega);have h1:=hbit j hj2;have hos:=q4i q j;obtain ⟨x,hx⟩:∃ x,q.bit j = x:=⟨_,rfl⟩;have hx2:=hb2 j;rw [hx] at h1 hos hx2;simp only [qaa,Pt.v] at h1;simp [Pt.v];refine ji0 h1 (by simp [qab]) ?_;by_cases kx:x = 2
   ·have hos2:opn q (j + 1) = true:=by rw [hos,decide_eq_true kx,Bool.or_true]
    subst kx;simp [u8V]
    refine ji3 (X:=Nat) (fun v=>[(17,u8V v),(16,qaa j),(15,.bool true),(13,.bool true),(11,.bool false),(10,qaa B),(9,.ptr 9 g9 0 0),(8,.ptr 8 g8 0 0),(7,.ptr 7 g7 0 0)]) (fun _=>[(9,.row g9 2 [q.v]),(8,.row g8 5 [f.w]),(7,.row g7 4 [c.v])])
     (fun v=>v≤2) (fun v=>2 - v) 0 (Nat.zero_le _) (by simp [qaa,u8V]) (by simp [Ft.w,u8V,qaa,Pt.v,qul]) ?_
    intro v hv;have h2:=hwi j v hj2;have h3:=hbw j v hv;simp only [qaa,Pt.v,Ft.w,u8V] at h2 h3;rcases (by omega:v = 0∨v = 1∨v = 2) with rfl | rfl | rfl
    ·simp [u8V,qaa,Pt.v,Ft.w];intro gm
     first | refine ⟨_,_,_,.pure h2 (by simp [qaf,qag,qae,qab]),?_⟩ | refine ⟨_,⟨_,_,.pure h2 (by simp [qaf,qag,qae,qab])⟩,?_⟩ | refine ⟨_,_,⟨_,.pure h2 (by simp [qaf,qag,qae,qab])⟩,?_⟩
     simp
     first | refine ⟨_,_,_,.pure h3 (by simp [qaf,qag,qae,qab]),?_⟩ | refine ⟨_,⟨_,_,.pure h3 (by simp [qaf,qag,qae,qab])⟩,?_⟩ | refine ⟨_,_,⟨_,.pure h3 (by simp [qaf,qag,qae,qab])⟩,?_⟩
     simp;refine ⟨by decide,?_⟩;exact ⟨1,by omega,by simp; rfl,by omega⟩
    ·simp [u8V,qaa,Pt.v,Ft.w];intro gm
     first | refine ⟨_,_,_,.pure h2 (by simp [qaf,qag,qae,qab]),?_⟩ | refine ⟨_,⟨_,_,.pure h2 (by simp [qaf,qag,qae,qab])⟩,?_⟩ | refine ⟨_,_,⟨_,.pure h2 (by simp [qaf,qag,qae,qab])⟩,?_⟩
     simp
     first | refine ⟨_,_,_,.pure h3 (by simp [qaf,qag,qae,qab]),?_⟩ | refine ⟨_,⟨_,_,.pure h3 (by simp [qaf,qag,qae,qab])⟩,?_⟩ | refine ⟨_,_,⟨_,.pure h3 (by simp [qaf,qag,qae,qab])⟩,?_⟩
     simp;refine ⟨by decide,?_⟩;exact ⟨2,by omega,by simp; rfl,by omega⟩
    ·simp [u8V,qaa,Pt.v];exact ⟨j + 1,hj2,by simp [hos2,hwj],by omega⟩
   ·have hos2:opn q (j + 1) = opn q j:=by rw [hos,decide_eq_false kx,Bool.or_false]
    simp [u8V,kx];exact ⟨j + 1,hj2,by simp [hos2,hwj],by omega⟩
  ·have hj3:j = B:=by have:=ji9 hb; omega
   subst hj3
   have hO:opn q j = true∨opn q j = false:=by
    cases hO:opn q j with
    | true=>exact .inl rfl
    | false=>exact .inr rfl
   rcases hO with hO | hO
   ·obtain ⟨M,hM⟩:∃ M,2 ^ j = M:=⟨_,rfl⟩;rw [hM] at hsh hp20;simp [hO]
    refine ji3 (X:=Nat) (fun i=>[(20,qaa i),(13,.bool true),(11,.bool false),(10,qaa j),(9,.ptr 9 g9 0 0),(8,.ptr 8 g8 0 0),(7,.ptr 7 g7 0 0)]) (fun _=>[(9,.row g9 2 [q.v]),(8,.row g8 5 [f.w]),(7,.row g7 4 [c.v])])
     (fun i=>i≤M) (fun i=>M - i) 0 (Nat.zero_le _) (by simp [qaa]) (by simp [Ft.w,u8V,qaa,Pt.v,qul]) ?_
    intro i hi;simp [qaa,hsh];refine ji1 (fun hb4=>?_) (fun hb4=>?_)
    ·have hi2:i < M:=ji8 hb4;have hwi2:=qa5 i (by omega);have h1:=hco i (by omega);have h2:=hfu i (by omega);have h3:=hdt i
     have hu:IntKind.u64.wrap (i:Int) = (i:Int):=by
      show ((i:Int) % 18446744073709551616) = _;omega
     simp only [qaa,Pt.v,Ft.w,u8V] at h1 h2 h3;simp [hi2,Pt.v];refine ji0 h1 (by simp [qab]) ?_
     cases hc:qsz q i j with
     | true=>
      have hdv:=hsd rfl i hc;rw [hdv] at h3;simp [hu,Ft.w,u8V,qaa];intro gm
      first | refine ⟨_,_,_,.pure h2 (by simp [qaf,qag,qae,qab]),?_⟩ | refine ⟨_,⟨_,_,.pure h2 (by simp [qaf,qag,qae,qab])⟩,?_⟩ | refine ⟨_,_,⟨_,.pure h2 (by simp [qaf,qag,qae,qab])⟩,?_⟩
      simp
      first | refine ⟨_,_,_,.pure h3 (by simp [qaf,qag,qae,qab]),?_⟩ | refine ⟨_,⟨_,_,.pure h3 (by simp [qaf,qag,qae,qab])⟩,?_⟩ | refine ⟨_,_,⟨_,.pure h3 (by simp [qaf,qag,qae,qab])⟩,?_⟩
      simp;refine ⟨by decide,?_⟩;exact ⟨i + 1,hi2,by simp [hwi2],by omega⟩
     | false=>
      simp;exact ⟨i + 1,hi2,by simp [hwi2],by omega⟩
    ·have hi3:i = M:=by have:=ji9 hb4; omega
     subst hi3;simp [Pt.v,Ft.w,u8V,qaa];refine ji0 hpa (by simp [qaf,qag,qae,qab]) ?_;simp;refine ji0 hr1 (by simp [qaf,qag,qae,qab]) ?_;simp;intro gfa;refine ji0 hr2 (by simp [qaf,qag,qae,qab]) ?_;simp;intro gfb;refine ji0 hs1 (by simp [pu1]) ?_;simp;refine ji0 hs2 (by simp [pu2]) ?_;simp;refine ji0 hlv rfl ?_;simp
   ·obtain ⟨M,hM⟩:∃ M,2 ^ j = M:=⟨_,rfl⟩;rw [hM] at hsh hp20;simp [hO]
    refine ji3 (X:=Nat) (fun i=>[(20,qaa i),(13,.bool true),(11,.bool false),(10,qaa j),(9,.ptr 9 g9 0 0),(8,.ptr 8 g8 0 0),(7,.ptr 7 g7 0 0)]) (fun _=>[(9,.row g9 2 [q.v]),(8,.row g8 5 [f.w]),(7,.row g7 4 [c.v])])
     (fun i=>i≤M) (fun i=>M - i) 0 (Nat.zero_le _) (by simp [qaa]) (by simp [Ft.w,u8V,qaa,Pt.v,qul]) ?_
    intro i hi;simp [qaa,hsh];refine ji1 (fun hb4=>?_) (fun hb4=>?_)
    ·have hi2:i < M:=ji8 hb4;have hwi2:=qa5 i (by omega);have h1:=hco i (by omega);have h2:=hfu i (by omega);have h3:=hdt i
     have hu:IntKind.u64.wrap (i:Int) = (i:Int):=by
      show ((i:Int) % 18446744073709551616) = _;omega
     simp only [qaa,Pt.v,Ft.w,u8V] at h1 h2 h3;simp [hi2,Pt.v];refine ji0 h1 (by simp [qab]) ?_
     cases hc:qsz q i j with
     | true=>
      have hdv:=hsd rfl i hc;rw [hdv] at h3;simp [hu,Ft.w,u8V,qaa];intro gm
      first | refine ⟨_,_,_,.pure h2 (by simp [qaf,qag,qae,qab]),?_⟩ | refine ⟨_,⟨_,_,.pure h2 (by simp [qaf,qag,qae,qab])⟩,?_⟩ | refine ⟨_,_,⟨_,.pure h2 (by simp [qaf,qag,qae,qab])⟩,?_⟩
      simp
      first | refine ⟨_,_,_,.pure h3 (by simp [qaf,qag,qae,qab]),?_⟩ | refine ⟨_,⟨_,_,.pure h3 (by simp [qaf,qag,qae,qab])⟩,?_⟩ | refine ⟨_,_,⟨_,.pure h3 (by simp [qaf,qag,qae,qab])⟩,?_⟩
      simp;refine ⟨by decide,?_⟩;exact ⟨i + 1,hi2,by simp [hwi2],by omega⟩
     | false=>
      simp;exact ⟨i + 1,hi2,by simp [hwi2],by omega⟩
    ·have hi3:i = M:=by have:=ji9 hb4; omega
     subst hi3;simp [Pt.v,Ft.w,u8V,qaa];refine ji0 hpa (by simp [qaf,qag,qae,qab]) ?_;simp;refine ji0 hr1 (by simp [qaf,qag,qae,qab]) ?_;simp;intro gfa;refine ji0 hr2 (by simp [qaf,qag,qae,qab]) ?_;simp;intro gfb;refine ji0 hs1 (by simp [pu1]) ?_;simp;refine ji0 hs2 (by simp [pu2]) ?_;simp;refine ji0 hlv rfl ?_;simp
 ·subst k1 k2;simp
  refine ji3 (X:=Nat) (fun j=>[(16,qaa j),(15,.bool (opn q j)),(13,.bool false),(11,.bool false),(10,qaa B),(9,.ptr 9 g9 0 0),(8,.ptr 8 g8 0 0),(7,.ptr 7 g7 0 0)]) (fun _=>[(9,.row g9 2 [q.v]),(8,.row g8 5 [f.w]),(7,.row g7 4 [c.v])])
   (fun j=>j≤B) (fun j=>B - j) 0 (Nat.zero_le _) (by simp [qaa,opn]) (by simp [Ft.w,u8V,qaa,Pt.v,qul]) ?_
  intro j hj;simp [qaa];refine ji1 (fun hb=>?_) (fun hb=>?_)
  ·have hj2:j < B:=ji8 hb;have hwj:=qa5 j (by omega);have h1:=hbit j hj2;have hos:=q4i q j;obtain ⟨x,hx⟩:∃ x,q.bit j = x:=⟨_,rfl⟩;have hx2:=hb2 j;rw [hx] at h1 hos hx2;simp only [qaa,Pt.v] at h1;simp [Pt.v];refine ji0 h1 (by simp [qab]) ?_;by_cases kx:x = 2
   ·have hos2:opn q (j + 1) = true:=by rw [hos,decide_eq_true kx,Bool.or_true]
    subst kx;simp [u8V]
    refine ji3 (X:=Nat) (fun v=>[(17,u8V v),(16,qaa j),(15,.bool true),(13,.bool false),(11,.bool false),(10,qaa B),(9,.ptr 9 g9 0 0),(8,.ptr 8 g8 0 0),(7,.ptr 7 g7 0 0)]) (fun _=>[(9,.row g9 2 [q.v]),(8,.row g8 5 [f.w]),(7,.row g7 4 [c.v])])
     (fun v=>v≤2) (fun v=>2 - v) 0 (Nat.zero_le _) (by simp [qaa,u8V]) (by simp [Ft.w,u8V,qaa,Pt.v,qul]) ?_
    intro v hv;have h2:=hwi j v hj2;have h3:=hbw j v hv;simp only [qaa,Pt.v,Ft.w,u8V] at h2 h3;rcases (by omega:v = 0∨v = 1∨v = 2) with rfl | rfl | rfl
    ·simp [u8V,qaa,Pt.v,Ft.w];intro gm
     first | refine ⟨_,_,_,.pure h2 (by simp [qaf,qag,qae,qab]),?_⟩ | refine ⟨_,⟨_,_,.pure h2 (by simp [qaf,qag,qae,qab])⟩,?_⟩ | refine ⟨_,_,⟨_,.pure h2 (by simp [qaf,qag,qae,qab])⟩,?_⟩
     simp
     first | refine ⟨_,_,_,.pure h3 (by simp [qaf,qag,qae,qab]),?_⟩ | refine ⟨_,⟨_,_,.pure h3 (by simp [qaf,qag,qae,qab])⟩,?_⟩ | refine ⟨_,_,⟨_,.pure h3 (by simp [qaf,qag,qae,qab])⟩,?_⟩
     simp;refine ⟨by decide,?_⟩;exact ⟨1,by omega,by simp; rfl,by omega⟩
    ·simp [u8V,qaa,Pt.v,Ft.w];intro gm
     first | refine ⟨_,_,_,.pure h2 (by simp [qaf,qag,qae,qab]),?_⟩ | refine ⟨_,⟨_,_,.pure h2 (by simp [qaf,qag,qae,qab])⟩,?_⟩ | refine ⟨_,_,⟨_,.pure h2 (by simp [qaf,qag,qae,qab])⟩,?_⟩
     simp
     first | refine ⟨_,_,_,.pure h3 (by simp [qaf,qag,qae,qab]),?_⟩ | refine ⟨_,⟨_,_,.pure h3 (by simp [qaf,qag,qae,qab])⟩,?_⟩ | refine ⟨_,_,⟨_,.pure h3 (by simp [qaf,qag,qae,qab])⟩,?_⟩
     simp;refine ⟨by decide,?_⟩;exact ⟨2,by omega,by simp; rfl,by omega⟩
    ·simp [u8V,qaa,Pt.v];exact ⟨j + 1,hj2,by simp [hos2,hwj],by omega⟩
   ·have hos2:opn q (j + 1) = opn q j:=by rw [hos,decide_eq_false kx,Bool.or_false]
    simp [u8V,kx];exact ⟨j + 1,hj2,by simp [hos2,hwj],by omega⟩
  ·have hj3:j = B:=by have:=ji9 hb; omega
   subst hj3
   have hO:opn q j = true∨False:=by
    cases hO:opn q j with
    | true=>exact .inl rfl
    | false=>have:=hful (jge hO); simp at this
   have hO:opn q j = true:=hO.elim id False.elim;obtain ⟨M,hM⟩:∃ M,2 ^ j = M:=⟨_,rfl⟩;rw [hM] at hsh hp20;simp [hO]
   refine ji3 (X:=Nat) (fun i=>[(20,qaa i),(13,.bool false),(11,.bool false),(10,qaa j),(9,.ptr 9 g9 0 0),(8,.ptr 8 g8 0 0),(7,.ptr 7 g7 0 0)]) (fun _=>[(9,.row g9 2 [q.v]),(8,.row g8 5 [f.w]),(7,.row g7 4 [c.v])])
    (fun i=>i≤M) (fun i=>M - i) 0 (Nat.zero_le _) (by simp [qaa]) (by simp [Ft.w,u8V,qaa,Pt.v,qul]) ?_
   intro i hi;simp [qaa,hsh];refine ji1 (fun hb4=>?_) (fun hb4=>?_)
   ·have hi2:i < M:=ji8 hb4;have hwi2:=qa5 i (by omega);have h1:=hco i (by omega);have h2:=hfu i (by omega);have h3:=hdt i
    have hu:IntKind.u64.wrap (i:Int) = (i:Int):=by
     show ((i:Int) % 18446744073709551616) = _;omega
    simp only [qaa,Pt.v,Ft.w,u8V] at h1 h2 h3;simp [hi2,Pt.v];refine ji0 h1 (by simp [qab]) ?_
    cases hc:qsz q i j with
    | true=>
     generalize f.det c (q1q c i) = dv at h3;simp [hu,Ft.w,u8V,qaa];intro gm
     first | refine ⟨_,_,_,.pure h2 (by simp [qaf,qag,qae,qab]),?_⟩ | refine ⟨_,⟨_,_,.pure h2 (by simp [qaf,qag,qae,qab])⟩,?_⟩ | refine ⟨_,_,⟨_,.pure h2 (by simp [qaf,qag,qae,qab])⟩,?_⟩
     simp
     first | refine ⟨_,_,_,.pure h3 (by simp [qaf,qag,qae,qab]),?_⟩ | refine ⟨_,⟨_,_,.pure h3 (by simp [qaf,qag,qae,qab])⟩,?_⟩ | refine ⟨_,_,⟨_,.pure h3 (by simp [qaf,qag,qae,qab])⟩,?_⟩
     simp;refine ⟨by decide,?_⟩;exact ⟨i + 1,hi2,by simp [hwi2],by omega⟩
    | false=>
     simp;exact ⟨i + 1,hi2,by simp [hwi2],by omega⟩
   ·have hi3:i = M:=by have:=ji9 hb4; omega
    subst hi3;simp [Pt.v,Ft.w,u8V,qaa];refine ji0 hpa (by simp [qaf,qag,qae,qab]) ?_;simp;refine ji0 hr1 (by simp [qaf,qag,qae,qab]) ?_;simp;intro gfa;refine ji0 hr2 (by simp [qaf,qag,qae,qab]) ?_;simp;intro gfb;refine ji0 hs1 (by simp [pu1]) ?_;simp;refine ji0 hs2 (by simp [pu2]) ?_;simp;refine ji0 hlv rfl ?_;simp
end Go.Proofs.YtpaopccohkldlaaGreatDoor
