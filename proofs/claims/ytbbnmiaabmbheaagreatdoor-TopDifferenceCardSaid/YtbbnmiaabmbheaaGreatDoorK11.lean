/- Lemmas. Conditions: none. -/
import Derived.Test.YtbbnmiaabmbheaaGreatDoorK7
import Derived.Test.YtbbnmiaabmbheaaGreatDoorXTR
set_option linter.all false
namespace Go.Proofs.YtbbnmiaabmbheaaGreatDoor
section
open Go
theorem jdw (m:Nat) (h:m < 24):qac Tryz.prog gl0 115 [.int .u64 1,.int .u64 (m:Int)] (.tup [.int .u64 0,.int .u64 (m:Int)]):=by
 have hc:m = 0∨m = 1∨m = 2∨m = 3∨m = 4∨m = 5∨m = 6∨m = 7∨m = 8∨m = 9∨m = 10∨m = 11∨m = 12∨m = 13∨m = 14∨m = 15∨m = 16∨m = 17∨m = 18∨m = 19∨m = 20∨m = 21∨m = 22∨m = 23:=by omega
 rcases hc with rfl | rfl | rfl | rfl | rfl | rfl | rfl | rfl | rfl | rfl | rfl | rfl | rfl | rfl | rfl | rfl | rfl | rfl | rfl | rfl | rfl | rfl | rfl | rfl
 all_goals exact jji q4v (m:=100000) (d:=2) (by kernel_rfl)
def rpV (n m:Nat):List V:=List.replicate n (.int .i64 (-1)) ++ List.replicate (m - n) (.int .i64 0)
@[simp] theorem q4p {n m:Nat} (h:n≤m):(rpV n m).length = m:=by simp [rpV]; omega
theorem qzj {n m:Nat} (h:n≤m):(rpV n m).take n ++ ((rpV n m).take n).take (min n (m - n)) ++ (rpV n m).drop (n + min n (m - n)) = rpV (n + min n (m - n)) m:=by
 have h1:(rpV n m).take n = List.replicate n (.int .i64 (-1)):=by
  unfold rpV; rw [List.take_left' (by simp)]
 have h2:(rpV n m).drop (n + min n (m - n)) = List.replicate (m - (n + min n (m - n))) (.int .i64 0):=by
  unfold rpV;rw [<- List.drop_drop,List.drop_left' (by simp),List.drop_replicate];congr 1; omega
 rw [h1,h2];unfold rpV;rw [List.take_replicate,List.replicate_append_replicate];congr 2; omega
theorem qzf (m:Nat) (h0:0 < m) (h:m < 24):qce Tryz.prog gl0 160 [.sl [.int .i64 (-1)] (some 1),.int .i64 (m:Int)] (qxg 1 (List.replicate m (.int .i64 (-1))) (some m)):=by
 refine jj9 q66 rfl ?_;have hm:=jdw m h
 have hc:IntKind.u64.wrap (m:Int) = (m:Int):=by
  show ((m:Int) % 18446744073709551616) = _;omega
 have hc1:IntKind.u64.wrap 1 = 1:=rfl;have hi:IntKind.i64.wrap (m:Int) = (m:Int):=by rw [qas] <;> omega
 simp [jce,x160,hc,hc1];refine jj4 hm (by simp) ?_;have hle:¬ (9223372036854775807:Int) < (m:Int):=by omega
 simp [hle,hi,nop,show m≤549755813888 by omega];have hm1:min 1 m = 1:=by omega
 have hini:[V.int IntKind.i64 (-1)] ++ List.replicate (m - 1) (V.int IntKind.i64 0) = rpV 1 m:=rfl;intro gf;generalize gf 30 = g;rw [hm1];refine jj6 (X:=Nat) (fun n=>[(8,qab n),(7,.ref 30 g 0 m (some m))]) (fun n=>[(30,.row g 1 (rpV n m))]) (fun n=>1≤n/\n≤m) (fun n=>m - n) 1 ⟨by simp,h0⟩ (by simp [qab]) (by simp [<- hini]) ?_;rintro n ⟨h1,h2⟩;simp [qab];refine jj5 (fun hb=>?_) (fun hb=>?_)
 ·have hn:n < m:=jkb hb;simp [nop,h2,qab];exact ⟨n + min n (m - n),⟨by omega,by omega⟩,qtt rfl (by omega),by rw [<- List.append_assoc]; exact qzj h2,by omega⟩
 ·have hn:n = m:=by have:=jkc hb; omega
  subst hn;have he:rpV n n = List.replicate n (.int .i64 (-1)):=by simp [rpV]
  simp [he];refine .move 30 0 _ (by simp) (by simp; rfl) fun g=>.done ?_;simp;exact ⟨[(0,.row g 1 (List.replicate n (.int .i64 (-1))))],by simp [List.map_replicate],g,by simp,rfl⟩
noncomputable def qi0 (c:Ci):List Nat:=lvL c.n.length (qew c) c.n.length
theorem qor {c:Ci} (hv:c.val) (ha:qgk c):c.n.length≤(qi0 c).length:=qvj fun x hx=>ha.lv.lt hv.g x hx
theorem qhp {c:Ci} (hv:c.val) (ha:qgk c) {x:Nat}:x ∈ qi0 c↔x < c.n.length:=by
 unfold qi0;rw [qe8];exact ⟨fun h=>h.1,fun h=>⟨h,ha.lv.lt hv.g x h⟩⟩
theorem qjf {c:Ci} (hv:c.val) (ha:qgk c):(qi0 c).length = c.n.length:=Nat.le_antisymm (qvk _) (qor hv ha)
theorem qqb (c:Ci):(qi0 c).Pairwise (qdi (qew c)):=qls _
theorem qm3 (c:Ci) (hwf:c.wf) (h0:qi5 c = 0) (h20:c.n.length≤20):qac Tryz.prog gl0 26 [c.v] (okV (qi0 c)):=by
 obtain ⟨hv,ha⟩:=qns hwf h0;refine qac.of_own 2 (qvz c hwf) fun v h hk=>?_;rcases hk with ⟨h1,-,-⟩ | ⟨-,g,L,rfl,rfl,hL,hp⟩
 ·exact absurd h0 h1
 ·have hLl:=hL.len;have e:qi0 c = L:=q6m (qor hv ha) hL (hp h20);rw [okV,e,hLl];simp [frz,V.mapR,jio,hLl,qbf (qay _)];exact jkf (by simp [hLl])
end
section
open Go
noncomputable def plc (c:Ci) (x:Nat):Nat:=if x < c.n.length then (qi0 c).idxOf x else c.n.length
theorem qib {c:Ci} (hv:c.val) (ha:qgk c) {x:Nat} (hx:x < c.n.length):∃ h:plc c x < (qi0 c).length,(qi0 c)[plc c x] = x:=by
 have hm:=(qhp hv ha).2 hx;have e:plc c x = (qi0 c).idxOf x:=if_pos hx;rw [e];exact ⟨List.idxOf_lt_length_of_mem hm,List.getElem_idxOf _⟩
theorem q00 {c:Ci} (hv:c.val) (ha:qgk c) {i:Nat} (hi:i < (qi0 c).length):plc c (qi0 c)[i] = i/\(qi0 c)[i] < c.n.length:=by
 have hx:(qi0 c)[i] < c.n.length:=(qhp hv ha).1 (jkg hi);obtain ⟨h1,h2⟩:=qib hv ha hx;refine ⟨?_,hx⟩;have hnd:(qi0 c).Nodup:=qcc (qqb c);exact (List.getElem_inj hnd).1 h2
theorem qcz {c:Ci} (hv:c.val) (ha:qgk c):qz5 c.g c.n.length (qew c) (plc c) where
 d:=qfq hv ha
 lt:=fun x hx=>by obtain ⟨h1,-⟩:=qib hv ha hx; rw [qjf hv ha] at h1; exact h1
 e:=if_neg (Nat.lt_irrefl _)
 lv:=fun x y hx hy h=>by
  obtain ⟨h1,h2⟩:=qib hv ha hx;obtain ⟨h3,h4⟩:=qib hv ha hy;refine Nat.lt_of_not_le fun hle=>?_;rcases Nat.lt_or_eq_of_le hle with h5 | h5
  ·have:=List.pairwise_iff_getElem.1 (qqb c) _ _ h3 h1 h5;rw [h2,h4] at this;rcases this with h | ⟨h,-⟩ <;> omega
  ·have e:x = y:=by rw [<- h2,<- h4]; simp only [h5]
   rw [e] at h; omega
 inj:=fun x y hx hy h=>by
  obtain ⟨h1,h2⟩:=qib hv ha hx;obtain ⟨h3,h4⟩:=qib hv ha hy;rw [<- h2,<- h4]; simp only [h]
noncomputable def qnf (c:Ci) (x:Nat):Option Nat:=
 if bP (x < c.n.length/\Sn c.g (Pp c) none x) = true then some (Classical.epsilon fun b=>End c.g (Pp c) c.n.length b/\∀ j,Dm c.g (Pp c) x j↔Cm c.g (Pp c) c.n.length b j) else none
theorem q6v {c:Ci} (hd:Dag c.g c.n.length (qew c)) {x b d:Nat} (hb:End c.g (Pp c) c.n.length b/\∀ j,Dm c.g (Pp c) x j↔Cm c.g (Pp c) c.n.length b j) (hd2:End c.g (Pp c) c.n.length d/\∀ j,Dm c.g (Pp c) x j↔Cm c.g (Pp c) c.n.length d j):b = d:=by
 have key:∀ {b d:Nat},(∀ j,Dm c.g (Pp c) x j↔Cm c.g (Pp c) c.n.length b j)->(∀ j,Dm c.g (Pp c) x j↔Cm c.g (Pp c) c.n.length d j)->b < c.n.length->d < c.n.length/\(b = d∨qew c d < qew c b):=fun {b d} h1 h2 hb=>by
  obtain ⟨h3,h4⟩:=(h2 b).1 ((h1 b).2 ⟨hb,.inl rfl⟩);exact ⟨h3,h4.elim .inl fun q=>.inr (q.lv hd)⟩
 rcases hb.1 with e1 | ⟨e1,-⟩
 ·rcases hd2.1 with e2 | ⟨e2,-⟩
  ·rw [e1,e2]
  ·have:=(key hd2.2 hb.2 e2).1; omega
 ·obtain ⟨e2,h1⟩:=key hb.2 hd2.2 e1;rcases h1 with h1 | h1
  ·exact h1
  ·rcases (key hd2.2 hb.2 e2).2 with h2 | h2
   ·exact h2.symm
   ·omega
theorem qm0 {c:Ci} (hd:Dag c.g c.n.length (qew c)) {nx:Nat->Option Nat} {x:Nat} (hx:x < c.n.length) (h:qkw c.g (Pp c) c.n.length nx x):nx x = qnf c x:=by
 unfold qnf;rcases h with ⟨h1,h2⟩ | ⟨b,h1,h2,h3,h4⟩
 ·rw [if_neg (fun q=>h2 (qd2.1 q).2),h1]
 ·rw [if_pos (qd2.2 ⟨hx,h2⟩),h1];congr 1;exact q6v hd ⟨h4,h3⟩ (Classical.epsilon_spec (p:=fun b=>End c.g (Pp c) c.n.length b/\∀ j,Dm c.g (Pp c) x j↔Cm c.g (Pp c) c.n.length b j) ⟨b,h4,h3⟩)
theorem qkw.congr {g:Nat->List Nat} {P:Nat->Prop} {N:Nat} {nx nx':Nat->Option Nat} {n:Nat} (h:qkw g P N nx n) (e:nx n = nx' n):qkw g P N nx' n:=by
 unfold qkw at *; rw [<- e]; exact h
noncomputable def nxT (c:Ci) (k x:Nat):Option Nat:=if bP (x < c.n.length/\c.n.length≤plc c x + k) = true then qnf c x else none
theorem jd0 {c:Ci} (hv:c.val) (ha:qgk c) (x:Nat):nxT c 0 x = none:=if_neg fun q=>by
 obtain ⟨h1,h2⟩:=qd2.1 q;have:=(qcz hv ha).lt x h1; omega
theorem qoo {c:Ci} {k x:Nat} (hx:x < c.n.length) (h:c.n.length≤plc c x + k):nxT c k x = qnf c x:=if_pos (qd2.2 ⟨hx,h⟩)
theorem q2p {c:Ci} {k x:Nat} (h:¬ x < c.n.length):nxT c k x = none:=if_neg fun q=>h (qd2.1 q).1
theorem qrt {c:Ci} (hv:c.val) (ha:qgk c) {k n:Nat} (hn:n < c.n.length) (hp:plc c n + k + 1 = c.n.length):nxT c (k + 1) = qc0 (nxT c k) n (qnf c n):=by
 funext x;show _ = if x = n then qnf c n else nxT c k x
 by_cases e:x = n
 ·subst e; rw [if_pos rfl,qoo hn (by omega)]
 ·rw [if_neg e];unfold nxT;congr 1;refine propext ?_;rw [qd2,qd2];refine and_congr_right fun hx=>⟨fun h=>?_,fun h=>by omega⟩;have:plc c x ≠ plc c n:=fun q=>e ((qcz hv ha).inj x n hx hn q);omega
def qs6:Option Nat->V
 | none=>.int .i64 (-1)
 | some b=>qab b
def nxV (n:Nat) (T:Nat->Option Nat):List V:=tab (n + 1) fun x=>qs6 (T x)
@[simp] theorem q4c (n:Nat) (T:Nat->Option Nat):(nxV n T).length = n + 1:=by simp [nxV,tab]
theorem qc5 (n:Nat) (T:Nat->Option Nat) (i:Nat) (h:i < (nxV n T).length):(nxV n T)[i] = qs6 (T i):=by simp only [nxV]; rw [qa0]
theorem qp9 (n:Nat) (T:Nat->Option Nat) (i b:Nat):(nxV n T).set i (.int .i64 (b:Int)) = nxV n (qc0 T i (some b)):=by
 unfold nxV;rw [qc8];refine qa3 fun j _=>?_;show (if j = i then _ else _) = qs6 (if j = i then _ else _);split <;> rfl
theorem qy2 (n:Nat) (T:Nat->Option Nat):jid (nxV n T) = true:=by
 rw [jig];intro v hv;unfold nxV tab at hv;obtain ⟨j,-,rfl⟩:=List.mem_map.1 hv;cases T j <;> rfl
theorem qie {α:Type} (f:Nat->α) (i:Nat) (a b:α):qc0 (qc0 f i a) i b = qc0 f i b:=by
 funext j;show (if j = i then b else if j = i then a else f j) = if j = i then b else f j
 split <;> rfl
theorem qdw {α:Type} (f:Nat->α) (i:Nat) (a:α):qc0 f i a i = a:=if_pos rfl
theorem qjl {α:Type} (f:Nat->α) {i j:Nat} (a:α) (h:j ≠ i):qc0 f i a j = f j:=if_neg h
end
section
open Go
structure NxSt where
 i:Nat
 r:Option Nat
structure MgSt where
 a:Nat
 b:Nat
def qq4 (c:Ci) (k:Nat):Prop:=∀ x,x < c.n.length->c.n.length≤plc c x + k->qkw c.g (Pp c) c.n.length (qnf c) x
theorem qq4.step {c:Ci} (hv:c.val) (ha:qgk c) {k n:Nat} (h:qq4 c k) (hn:n < c.n.length) (hp:plc c n + k + 1 = c.n.length) (h1:qkw c.g (Pp c) c.n.length (qnf c) n):qq4 c (k + 1):=fun x hx hq=>by
 by_cases e:x = n
 ·subst e; exact h1
 ·have:plc c x ≠ plc c n:=fun q=>e ((qcz hv ha).inj x n hx hn q);exact h x hx (by omega)
theorem qim {c:Ci} (hv:c.val) (ha:qgk c) {a:Nat} (h:End c.g (Pp c) c.n.length a):plc c a≤c.n.length/\a≤c.n.length:=by
 rcases h with rfl | ⟨h,-⟩
 ·exact ⟨by rw [(qcz hv ha).e]; exact jki _,jki _⟩
 ·have:=(qcz hv ha).lt a h; omega
theorem qz7 {c:Ci} (hv:c.val) (ha:qgk c) {n b:Nat} {ks:List Nat} (hn:n < c.n.length) (hk:∀ k ∈ ks,n ∈ c.g k) (h:qdx c.g (Pp c) c.n.length ks (some b)):End c.g (Pp c) c.n.length b/\plc c n < plc c b:=by
 have hpl:=qcz hv ha;rcases h with ⟨h1,-⟩ | ⟨b0,h1,⟨k0,h2,h3⟩,h4,h5⟩
 ·cases h1
 ·cases h1;refine ⟨h4,?_⟩;rcases h4 with rfl | ⟨h4,-⟩
  ·rw [hpl.e]; exact hpl.lt n hn
  ·have h6:=((h5 b).1 ⟨h4,.inl rfl⟩ k0 h2 h3).pl hpl;have h7:=hk k0 h2;have h8:=hpl.lv n k0 hn (hpl.d.b _ _ h7).2 (hpl.d.lt _ _ h7);omega
set_option maxRecDepth 100000 in
set_option maxHeartbeats 8000000 in
theorem q6t (c:Ci) (hwf:c.wf) (h0:qi5 c = 0) (h20:c.n.length≤20) (hl:c.lens):qac Tryz.prog gl0 97 [c.v] (.sl (nxV c.n.length (qnf c)) (some (c.n.length + 1))):=by
 obtain ⟨hv,ha⟩:=qns hwf h0;have hd:=qfq hv ha;have hpl:=qcz hv ha;have hord:=qm3 c hwf h0 h20;have hLl:=qjf hv ha;obtain ⟨N,hN⟩:∃ N,c.n.length = N:=⟨_,rfl⟩;obtain ⟨L,hL⟩:∃ L,qi0 c = L:=⟨_,rfl⟩;have hplc:=fun i hi=>q00 hv ha (i:=i) hi;have hobs:=q2s c hl;have hrd:=qoy c hv hl.n;have hrep:=qzf (c.n.length + 1) (by omega) (by omega);simp only [okV,hL] at hord;simp only [hL,hN] at hLl hplc hobs hrd hpl;refine jj7 1 ok97 rfl ?_;simp [i97,x97];intro gf1;generalize gf1 1 = g1;refine jj4 hord (by simp) ?_;obtain ⟨M,hM⟩:∃ M,N + 1 = M:=⟨_,rfl⟩;have hN1:IntKind.i64.wrap ((N:Int) + 1) = (M:Int):=by rw [<- hM]; exact qbg N (by omega)
 have hz:List.replicate M (V.int .i64 0) = tab M fun x=>qab (if x ∈ L.take 0 then plc c x else 0):=by
  refine List.ext_getElem (by simp [tab]) fun i h1 h2=>?_;rw [qa0,List.getElem_replicate]; simp [qab]
 simp [hLl,hN1,hz,show M≤549755813888 by omega];intro gf2;generalize gf2 26 = g26
 refine jj6 (X:=Nat) (fun i=>[(29,qab i),(28,qab N),(27,.sl (qaf L) (some N)),(6,.ref 26 g26 0 M (some M)),(5,qab N),(3,.sl (qaf L) (some N)),(1,.ptr 1 g1 0 0)])
  (fun i=>[(26,.row g26 1 (tab M fun x=>qab (if x ∈ L.take i then plc c x else 0))),(1,.row g1 4 [c.v])]) (fun i=>i≤N) (fun i=>N - i) 0 (by simp) (by simp [qab]) (by simp) ?_
 intro i h1;simp [qab];refine jj5 (fun hb=>?_) (fun hb=>?_)
 ·have hi:i < N:=jkb hb;have hw:=qbg i (by omega);obtain ⟨y,hy⟩:∃ y,L[i]'(by omega) = y:=⟨_,rfl⟩;have htk:L.take (i + 1) = L.take i ++ [y]:=by rw [List.take_succ_eq_append_getElem (by omega),hy]
  have hyp:=hplc i (by omega);simp only [hy] at hyp;simp [hLl,hi,qap,hy,show y < M by omega,qc8,qa0,hw];refine ⟨i + 1,hi,by simp,⟨qa3 fun j hj=>?_,by omega⟩⟩;show (if j = y then _ else _) = _;rw [htk];by_cases e:j = y
  ·subst e; simp [hyp.1]
  ·simp [e]
 ·have hi:i = N:=by have:=jkc hb; omega
  subst i
  have hfin:(tab M fun x=>V.int IntKind.i64 ↑(if x ∈ L.take N then plc c x else 0)).set N (.int .i64 (N:Int)) = tab M fun x=>qab (plc c x):=by
   rw [qc8];refine qa3 fun j hj=>?_;show (if j = N then _ else _) = _;by_cases e:j = N
   ·subst e; simp [hpl.e,qab]
   ·have hm:j ∈ L.take N:=by rw [jkf (by omega),<- hL]; exact (qhp hv ha).2 (by omega)
    rw [if_neg e]; simp [hm,qab]
  simp [show N < M by omega,qa0,hfin,hN1];intro gf3;generalize gf3 43 = g43;rw [hN,hM] at hrep;refine ji3 1 1000 hrep (by simp) (by simp) ?_;rintro v h' ⟨g,rfl,rfl⟩
  have hng:jih (List.replicate M (V.int .i64 (-1))) = true:=by
   rw [ji4];intro v hv;rw [List.eq_of_mem_replicate hv]; rfl
  refine ⟨by simp,by simp; exact hng,fun gf=>?_⟩
  have hT0:List.replicate M (V.int .i64 (-1)) = nxV N (nxT c 0):=by
   refine List.ext_getElem (by simp [hM]) fun i h1 h2=>?_;rw [qc5,List.getElem_replicate,jd0 hv ha]; rfl
  simp [upS,upH];rw [hT0];generalize gf 1000 + g = gO;clear hrep hng hT0 hfin hz;intro gm
  first | refine ⟨_,_,_,.pure hobs (by simp),?_⟩ | refine ⟨_,⟨_,_,.pure hobs (by simp)⟩,?_⟩ | refine ⟨_,_,⟨_,.pure hobs (by simp)⟩,?_⟩
  simp
  first | refine ⟨_,_,_,.pure hrd (by simp),?_⟩ | refine ⟨_,⟨_,_,.pure hrd (by simp)⟩,?_⟩ | refine ⟨_,_,⟨_,.pure hrd (by simp)⟩,?_⟩
  simp;refine ⟨rfl,?_⟩
  refine jj6 (X:=Nat) (fun k=>[(52,qab k),(51,qab N),(3,.sl (qaf L) (some N)),(5,qab N),(6,.ref 26 g26 0 M (some M)),(9,.ref 1000 gO 0 M (some M)),(10,.sl (qch N (ptB c)) (some N)),(11,.sl (tab N (edV (rdL c))) (some N))])
   (fun k=>[(1000,.row gO 1 (nxV N (nxT c k))),(26,.row g26 1 (tab M fun x=>qab (plc c x)))]) (fun k=>k≤N/\qq4 c k) (fun k=>N - k) 0 ⟨by simp,fun x hx hq=>?_⟩ (by simp [qab]) (by simp) ?_
  ·have:=(qcz hv ha).lt x hx; omega
  rintro k ⟨h1,hdn⟩;simp [qab];refine jj5 (fun hb=>?_) (fun hb=>?_)
  ·have hk:k < N:=jkb hb;have hw:=qbg k (by omega);obtain ⟨N1,hN11⟩:∃ N1,N = 1 + N1:=⟨N - 1,by omega⟩;obtain ⟨e,he⟩:∃ e,N1 = k + e:=⟨N1 - k,by omega⟩;have hs1:IntKind.i64.wrap ((N:Int) - 1) = (N1:Int):=ql6 (b:=1) hN11 (by omega);have hs2:IntKind.i64.wrap ((N1:Int) - (k:Int)) = (e:Int):=ql6 he (by omega);have heN:e < N:=by omega
   obtain ⟨n,hn⟩:∃ n,L[e]'(by omega) = n:=⟨_,rfl⟩;obtain ⟨hpn,hnN⟩:=hplc e (by omega);simp only [hn] at hpn hnN;have hnN':n < c.n.length:=by omega
   have hpk:plc c n + k + 1 = c.n.length:=by omega
   have hTn:nxT c k n = none:=if_neg fun q=>by have:=(qd2.1 q).2; omega
   have hT0:qc0 (nxT c k) n none = nxT c k:=by
    funext j;show (if j = n then none else _) = _;split
    ·rename_i e1; rw [e1,hTn]
    ·rfl
   simp [hs1,hs2,hLl,heN,qap,hn,hnN,qel];refine jj5 (fun hob=>?_) (fun hob=>?_)
   ·have hok:qkw c.g (Pp c) c.n.length (qc0 (nxT c k) n (some N)) n:=q0w hob (by rw [qdw,hN]);have hnx:=qm0 hd hnN' hok;rw [qdw] at hnx;have hT1:=qrt hv ha hnN' hpk;rw [<- hnx] at hT1;simp [show n < N + 1 by omega,show n < M by omega,qc5,qp9,hw,hTn,qs6,qab];exact ⟨k + 1,⟨hk,hdn.step hv ha hnN' hpk (hok.congr (by rw [qdw,hnx]))⟩,by simp,by rw [hT1],by omega⟩
   ·have hob':¬ Pp c n:=fun q=>by rw [q] at hob; cases hob
    obtain ⟨ks,hks⟩:∃ ks,rdL c n = ks:=⟨_,rfl⟩;have hksl:ks.length < 1000000000:=by rw [<- hks]; exact q3d hv hl.n n
    have hkm:∀ x ∈ ks,n ∈ c.g x:=fun x hx=>by rw [<- hks] at hx; exact (qf2 hv).1 hx
    simp [hnN,qa0,edV,hks]
    refine jj6 (X:=NxSt) (fun z=>[(75,qab z.i),(74,qab ks.length),(73,.sl (qaf ks) none),(13,qab n),(52,qab k),(51,qab N),(3,.sl (qaf L) (some N)),(5,qab N),(6,.ref 26 g26 0 M (some M)),(9,.ref 1000 gO 0 M (some M)),(10,.sl (qch N (ptB c)) (some N)),(11,.sl (tab N (edV (rdL c))) (some N))])
     (fun z=>[(1000,.row gO 1 (nxV N (qc0 (nxT c k) n z.r))),(26,.row g26 1 (tab M fun x=>qab (plc c x)))]) (fun z=>z.i≤ks.length/\qdx c.g (Pp c) c.n.length (ks.take z.i) z.r) (fun z=>ks.length - z.i) ⟨0,none⟩ ⟨by simp,by simpa using qdx.ini⟩ (by simp [qab]) (by simp [hT0,qab]) ?_
    rintro ⟨i,r⟩ ⟨q1,q2⟩;dsimp only at q1 q2 ⊢;simp [qab];refine jj5 (fun hb2=>?_) (fun hb2=>?_)
    ·have hi:i < ks.length:=jkb hb2;have hwi:=qbg i (by omega);obtain ⟨x,hx⟩:∃ x,ks[i] = x:=⟨_,rfl⟩;have htk:ks.take (i + 1) = ks.take i ++ [x]:=by rw [List.take_succ_eq_append_getElem hi,hx]
     have hxg:=hkm x (by rw [<- hx]; exact jkg hi);have hxN:=(hd.b _ _ hxg).2;have hxp:=hpl.lv n x hnN (by omega) (hd.lt _ _ hxg);have hxn:x ≠ n:=fun e1=>by rw [e1] at hxp; omega
     have hxT:qc0 (nxT c k) n r x = qnf c x:=by rw [qjl _ _ hxn,qoo hxN (by omega)]
     have hxok:=hdn x hxN (by omega)
     cases hxv:qnf c x with
     | none=>
      have hns:¬ Sn c.g (Pp c) none x:=by
       rcases hxok with ⟨-,h⟩ | ⟨b,h,-⟩
       ·exact h
       ·rw [hxv] at h; cases h
      simp [hi,qap,hx,show x < M by omega,show x < N + 1 by omega,qc5,hxT,hxv,qs6,hwi];exact ⟨⟨i + 1,r⟩,⟨hi,by dsimp only; rw [htk]; exact q2.skip hns⟩,by simp,by simp,by dsimp only; omega⟩
     | some xb=>
      have hsx:Sn c.g (Pp c) none x:=by
       rcases hxok with ⟨h,-⟩ | ⟨b,-,h,-⟩
       ·rw [hxv] at h; cases h
       ·exact h
      simp [hi,qap,hx,show x < M by omega,show x < N + 1 by omega,qc5,hxT,hxv,qs6,qab]
      cases r with
      | none=>
       simp [show n < M by omega,show n < N + 1 by omega,qc5,qdw,qs6];exact ⟨⟨i + 1,some x⟩,⟨hi,by dsimp only; rw [htk]; exact q2.first hsx hxN⟩,hwi,by rw [qp9,qie],by dsimp only; omega⟩
      | some b=>
       obtain ⟨hbe,hbp⟩:=qz7 hv ha hnN' (fun y hy=>hkm y (List.mem_of_mem_take hy)) q2;simp [show n < M by omega,show n < N + 1 by omega,qc5,qdw,qs6,qab]
       refine jj6 (X:=MgSt) (fun z=>[(16,qab z.a),(75,qab i),(74,qab ks.length),(73,.sl (qaf ks) none),(13,qab n),(52,qab k),(51,qab N),(3,.sl (qaf L) (some N)),(5,qab N),(6,.ref 26 g26 0 M (some M)),(9,.ref 1000 gO 0 M (some M)),(10,.sl (qch N (ptB c)) (some N)),(11,.sl (tab N (edV (rdL c))) (some N))])
        (fun z=>[(1000,.row gO 1 (nxV N (qc0 (nxT c k) n (some z.b)))),(26,.row g26 1 (tab M fun x=>qab (plc c x)))])
        (fun z=>End c.g (Pp c) c.n.length z.a/\End c.g (Pp c) c.n.length z.b/\plc c n < plc c z.a/\plc c n < plc c z.b/\∀ j,(Cm c.g (Pp c) c.n.length x j/\Cm c.g (Pp c) c.n.length b j)↔(Cm c.g (Pp c) c.n.length z.a j/\Cm c.g (Pp c) c.n.length z.b j))
        (fun z=>(c.n.length - plc c z.a) + (c.n.length - plc c z.b)) ⟨x,b⟩ ⟨.inr ⟨hxN,hsx⟩,hbe,hxp,hbp,fun j=>Iff.rfl⟩ (by simp [qab]) (by simp [qab]) ?_
       rintro ⟨a,b2⟩ ⟨r1,r2,r3,r4,r5⟩;dsimp only at r1 r2 r3 r4 r5 ⊢;have ra:=qim hv ha r1;have rb:=qim hv ha r2;simp [qab,show n < M by omega,show n < N + 1 by omega,qc5,qdw,qs6];refine jj5 (fun hb3=>?_) (fun hb3=>?_)
       ·have hab:a = b2:=jkb hb3;subst hab;simp [hwi];exact ⟨⟨i + 1,some a⟩,⟨hi,by dsimp only; rw [htk]; exact q2.merge hsx r2 fun j=>(r5 j).trans and_self_iff⟩,by simp,by simp,by dsimp only; omega⟩
       ·have hab:¬ a = b2:=jkc hb3;have haM:a < M:=by omega
        have hbM:b2 < M:=by omega
        simp [show n < M by omega,show n < N + 1 by omega,qc5,qdw,qs6,qa0,haM,hbM,qab];refine jj5 (fun hb4=>?_) (fun hb4=>?_)
        ·have hlt:plc c a < plc c b2:=jkb hb4;obtain ⟨haN,a',e1,e2,e3,e4⟩:=qge (qcz hv ha) r1 r2 hlt fun y hy hq=>hdn y hy (by omega);have han:a ≠ n:=fun q=>by rw [q] at r3; omega
         have haT:qc0 (nxT c k) n (some b2) a = some a':=by rw [qjl _ _ han,qoo haN (by omega),e1]
         have ra':=qim hv ha e2;simp [haM,show a < N + 1 by omega,qc5,haT,qs6,qab];exact ⟨⟨a',b2⟩,⟨e2,r2,by dsimp only; omega,r4,fun j=>(r5 j).trans (e4 j)⟩,by simp,by simp,by dsimp only; omega⟩
        ·have hlt0:¬ plc c a < plc c b2:=jkc hb4;have hlt:=(qcz hv ha).ne r1 r2 hab hlt0;obtain ⟨hbN,b',e1,e2,e3,e4⟩:=qge (qcz hv ha) r2 r1 hlt fun y hy hq=>hdn y hy (by omega);have hbn:b2 ≠ n:=fun q=>by rw [q] at r4; omega
         have hbT:qc0 (nxT c k) n (some b2) b2 = some b':=by rw [qjl _ _ hbn,qoo hbN (by omega),e1]
         have rb':=qim hv ha e2;simp [show n < M by omega,show n < N + 1 by omega,hbM,show b2 < N + 1 by omega,qc5,qdw,hbT,qs6,qab,qp9,qie];exact ⟨⟨a,b'⟩,⟨r1,e2,r3,by dsimp only; omega,fun j=>(r5 j).trans (and_comm.trans ((e4 j).trans and_comm))⟩,by simp,by simp,by dsimp only; omega⟩
    ·have hi:i = ks.length:=by have:=jkc hb2; omega
     subst hi;rw [List.take_length] at q2;have hok:=qdx.done (n:=n) (nx:=qc0 (nxT c k) n r) hd hob' (ks:=ks) (fun x=>by rw [<- hks]; exact qf2 hv) (by rw [qdw]; exact q2);have hnx:=qm0 hd hnN' hok;rw [qdw] at hnx;have hT1:=qrt hv ha hnN' hpk;rw [<- hnx] at hT1;simp [hw];exact ⟨k + 1,⟨hk,hdn.step hv ha hnN' hpk (hok.congr (by rw [qdw,hnx]))⟩,by simp,by rw [hT1],by omega⟩
  ·have hk:k = N:=by have:=jkc hb; omega
   subst k
   have hTN:nxT c N = qnf c:=by
    funext x;by_cases hx:x < c.n.length
    ·exact qoo hx (by omega)
    ·rw [q2p hx];exact (if_neg fun q=>hx (qd2.1 q).1).symm
   rw [hTN];simp [qbf (qy2 _ _),show M≤N + 1 by omega];rw [jkf (by simp; omega),<- hM,hN];exact ⟨rfl,rfl⟩
end
section
open Go
theorem qyr {g:Nat->List Nat} {N:Nat} {lv pl:Nat->Nat} (h:qz5 g N lv pl) {P:Nat->Prop} {nx:Nat->Option Nat} {m:Nat} (hn:∀ x,x < N->m < pl x->qkw g P N nx x):∀ (k a b:Nat),(N - pl a) + (N - pl b)≤k->pl a≤N->pl b≤N->m < pl a->m < pl b->End g P N a->End g P N b->∃ b',End g P N b'/\∀ j,(Cm g P N a j/\Cm g P N b j)↔Cm g P N b' j:=by
 have hle:∀ {x},End g P N x->pl x≤N:=fun {x} hx=>by
  rcases hx with rfl | ⟨hx,-⟩
  ·rw [h.e]; exact jki _
  ·exact Nat.le_of_lt (h.lt x hx)
 intro k
 induction k with
 | zero=>
  intro a b hk h1 h2 h3 h4 ha hb
  have ea:a = b:=by
   refine Classical.byContradiction fun e=>?_;by_cases hl:pl a < pl b
   ·omega
   ·have:=h.ne ha hb e hl; omega
  subst ea;exact ⟨a,ha,fun j=>and_self_iff⟩
 | succ k ih=>
  intro a b hk h1 h2 h3 h4 ha hb;by_cases e:a = b
  ·subst e; exact ⟨a,ha,fun j=>and_self_iff⟩
  by_cases hl:pl a < pl b
  ·obtain ⟨q1,a',q2,q3,q4,q5⟩:=qge h ha hb hl fun x hx hq=>hn x hx (by omega);obtain ⟨b',p1,p2⟩:=ih a' b (by have:=hle q3; omega) (hle q3) h2 (by omega) h4 q3 hb;exact ⟨b',p1,fun j=>(q5 j).trans (p2 j)⟩
  ·have hl2:=h.ne ha hb e hl;obtain ⟨q1,b0,q2,q3,q4,q5⟩:=qge h hb ha hl2 fun x hx hq=>hn x hx (by omega);obtain ⟨b',p1,p2⟩:=ih a b0 (by have:=hle q3; omega) h1 (hle q3) h3 (by omega) ha q3;exact ⟨b',p1,fun j=>(and_comm.trans ((q5 j).trans and_comm)).trans (p2 j)⟩
theorem qz6 {c:Ci} (hv:c.val) (ha:qgk c) {n:Nat} (hn:n < c.n.length) (hd:∀ x,x < c.n.length->plc c n < plc c x->qkw c.g (Pp c) c.n.length (qnf c) x):∀ (ks:List Nat),(∀ k ∈ ks,n ∈ c.g k)->∀ ks0 r,(∀ k ∈ ks0,n ∈ c.g k)->qdx c.g (Pp c) c.n.length ks0 r->∃ r',qdx c.g (Pp c) c.n.length (ks0 ++ ks) r'
 | [],_,ks0,r,_,h=>⟨r,by rw [List.append_nil]; exact h⟩
 | x :: ks,hk,ks0,r,hk0,h=>by
  have hpl:=qcz hv ha;have hxg:=hk x List.mem_cons_self;have hxN:=(hpl.d.b _ _ hxg).2;have hxp:=hpl.lv n x hn hxN (hpl.d.lt _ _ hxg)
  have hstep:∃ r',qdx c.g (Pp c) c.n.length (ks0 ++ [x]) r':=by
   by_cases hs:Sn c.g (Pp c) none x
   ·cases r with
    | none=>exact ⟨_,h.first hs hxN⟩
    | some b=>
     obtain ⟨hbe,hbp⟩:=qz7 hv ha hn hk0 h;obtain ⟨b',h1,h2⟩:=qyr hpl hd _ x b (jki _) (Nat.le_of_lt (hpl.lt x hxN)) (qim hv ha hbe).1 hxp hbp (.inr ⟨hxN,hs⟩) hbe;exact ⟨_,h.merge hs h1 h2⟩
   ·exact ⟨_,h.skip hs⟩
  obtain ⟨r',h'⟩:=hstep
  obtain ⟨r2,h2⟩:=qz6 hv ha hn hd ks (fun k hq=>hk k (List.mem_cons_of_mem _ hq)) (ks0 ++ [x]) r' (fun k hq=>by
   rcases List.mem_append.1 hq with hq | hq
   ·exact hk0 k hq
   ·rw [List.mem_singleton.1 hq]; exact hxg) h'
  exact ⟨r2,by rw [List.append_assoc] at h2; exact h2⟩
theorem qvt {c:Ci} (hv:c.val) (ha:qgk c):∀ x,x < c.n.length->qkw c.g (Pp c) c.n.length (qnf c) x:=by
 have hpl:=qcz hv ha
 have main:∀ k x,x < c.n.length->c.n.length≤plc c x + k->qkw c.g (Pp c) c.n.length (qnf c) x:=by
  intro k
  induction k with
  | zero=>intro x hx h; have:=hpl.lt x hx; omega
  | succ k ih=>
   intro x hx h;have hd:∀ y,y < c.n.length->plc c x < plc c y->qkw c.g (Pp c) c.n.length (qnf c) y:=fun y hy hq=>ih y hy (by omega);by_cases hp:Pp c x
   ·have hok:qkw c.g (Pp c) c.n.length (fun _=>some c.n.length) x:=q0w hp rfl;exact hok.congr (qm0 hpl.d hx hok)
   ·obtain ⟨r,hr⟩:=qz6 hv ha hx hd (rdL c x) (fun k hk=>(qf2 hv).1 hk) [] none (by simp) qdx.ini;have hok:qkw c.g (Pp c) c.n.length (fun _=>r) x:=qdx.done (ks:=rdL c x) hpl.d hp (fun k=>qf2 hv) hr;exact hok.congr (qm0 hpl.d hx hok)
 exact fun x hx=>main _ x hx (Nat.le_add_left _ _)
noncomputable def qxw (c:Ci) (n:Nat):List Nat:=Classical.epsilon fun L=>qsa c.g (Pp c) (qew c) n L
theorem qxy {c:Ci} {n:Nat} {L M:List Nat} (h:qsa c.g (Pp c) (qew c) n L) (h':qsa c.g (Pp c) (qew c) n M):L = M:=by
 have hl:=(List.pairwise_cons.1 h.p).2;have hm:=(List.pairwise_cons.1 h'.p).2;exact qga (lv:=qew c) (hl.imp fun q=>.inl q) (hm.imp fun q=>.inl q) fun x=>(h.m x).trans (h'.m x).symm
theorem qug {c:Ci} {n:Nat} {L:List Nat} (h:qsa c.g (Pp c) (qew c) n L):qxw c n = L:=qxy (Classical.epsilon_spec (p:=fun L=>qsa c.g (Pp c) (qew c) n L) ⟨L,h⟩) h
def q0y:Option Nat->Int
 | none=>-1
 | some b=>(b:Int)
theorem qqa (o:Option Nat):qs6 o = .int .i64 (q0y o):=by cases o <;> rfl
structure DmSt where
 b:Option Nat
 L:List Nat
 a:Option (Nat × List V)
def DmI (c:Ci) (n:Nat) (L:List Nat):Option Nat->Prop
 | none=>L = []/\¬ Sn c.g (Pp c) none n
 | some b=>qxe c.g (Pp c) c.n.length (qew c) n L b
theorem DmI.len {c:Ci} (hd:Dag c.g c.n.length (qew c)) {n:Nat} {L:List Nat} {b:Option Nat} (h:DmI c n L b):L.length≤c.n.length:=by
 cases b with
 | none=>rw [h.1]; simp
 | some b=>
  have hm:∀ j ∈ L,j < c.n.length:=fun j hj=>(((h.m j).2 (.inl hj)).lt hd);have hp:=(List.pairwise_cons.1 h.p).2;exact qhm (hp.imp fun q e=>by rw [e] at q; omega) hm
set_option maxHeartbeats 4000000 in
theorem jby (c:Ci) (hwf:c.wf) (h0:qi5 c = 0) (h20:c.n.length≤20) (hl:c.lens) (n:Nat) (hn:n < c.n.length):qac Tryz.prog gl0 27 [c.v,qab n] (okV (qxw c n)):=by
 obtain ⟨hv,ha⟩:=qns hwf h0;have hd:=qfq hv ha;have hpl:=qcz hv ha;have hck:=qxo c hwf [(n:Int)] (some 1) (by simp);have hz:=q1d h0 (l:=[n]) (by simpa using hn);simp only [List.map_cons,List.map_nil] at hz;rw [hz] at hck;simp only [qdh,List.map_cons,List.map_nil] at hck;have hnx:=q6t c hwf h0 h20 hl;have hall:=qvt hv ha;obtain ⟨R,hR⟩:∃ R,qxw c n = R:=⟨_,rfl⟩;rw [hR];refine jj7 2 ok27 rfl ?_;simp [i27,x27,qab];intro gf1 gf2;generalize gf1 2 = g2;refine CallO.borrow 1 hck (by simp) rfl ?_;simp;refine jj4 hnx (by simp) ?_;have hlt:(n:Int) < (c.n.length:Int) + 1:=by omega
 simp [show n < c.n.length + 1 by omega,qc5,qqa,hlt]
 refine jj6 (X:=DmSt) (fun z=>[(9,.int .i64 (q0y z.b)),(8,qbe 39 z.a),(7,.sl (nxV c.n.length (qnf c)) (some (c.n.length + 1))),(2,.ptr 2 g2 0 0)]) (fun z=>(2,.row g2 4 [c.v]) :: qbj 39 1 z.a)
  (fun z=>DmI c n z.L z.b/\(z.a = none∨qav z.a ≠ [])/\qav z.a = qaf z.L) (fun z=>match z.b with | none=>0 | some b=>c.n.length + 1 - plc c b) ⟨qnf c n,[],none⟩ ⟨?_,by simp,by simp [qav,qaf]⟩ (by simp [qbe]) (by simp [qbj]) ?_
 ·dsimp only;rcases hall n hn with ⟨h1,h2⟩ | ⟨b,h1,h2,h3,h4⟩
  ·rw [h1]; exact ⟨rfl,h2⟩
  ·rw [h1]; exact .ini hd h3 h4
 rintro ⟨b,L,acc⟩ ⟨q1,q2,q3⟩;dsimp only at q1 q2 q3 ⊢;have hLl:=q1.len hd
 cases b with
 | none=>
  have hRL:R = L:=by rw [<- hR,q1.1]; exact qug (qnw q1.2)
  simp [q0y]
  cases acc with
  | none=>
   simp only [qav] at q3
   have hL0:L = []:=by
    cases hh:L with
    | nil=>rfl
    | cons x l=>rw [hh] at q3; cases q3
   simp [qbe];refine jj4 qmh (by simp) ?_;simp [okV,hRL,hL0,qaf]
  | some gl=>
   obtain ⟨g,l⟩:=gl;simp only [qav] at q3;subst q3;simp [qbe,qbj];refine qpn L 39 g _ (by simp) _ ⟨[(39,.row g 1 (qaf L))],by simp,?_⟩;simp [qbf (qay _),okV,hRL];exact jkf (by simp)
 | some b=>
  have hbN1:b≤c.n.length:=(qim hv ha q1.e).2;simp [q0y,show ¬ ((b:Int) = -1) by omega];refine jj5 (fun hb=>?_) (fun hb=>?_)
  ·have hbN:b < c.n.length:=jkb hb;obtain ⟨b',e1,e2,e3⟩:=q1.step hpl hbN (hall b hbN);have hb':=(qim hv ha e3.e).1;have hlt2:(b:Int) < (c.n.length:Int) + 1:=by omega
   have hn2:qaf (L ++ [b]) = qaf L ++ [.int .i64 (b:Int)]:=by simp [qaf,qab]
   cases acc with
   | none=>
    simp only [qav] at q3;simp [qbe,qbj,hlt2,show b < c.n.length + 1 by omega,qc5,qqa,e1,q0y];intro gf3 gf4;exact ⟨⟨some b',L ++ [b],some (gf4 39,[.int .i64 (b:Int)])⟩,⟨e3,by simp [qav],by dsimp only [qav]; rw [hn2,<- q3]; rfl⟩,by simp [q0y],by simp,by dsimp only; omega⟩
   | some gl=>
    obtain ⟨g,l⟩:=gl;simp only [qav] at q3;have hll:l.length = L.length:=by rw [q3,qcp]
    have hle:l.length + 1≤274877906944:=by omega
    simp [qbe,qbj,hle,hlt2,show b < c.n.length + 1 by omega,qc5,qqa,e1,q0y];intro gf3 gf4;exact ⟨⟨some b',L ++ [b],some (gf4 39,l ++ [.int .i64 (b:Int)])⟩,⟨e3,by simp [qav],by dsimp only [qav]; rw [hn2,<- q3]⟩,by simp [q0y],by simp,by dsimp only; omega⟩
  ·have hbN:¬ b < c.n.length:=jkc hb;have hRL:R = L:=by rw [<- hR]; exact qug (q1.done hbN)
   simp [hb]
   cases acc with
   | none=>
    simp only [qav] at q3
    have hL0:L = []:=by
     cases hh:L with
     | nil=>rfl
     | cons x l=>rw [hh] at q3; cases q3
    simp [qbe];refine jj4 qmh (by simp) ?_;simp [okV,hRL,hL0,qaf]
   | some gl=>
    obtain ⟨g,l⟩:=gl;simp only [qav] at q3;subst q3;simp [qbe,qbj];refine qpn L 39 g _ (by simp) _ ⟨[(39,.row g 1 (qaf L))],by simp,?_⟩;simp [qbf (qay _),okV,hRL];exact jkf (by simp)
noncomputable def qdd (c:Ci) (n:Nat):Nat:=Classical.epsilon fun s=>St c n s
theorem qqs {c:Ci} {n s:Nat} (h:St c n s):qdd c n = s:=(Classical.epsilon_spec (p:=fun s=>St c n s) ⟨s,h⟩).det h
theorem qzp {c:Ci} (hv:c.val) (ha:qgk c):∀ n,n < c.n.length->St c n (qdd c n):=by
 have hd:=qfq hv ha
 have main:∀ k n,c.n.length - qew c n < k->n < c.n.length->∃ s,St c n s:=by
  intro k
  induction k with
  | zero=>intro n h; omega
  | succ k ih=>
   intro n hk hn;by_cases hp:Pp c n
   ·exact ⟨n,.self (.inl hp)⟩
   by_cases hl:(rdL c n).length = 1
   ·obtain ⟨x,hx⟩:=List.length_eq_one_iff.1 hl;have hxg:n ∈ c.g x:=(qf2 hv).1 (by rw [hx]; simp);have h1:=hd.lt _ _ hxg;have h2:=(hd.b _ _ hxg).2;have h3:=ha.lv.lt hv.g x h2;obtain ⟨s,hs⟩:=ih x (by omega) h2;exact ⟨s,.next hp hx hs⟩
   ·exact ⟨n,.self (.inr hl)⟩
 exact fun n hn=>Classical.epsilon_spec (main _ n (Nat.lt_succ_self _) hn)
noncomputable def stL (c:Ci):List Nat:=tab c.n.length (qdd c)
noncomputable def rgT (c:Ci) (k x:Nat):Nat:=if bP (x < c.n.length/\c.n.length≤plc c x + k) = true then qdd c x else 0
theorem jhu {c:Ci} (hv:c.val) (ha:qgk c) (x:Nat):rgT c 0 x = 0:=if_neg fun q=>by
 obtain ⟨h1,h2⟩:=qd2.1 q;have:=(qcz hv ha).lt x h1; omega
theorem qwd {c:Ci} {k x:Nat} (hx:x < c.n.length) (h:c.n.length≤plc c x + k):rgT c k x = qdd c x:=if_pos (qd2.2 ⟨hx,h⟩)
theorem qzg {c:Ci} (hv:c.val) (ha:qgk c) {k n:Nat} (hn:n < c.n.length) (hp:plc c n + k + 1 = c.n.length):rgT c (k + 1) = qc0 (rgT c k) n (qdd c n):=by
 funext x;show _ = if x = n then qdd c n else rgT c k x
 by_cases e:x = n
 ·subst e; rw [if_pos rfl,qwd hn (by omega)]
 ·rw [if_neg e];unfold rgT;congr 1;refine propext ?_;rw [qd2,qd2];refine and_congr_right fun hx=>⟨fun h=>?_,fun h=>by omega⟩;have:plc c x ≠ plc c n:=fun q=>e ((qcz hv ha).inj x n hx hn q);omega
theorem qlu (n:Nat) (f:Nat->Nat) (i b:Nat):(qaf (tab n f)).set i (.int .i64 (b:Int)) = qaf (tab n (qc0 f i b)):=by
 have:(V.int .i64 (b:Int)) = qab b:=rfl;rw [this,qaf,<- List.map_set,qc8]; rfl
set_option maxHeartbeats 4000000 in
theorem jhs (c:Ci) (hwf:c.wf) (h0:qi5 c = 0) (h20:c.n.length≤20) (hl:c.lens):qac Tryz.prog gl0 28 [c.v] (okV (stL c)):=by
 obtain ⟨hv,ha⟩:=qns hwf h0;have hd:=qfq hv ha;have hord:=qm3 c hwf h0 h20;have hLl:=qjf hv ha;obtain ⟨N,hN⟩:∃ N,c.n.length = N:=⟨_,rfl⟩;obtain ⟨L,hL⟩:∃ L,qi0 c = L:=⟨_,rfl⟩;have hplc:=fun i hi=>q00 hv ha (i:=i) hi;have hobs:=q2s c hl;have hrd:=qoy c hv hl.n;simp only [okV,hL] at hord;simp only [hL,hN] at hLl hplc hobs hrd;refine jj7 2 ok28 rfl ?_;simp [i28,x28];intro gf1;generalize gf1 1 = g1;refine jj4 hord (by simp) ?_;simp;intro gm
 first | refine ⟨_,_,_,.pure hobs (by simp),?_⟩ | refine ⟨_,⟨_,_,.pure hobs (by simp)⟩,?_⟩ | refine ⟨_,_,⟨_,.pure hobs (by simp)⟩,?_⟩
 simp
 first | refine ⟨_,_,_,.pure hrd (by simp),?_⟩ | refine ⟨_,⟨_,_,.pure hrd (by simp)⟩,?_⟩ | refine ⟨_,_,⟨_,.pure hrd (by simp)⟩,?_⟩
 simp;refine ⟨rfl,?_⟩
 have hz:List.replicate N (V.int .i64 0) = qaf (tab N (rgT c 0)):=by
  refine List.ext_getElem (by simp [tab]) fun i h1 h2=>?_;rw [qap,qa0,List.getElem_replicate,jhu hv ha]; rfl
 simp [hLl,hz,show N≤549755813888 by omega];intro gf2;generalize gf2 25 = g25
 refine jj6 (X:=Nat) (fun k=>[(28,qab k),(27,qab N),(4,.sl (qaf L) (some N)),(6,.sl (qch N (ptB c)) (some N)),(7,.sl (tab N (edV (rdL c))) (some N)),(8,.ref 25 g25 0 N (some N))])
  (fun k=>[(25,.row g25 1 (qaf (tab N (rgT c k))))]) (fun k=>k≤N) (fun k=>N - k) 0 (by simp) (by simp [qab]) (by simp) ?_
 intro k h1;have htl:∀ f:Nat->Nat,(tab N f).length = N:=fun f=>by simp [tab]
 simp [qab];refine jj5 (fun hb=>?_) (fun hb=>?_)
 ·have hk:k < N:=jkb hb;have hw:=qbg k (by omega);obtain ⟨N1,hN11⟩:∃ N1,N = 1 + N1:=⟨N - 1,by omega⟩;obtain ⟨e,he⟩:∃ e,N1 = k + e:=⟨N1 - k,by omega⟩;have hs1:IntKind.i64.wrap ((N:Int) - 1) = (N1:Int):=ql6 (b:=1) hN11 (by omega);have hs2:IntKind.i64.wrap ((N1:Int) - (k:Int)) = (e:Int):=ql6 he (by omega);have heN:e < N:=by omega
  obtain ⟨n,hn⟩:∃ n,L[e]'(by omega) = n:=⟨_,rfl⟩;obtain ⟨hpn,hnN⟩:=hplc e (by omega);simp only [hn] at hpn hnN;have hnN':n < c.n.length:=by omega
  have hpk:plc c n + k + 1 = c.n.length:=by omega
  have hst:=qzp hv ha n hnN';have hT1:=qzg hv ha hnN' hpk;have hfin:∀ U:Nat->Nat,U = rgT c (k + 1)->∃ x',x'≤N/\(k:Int) + 1 = (x':Int)/\qaf (tab N U) = qaf (tab N (rgT c x'))/\N - x' < N - k:=fun U hU=>⟨k + 1,hk,by simp,by rw [hU],by omega⟩;simp [hs1,hs2,hLl,heN,qap,hn,hnN,qel,htl,qlu,qa0,edV]
  cases hob:ptB c n with
  | true=>
   have e1:qdd c n = n:=qqs (.self (.inl hob));rw [e1] at hT1;simp [hw];exact hfin _ hT1.symm
  | false=>
   have hob':¬ Pp c n:=fun q=>by rw [q] at hob; cases hob
   by_cases hlen:(rdL c n).length = 1
   ·obtain ⟨x,hx⟩:=List.length_eq_one_iff.1 hlen;have hxg:n ∈ c.g x:=(qf2 hv).1 (by rw [hx]; simp);have hxN:=(hd.b _ _ hxg).2;have hxp:=(qcz hv ha).lv n x hnN' hxN (hd.lt _ _ hxg);have hxn:x ≠ n:=fun q=>by rw [q] at hxp; omega
    have hxs:=qzp hv ha x hxN;have e1:qdd c n = qdd c x:=qqs (.next hob' hx hxs);have e2:qc0 (rgT c k) n n x = qdd c n:=by rw [qjl _ _ hxn,qwd hxN (by omega),e1]
    simp [hnN,qa0,edV,hx,qap,qab,hw,show x < N by omega,htl,e2];rw [qlu,qie];exact hfin _ hT1.symm
   ·have e1:qdd c n = n:=qqs (.self (.inr hlen));rw [e1] at hT1;simp [hnN,qa0,edV,hlen,hw];exact hfin _ hT1.symm
 ·have hk:k = N:=by have:=jkc hb; omega
  subst k
  have hTN:tab N (rgT c N) = stL c:=by
   unfold stL;rw [hN];exact qa3 fun x hx=>qwd (by omega) (by omega)
  have hsl:(stL c).length = N:=by rw [<- hTN,htl]
  rw [hTN];simp [qbf (qay _),okV,hsl];exact jkf (by simp [hsl])
end
end Go.Proofs.YtbbnmiaabmbheaaGreatDoor
