/- Lemmas. Conditions: none. -/
import Derived.Test.YtbbnmiaabmbheaaGreatDoorS4
import Derived.Test.YtbbnmiaabmbheaaGreatDoorXTR
import Derived.Test.YtbbnmiaabmbheaaGreatDoorNet17
import Derived.Test.YtbbnmiaabmbheaaGreatDoorNet13
set_option linter.all false
namespace Go.Proofs.YtbbnmiaabmbheaaGreatDoor
section
open Go
theorem qna (N:Nat) (F:Nat->Nat) (n x:Nat):(tab N fun j=>u8V (F j)).set n (.int .u8 (x:Int)) = tab N fun j=>u8V (qc0 F n x j):=by
 rw [qc8];refine qa3 fun j _=>?_;by_cases h:j = n
 ·subst h; simp [u8V]
 ·rw [qbv _ _ h,qbv _ _ h]
theorem qf4 (N:Nat) (F:Nat->Nat):jid (tab N fun j=>u8V (F j)) = true:=qnb fun _=>rfl
theorem q6k (c:Ci) (hg:c.good) (p:Pt) (hp:p.fit c) (b g:Nat) (h2:b ≠ 2) (h3:b ≠ 3):qa2 Tryz.prog gl0 101 [qi2 c (.ref b g 0 c.n.length (some c.n.length)),p.v] [(b,.row g 1 (tab c.n.length fun _=>u8V 0))]
  (fun v h=>v = .tup []/\h = [(b,.row g 1 (tab c.n.length fun i=>u8V (ini c p i)))]):=by
 have hn1:=hg.n1;have l0:=qg8 0 c.n;have l1:=qg8 14 c.n;have ci:=qn9 c (by omega);have cs:=qkj c (by omega);have hI0:∀ x ∈ ids 0 c.n 0,x < c.n.length:=fun x hx=>(qrl hx).1;have hS0:∀ x ∈ ids 14 c.n 0,x < c.n.length:=fun x hx=>(qrl hx).1;have hIl:(ids 0 c.n 0).length = cnt 0 c.n:=rfl;have hSl:(ids 14 c.n 0).length = cnt 14 c.n:=rfl;have hpi:=hp.i;have hps:=hp.s;unfold ini;generalize ids 0 c.n 0 = I at ci hIl hI0 ⊢;generalize ids 14 c.n 0 = S at cs hSl hS0 ⊢;rw [<- hIl] at ci l0 hpi;rw [<- hSl] at cs l1 hps;obtain ⟨N,hN⟩:∃ N,c.n.length = N:=⟨_,rfl⟩;rw [hN] at hn1 hI0 hS0 l0 l1 ⊢;refine jka jd3 rfl ?_;simp [i101,x101];intro gf1 gf2;generalize gf1 2 = g2;generalize gf2 3 = g3;refine jj4 ci (by simp) ?_;simp
 refine jj6 (X:=Nat) (fun i=>[(12,qab i),(11,qab I.length),(10,.sl (qaf I) (some I.length)),(3,.ptr 3 g3 0 0),(2,.ptr 2 g2 0 0)])
  (fun i=>[(3,.row g3 2 [p.v]),(2,.row g2 5 [qi2 c (.ref b g 0 N (some N))]),(b,.row g 1 (tab N fun j=>u8V (put (I.take i) (p.i.take i) (fun _=>0) j)))])
  (fun i=>i≤I.length) (fun i=>I.length - i) 0 (Nat.zero_le _) (by simp [qab]) (by simp [put,h2,h3]) ?_
 intro i hi;simp [qab];refine jj5 (fun hb=>?_) (fun hb=>?_)
 ·have hi':i < I.length:=jkb hb;have hip:i < p.i.length:=by omega
  have hw:=qbg i (by omega);obtain ⟨n,hn⟩:∃ n,I[i] = n:=⟨_,rfl⟩;have hnN:n < N:=hI0 n (by rw [<- hn]; exact jkg hi');obtain ⟨x,hx⟩:∃ x,p.i[i] = x:=⟨_,rfl⟩;have hpt:=qrw (f:=fun _=>0) i hpi.symm hi';rw [hn,hx] at hpt;have hst:=qna N (put (I.take i) (p.i.take i) fun _=>0) n x;rw [<- hpt] at hst;simp only [u8V] at hst;simp [hi',hip,qap,hn,hx,u8V,hnN,h2,h3,hw,qa0];exact ⟨i + 1,hi',by simp,⟨Ne.symm h3,Ne.symm h2,hst⟩,by omega⟩
 have hi':i = I.length:=by have:=jkc hb; omega
 subst hi';rw [List.take_length,jkf (l:=p.i) (by omega)];generalize put I p.i (fun _=>0) = F;simp;refine jj4 cs (by simp) ?_;simp
 refine jj6 (X:=Nat) (fun i=>[(31,qab i),(30,qab S.length),(29,.sl (qaf S) (some S.length)),(3,.ptr 3 g3 0 0),(2,.ptr 2 g2 0 0)])
  (fun i=>[(3,.row g3 2 [p.v]),(2,.row g2 5 [qi2 c (.ref b g 0 N (some N))]),(b,.row g 1 (tab N fun j=>u8V (put (S.take i) (p.s.take i) F j)))])
  (fun i=>i≤S.length) (fun i=>S.length - i) 0 (Nat.zero_le _) (by simp [qab]) (by simp [put,h2,h3]) ?_
 intro i hi;simp [qab];refine jj5 (fun hb=>?_) (fun hb=>?_)
 ·have hi':i < S.length:=jkb hb;have hip:i < p.s.length:=by omega
  have hw:=qbg i (by omega);obtain ⟨n,hn⟩:∃ n,S[i] = n:=⟨_,rfl⟩;have hnN:n < N:=hS0 n (by rw [<- hn]; exact jkg hi');obtain ⟨x,hx⟩:∃ x,p.s[i] = x:=⟨_,rfl⟩;have hpt:=qrw (f:=F) i hps.symm hi';rw [hn,hx] at hpt;have hst:=qna N (put (S.take i) (p.s.take i) F) n x;rw [<- hpt] at hst;simp only [u8V] at hst;simp [hi',hip,qap,hn,hx,u8V,hnN,h2,h3,hw,qa0];exact ⟨i + 1,hi',by simp,⟨Ne.symm h3,Ne.symm h2,hst⟩,by omega⟩
 ·have hi':i = S.length:=by have:=jkc hb; omega
  subst hi';rw [List.take_length,jkf (l:=p.s) (by omega)];simp;refine .done ?_;simp [h2,h3]
theorem qvu {c:Ci} (hg:c.good) {f f':Nat->Nat} (h:∀ i,i < c.n.length->f i = f' i):q2q c f = q2q c f'/\q2r c f = q2r c f':=by
 refine ⟨List.map_congr_left fun x hx=>?_,List.map_congr_left fun n hn=>?_⟩
 ·obtain ⟨h0,h1⟩:=hg.o hx;rw [h _ (by omega)]
 ·obtain ⟨hnc,x,hxi,x0,x1,-⟩:=q0s hg hn;simp only [jai];rw [c.nd_get hnc,hxi];simp only [];rw [h _ (by omega)]
theorem qs4 (c:Ci) (hg:c.good) (f:Nat->Nat) (cap:Option Nat):qac Tryz.prog gl0 103 [qi2 c (.sl (tab c.n.length fun j=>u8V (f j)) cap)] (qwe (q2q c f) (q2r c f)):=by
 have h:=qvv c hg (tab c.n.length f) cap (by simp)
 obtain ⟨e1,e2⟩:=qvu hg (f:=fun i=>(tab c.n.length f).getD i 0) (f':=f) fun i hi=>by
  rw [jkd,qhw _ hi]; rfl
 rw [e1,e2,qqt] at h;exact h
set_option maxRecDepth 100000 in
theorem jhx (c:Ci) (hg:c.good) (p:Pt) (hp:p.fit c):qac Tryz.prog gl0 29 [c.v,p.v] (.tup [qwe (q2q c (qg4 c p)) (q2r c (qg4 c p)),.sl (tab c.n.length fun i=>u8V (qg4 c p i)) (some c.n.length),.int .i64 0]):=by
 have hn1:=hg.n1;have hft:=q55 c hg p hp;have hob:=qs4 c hg (qg4 c p) (some c.n.length);unfold qi2 at hob;have hld:=fun b g=>q6k c hg p hp b g;refine jj7 2 ok29 rfl ?_;simp [i29,x29];intro gf1 gf2 gf3;generalize gf1 2 = g2;generalize gf2 3 = g3;generalize gf3 4 = g4;refine CallO.own 1000 (qvz c hg.wf) (by simp) (by simp) ?_;rintro v h (⟨h1,-⟩ | ⟨-,g,L,rfl,rfl,hR,hpw⟩) gf4
 ·exact absurd hg.chk h1
 have hord:Ord c L:=⟨hR,hpw (by omega)⟩;have hLl:L.length = c.n.length:=hR.len;simp [upH,upS,Blk.rn,qbi (qay L)];generalize gf4 1000 + g = g9;refine jj4 hft (by simp) ?_;simp;intro gm;refine ⟨by omega,rfl,?_⟩;generalize gm 9 = gr;generalize gm 34 = gn
 refine CallO.lend [34] [(34,.row gn 1 (tab c.n.length fun _=>u8V 0))] [(9,.row gr 5 [qi2 c (.ref 34 gn 0 c.n.length (some c.n.length))]),(1000,.row g9 1 (qaf L)),(4,.row g4 2 [.agg [.nil,.nil]]),(2,.row g2 4 [c.v])]
  (hld 34 gn (by simp) (by simp)) (by simp [jik]) (by simp [qhv,u8V]) (by simp [jik,qf4 c.n.length fun _=>0]) (by simp [qi2]) (by simp) ?_
 rintro v h ⟨rfl,rfl⟩;refine ⟨rfl,by simp [jik,qf4],?_⟩;simp;intro gf5;generalize gf5 39 = g39;have hval:=hg.val;obtain ⟨N,hN⟩:∃ N,c.n.length = N:=⟨_,rfl⟩;rw [hN] at hLl hn1 ⊢;have hLN:∀ x ∈ L,x < N:=fun x hx=>by rw [<- hN]; exact hR.lt x hx
 refine jjn (X:=Nat × Nat × Nat × List V × Option Nat) (fun z=>[(42,qab z.1),(41,qab N),(40,.ref 1000 g9 0 N (some N)),(10,.ref 2000 z.2.1 0 z.2.2.1 z.2.2.2.2),(9,.ptr 9 gr 0 0),(4,.ptr 4 g4 0 0)])
  (fun z=>[(9,.row gr 5 [qi2 c (.ref 34 gn 0 N (some N))]),(1000,.row g9 1 (qaf L)),(34,.row gn 1 (tab N fun j=>u8V (evl (qmx c) (qc9 c) (L.take z.1) (ini c p) j))),(4,.row g4 2 [.agg [.nil,.nil]]),(2000,.row z.2.1 1 z.2.2.2.1)])
  (fun z=>z.1≤N/\z.2.2.1≤z.2.2.2.1.length) (fun z=>N - z.1) ?_ ?_
 ·refine .move 39 2000 _ (by simp) (by simp; rfl) fun g'=>.done ⟨(0,g',0,[],some 16),⟨by simp,by simp⟩,by simp [qab],?_⟩;simp [evl,qi2,qbi (qay L),qbi (qf4 N (ini c p)),qby _ (qrs _),qby _ (qyq _),qby _ (qfx _),qby _ (qo9 _)]
  try rfl
 rintro ⟨i,gt,k,es,cap⟩ ⟨q1,q2⟩;dsimp only at q1 q2 ⊢;obtain ⟨F,hF⟩:∃ F,evl (qmx c) (qc9 c) (L.take i) (ini c p) = F:=⟨_,rfl⟩;rw [hF];simp [qab];refine jj5 (fun hb=>?_) (fun hb=>?_)
 ·have hi:i < N:=jkb hb;have hw:=qbg i (by omega);have hiL:i < L.length:=by omega
  obtain ⟨n,hn⟩:∃ n,L[i] = n:=⟨_,rfl⟩;have hnN:n < N:=hLN n (by rw [<- hn]; exact jkg hiL);have hnc:n < c.n.length:=by omega
  obtain ⟨y,hy⟩:∃ y,c.n[n] = y:=⟨_,rfl⟩
  have hst:evl (qmx c) (qc9 c) (L.take (i + 1)) (ini c p) = if qc9 c n = true then qc0 F n (qmx c n F) else F:=by
   rw [List.take_succ_eq_append_getElem hiL,hn,qrd,hF]
  have hcb:qc9 c n = decide (1≤y.k/\y.k≤13):=by unfold qc9 qdz; rw [c.nd_get hnc,hy]
  have hyi:=hval.i n hnc;have hyl:=hval.l n hnc;rw [c.nd_get hnc,hy] at hyi hyl;have hcc:=q0d y.k;rw [<- hcb] at hcc;have hyk:=hg.wf.k y (by rw [<- hy]; exact jkg hnc);simp [hi,hLl,qap,hn,hnc,hy];intro gf6;generalize gf6 13 = g13;refine jj4 hcc (by simp) ?_
  cases hq:qc9 c n with
  | false=>
   rw [hq,if_neg (by simp)] at hst;simp [hw];refine .done ⟨i + 1,gt,k,es,⟨hi,q2⟩,by simp,?_,by omega⟩;simp [hst]
  | true=>
   rw [hq,if_pos rfl] at hst;obtain ⟨l,hl⟩:∃ l,c.g n = l:=⟨_,rfl⟩
   have hyl2:y.i = l.map fun (x:Nat)=>(x:Int):=by
    rw [<- hl];unfold Ci.g;have hq2:qdz (c.nd n).k = true:=hq;rw [if_pos hq2,c.nd_get hnc,hy,List.map_map];have hid:∀ x ∈ y.i,((fun (x:Nat)=>(x:Int)) ∘ Int.toNat) x = id x:=fun x hx=>Int.toNat_of_nonneg (hyi x hx).1;rw [List.map_congr_left hid,List.map_id]
   have hlN:∀ x ∈ l,x < N:=fun x hx=>by
    have:=(hyi (x:Int) (by rw [hyl2]; exact List.mem_map_of_mem hx)).2;omega
   have hll:l.length≤16:=by rw [hyl2] at hyl; simpa using hyl
   have hev:qmx c n F = qpg y.k.toNat (l.map F):=by unfold qmx; rw [c.nd_get hnc,hy,hl]
   have hin:qdh y.i = qaf l:=by rw [hyl2,<- qh7]
   have hyv:y.v = .agg [.int .u8 y.k,.sl (qaf l) none,.int .i64 y.a,.int .i64 y.b]:=by unfold Nd.v; rw [hin]
   simp [hin];have hll2:y.i.length = l.length:=by rw [hyl2]; simp
   try rw [hll2]
   refine jix (X:=Nat × Nat × List V × Option Nat) (fun z=>[(61,qab z.1),(60,qab l.length),(59,.sl (qaf l) none),(10,.ref 2000 z.2.1 0 z.1 z.2.2.2),(13,.ptr 13 g13 0 0),(12,qab n),(42,qab i),(41,qab N),(40,.ref 1000 g9 0 N (some N)),(9,.ptr 9 gr 0 0),(4,.ptr 4 g4 0 0)])
    (fun z=>[(13,.row g13 4 [y.v]),(9,.row gr 5 [qi2 c (.ref 34 gn 0 N (some N))]),(1000,.row g9 1 (qaf L)),(34,.row gn 1 (tab N fun j=>u8V (F j))),(4,.row g4 2 [.agg [.nil,.nil]]),(2000,.row z.2.1 1 z.2.2.1)])
    (fun z=>z.1≤l.length/\z.1≤z.2.2.1.length/\z.2.2.1.take z.1 = ((l.take z.1).map F).map u8V) (fun z=>l.length - z.1) (.done ⟨(0,gt,es,cap),⟨by simp,by simp,by simp⟩,by simp [qab],by simp⟩) ?_
   rintro ⟨j,gt2,es2,cap2⟩ ⟨p1,p2,p3⟩;dsimp only at p1 p2 p3 ⊢;simp [qab];refine jj5 (fun hb2=>?_) (fun hb2=>?_)
   ·have hj:j < l.length:=jkb hb2;have hw2:=qbg j (by omega);obtain ⟨x,hx⟩:∃ x,l[j] = x:=⟨_,rfl⟩;have hxN:=hlN x (by rw [<- hx]; exact jkg hj);have hnx:=congrArg (List.map u8V) (qe9 F hj hx);rw [List.map_append,<- p3] at hnx;simp only [List.map_cons,List.map_nil,u8V] at hnx;simp [hj,qap,hx,hxN,qa0,u8V,hw2];intro ga gb;refine ⟨⟨p2,by omega⟩,.done ⟨j + 1,gb 2000,List.take j es2 ++ [.int .u8 (F x:Int)],⟨hj,by simp; omega,?_⟩,by simp,by simp,by omega⟩⟩;rw [jkf (by simp; omega)];simpa [u8V] using hnx.symm
   ·have hj:j = l.length:=by have:=jkc hb2; omega
    subst hj;rw [List.take_length] at p3;have hku:u8V y.k.toNat = .int .u8 y.k:=by simp [u8V,Int.toNat_of_nonneg hyk.1]
    have hlog:=qvh y.k.toNat (by omega) (l.map F) cap2 (by simp; omega);rw [<- hev,hku] at hlog;obtain ⟨E,hE⟩:∃ E,qmx c n F = E:=⟨_,rfl⟩;rw [hE] at hlog hst;have hset:=qna N F n E;rw [<- hst] at hset;simp only [u8V] at hlog hset;simp;intro gm2
    first | refine ⟨_,_,_,.borrow 2 hlog ?_ rfl,?_⟩ | refine ⟨_,⟨_,_,.borrow 2 hlog ?_ rfl⟩,?_⟩ | refine ⟨_,_,⟨_,.borrow 2 hlog ?_ rfl⟩,?_⟩
    ·simp only [List.map_cons,List.map_nil];rw [qcl (es:=es2) (sz:=1) (by simp) (by omega),List.drop_zero,p3,qdr _ _ (qa1 _),qjb _ _ rfl]
    simp [hnN,qa0,u8V,hw,hset];exact ⟨rfl,.done ⟨i + 1,gt2,l.length,es2,⟨hi,p2⟩,by simp,by simp,by omega⟩⟩
 ·have hi:i = N:=by have:=jkc hb; omega
  subst hi;rw [jkf (by omega),<- hord.eq] at hF;have hF2:qg4 c p = F:=hF;rw [hF2,hN] at hob;have hpu:=run_pure c (tab i F) (some i);rw [qqt] at hpu;have htk:List.take i (tab i fun j=>u8V (F j)) = tab i fun j=>u8V (F j):=jkf (by simp);have hmp:=qao (f:=fzf 34 gn (tab i fun j=>u8V (F j))) (p:=fzp 34 gn (tab i fun j=>u8V (F j)));rw [hF2];simp
  refine .mk [(9,.ptr 9 gr 0 0),(4,.ptr 4 g4 0 0)] [(9,.row gr 5 [qi2 c (.ref 34 gn 0 i (some i))]),(34,.row gn 1 (tab i fun j=>u8V (F j))),(4,.row g4 2 [.agg [.nil,.nil]])] (by simp) (by simp)
   (.frz (g:=gn) (sz:=1) (es:=tab i fun j=>u8V (F j)) 34 (by simp) (qf4 _ _) (.done ?_))
  simp [fzF,fzH,fzV,fzf,fzp,Blk.fz,qi2,qao,htk];intro gm2
  first | refine ⟨_,_,_,.pure hob (by simpa [qi2] using hpu),?_⟩ | refine ⟨_,⟨_,_,.pure hob (by simpa [qi2] using hpu)⟩,?_⟩ | refine ⟨_,_,⟨_,.pure hob (by simpa [qi2] using hpu)⟩,?_⟩
  simp [qwe,qao,qf4];rfl
end
section
open Go
theorem qy5 {c:Ci} {L:List Nat} (h:Ord c L):Ord c (qy4 c):=by rw [h.eq]; exact h
theorem Ci.good.ord {c:Ci} (hg:c.good):Ord c (qy4 c):=by
 have hlv:qkt c.n.length c.g (qew c):=hg.ac.lv;have hlt:=hlv.lt hg.val.g;refine qy5 (L:=lvL c.n.length (qew c) c.n.length) ⟨⟨?_,fun x hx=>((qe8 _ _).1 hx).1⟩,qls _⟩;have h1:=qvk (n:=c.n.length) (lv:=qew c) c.n.length;have h2:=qvj hlt;omega
theorem q2a (x:Cx) (hm:x.mem = false):x.ci.good where
 wf:=qxq x
 chk:=q0b x
 sh:=qr2 x
 ac:=qla (qq8 x)
 m:=by simp [Cx.ci,hm]
 k:=fun y hy hk=>by
  obtain ⟨i,hi,rfl⟩:=List.getElem_of_mem hy;rcases (qil x).1 i hi with h | h | h | h
  ·have:=h.1; omega
  ·have:=h.1; omega
  ·rw [hm] at h; exact absurd h.1 (by simp)
  ·have:=h.2.1; omega
 n0:=by rw [(qil x).2]; exact (qho x).2.2.1
 n1:=by rw [(qil x).2]; have:=(qho x).2.2.2; have e:x.nn≤16:=this; omega
def pof (c:Ci) (p:Pt):Pt:=⟨tkN p.i (cnt 0 c.n) 4,tkN p.s (cnt 14 c.n) 3⟩
theorem q25 (c:Ci) (p:Pt):(pof c p).fit c:=⟨by simp [pof],by simp [pof],q04 _ _ 4 (by omega) (by omega),q04 _ _ 3 (by omega) (by omega)⟩
theorem q8z (p:Pt) (c:Ci) (hl:c.n.length < 1000000):qac Tryz.prog gl0 25 [p.v,c.v] (pof c p).v:=jhm p c hl
def Cx.nm (x:Cx):Cx:={ x with mem:=false }
theorem q2m (x:Cx):x.nm.ci.good:=q2a _ rfl
end
end Go.Proofs.YtbbnmiaabmbheaaGreatDoor
