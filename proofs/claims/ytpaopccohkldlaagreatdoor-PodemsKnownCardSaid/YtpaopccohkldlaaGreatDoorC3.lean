/- Lemmas. Conditions: none. -/
import Derived.Test.YtpaopccohkldlaaGreatDoorC1
import Derived.Test.YtpaopccohkldlaaGreatDoorBase18
set_option linter.all false
namespace Go.Proofs.YtpaopccohkldlaaGreatDoor
section
open Go
theorem qtl:∀ (l:List (Nat × Nat)) (e o:Nat) (t:Nat × Nat),evO e o (l ++ [t]) = (min (pls (evO e o l).1 t.1) (pls (evO e o l).2 t.2),min (pls (evO e o l).1 t.2) (pls (evO e o l).2 t.1))
 | [],e,o,t=>rfl
 | x :: l,e,o,t=>by simp only [List.cons_append,evO]; exact qtl l _ _ t
theorem jci (l:List (Nat × Nat)):(evO 0 nev l).1≤nev/\(evO 0 nev l).2≤nev:=by rw [jnc]; exact ⟨qj4 _ _,qj4 _ _⟩
theorem qub (k:Nat) (ts:List (Nat × Nat)) (cap:Option Nat) (ht:∀ t ∈ ts,t.1≤nev/\t.2≤nev) (hl:ts.length < 1000000) :
  qab Tryz.prog gl0 218 [u8V k,.sl (ts.map tbV) cap] (nC (swC k (pls (evO 0 nev ts).1 1,pls (evO 0 nev ts).2 1))):=by
 have hn:nev = 1073741824:=rfl;refine jpb 3 jkz rfl ?_;simp [i218,x218];intro gf;generalize gf 4 = g4
 refine jpa (X:=Nat × Nat × Nat) (fun z=>[(11,qaa z.1),(10,qaa ts.length),(9,.sl (ts.map tbV) cap),(6,qaa z.2.2),(5,qaa z.2.1),(4,.ptr 4 g4 0 0),(0,u8V k)])
  (fun _=>[(4,.row g4 2 [.agg [.int .i64 0,.int .i64 0]])]) (fun z=>z.1≤ts.length/\evO 0 nev (ts.take z.1) = z.2) (fun z=>ts.length - z.1) (0,0,nev) (by simp [evO]) (by simp [qaa,u8V]) (by simp) ?_
 rintro ⟨i,e,o⟩ ⟨q1,q2⟩;dsimp only at q1 q2 ⊢;have hle:=jci (ts.take i);rw [q2] at hle;dsimp only at hle;simp [qaa,u8V];refine jo8 (fun hb2=>?_) (fun hb2=>?_)
 ·have hi:=jpf hb2;have hw:=qa1 i (by omega);obtain ⟨t,hti⟩:∃ t,ts[i] = t:=⟨_,rfl⟩;have htt:=ht t (hti ▸ jpk hi);have p1:=qdq e t.1 (by omega) (by omega);have p2:=qdq o t.2 (by omega) (by omega);have p3:=qdq e t.2 (by omega) (by omega);have p4:=qdq o t.1 (by omega) (by omega);simp [hi,hti,tbV,qaa,u8V];intro gf gm
  first | refine ⟨_,_,_,.pure p1 (by simp [qaa]),?_⟩ | refine ⟨_,⟨_,_,.pure p1 (by simp [qaa])⟩,?_⟩ | refine ⟨_,_,⟨_,.pure p1 (by simp [qaa])⟩,?_⟩
  simp
  first | refine ⟨_,_,_,.pure p2 (by simp [qaa]),?_⟩ | refine ⟨_,⟨_,_,.pure p2 (by simp [qaa])⟩,?_⟩ | refine ⟨_,_,⟨_,.pure p2 (by simp [qaa])⟩,?_⟩
  simp [qaa,qsc]
  first | refine ⟨_,_,_,.pure p3 (by simp [qaa]),?_⟩ | refine ⟨_,⟨_,_,.pure p3 (by simp [qaa])⟩,?_⟩ | refine ⟨_,_,⟨_,.pure p3 (by simp [qaa])⟩,?_⟩
  simp
  first | refine ⟨_,_,_,.pure p4 (by simp [qaa]),?_⟩ | refine ⟨_,⟨_,_,.pure p4 (by simp [qaa])⟩,?_⟩ | refine ⟨_,_,⟨_,.pure p4 (by simp [qaa])⟩,?_⟩
  simp [qaa,qsc,hw];refine ⟨by simp [qfk,qgz,qyo,qqf],i + 1,_,_,⟨hi,?_⟩,⟨by omega,rfl,rfl⟩,by omega⟩;rw [qda _ _ hi,hti,qtl,q2]
 ·have hi:i = ts.length:=by have:=jpg hb2; omega
  subst hi;rw [List.take_length] at q2;have hp1:=qdq e 1 (by omega) (by omega);have hp2:=qdq o 1 (by omega) (by omega);simp;refine jo7 hp1 (by simp [qaa]) ?_;simp;refine jo7 hp2 (by simp [qaa]) ?_;simp [qaa];refine jo7 (qnv k (pls e 1,pls o 1)) (by simp [u8V,nC,qaa]) ?_;simp [nC,qaa,q2]
def jhy (ts:List (Nat × Nat)) (cap:Option Nat) (kp:Int):V:=.fn 234 [] [.iptr (.sl (ts.map tbV) cap) 0,.iptr (.int .i64 kp) 0]
theorem q1s (ts:List (Nat × Nat)) (cap:Option Nat) (kp:Int):qab Tryz.prog gl0 220 [.sl (ts.map tbV) cap,.int .i64 kp] (jhy ts cap kp):=by
 have hp:=qdl ts;unfold jhy;generalize ts.map tbV = L at hp ⊢;refine jpb 3 jk1 rfl ?_;simp [i220,x220];intro gf gf2;exact qad _ hp
structure VG where
 g3:Nat
 g4:Nat
 g5:Nat
 g8:Nat
def q93 (ts:List (Nat × Nat)) (cap:Option Nat) (kp:Int) (G:VG):List V:=[.iptr (.sl (ts.map tbV) cap) 0,.ptr 3 G.g3 0 0,.ptr 4 G.g4 0 0,.iptr (.int .i64 kp) 0,.ptr 5 G.g5 0 0]
def qf5 (ts:List (Nat × Nat)) (cap:Option Nat) (kp:Int) (G:VG) (B g:Nat) (hr:Hp) (a:List Nat):Hp:=
 (8,.row G.g8 1 (a.map u8V)) :: (5,.row G.g5 1 [.fn 235 [] (q93 ts cap kp G)]) :: (4,.row G.g4 1 [.ref 8 G.g8 0 ts.length (some ts.length)]) :: (3,.row G.g3 1 [.own B g]) :: hr
section
variable {ts:List (Nat × Nat)} {cap:Option Nat} {kp:Int} {G:VG} {B g:Nat} {hr:Hp} {a:List Nat}
theorem quu:lk (qf5 ts cap kp G B g hr a) 3 = some (.row G.g3 1 [.own B g]):=by simp [qf5]
theorem quv:lk (qf5 ts cap kp G B g hr a) 4 = some (.row G.g4 1 [.ref 8 G.g8 0 ts.length (some ts.length)]):=by simp [qf5]
theorem q05:lk (qf5 ts cap kp G B g hr a) 5 = some (.row G.g5 1 [.fn 235 [] (q93 ts cap kp G)]):=by simp [qf5]
theorem q6c:lk (qf5 ts cap kp G B g hr a) 8 = some (.row G.g8 1 (a.map u8V)):=by simp [qf5]
end
structure VSt (σ:Type) where
 v:Nat
 a:List Nat
 s:σ
theorem jn6 {P:Program} {gl:Fr} {f:FuncId} {args:List V} {h h2:Hp} {K:V->Hp->Prop} (hs:∀ b k,lk h2 b = some k->lk h b = some k) (hc:qat P gl f args h2 K):qat P gl f args h K:=
 ⟨hc.1,fun G M w rargs hs' hgl hsz hr=>hc.2 G M w rargs ⟨hs'.gw,fun b k hk=>hs'.hb b k (hs b k hk),hs'.inj,hs'.mlt⟩ hgl hsz hr⟩
theorem qm6 {ts:List (Nat × Nat)} {cap:Option Nat} {kp:Int} {G:VG} {B g:Nat} {hr:Hp} {a:List Nat} {i v:Nat} {L:List V} (hL:L = (a.set i v).map u8V) (b:Nat) (k:Blk) (h:lk (qf5 ts cap kp G B g hr (a.set i v)) b = some k):lk ((8,.row G.g8 1 L) :: qf5 ts cap kp G B g hr a) b = some k:=by
 subst hL;simp only [qf5,lk] at h ⊢;split at h
 ·simp_all
 ·simp_all
def vst {σ:Type} (kp:Int) (up:List Nat->Nat->σ->σ) (i:Nat) (r:List (Nat × Nat)) (pre:List Nat) (cost:Nat) (t:Nat × Nat):Nat->σ->σ
 | 0,s=>s
 | v + 1,s=>let s1:=vst kp up i r pre cost t v s
  if pls cost (tb t v) < nev then vis kp up (i + 1) r (pre ++ [v]) (pls cost (tb t v)) s1 else s1
theorem jms {σ:Type} (kp:Int) (up:List Nat->Nat->σ->σ) (i:Nat) (r:List (Nat × Nat)) (pre:List Nat) (cost:Nat) (t:Nat × Nat) (s:σ) (h:¬ (i:Int) = kp):vis kp up i (t :: r) pre cost s = vst kp up i r pre cost t 3 s:=by
 simp only [vis,vst,tb,if_neg h]; rfl
def Kn (h h':Hp):Prop:=∀ b k,lk h b = some k->lk h' b = some k
theorem qj0 {h h':Hp} (hk:Kn h h'):Kn h (qra h'):=fun b k hb=>by rw [qd6]; exact hk b k hb
theorem Kn.trans {h h1 h2:Hp} (a:Kn h h1) (b:Kn h1 h2):Kn h h2:=fun x k hx=>b x k (a x k hx)
theorem qw1 (h:Hp):Kn h h:=fun _ _ h=>h
theorem q45 {h h':Hp} (hk:Kn h h'):Sub (qra h) h':=qh0 fun _ _ hm=>hk _ _ (qnj hm)
set_option maxRecDepth 100000 in
theorem q07 {σ:Type} (ts:List (Nat × Nat)) (cap:Option Nat) (kp:Int) (G:VG) (B g:Nat) (hr:σ->Hp) (up:List Nat->Nat->σ->σ) (ht:∀ t ∈ ts,t.1≤nev/\t.2≤nev) (hl:ts.length < 1000000)
  (hy:∀ a cost s (K:V->Hp->Prop),a.length = ts.length->(∀ v ∈ a,v < 3)->cost < nev->(∀ h',Kn (qf5 ts cap kp G B g (hr (up a cost s)) a) h'->K (.bool true) h')->qfh Tryz.prog gl0 B g [.ref 8 G.g8 0 ts.length (some ts.length),qaa cost] (qf5 ts cap kp G B g (hr s) a) K) :
  ∀ (r:List (Nat × Nat)) (i cost:Nat) (a:List Nat) (s:σ) (h:Hp) (K:V->Hp->Prop),ts.drop i = r->a.length = ts.length->i≤ts.length->(∀ v ∈ a,v < 3)->cost < nev->Kn (qf5 ts cap kp G B g (hr s) a) h->
   (∀ a' h',a'.length = ts.length->a'.take i = a.take i->(∀ v ∈ a',v < 3)->Kn (qf5 ts cap kp G B g (hr (vis kp up i r (a.take i) cost s)) a') h'->K (.bool true) h')->
   qat Tryz.prog gl0 235 ([qaa i,qaa cost] ++ q93 ts cap kp G) h K
 | [],i,cost,a,s,h,K,h1,h2,h3,h4,h5,h6,hK=>by
  have hi:i = ts.length:=by have:=congrArg List.length h1; simp at this; omega
  subst hi;refine jn6 h6 (jpe jd4 rfl ?_);simp [jir,jnb,q93,qaa,quu,quv];refine hy a cost s _ h2 h4 h5 fun h' hh=>?_;simp;have ha:a.take ts.length = a:=by rw [<- h2]; exact List.take_length
  exact .done ⟨qra h',qdk _,hK a _ h2 rfl h4 (by rw [ha]; exact qj0 hh)⟩
 | t :: r,i,cost,a,s,h,K,h1,h2,h3,h4,h5,h6,hK=>by
  have ih:=q07 ts cap kp G B g hr up ht hl hy r (i + 1);have hi:i < ts.length:=by have:=congrArg List.length h1; simp at this; omega
  have hti:ts[i] = t:=by
   have:=congrArg (fun l=>l[0]?) h1;simpa [hi] using this
  have htt:=ht t (hti ▸ jpk hi);have hdr:ts.drop (i + 1) = r:=by rw [<- List.tail_drop,h1]; rfl
  have hset:∀ (a:List Nat) v,v < 3->(∀ x ∈ a,x < 3)->∀ x ∈ a.set i v,x < 3:=fun a v hv ha x hx=>by
   rcases List.mem_or_eq_of_mem_set hx with h | h
   ·exact ha x h
   ·omega
  have htk:∀ (a:List Nat) v,i < a.length->(a.set i v).take (i + 1) = a.take i ++ [v]:=fun a v hv=>by
   rw [qda _ _ (by simpa using hv),List.take_set_of_le (by omega)]; simp
  refine jn6 h6 (jpe jd4 rfl ?_);simp [jir,jnb,q93,qaa];refine jo8 (fun hb=>by have:=jpf hb; omega) (fun _=>?_);simp [quu,quv];refine jo8 (fun hb=>?_) (fun hb=>?_)
  ·have hk:=jpf hb;have hai:i < a.length:=by omega
   have hw:=qa1 i (by omega);simp [quu,quv,q05,q6c,hai,hw,u8V];refine ⟨hi,ih cost _ s _ _ hdr (by simp [h2]) (by omega) (hset a 2 (by omega) h4) h5 (qm6 (v:=2) (by rw [List.map_set]; rfl)) fun a' h' b1 b2 b3 hh=>?_⟩
   have b4:a'.take i = a.take i:=by
    have:=congrArg (List.take i) b2;rw [List.take_take,List.take_take,Nat.min_eq_left (by omega),List.take_set_of_le (by omega)] at this;exact this
   simp;refine .done ⟨qra h',qdk _,hK a' _ b1 b4 b3 ?_⟩;rw [htk _ _ hai] at hh;rw [vis,if_pos hk];exact qj0 hh
  ·have hk:=jpg hb;have hwi:=qa1 i (by omega);simp
   refine jpa (X:=VSt σ) (fun z=>[(10,u8V z.v),(9,.bool false),(0,qaa i),(1,qaa cost),(2,(V.sl (List.map tbV ts) cap).iptr 0),(3,.ptr 3 G.g3 0 0),(4,.ptr 4 G.g4 0 0),(5,(V.int IntKind.i64 kp).iptr 0),(6,.ptr 5 G.g5 0 0)])
    (fun z=>qra (qf5 ts cap kp G B g (hr z.s) z.a)) (fun z=>z.v≤3/\z.a.length = ts.length/\(∀ x ∈ z.a,x < 3)/\z.a.take i = a.take i/\z.s = vst kp up i r (a.take i) cost t z.v s) (fun z=>3 - z.v) ⟨0,a,s⟩ ⟨by simp,h2,h4,rfl,rfl⟩ (by simp [qaa,u8V]) (qdk _) ?_
   rintro ⟨v,c,z⟩ ⟨q1,q2,q3,q4,q5⟩;dsimp only at q1 q2 q3 q4 q5 ⊢;have hci:i < c.length:=by omega
   simp [qaa,u8V,qd6];refine jo8 (fun hb2=>?_) (fun hb2=>?_)
   ·have hv:v≤2:=by have:=jpf hb2; omega
    have h3:v = 0∨v = 1∨v = 2:=by omega
    have hv1:IntKind.u8.wrap ((v:Int) + 1) = ((v + 1:Nat):Int):=by rcases h3 with rfl | rfl | rfl <;> decide
    have hvl:[V.int IntKind.i64 ↑t.1,V.int IntKind.i64 ↑t.2,V.int IntKind.i64 0][v]?.getD V.undef = qaa (tb t v):=by rcases h3 with rfl | rfl | rfl <;> rfl
    have htb:tb t v≤nev:=by unfold tb; split <;> (try split) <;> omega
    have hnv:nev = 1073741824:=rfl;have hp:=qdq cost (tb t v) (by omega) (by omega);have hst:(u8V v :: []) = [V.int IntKind.u8 (v:Int)]:=rfl;simp [quu,quv,q05,q6c,hci,hwi,u8V,qd6,hi,hti,tbV,qaa];rw [hvl];refine ⟨by omega,jo7 hp (by simp [qaa]) ?_⟩;have hnext:vst kp up i r (a.take i) cost t (v + 1) s = if pls cost (tb t v) < nev then vis kp up (i + 1) r (a.take i ++ [v]) (pls cost (tb t v)) z else z:=by rw [q5]; rfl
    have hKn:Kn (qf5 ts cap kp G B g (hr z) (c.set i v)) ((8,.row G.g8 1 ((List.map u8V c).set i (V.int IntKind.u8 ↑v))) :: qra (qf5 ts cap kp G B g (hr z) c)):=fun b k hb=>by
     have:=qm6 (ts:=ts) (cap:=cap) (kp:=kp) (G:=G) (B:=B) (g:=g) (hr:=hr z) (a:=c) (i:=i) (v:=v) (L:=(List.map u8V c).set i (V.int IntKind.u8 ↑v)) (by rw [List.map_set]; rfl) b k hb;simp only [lk,qd6] at this ⊢;exact this
    simp [qaa];refine jo8 (fun hb3=>?_) (fun hb3=>?_)
    ·have hlt:pls cost (tb t v) < nev:=jpf hb3;simp [q05,qd6,hwi,q93,hlt];refine ih (pls cost (tb t v)) _ z _ _ hdr (by simp [q2]) (by omega) (hset c v (by omega) q3) hlt hKn fun a' h' b1 b2 b3 hh=>?_;rw [htk _ _ hci,q4] at hh
     have b4:a'.take i = a.take i:=by
      have:=congrArg (List.take i) b2;rw [List.take_take,List.take_take,Nat.min_eq_left (by omega),List.take_set_of_le (by omega),q4] at this;exact this
     simp [hv1];rw [if_pos hlt] at hnext;refine ⟨⟨v + 1,a',_⟩,⟨by dsimp only; omega,b1,b3,b4,hnext.symm⟩,by simp,?_,by dsimp only; omega⟩;exact q45 hh
    ·have hlt:¬ pls cost (tb t v) < nev:=jpg hb3;simp [hlt,hv1];rw [if_neg hlt] at hnext;refine ⟨⟨v + 1,c.set i v,z⟩,⟨by dsimp only; omega,by simpa using q2,hset c v (by omega) q3,by dsimp only; rw [List.take_set_of_le (by omega)]; exact q4,hnext.symm⟩,by simp,?_,by dsimp only; omega⟩;exact q45 hKn
   ·have hv:v = 3:=by have:=jpg hb2; omega
    subst hv;simp;refine .done ⟨qra (qra (qf5 ts cap kp G B g (hr z) c)),qdk _,hK c _ q2 q4 q3 ?_⟩;rw [jms _ _ _ _ _ _ _ _ hk,<- q5];exact qj0 (qj0 (qw1 _))
end
section
open Go
set_option maxRecDepth 100000 in
theorem jc2 {σ:Type} (ts:List (Nat × Nat)) (cap:Option Nat) (kp:Int) (B g:Nat) (hr:σ->Hp) (up:List Nat->Nat->σ->σ) (ht:∀ t ∈ ts,t.1≤nev/\t.2≤nev) (hl:ts.length < 1000000)
  (hy:∀ G a cost s (K:V->Hp->Prop),a.length = ts.length->(∀ v ∈ a,v < 3)->cost < nev->(∀ h',Kn (qf5 ts cap kp G B g (hr (up a cost s)) a) h'->K (.bool true) h')->qfh Tryz.prog gl0 B g [.ref 8 G.g8 0 ts.length (some ts.length),qaa cost] (qf5 ts cap kp G B g (hr s) a) K)
  (s:σ) (h:Hp) (hh:Kn (hr s) h) (K:V->Hp->Prop) (hK:∀ v G a h',Kn (qf5 ts cap kp G B g (hr (vis kp up 0 ts [] 0 s)) a) h'->K v h') :
  qat Tryz.prog gl0 234 [.own B g,.iptr (.sl (ts.map tbV) cap) 0,.iptr (.int .i64 kp) 0] h K:=by
 refine jn6 hh (jpe jk8 rfl ?_);simp [i234,x234];intro ga gb;refine ⟨by omega,fun gc gd=>?_⟩;have h0:V.int IntKind.i64 0 = qaa 0:=rfl;refine q07 ts cap kp ⟨ga 3,gc 4,gd 5,gb 8⟩ B g hr up ht hl (fun a cost s K h1 h2 h3 h4=>hy _ a cost s K h1 h2 h3 h4) ts 0 0 (List.replicate ts.length 0) s _ _ rfl (by simp) (by omega) (by simp) (by unfold nev; omega) (fun b k hb=>?_) fun a' h' b1 b2 b3 hh=>?_
 ·simp only [qf5,q93,lk,List.map_replicate] at hb ⊢;split at hb
  ·simp_all [u8V]
  ·simp_all
 ·simp;exact .done ⟨qra h',qdk _,hK _ _ a' _ (qj0 hh)⟩
def qi8 (k:Nat) (ts:List (Nat × Nat)):Nat × Nat:=
 if (decide (k≤15) && ql5 k ts.length) = false then (nev,nev)
 else if k = 0∨k = 14 then (1,1) else if k = 15 then (nev,nev) else if k = 1 then (0,nev) else if k = 2 then (nev,0)
 else if (qg2 k).2 = true then swC k (if (qg2 k).1 = 0 then (pls (mnV false ts) 1,pls (smV true ts) 1) else (pls (smV false ts) 1,pls (mnV true ts) 1))
 else if k = 9∨k = 10 then swC k (pls (evO 0 nev ts).1 1,pls (evO 0 nev ts).2 1)
 else if k = 13 then (pls (mnV false ts) 1,pls (mnV true ts) 1)
 else (pls (bst ts fun a=>decide (qgi k a = 0)) 1,pls (bst ts fun a=>decide (qgi k a = 1)) 1)
theorem qyh {k:Nat} {ts:List (Nat × Nat)} (h:(decide (k≤15) && ql5 k ts.length) = true):qi8 k ts =
 if k = 0∨k = 14 then (1,1) else if k = 15 then (nev,nev) else if k = 1 then (0,nev) else if k = 2 then (nev,0)
 else if (qg2 k).2 = true then swC k (if (qg2 k).1 = 0 then (pls (mnV false ts) 1,pls (smV true ts) 1) else (pls (smV false ts) 1,pls (mnV true ts) 1))
 else if k = 9∨k = 10 then swC k (pls (evO 0 nev ts).1 1,pls (evO 0 nev ts).2 1)
 else if k = 13 then (pls (mnV false ts) 1,pls (mnV true ts) 1)
 else (pls (bst ts fun a=>decide (qgi k a = 0)) 1,pls (bst ts fun a=>decide (qgi k a = 1)) 1):=by
 unfold qi8; rw [if_neg (by rw [h]; simp)]
theorem q6q (l:List (Int × Int)):∀ t ∈ l.map qq9,t.1≤nev/\t.2≤nev:=by
 intro t ht;obtain ⟨p,-,rfl⟩:=List.mem_map.1 ht;exact ⟨qxk _,qxk _⟩
noncomputable def qwm (k g2 g6 g7 g:Nat) (z:Nat × Nat):Hp:=[(2000079,.loop g 100 [(2,.ptr 2 g2 0 0),(6,.ptr 6 g6 0 0)] [79,80] qoi qoj false),(6,.row g6 3 [.agg [qaa z.1,qaa z.2,qaa 0]]),(7004,.row g7 2 [.agg [qaa 0,qaa 0]]),(2,.row g2 1 [u8V k])]
theorem jnd {ts:List (Nat × Nat)} {cap:Option Nat} {G:VG} {k g2 g6 g7 g cost:Nat} {a:List Nat} {z:Nat × Nat} {K:V->Hp->Prop} (hk:k < 256) (hl:ts.length < 1000000) (ha:a.length = ts.length)
  (hK:∀ h',Kn (qf5 ts cap (-1) G 2000079 g (qwm k g2 g6 g7 g (upB (fun a=>decide (qgi k a = 0)) (fun a=>decide (qgi k a = 1)) a cost z)) a) h'->K (.bool true) h') :
  qfh Tryz.prog gl0 2000079 g [.ref 8 G.g8 0 ts.length (some ts.length),qaa cost] (qf5 ts cap (-1) G 2000079 g (qwm k g2 g6 g7 g z) a) K:=by
 have hlog:=qy8 k hk a (some ts.length) (by omega);refine qfh.of_W q34 (show lk (qf5 ts cap (-1) G 2000079 g (qwm k g2 g6 g7 g z) a) 2000079 = some (.loop g 100 [(2,.ptr 2 g2 0 0),(6,.ptr 6 g6 0 0)] [79,80] qoi qoj false) by simp [qf5,qwm]) rfl ?_;simp [q1b,q1d,qf5,qwm,u8V];refine ⟨_,_,_,_,_,⟨rfl,rfl,rfl,rfl,rfl⟩,?_⟩;have hft:∀ (f:Nat->Nat->Nat->Nat->Option Nat->V) (p:Nat->Nat->Nat->Nat->V),List.take ts.length (List.map (fun x=>V.mapR f p x) (a.map u8V)) = a.map u8V:=fun f p=>q9s (qar a) (by simp [ha]) f p
 refine CallO.borrow 1 hlog (by
  simp [ha,u8V];rw [<- List.map_map]; exact hft _ _) rfl ?_
 generalize he:qgi k a = e at hlog;simp [u8V];refine jo8 (fun hb=>?_) (fun hb=>?_)
 ·have h1:e = 0∨e = 1:=by have:=jpf hb; omega
  rcases h1 with rfl | rfl
  ·simp [qaa,qsc];refine .done ⟨_,_,_,_,_,by simp; exact ⟨rfl,rfl,rfl,rfl,rfl⟩,_,qdk _,hK _ (Sub.spec ?_)⟩;simp [qf5,qwm,qd6,upB,he,qaa,u8V]
  ·simp [qaa,qsc];refine .done ⟨_,_,_,_,_,by simp; exact ⟨rfl,rfl,rfl,rfl,rfl⟩,_,qdk _,hK _ (Sub.spec ?_)⟩;simp [qf5,qwm,qd6,upB,he,qaa,u8V]
 ·have h1:¬ e≤1:=jpg hb;have h2:¬ e = 0:=by omega
  have h3:¬ e = 1:=by omega
  simp;refine .done ⟨_,_,_,_,_,by simp; exact ⟨rfl,rfl,rfl,rfl,rfl⟩,_,qdk _,hK _ (Sub.spec ?_)⟩;simp [qf5,qwm,qd6,upB,he,h2,h3,qaa,u8V]
set_option maxRecDepth 100000 in
theorem q0e (k:Nat) (hk:k < 256) (l:List (Int × Int)) (cap:Option Nat) (hl:l.length < 1000000):qab Tryz.prog gl0 193 [u8V k,.sl (l.map cV) cap] (nC (qi8 k (l.map qq9))):=by
 have hf:=q60 k l.length hk hl;have htb:=q4o l cap hl;have hle:=q6q l;have hlen:(l.map qq9).length = l.length:=by simp
 have hn:nev = 1073741824:=rfl;generalize hts:l.map qq9 = ts at htb hle hlen ⊢;refine jn3 7 2 jkl rfl ?_;simp [i193,x193,u8V];intro ga gb;refine KM.mk (.done ?_);simp;refine jo7 hf (by simp [u8V]) ?_;simp;refine jo8 (fun hb=>?_) (fun hb=>?_)
 ·simp [gl0];have hfit:(decide (k≤15) && ql5 k ts.length) = false:=by rw [hlen]; revert hb; cases (decide (k≤15)) <;> cases (ql5 k l.length) <;> simp
  simp [qi8,hfit,nC,qaa]
 ·have hfit:(decide (k≤15) && ql5 k ts.length) = true:=by rw [hlen]; revert hb; cases (decide (k≤15)) <;> cases (ql5 k l.length) <;> simp
  have hgp:=qyh hfit;simp;refine KM.mk (.done ?_);simp;refine jo7 htb (by simp [qtf]) ?_;simp;refine KM.mk (.done ?_);simp;refine jo8 (fun h0=>?_) (fun h0=>?_)
  ·have h0:k = 0:=jpf h0;subst h0;simp [gl0];rw [hgp]; simp [nC,qaa]
  have h0:¬ k = 0:=jpg h0;simp [h0];refine jo8 (fun h14=>?_) (fun h14=>?_)
  ·have h14:k = 14:=jpf h14;subst h14;simp [gl0];rw [hgp]; simp [nC,qaa]
  have h14:¬ k = 14:=jpg h14;simp [h0,h14];refine jo8 (fun h15=>?_) (fun h15=>?_)
  ·have h15:k = 15:=jpf h15;subst h15;simp [gl0];rw [hgp]; simp [nC,qaa]
  have h15:¬ k = 15:=jpg h15;simp [h0,h14,h15];refine jo8 (fun h1=>?_) (fun h1=>?_)
  ·have h1:k = 1:=jpf h1;subst h1;simp;rw [hgp]; simp [nC,qaa]
  have h1:¬ k = 1:=jpg h1;simp [h0,h14,h15,h1];refine jo8 (fun h2=>?_) (fun h2=>?_)
  ·have h2:k = 2:=jpf h2;subst h2;simp;rw [hgp]; simp [nC,qaa]
  have h2:¬ k = 2:=jpg h2;simp [h0,h14,h15,h1,h2];refine jo8 (fun h5=>?_) (fun h5=>?_)
  ·have h5:k = 5:=jpf h5;subst h5;simp;refine jo7 (qeh 5 ts (some l.length) (by simp [qg2]) hle (by omega)) (by simp [u8V,qdl]) ?_;simp [nC,qaa];rw [hgp]; simp [qg2,nC,qaa]
  have h5:¬ k = 5:=jpg h5;simp [h0,h14,h15,h1,h2,h5];refine jo8 (fun h6=>?_) (fun h6=>?_)
  ·have h6:k = 6:=jpf h6;subst h6;simp;refine jo7 (qeh 6 ts (some l.length) (by simp [qg2]) hle (by omega)) (by simp [u8V,qdl]) ?_;simp [nC,qaa];rw [hgp]; simp [qg2,nC,qaa]
  have h6:¬ k = 6:=jpg h6;simp [h0,h14,h15,h1,h2,h5,h6];refine jo8 (fun h7=>?_) (fun h7=>?_)
  ·have h7:k = 7:=jpf h7;subst h7;simp;refine jo7 (qeh 7 ts (some l.length) (by simp [qg2]) hle (by omega)) (by simp [u8V,qdl]) ?_;simp [nC,qaa];rw [hgp]; simp [qg2,nC,qaa]
  have h7:¬ k = 7:=jpg h7;simp [h0,h14,h15,h1,h2,h5,h6,h7];refine jo8 (fun h8=>?_) (fun h8=>?_)
  ·have h8:k = 8:=jpf h8;subst h8;simp;refine jo7 (qeh 8 ts (some l.length) (by simp [qg2]) hle (by omega)) (by simp [u8V,qdl]) ?_;simp [nC,qaa];rw [hgp]; simp [qg2,nC,qaa]
  have h8:¬ k = 8:=jpg h8;simp [h0,h14,h15,h1,h2,h5,h6,h7,h8];refine jo8 (fun h9=>?_) (fun h9=>?_)
  ·have h9:k = 9:=jpf h9;subst h9;simp;refine jo7 (qub 9 ts (some l.length) hle (by omega)) (by simp [u8V,qdl]) ?_;simp [nC,qaa];rw [hgp]; simp [qg2,nC,qaa]
  have h9:¬ k = 9:=jpg h9;simp [h0,h14,h15,h1,h2,h5,h6,h7,h8,h9];refine jo8 (fun h10=>?_) (fun h10=>?_)
  ·have h10:k = 10:=jpf h10;subst h10;simp;refine jo7 (qub 10 ts (some l.length) hle (by omega)) (by simp [u8V,qdl]) ?_;simp [nC,qaa];rw [hgp]; simp [qg2,nC,qaa]
  have h10:¬ k = 10:=jpg h10;simp [h0,h14,h15,h1,h2,h5,h6,h7,h8,h9,h10];refine KM.mk (.done ?_);simp;intro gc;refine KM.mk (.done ?_);simp;refine jo8 (fun h13=>?_) (fun h13=>?_)
  ·have h13:k = 13:=jpf h13;subst h13;simp
   refine jpa (X:=Nat × Nat × Nat) (fun z=>[(53,qaa z.1),(52,qaa l.length),(51,.sl (ts.map tbV) (some l.length)),(6,.ptr 6 (gc 6) 0 0),(4,.ptr 4 (gb 4) 0 0)])
    (fun z=>[(6,.row (gc 6) 3 [.agg [qaa z.2.1,qaa z.2.2,qaa 0]]),(4,.row (gb 4) 2 [.agg [.int .i64 0,.int .i64 0]])]) (fun z=>z.1≤ts.length/\z.2.1 = mnV false (ts.take z.1)/\z.2.2 = mnV true (ts.take z.1)) (fun z=>ts.length - z.1) (0,nev,nev) (by simp [mnV]) (by simp [qaa,hlen]) (by simp [qaa]) ?_
   rintro ⟨i,e,o⟩ ⟨q1,q2,q3⟩;dsimp only at q1 q2 q3 ⊢;have hle1:=qk0 false (ts.take i);have hle2:=qk0 true (ts.take i);simp [qaa,<- hlen];refine jo8 (fun hb2=>?_) (fun hb2=>?_)
   ·have hi:=jpf hb2;have hw:=qa1 i (by omega);obtain ⟨t,hti⟩:∃ t,ts[i] = t:=⟨_,rfl⟩;have htt:=hle t (hti ▸ jpk hi);simp [hi,hti,tbV,qaa,qsc,hw];refine ⟨rfl,i + 1,_,_,⟨hi,?_,?_⟩,by omega,⟨rfl,rfl⟩,by omega⟩
    ·rw [qda _ _ hi,hti,qhl _ _ _ (by simp [tv]; omega),q2]; rfl
    ·rw [qda _ _ hi,hti,qhl _ _ _ (by simp [tv]; omega),q3]; rfl
   ·have hi:i = ts.length:=by have:=jpg hb2; omega
    subst hi;rw [List.take_length] at q2 q3 hle1 hle2;have hp1:=qdq e 1 (by omega) (by omega);have hp2:=qdq o 1 (by omega) (by omega);simp;intro gm
    first | refine ⟨_,_,_,.pure hp1 (by simp [qaa]),?_⟩ | refine ⟨_,⟨_,_,.pure hp1 (by simp [qaa])⟩,?_⟩ | refine ⟨_,_,⟨_,.pure hp1 (by simp [qaa])⟩,?_⟩
    simp
    first | refine ⟨_,_,_,.pure hp2 (by simp [qaa]),?_⟩ | refine ⟨_,⟨_,_,.pure hp2 (by simp [qaa])⟩,?_⟩ | refine ⟨_,_,⟨_,.pure hp2 (by simp [qaa])⟩,?_⟩
    simp [qaa];refine ⟨rfl,?_⟩;rw [hgp]; simp [qg2,nC,qaa,q2,q3]
  ·have h13:¬ k = 13:=jpg h13;simp;refine KM.mk (.move 4 7004 _ (by decide) (by simp; rfl) fun g7=>.done ?_);simp [mvF,mvH,mvS,V.rn,jnz,Blk.rn,Blk.gen,qan _ (qdl ts),qan _ (qtf l)];refine jo7 (q1s ts (some l.length) (-1)) (by simp [qdl]) ?_;simp [jhy];refine ⟨[(2,.ptr 2 (ga 2) 0 0),(6,.ptr 6 (gc 6) 0 0)],by simp,[(6,.row (gc 6) 3 [.agg [qaa nev,qaa nev,qaa 0]]),(7004,.row g7 2 [.agg [qaa 0,qaa 0]]),(2,.row (ga 2) 1 [u8V k])],by simp [qaa,u8V,hn],fun g=>?_⟩;refine jc2 ts (some l.length) (-1) 2000079 g (qwm k (ga 2) (gc 6) g7 g) (upB (fun a=>decide (qgi k a = 0)) (fun a=>decide (qgi k a = 1))) hle (by omega) (fun G a cost s K e1 e2 e3 e4=>jnd hk (by omega) e1 e4) (nev,nev) _ (qw1 _) _ fun v G a h' hh=>?_;rw [q06 _ _ _ _ _ _ _ _ (by unfold nev; omega) (jpm _) (jpm _),qg6 _ _ _ (by omega),qg6 _ _ _ (by omega)] at hh;have hz1:=qj4 ts fun a=>decide (qgi k a = 0);have hz2:=qj4 ts fun a=>decide (qgi k a = 1);simp only [qqm hz1,qqm hz2,List.nil_append,Nat.min_eq_right hz1,Nat.min_eq_right hz2] at hh;have k1:=hh 2000079 _ (by simp [qf5,qwm]; rfl);have k2:=hh 6 _ (by simp [qf5,qwm]; rfl);have k3:=hh 7004 _ (by simp [qf5,qwm]; rfl);clear hh
   have hgp2:qi8 k ts = (pls (bst ts fun a=>decide (qgi k a = 0)) 1,pls (bst ts fun a=>decide (qgi k a = 1)) 1):=by
    have hct:¬ (qg2 k).2 = true:=by unfold qg2; rw [if_neg (by omega),if_neg (by omega)]; simp
    rw [hgp,if_neg (by omega),if_neg (by omega),if_neg (by omega),if_neg (by omega),if_neg hct,if_neg (by omega),if_neg h13]
   generalize (bst ts fun a=>decide (qgi k a = 0)) = z1 at hz1 k1 k2 k3 hgp2;generalize (bst ts fun a=>decide (qgi k a = 1)) = z2 at hz2 k1 k2 k3 hgp2;have hp1:=qdq z1 1 (by omega) (by omega);have hp2:=qdq z2 1 (by omega) (by omega);refine ⟨_,_,_,_,_,k1,?_⟩;simp;refine KM.mk (.done ?_);simp [k2];intro gm
   first | refine ⟨_,_,_,.pure hp1 (by simp [qaa]),?_⟩ | refine ⟨_,⟨_,_,.pure hp1 (by simp [qaa])⟩,?_⟩ | refine ⟨_,_,⟨_,.pure hp1 (by simp [qaa])⟩,?_⟩
   simp [k2]
   first | refine ⟨_,_,_,.pure hp2 (by simp [qaa]),?_⟩ | refine ⟨_,⟨_,_,.pure hp2 (by simp [qaa])⟩,?_⟩ | refine ⟨_,_,⟨_,.pure hp2 (by simp [qaa])⟩,?_⟩
   simp [k3,qaa];refine ⟨rfl,?_⟩;rw [hgp2]; simp [nC,qaa]
end
end Go.Proofs.YtpaopccohkldlaaGreatDoor
