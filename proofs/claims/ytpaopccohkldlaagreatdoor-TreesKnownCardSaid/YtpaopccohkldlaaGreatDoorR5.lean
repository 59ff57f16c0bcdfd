/- Trees: the reader. Conditions: none. -/
import Derived.Test.YtpaopccohkldlaaGreatDoorR4
import Derived.Test.YtpaopccohkldlaaGreatDoorR2
set_option linter.all false
namespace Go.Proofs.YtpaopccohkldlaaGreatDoor
open Go
def pS (g:Nat) (s:List UInt8) (gz:Nat) (L:List V):Hp:=[(10,.row g 2 [.agg [.str s,.ref 20 gz 0 L.length none]]),(20,.row gz 3 L)]
theorem qzq {g gz:Nat} {s:List UInt8} {L:List V} {h:Hp} (h1:lk h 10 = some (.row g 2 [.agg [.str s,.ref 20 gz 0 L.length none]])) (h2:lk h 20 = some (.row gz 3 L)):Sub (pS g s gz L) h:=⟨h1,h2,trivial⟩
theorem qzp (gz:Nat) (L:List V):∀ X,Sub [(20,Blk.row gz 3 L)] ((10,X) :: [(20,Blk.row gz 3 L)]):=fun X=>by simp
theorem qfy (g:Nat) (s:List UInt8) (gz:Nat) (L:List V) (c:UInt8) {h:Hp} {K:V->Hp->Prop} (h1:lk h 10 = some (.row g 2 [.agg [.str s,.ref 20 gz 0 L.length none]])) (h2:lk h 20 = some (.row gz 3 L))
  (hk:K (.bool (decide (s.head? = some c))) (pS g (if s.head? = some c then s.tail else s) gz L)):qan Tryz.prog gl0 105 [.ptr 10 g 0 0,.str [c]] h K:=
 qan.sub (qzq h1 h2) (q63 10 g s c _ _ (qzp gz L) K hk)
theorem qx0 (g:Nat) (s:List UInt8) (hs:s.length < 1000000000) (gz:Nat) (L:List V) {h:Hp} {K:V->Hp->Prop} (h1:lk h 10 = some (.row g 2 [.agg [.str s,.ref 20 gz 0 L.length none]])) (h2:lk h 20 = some (.row gz 3 L))
  (k1:∀ n:Nat,qi6 s = some n->K (.tup [qab n,.bool true]) (pS g (s.drop (dgt s).length) gz L))
  (k0:qi6 s = none->∀ n:Int,K (.tup [.int .i64 n,.bool false]) (pS g (s.drop (dgt s).length) gz L)):qan Tryz.prog gl0 106 [.ptr 10 g 0 0] h K:=
 qan.sub (qzq h1 h2) (qxz 10 g s hs _ _ (qzp gz L) K k1 k0)
def qwt (k:Nat) (s:List UInt8) (g:Nat) (L:List V) (K:V->Hp->Prop):Prop:=
 (∀ d r gz,prs k s = some (d,r)->K (.bool true) (pS g r gz (L ++ (d.fl L.length).map Tn.v)))/\(prs k s = none->∀ s' gz L',K (.bool false) (pS g s' gz L'))
noncomputable def r72:XC:=xs2 (xs2 (xs2 x72))
theorem qzy:x72 = .seq (xs1 x72) (.seq (xs1 (xs2 x72)) (.seq (xs1 (xs2 (xs2 x72))) r72)):=rfl
set_option maxRecDepth 100000 in
theorem q6v (k g:Nat) (ih:∀ (s:List UInt8) (gz:Nat) (L:List V) (K:V->Hp->Prop),s.length < k->L.length + s.length < 1000000000->qwt k s g L K->qan Tryz.prog gl0 72 [.ptr 10 g 0 0] (pS g s gz L) K)
  (s:List UInt8) (hs:s.length≤k) (gz:Nat) (L:List V) (hl:L.length + s.length < 1000000000) (K:V->Hp->Prop) (hK:qwt (k + 1) s g L K)
  (fr:Fr) (h0:lk fr 0 = some (.ptr 10 g 0 0)) (h3:lk fr 3 = some (qab L.length)) (h:Hp) (h10:lk h 10 = some (.row g 2 [.agg [.str s,.ref 20 gz 0 (L.length + 1) none]])) (h20:lk h 20 = some (.row gz 3 (L ++ [lfN.v]))) :
  r72.wpF Tryz.prog gl0 (qmj [.tmp 2] K) fr h:=by
 obtain ⟨hK1,hK0⟩:=hK;simp only [qab] at h3;have hL1:(L ++ [lfN.v]).length = L.length + 1:=by simp
 rw [<- hL1] at h10;obtain ⟨M,hM⟩:∃ M,L ++ [lfN.v] = M:=⟨_,rfl⟩;rw [hM] at h10 h20 hL1
 cases s with
 | nil=>
  simp [r72,xs2,x72,h0];refine qfy g [] gz M 46 h10 h20 ?_;simp [h0];refine qfy g [] gz M 40 (by simp [pS]) (by simp [pS]) ?_;simp [h0];refine .done ?_;simp;exact ⟨_,by simp [pS],hK0 (by simp [prs]) [] gz M⟩
 | cons c r=>
  simp only [List.length_cons] at hs hl;by_cases c1:c = 46
  ·subst c1;simp [r72,xs2,x72,h0];refine qfy g (46 :: r) gz M 46 h10 h20 ?_;simp [h0];refine .done ?_;simp;refine ⟨_,?_,hK1 .lf r gz (by simp [prs])⟩;simp [pS,DT.fl,hM,hL1]
  have hne:(c :: r).head? ≠ some 46:=by simp [c1]
  by_cases c2:c = 40
  ·subst c2;have hd6:=qin r
   have hpr:prs (k + 1) (40 :: r) = match qi6 r with
    | none=>none
    | some n=>match r.drop (dgt r).length with
     | []=>none
     | c1 :: r1=>if c1 = 32 then
      match prs k r1 with
      | none=>none
      | some (z,r2)=>match r2 with
       | []=>none
       | c2 :: r3=>if c2 = 32 then
        match prs k r3 with
        | none=>none
        | some (o,r4)=>match r4 with
         | []=>none
         | c3 :: r5=>if c3 = 41 then some (.nd n z o,r5) else none
       else none
      else none:=by rw [prs]; simp only []; rw [if_neg (by decide),if_pos trivial]; rfl
   rw [hpr] at hK0;have hK1':∀ d r' gz,prs (k + 1) (40 :: r) = some (d,r')->K (.bool true) (pS g r' gz (L ++ (d.fl L.length).map Tn.v)):=hK1;rw [hpr] at hK1';clear hK1 hpr;generalize hR0:r.drop (dgt r).length = R0 at hK0 hK1';have hR0l:R0.length + (dgt r).length = r.length:=by rw [<- hR0]; simp; omega
   simp [r72,xs2,x72,h0,h3];refine qfy g (40 :: r) gz M 46 h10 h20 ?_;simp [h0,h3];refine qfy g (40 :: r) gz M 40 (by simp [pS]) (by simp [pS]) ?_;simp [h0,h3];refine qx0 g r (by omega) gz M (by simp [pS]) (by simp [pS]) (fun n hn=>?_) (fun hn n=>?_)
   ·rw [hn] at hK0 hK1';simp only [] at hK0 hK1';rw [hR0];simp [h0,h3,qab];refine qfy g R0 gz M 32 (by simp [pS]) (by simp [pS]) ?_
    cases R0 with
    | nil=>
     simp [h0,h3];refine .done ?_;simp;exact ⟨pS g [] gz M,by simp [pS],hK0 rfl _ gz M⟩
    | cons d1 r1=>
     by_cases e1:d1 = 32
     ·subst e1;simp only [if_true] at hK0 hK1';simp only [List.length_cons] at hR0l;simp [h0,h3,pS,nop];refine qan.sub (h':=pS g r1 gz M) (by simp [pS]) (ih r1 gz M _ (by omega) (by omega) ⟨fun z r2 gz2 hz=>?_,fun hz s' gz' L'=>?_⟩)
      ·obtain ⟨hz1,-⟩:=qfm k _ _ _ hz;have hzt:=z.sz_tx;have hzl:r1.length = z.tx.length + r2.length:=by rw [hz1]; simp
       rw [hz] at hK0 hK1';simp only [] at hK0 hK1';obtain ⟨N,hN⟩:∃ N,M ++ (z.fl M.length).map Tn.v = N:=⟨_,rfl⟩;have hNl:N.length = M.length + z.sz:=by rw [<- hN]; simp
       rw [hN];simp [h0,h3,qab];refine qfy g r2 gz2 N 32 (by simp [pS]) (by simp [pS]) ?_
       cases r2 with
       | nil=>
        simp [h0,h3];refine .done ?_;simp;exact ⟨pS g [] gz2 N,by simp [pS],hK0 rfl _ gz2 N⟩
       | cons d2 r3=>
        simp only [List.length_cons] at hzl;by_cases e2:d2 = 32
        ·subst e2;simp only [if_true] at hK0 hK1';simp [h0,h3,pS,nop];refine qan.sub (h':=pS g r3 gz2 N) (by simp [pS]) (ih r3 gz2 N _ (by omega) (by omega) ⟨fun o r4 gz3 ho=>?_,fun ho s' gz' L'=>?_⟩)
         ·obtain ⟨ho1,-⟩:=qfm k _ _ _ ho;have hot:=o.sz_tx;have hol:r3.length = o.tx.length + r4.length:=by rw [ho1]; simp
          rw [ho] at hK0 hK1';simp only [] at hK0 hK1';obtain ⟨Q,hQ⟩:∃ Q,N ++ (o.fl N.length).map Tn.v = Q:=⟨_,rfl⟩;have hQl:Q.length = N.length + o.sz:=by rw [<- hQ]; simp
          rw [hQ];simp [h0,h3,qab];refine qfy g r4 gz3 Q 41 (by simp [pS]) (by simp [pS]) ?_
          cases r4 with
          | nil=>
           simp [h0,h3];refine .done ?_;simp;exact ⟨pS g [] gz3 Q,by simp [pS],hK0 rfl _ gz3 Q⟩
          | cons d3 r5=>
           by_cases e3:d3 = 41
           ·subst e3;simp only [if_true] at hK0 hK1';have hat:L.length < Q.length:=by omega
            have hQe:Q = L ++ lfN.v :: ((z.fl M.length).map Tn.v ++ (o.fl N.length).map Tn.v):=by rw [<- hQ,<- hN,<- hM]; simp
            have hQL:Q[L.length]'hat = lfN.v:=by simp only [hQe]; simp
            have hfin:=hK1' _ _ gz3 rfl
            have hset:L ++ ((DT.nd n z o).fl L.length).map Tn.v = Q.set L.length (.agg [.int .i64 (n:Int),.int .i64 (M.length:Int),.int .i64 (N.length:Int)]):=by
             rw [hQe,List.set_append_right _ _ (jf5 _),hNl,hL1];simp [DT.fl,Tn.v]
            rw [hset] at hfin;simp only [lfN,Tn.v] at hQL;simp [h0,h3,pS,nop,hat,hQL];refine .done ?_;simp;exact ⟨pS g r5 gz3 _,by simp [pS],hfin⟩
           ·simp [h0,h3,e3];refine .done ?_;simp;exact ⟨pS g (d3 :: r5) gz3 Q,by simp [pS],hK0 (by simp [e3]) _ gz3 Q⟩
         ·rw [ho] at hK0;simp [h0,h3];refine .done ?_;simp;exact ⟨pS g s' gz' L',by simp [pS],hK0 rfl _ gz' L'⟩
        ·simp [h0,h3,e2];refine .done ?_;simp;exact ⟨pS g (d2 :: r3) gz2 N,by simp [pS],hK0 (by simp [e2]) _ gz2 N⟩
      ·rw [hz] at hK0;simp [h0,h3];refine .done ?_;simp;exact ⟨pS g s' gz' L',by simp [pS],hK0 rfl _ gz' L'⟩
     ·simp [h0,h3,e1];refine .done ?_;simp;exact ⟨pS g (d1 :: r1) gz M,by simp [pS],hK0 (by simp [e1]) _ gz M⟩
   ·rw [hn] at hK0;simp [h0,h3];refine .done ?_;simp;exact ⟨pS g (r.drop (dgt r).length) gz M,by simp [pS],hK0 rfl _ gz M⟩
  ·have hpr:prs (k + 1) (c :: r) = none:=by simp [prs,c1,c2]
   simp [r72,xs2,x72,h0];refine qfy g (c :: r) gz M 46 h10 h20 ?_;simp [h0,c1];refine qfy g (c :: r) gz M 40 (by simp [pS]) (by simp [pS]) ?_;simp [h0,c2];refine .done ?_;simp;exact ⟨pS g (c :: r) gz M,by simp [pS],hK0 hpr _ gz M⟩
set_option maxRecDepth 100000 in
theorem qvz (g:Nat):∀ (k:Nat) (s:List UInt8) (gz:Nat) (L:List V) (K:V->Hp->Prop),s.length < k->L.length + s.length < 1000000000->qwt k s g L K->qan Tryz.prog gl0 72 [.ptr 10 g 0 0] (pS g s gz L) K
 | 0,s,_,_,_,h,_,_=>by omega
 | k + 1,s,gz,L,K,hs,hl,hK=>by
  have tail:=fun fr h0 h3 h h10 h20=>q6v k g (fun s gz L K=>qvz g k s gz L K) s (by omega) (gz + 1) L hl K hK fr h0 h3 h h10 h20;refine jfx ok72 rfl ?_;change x72.wpF _ _ _ _ _;rw [qzy];simp [i72,xs1,xs2,x72,nop,pS,qcw];intro gm;exact ⟨by omega,by decide,tail _ (by simp) (by simp [qab]) _ (by simp) (by simp [lfN,Tn.v])⟩
set_option maxRecDepth 100000 in
theorem qyu (g:Nat) (s:List UInt8) (K:V->Hp->Prop) (hl:s.length < 1000000000) (hK:qwt (s.length + 1) s g [] K):qan Tryz.prog gl0 72 [.ptr 10 g 0 0] [(10,.row g 2 [.agg [.str s,.nil]])] K:=by
 have tail:=fun gz fr h0 h3 h h10 h20=>q6v s.length g (fun s' gz L K=>qvz g s.length s' gz L K) s (jf5 _) gz [] (by simpa using hl) K hK fr h0 h3 h h10 h20;refine jfx ok72 rfl ?_;change x72.wpF _ _ _ _ _;rw [qzy];simp [i72,xs1,xs2,x72,nop,qcw];intro gm;exact ⟨by decide,tail (gm 20) _ (by simp) (by simp [qab]) _ (by simp) (by simp [lfN,Tn.v])⟩
def qcc (s:List UInt8):Option DT:=match prs (s.length + 1) s with
 | some (d,[])=>if qbn (d.fl 0) 16384 = true then some d else none
 | _=>none
def qj7 (s:List UInt8):V:=match qcc s with
 | some d=>.tup [.sl ((d.fl 0).map Tn.v) (some d.sz),.int .i64 0]
 | none=>.tup [.nil,.int .i64 4]
set_option maxRecDepth 100000 in
theorem qya (s:List UInt8) (hs:s.length≤1048576) (K:V->Hp->Prop) (hk1:∀ d g,qcc s = some d->K (.tup [.ref 20 g 0 d.sz (some d.sz),.int .i64 0]) [(20,.row g 3 ((d.fl 0).map Tn.v))])
  (hk0:qcc s = none->K (.tup [.nil,.int .i64 4]) []):qb5 Tryz.prog gl0 24 [.str s] K:=by
 have nl:¬ 1048576 < s.length:=by omega
 refine jfw ok24 rfl ?_;simp [i24,x24,nop,nl];intro gf;generalize gf 10 = g;refine qyu g s _ (by omega) ⟨fun d r gz hd=>?_,fun hn s' gz L'=>?_⟩
 ·have hdt:=d.sz_tx;have hdl:=(qfm _ _ _ _ hd).1;have hdl2:s.length = d.tx.length + r.length:=by rw [hdl]; simp
  have hval:=qd1 (d.fl 0) 16384 none (by simp; omega)
  cases r with
  | cons c r=>
   have hP:qcc s = none:=by unfold qcc; rw [hd]
   simp [pS,nop];refine .done ?_;simp;exact ⟨[],trivial,hk0 hP⟩
  | nil=>
   have hP:qcc s = if qbn (d.fl 0) 16384 = true then some d else none:=by unfold qcc; rw [hd]
   obtain ⟨T,hT⟩:∃ T,(d.fl 0).map Tn.v = T:=⟨_,rfl⟩;have hTp:jd6 T = true:=by rw [<- hT]; exact qa6 _
   have hTl:T.length = d.sz:=by rw [<- hT]; simp
   have hTk:List.take d.sz T = T:=jf2 (by omega);have hk2:=fun g=>hk1 d g;rw [hT] at hval hk2;simp [pS,nop,hT,hTl];refine CallO.borrow 2 hval (by simp [frz,V.mapR,jd8,qar hTp,hTl,hTk]) rfl ?_
   cases hV:qbn (d.fl 0) 16384 with
   | false=>
    rw [hV] at hP;simp;refine .done ?_;simp;exact ⟨[],trivial,hk0 hP⟩
   | true=>
    rw [hV] at hP;simp [nop];refine .done ?_;simp;exact ⟨_,by simp,hk2 gz hP⟩
 ·have hP:qcc s = none:=by unfold qcc; rw [hn]
  simp [pS,nop];refine .done ?_;simp;exact ⟨[],trivial,hk0 hP⟩
theorem qfb (s:List UInt8) (hs:s.length≤1048576):qac Tryz.prog gl0 24 [.str s] (qj7 s):=by
 refine jeq 2 (qya s hs (fun v h=>VLe (frz h 2 v) (qj7 s)) (fun d g hd=>?_) (fun hn=>?_)) fun v h k=>k
 ·have hp:jd6 ((d.fl 0).map Tn.v) = true:=qa6 _;unfold qj7;rw [hd,qh5,qd3 (sz:=3) (es:=(d.fl 0).map Tn.v) (by simp) (by simp),List.drop_zero,jf2 (by simp),qer _ _ hp];exact .refl _
 ·unfold qj7;rw [hn];exact .refl _
theorem qyb (s:List UInt8) (hs:1048576 < s.length):qac Tryz.prog gl0 24 [.str s] (.tup [.nil,.int .i64 3]):=by
 refine jfu 2 ok24 rfl ?_;simp [i24,x24,nop,hs]
end Go.Proofs.YtpaopccohkldlaaGreatDoor
