/- Lemmas. Conditions: none. -/
import Derived.Test.YtbbnmiaabmbheaaGreatDoorK2
import Derived.Test.YtbbnmiaabmbheaaGreatDoorXTR
import Derived.Test.YtbbnmiaabmbheaaGreatDoorNet13
import Derived.Test.YtbbnmiaabmbheaaGreatDoorNet17
set_option linter.all false
namespace Go.Proofs.YtbbnmiaabmbheaaGreatDoor
section
open Go
def qch (n:Nat) (S:Nat->Bool):List V:=tab n fun i=>.bool (S i)
@[simp] theorem qxl (n:Nat) (S:Nat->Bool):(qch n S).length = n:=by simp [qch,tab]
theorem qel (n:Nat) (S:Nat->Bool) (i:Nat) (h:i < (qch n S).length):(qch n S)[i] = .bool (S i):=by simp only [qch]; rw [qa0]
theorem qsg (n:Nat) (S:Nat->Bool) (i:Nat) (b:Bool):(qch n S).set i (.bool b) = qch n (qc0 S i b):=by
 unfold qch;rw [qc8];congr 1;funext j;show (if j = i then _ else _) = V.bool (if j = i then _ else _);split <;> rfl
theorem qsf (n:Nat):List.replicate n (V.bool false) = qch n fun _=>false:=by
 refine List.ext_getElem (by simp) fun i h1 h2=>?_;rw [qel,List.getElem_replicate]
theorem qdp (n:Nat) (S:Nat->Bool):jid (qch n S) = true:=by
 rw [jig];intro v hv;unfold qch tab at hv;obtain ⟨j,-,rfl⟩:=List.mem_map.1 hv;rfl
theorem qfp {n:Nat} {S T:Nat->Bool} (h:∀ i,i < n->S i = T i):qch n S = qch n T:=qa3 fun i hi=>by rw [h i hi]
theorem qpn (l:List Nat) (b g:Nat) (h:Hp) (hb:lk h b = some (.row g 1 (qaf l))) (K:V->Hp->Prop) (hk:∃ h2,Sub h2 h/\K (.ref b g 0 l.length (some l.length)) h2):qa2 Tryz.prog gl0 53 [.ref b g 0 l.length none] h K:=by
 refine jka q8g rfl ?_;simp [i53,x53,hb];exact .done (by simp; exact hk)
theorem qmh:qac Tryz.prog gl0 53 [.nil] (.sl [] (some 0)):=by
 refine jj7 1 q8g rfl ?_;simp [i53,x53]
structure AcSt where
 i:Nat
 a:Option (Nat × List V)
theorem jhz (n:Nat) (hn:n < 1000000) (D:Nat->Bool) (cap:Option Nat):qac Tryz.prog gl0 108 [.sl (qch n D) cap] (.sl (qaf (fL n D)) (some (fL n D).length)):=by
 refine jj7 1 jd8 rfl ?_;simp [i108,x108]
 refine jj6 (X:=AcSt) (fun z=>[(8,qab z.i),(7,qab n),(6,.sl (qch n D) cap),(3,qbe 17 z.a)]) (fun z=>qbj 17 1 z.a)
  (fun z=>z.i≤n/\(z.a = none∨qav z.a ≠ [])/\qav z.a = qaf (fL z.i D)) (fun z=>n - z.i) ⟨0,none⟩ ⟨by simp,by simp,by simp [qav,fL,qaf]⟩ (by simp [qab,qbe]) (by simp [qbj]) ?_
 rintro ⟨i,acc⟩ ⟨h1,h2,h3⟩;dsimp only at h1 h2 h3 ⊢;simp [qab];have hll:(qav acc).length≤i:=by rw [h3,qcp]; exact qus i D
 refine jj5 (fun hb=>?_) (fun hb=>?_)
 ·have hi:i < n:=jkb hb;have hw:=qbg i (by omega);simp [hi,qel];have hs:=q15 i D
  cases hD:D i with
  | false=>
   simp [hD] at hs;simp [hw];exact ⟨⟨i + 1,acc⟩,⟨hi,h2,by dsimp only; rw [hs]; exact h3⟩,⟨rfl,rfl⟩,by cases acc <;> simp [qbj],by dsimp only; omega⟩
  | true=>
   simp [hD] at hs;have hn2:qaf (fL (i + 1) D) = qaf (fL i D) ++ [.int .i64 (i:Int)]:=by rw [hs]; simp [qaf,qab]
   cases acc with
   | none=>
    simp only [qav] at h3;simp [qbe,qbj,hw];refine fun gf1 gf2=>⟨⟨i + 1,some (gf2 17,[.int .i64 i])⟩,⟨hi,by simp [qav],by dsimp only; rw [hn2,<- h3]; rfl⟩,by simp,by simp,by dsimp only; omega⟩
   | some gl=>
    obtain ⟨g,l⟩:=gl;simp only [qav] at h3 hll;have hle:l.length + 1≤274877906944:=by omega
    simp [qbe,qbj,hw,hle];refine fun gf1 gf2=>⟨⟨i + 1,some (gf2 17,l ++ [.int .i64 i])⟩,⟨hi,by simp [qav],by dsimp only [qav]; rw [hn2,<- h3]⟩,by simp,by simp,by dsimp only; omega⟩
 ·have hi:i = n:=by have:=jkc hb; omega
  subst hi
  cases acc with
  | none=>
   simp only [qav] at h3
   have h4:fL i D = []:=by
    cases h:fL i D with
    | nil=>rfl
    | cons x l=>rw [h] at h3; cases h3
   simp [qbe];refine jj4 qmh (by simp) ?_;simp [h4,qaf]
  | some gl=>
   obtain ⟨g,l⟩:=gl;simp only [qav] at h3;subst h3;simp [qbe,qbj];refine qpn (fL i D) 17 g _ (by simp) _ ⟨[(17,.row g 1 (qaf (fL i D)))],by simp,?_⟩;simp [qbf (qay _)];exact jkf (by simp)
theorem q8v (c:Ci) (i:Int):qac Tryz.prog gl0 231 [.int .i64 i,.iptr c.v 0] (.bool (qgg c.n.length i)):=by
 refine jj7 2 jez rfl ?_;simp [i231,x231,Ci.v];refine jj5 (fun h=>?_) (fun h=>?_)
 ·simp [h,qgg]
 ·simp [h,qgg]
theorem qw3 (c:Ci) (l:List Int) (cap:Option Nat) (hl:l.length < 1000000000000):qac Tryz.prog gl0 159 [c.v,.sl (qdh l) cap] (.bool (!l.any (qgg c.n.length))):=by
 refine jj7 2 jei rfl ?_;simp [i159,x159];intro gf;refine CallO.borrow 2 (qef l cap 231 [.iptr c.v 0] (qgg c.n.length) (fun x _=>q8v c x) (by simp) hl) (by simp [qao,frz,V.mapR,jio,lk,qcu _ (qgu c),qfx]) rfl ?_;simp
def qs0 (g1 g3:Nat):V:=.fn 161 [] [.ptr 1 g1 0 0,.ptr 3 g3 0 0]
def obH (c:Ci) (g1 g3 gB:Nat) (D:Nat->Bool):Hp:=[(12,.row gB 1 (qch c.n.length D)),(3,.row g3 1 [.ref 12 gB 0 c.n.length (some c.n.length)]),(1,.row g1 4 [c.v])]
theorem q0r (c:Ci) (hn:c.n.length < 1000000) (l:List Int) (cap:Option Nat) (hl:l.length < 1000000000) (g1 g3 gB:Nat) (D:Nat->Bool) (K:V->Hp->Prop)
  (hk:K (.tup []) (obH c g1 g3 gB fun i=>D i || decide ((i:Int) ∈ l))):qa2 Tryz.prog gl0 161 [.sl (qdh l) cap,.ptr 1 g1 0 0,.ptr 3 g3 0 0] (obH c g1 g3 gB D) K:=by
 refine jka jej rfl ?_;simp [i161,x161,obH]
 refine jj6 (X:=Nat) (fun i=>[(8,qab i),(7,qab l.length),(6,.sl (qdh l) cap),(1,.ptr 1 g1 0 0),(2,.ptr 3 g3 0 0)]) (fun k=>obH c g1 g3 gB fun i=>D i || decide ((i:Int) ∈ l.take k))
  (fun i=>i≤l.length) (fun i=>l.length - i) 0 (by simp) (by simp [qab]) (by simp [obH]) ?_
 intro k h1;simp [qab,obH];refine jj5 (fun hb=>?_) (fun hb=>?_)
 ·have hk':k < l.length:=jkb hb;have hw:=qbg k (by omega);have htk:l.take (k + 1) = l.take k ++ [l[k]]:=by rw [List.take_succ_eq_append_getElem hk']
  obtain ⟨m,hm⟩:∃ m,l[k] = m:=⟨_,rfl⟩;rw [hm] at htk;simp [hk',qev,hm];intro gf;have hv:=qw3 c [m] (some 1) (by simp);simp [qdh] at hv;refine CallO.borrow 1 hv (by simp [frz,V.mapR,jio,lk,qcu _ (qgu c)]) rfl ?_;simp;refine jj5 (fun h2=>?_) (fun h2=>?_)
  ·simp [hw];refine ⟨k + 1,hk',by simp,⟨?_,by omega⟩⟩;refine qfp fun i hi=>?_
   have:(i:Int) ≠ m:=fun e=>by
    subst e; simp [qgg] at h2; omega
   simp [htk,this]
  ·obtain ⟨j,hj⟩:∃ j:Nat,m = (j:Int):=⟨m.toNat,by simp [qgg] at h2; omega⟩;subst hj;have hjn:j < c.n.length:=by simp [qgg] at h2; omega
   simp [hw,hjn,qsg,qel];refine ⟨k + 1,hk',by simp,⟨?_,by omega⟩⟩;refine qfp fun i hi=>?_;show (if i = j then true else _) = _;by_cases e:i = j
   ·subst e; simp [htk]
   ·have:¬ (i:Int) = (j:Int):=by omega
    simp [htk,e,this]
 ·have hk':k = l.length:=by have:=jkc hb; omega
  subst hk';simp;exact .done ⟨_,by simp [obH],hk⟩
end
section
open Go
def qst (k:Int):List Nd->Nat->List Nat
 | [],_=>[]
 | n :: r,i=>if n.k = k then i :: qst k r (i + 1) else qst k r (i + 1)
theorem qop (k:Int):∀ (l:List Nd) (i:Nat),qlv [k] l i = qaf (qst k l i)
 | [],_=>rfl
 | n :: r,i=>by
  simp only [qlv,qst,List.mem_singleton];split <;> simp [qop k r (i + 1),qaf,qab]
theorem qpv (k:Int):∀ (l:List Nd) (i x:Nat),x ∈ qst k l i->i≤x/\x < i + l.length
 | [],i,x,h=>by simp [qst] at h
 | n :: r,i,x,h=>by
  simp only [qst] at h;split at h
  ·rcases List.mem_cons.1 h with rfl | h
   ·simp
   ·have:=qpv k r (i + 1) x h; simp; omega
  ·have:=qpv k r (i + 1) x h; simp; omega
theorem qrk (k:Int):∀ (l:List Nd) (i:Nat),(qst k l i).length≤l.length
 | [],_=>by simp [qst]
 | n :: r,i=>by
  have:=qrk k r (i + 1);simp only [qst];split <;> simp <;> omega
theorem qn7 (k:Int) (f:Nd->List Int):∀ (l:List Nd) (i:Nat) (g:Nat->Nd),(∀ j (h:j < l.length),g (i + j) = l[j])->(qst k l i).flatMap (fun x=>f (g x)) = l.flatMap fun x=>if x.k = k then f x else []
 | [],_,_,_=>rfl
 | n :: r,i,g,h=>by
  have h0:g i = n:=h 0 (by simp)
  have ih:=qn7 k f r (i + 1) g fun j hj=>by
   have:=h (j + 1) (by simpa using hj);simpa [Nat.add_assoc,Nat.add_comm 1 j] using this
  simp only [qst];by_cases e:n.k = k
  ·simp [e,h0,ih]
  ·simp [e,ih]
def mkD (D:Nat->Bool) (l:List Int):Nat->Bool:=fun i=>D i || decide ((i:Int) ∈ l)
theorem qmw (D:Nat->Bool) (a b:List Int):mkD (mkD D a) b = mkD D (a ++ b):=by
 funext i;simp [mkD,Bool.or_assoc]
theorem qp4 (c:Ci) (hn:c.n.length < 1000000) (l:List Int) (cap:Option Nat) (hl:l.length < 1000000000) (g1 g3 gB:Nat) (D:Nat->Bool) (h:Hp) (hs:Sub (obH c g1 g3 gB D) h) (K:V->Hp->Prop)
  (hk:K (.tup []) (obH c g1 g3 gB (mkD D l))):qa2 Tryz.prog gl0 161 [.sl (qdh l) cap,.ptr 1 g1 0 0,.ptr 3 g3 0 0] h K:=CallO.weaken hs (q0r c hn l cap hl g1 g3 gB D K hk)
theorem qn6 (c:Ci) (g1 g3 gB:Nat) (D:Nat->Bool):qd8 [12,3,1] (obH c g1 g3 gB D) = true:=by
 simp [obH,jik _ _ (qdp _ _),jje _ _ (qgu c)]
theorem qvm (c:Ci) (hn:c.n.length < 1000000) (l:List Int) (cap:Option Nat) (hl:l.length < 1000000000) (g1 g3 gB:Nat) (D:Nat->Bool) (h rest:Hp) (hs:Sub (obH c g1 g3 gB D) h) (hr:Sub rest h) (hrD:(rest.all fun p=>!([12,3,1]:List Nat).contains p.1) = true) (K:V->Hp->Prop)
  (hk:K (.tup []) (obH c g1 g3 gB (mkD D l) ++ rest)):qa2 Tryz.prog gl0 161 [.sl (qdh l) cap,.ptr 1 g1 0 0,.ptr 3 g3 0 0] h K:=
 CallO.lend [12,3,1] (obH c g1 g3 gB D) rest (K0:=fun v h=>v = .tup []/\h = obH c g1 g3 gB (mkD D l)) (q0r c hn l cap hl g1 g3 gB D _ ⟨rfl,rfl⟩) (by simp [jik _ _ (qfx _)]) hs (qn6 c g1 g3 gB D) hr hrD
  (by rintro v h' ⟨rfl,rfl⟩; exact ⟨by simp,qn6 c g1 g3 gB _,hk⟩)
set_option maxHeartbeats 4000000 in
theorem q2s (c:Ci) (hl:c.lens):qac Tryz.prog gl0 98 [c.v] (.sl (qch c.n.length (ptB c)) (some c.n.length)):=by
 have hn:=hl.n;have hst:=qwv c hn;rw [qop] at hst;obtain ⟨S,hS⟩:∃ S,qst 14 c.n 0 = S:=⟨_,rfl⟩;have hflat:=qn7 14 Nd.i c.n 0 c.nd fun j hj=>by rw [Nat.zero_add,c.nd_get hj]
 have hSl:=qrk 14 c.n 0;have hSm:=qpv 14 c.n 0;rw [hS] at hst hflat hSl hSm;refine jj7 1 ok98 rfl ?_;simp [i98,x98,qsf];intro gf1 gf2;simp [show c.n.length≤549755813888 by omega];intro gf3;generalize gf1 1 = g1;generalize gf2 12 = gB;generalize gf3 3 = g3;refine qp4 c hn c.o none hl.o g1 g3 gB (fun _=>false) _ (by simp [obH]) _ ?_;simp [obH];refine jj4 hst (by simp) ?_;simp [qab]
 refine jj6 (X:=Nat) (fun k=>[(21,qab k),(20,qab S.length),(19,.sl (qaf S) (some S.length)),(4,qs0 g1 g3),(3,.ptr 3 g3 0 0),(1,.ptr 1 g1 0 0)])
  (fun k=>obH c g1 g3 gB (mkD (fun _=>false) (c.o ++ (S.take k).flatMap fun x=>(c.nd x).i))) (fun k=>k≤S.length) (fun k=>S.length - k) 0 (by simp) (by simp [qab,qs0]) (by simp [obH]) ?_
 ·intro k h1;simp [qab,obH,qs0];refine jj5 (fun hb=>?_) (fun hb=>?_)
  ·have hk:k < S.length:=jkb hb;have hw:=qbg k (by omega);obtain ⟨m,hm⟩:∃ m,S[k] = m:=⟨_,rfl⟩;have hmN:m < c.n.length:=by have:=hSm m (by rw [<- hm]; exact jkg hk); omega
   have htk:S.take (k + 1) = S.take k ++ [m]:=by rw [List.take_succ_eq_append_getElem hk,hm]
   obtain ⟨y,hy⟩:∃ y,c.n[m] = y:=⟨_,rfl⟩;have hnd:c.nd m = y:=by rw [c.nd_get hmN,hy]
   simp [hk,qap,hm,hmN,hy,Nd.v];refine qp4 c hn y.i none (hl.i y (by rw [<- hy]; exact jkg hmN)) g1 g3 gB _ _ (by simp [obH]; rfl) _ ?_;simp [obH,hw];refine ⟨k + 1,hk,rfl,⟨?_,by omega⟩⟩;rw [qmw,htk];simp [hnd]
  ·have hk:k = S.length:=by have:=jkc hb; omega
   subst hk;simp [hflat];obtain ⟨B,hB⟩:∃ B,c.o ++ (c.n.flatMap fun x=>if x.k = 14 then x.i else []) = B:=⟨_,rfl⟩;rw [hB]
   refine jj6 (X:=Nat) (fun k=>[(37,qab k),(36,qab c.m.length),(35,.sl (c.m.map Md.v) none),(4,qs0 g1 g3),(3,.ptr 3 g3 0 0),(1,.ptr 1 g1 0 0)])
    (fun k=>obH c g1 g3 gB (mkD (fun _=>false) (B ++ (c.m.take k).flatMap fun m=>m.a ++ m.d ++ [m.w]))) (fun k=>k≤c.m.length) (fun k=>c.m.length - k) 0 (by simp) (by simp [qab,qs0]) (by simp [obH]) ?_
   intro k h1;simp [qab,obH,qs0];refine jj5 (fun hb=>?_) (fun hb=>?_)
   ·have hk:k < c.m.length:=jkb hb;have hw:=qbg k (by have:=hl.m; omega);obtain ⟨m,hm⟩:∃ m,c.m[k] = m:=⟨_,rfl⟩;have htk:c.m.take (k + 1) = c.m.take k ++ [m]:=by rw [List.take_succ_eq_append_getElem hk,hm]
    have hlm:=hl.a m (by rw [<- hm]; exact jkg hk);simp [hk,hm,Md.v];intro gf8;generalize gf8 8 = g8;refine qvm c hn m.a none hlm.1 g1 g3 gB _ _ [(8,.row g8 3 [m.v])] (by simp [obH]; rfl) (by simp [Md.v]) (by simp) _ ?_;simp [obH,Md.v];refine qvm c hn m.d none hlm.2 g1 g3 gB _ _ [(8,.row g8 3 [m.v])] (by simp [obH]; rfl) (by simp [Md.v]) (by simp) _ ?_;simp [obH,Md.v];intro gf9;have hw1:=qp4 c hn [m.w] (some 1) (by simp) g1 g3 gB;simp only [qdh,List.map_cons,List.map_nil] at hw1;refine jju 52 (by simp; exact ⟨rfl,rfl,rfl⟩) (by simp) ?_;simp [fzV,V.mapR,jio,fzp,fzf,fzH,Blk.fz,qcu _ (qgu c),qao,qdp];refine hw1 (mkD (mkD (mkD (fun x=>false) (B ++ List.flatMap (fun m=>m.a ++ (m.d ++ [m.w])) (List.take k c.m))) m.a) m.d) _ ?hs _ ?_
    case hs=>simp [obH,qvl (qdp _ _)]
    simp [obH,hw];refine ⟨k + 1,hk,rfl,⟨?_,by omega⟩⟩;rw [qmw,qmw,qmw,htk];simp
   ·have hk:k = c.m.length:=by have:=jkc hb; omega
    subst hk;simp [qbf (qdp _ _)];rw [jkf (by simp)];refine qfp fun i _=>?_;subst hB;simp [mkD,ptB,jaj]
theorem qzb (c:Ci) (hl:c.lens):qac Tryz.prog gl0 33 [c.v] (.sl (qaf (fL c.n.length (ptB c))) (some (fL c.n.length (ptB c)).length)):=by
 refine jj7 1 ok33 rfl ?_;simp [i33,x33];intro gf;refine jj4 (q2s c hl) (by simp) ?_;simp;refine jj4 (jhz _ hl.n _ _) (by simp [qdp]) ?_;simp [qay,qao]
end
section
open Go
def rdV (l:List Nat):V:=if l = [] then .nil else .sl (qaf l) none
theorem qrx (l:List Nat):(rdV l).pure = true:=by
 unfold rdV; split
 ·rfl
 ·simp [V.pure,qay]
def rdF (c:Ci) (l:List (Nat × Nat)):List Nat:=(l.filter fun p=>qdz (c.nd p.1).k).map (·.1)
theorem qzd (c:Ci) (l:List (Nat × Nat)) (p:Nat × Nat):rdF c (l ++ [p]) = rdF c l ++ if qdz (c.nd p.1).k = true then [p.1] else []:=by
 unfold rdF;rw [List.filter_append,List.map_append];congr 1;by_cases h:qdz (c.nd p.1).k = true <;> simp [h]
def qfc (c:Ci) (n k:Nat) (x:V):List V:=tab n fun j=>if j < k then rdV (rdL c j) else if j = k then x else .nil
theorem qow (c:Ci) (n k:Nat) (x:V) (hk:k < n) (h:k < (qfc c n k x).length):(qfc c n k x)[k] = x:=by
 simp only [qfc]; rw [qa0]; simp
theorem qox (c:Ci) (n k:Nat) (x y:V):(qfc c n k x).set k y = qfc c n k y:=by
 unfold qfc;rw [qc8];refine qa3 fun j hj=>?_;show (if j = k then y else _) = _;by_cases e:j = k
 ·subst e; simp
 ·simp [e]
@[simp] theorem q02 (c:Ci) (n k:Nat) (x:V):(qfc c n k x).length = n:=by simp [qfc,tab]
theorem qly (c:Ci) (n k:Nat) (x:V) (hx:x = rdV (rdL c k)):qfc c n k x = qfc c n (k + 1) .nil:=by
 subst hx;refine qa3 fun j hj=>?_;by_cases e:j = k
 ·subst e; simp
 ·by_cases e2:j < k
  ·simp [e2,show j < k + 1 by omega]
  ·simp [e,e2,show ¬ j < k + 1 by omega]
theorem qze (c:Ci) (n k b g:Nat) (es:List V) (x:V):(qfc c n k x).map (fzV b g es) = qfc c n k (fzV b g es x):=by
 unfold qfc tab;rw [List.map_map];refine List.map_congr_left fun j _=>?_;show fzV b g es (if j < k then _ else _) = _;by_cases e2:j < k
 ·simp only [e2,if_true]; exact qjc (qrx _)
 ·by_cases e:j = k
  ·simp [e]
  ·simp only [e,e2,if_false]; exact qjc rfl
theorem qs9 (c:Ci) (n:Nat):jid (qfc c n n .nil) = true:=by
 rw [jig];intro v hv;unfold qfc tab at hv;obtain ⟨j,-,rfl⟩:=List.mem_map.1 hv;split
 ·exact qrx _
 ·split <;> rfl
theorem qsp (c:Ci):jid (qgj c) = true:=by
 rw [jig];intro v hv;obtain ⟨j,-,rfl⟩:=List.mem_map.1 hv;show jid (qfm (j:Int) c.n 0) = true;rw [qg1];exact pureL_map (fun _=>rfl) _
structure RdSt where
 i:Nat
 a:Option (Nat × List V)
set_option maxHeartbeats 4000000 in
theorem qqi (c:Ci) (hv:c.val) (hn:c.n.length < 1000000):qac Tryz.prog gl0 99 [c.v] (.sl (tab c.n.length fun j=>rdV (rdL c j)) (some c.n.length)):=by
 have hin:∀ n ∈ c.n,n.i.length < 17:=fun x hx=>by
  obtain ⟨i,hi,rfl⟩:=List.getElem_of_mem hx;have:=hv.l i hi;rw [c.nd_get hi] at this; omega
 have hq:∀ j:Int,(qfm j c.n 0).length≤1000000000:=fun j=>by
  have h1:=qhs j 17 c.n 0 hin;omega
 have hfan:=qrg c hn (fun x hx=>by have:=hin x hx; omega) hq;have hN:(qgj c).length = c.n.length:=by simp [qgj]
 refine jj7 1 ok99 rfl ?_;simp [i99,x99];intro gf1 gf2;generalize gf1 1 = g1;generalize gf2 11 = g11
 have hrep:List.replicate c.n.length V.nil = qfc c c.n.length 0 .nil:=by
  refine List.ext_getElem (by simp) fun i h1 h2=>?_;simp only [qfc];rw [qa0,List.getElem_replicate];simp
 simp [show c.n.length≤549755813888 by omega,hrep];refine jj4 hfan (by simp) ?_;simp [hN]
 refine jix (X:=Nat) (fun k=>[(15,qab k),(14,qab c.n.length),(13,.sl (qgj c) (some c.n.length)),(3,.ref 11 g11 0 c.n.length (some c.n.length)),(1,.ptr 1 g1 0 0)])
  (fun k=>[(11,.row g11 1 (qfc c c.n.length k .nil)),(1,.row g1 4 [c.v])])
  (fun k=>k≤c.n.length) (fun k=>c.n.length - k) (.done ⟨0,by simp,by simp [qab],by simp⟩) ?_
 intro k h1;simp [qab];refine jj5 (fun hb=>?_) (fun hb=>?_)
 ·have hk:k < c.n.length:=jkb hb;have hw:=qbg k (by omega);obtain ⟨P,hP⟩:∃ P,qne (k:Int) c.n 0 = P:=⟨_,rfl⟩
  have hPl:P.length≤1000000000:=by
   have:=hq (k:Int);rw [qg1,hP,List.length_map] at this; exact this
  have hPm:∀ p ∈ P,p.1 < c.n.length:=fun p hp=>by
   have:=qi9 (k:Int) c.n 0 p (by rw [hP]; exact hp);omega
  have hget:(qgj c)[k]'(by rw [hN]; exact hk) = qhi (P.map qoh):=by
   simp only [qgj,List.getElem_map,List.getElem_range];rw [qg1,hP]
  simp [hk,hN,hget,qhi]
  refine jj6 (X:=RdSt) (fun z=>[(22,qab z.i),(21,qab P.length),(20,.sl (P.map qoh) (some P.length)),(4,qab k),(15,qab k),(14,qab c.n.length),(13,.sl (qgj c) (some c.n.length)),(3,.ref 11 g11 0 c.n.length (some c.n.length)),(1,.ptr 1 g1 0 0)])
   (fun z=>[(11,.row g11 1 (qfc c c.n.length k (qbe 43 z.a))),(1,.row g1 4 [c.v])] ++ qbj 43 1 z.a)
   (fun z=>z.i≤P.length/\(z.a = none∨qav z.a ≠ [])/\qav z.a = qaf (rdF c (P.take z.i))) (fun z=>P.length - z.i) ⟨0,none⟩ ⟨by simp,by simp,by simp [qav,rdF,qaf]⟩ (by simp [qab]) (by simp [qbj,qbe]) ?_
  rintro ⟨i,acc⟩ ⟨q1,q2,q3⟩;dsimp only at q1 q2 q3 ⊢;simp [qab]
  have hll:(qav acc).length≤i:=by
   rw [q3,qcp];unfold rdF;rw [List.length_map];refine Nat.le_trans (List.length_filter_le _ _) ?_;simp; omega
  refine jj5 (fun hb2=>?_) (fun hb2=>?_)
  ·have hi:i < P.length:=jkb hb2;have hwi:=qbg i (by omega);obtain ⟨p,hp⟩:∃ p,P[i] = p:=⟨_,rfl⟩;have hpN:=hPm p (by rw [<- hp]; exact jkg hi);have htk:P.take (i + 1) = P.take i ++ [p]:=by rw [List.take_succ_eq_append_getElem hi,hp]
   have hsn:=qzd c (P.take i) p;rw [<- htk] at hsn;obtain ⟨y,hy⟩:∃ y,c.n[p.1] = y:=⟨_,rfl⟩;have hnd:c.nd p.1 = y:=by rw [c.nd_get hpN,hy]
   rw [hnd] at hsn;simp [hi,hp,qoh,qmq];intro gf7;generalize gf7 7 = g7;simp [hpN,hy,Nd.v];refine jj4 (qjh y.k) (by simp) ?_;simp;refine jj5 (fun hc=>?_) (fun hc=>?_)
   ·rw [if_pos hc] at hsn;have hn2:qaf (rdF c (P.take (i + 1))) = qaf (rdF c (P.take i)) ++ [.int .i64 (p.1:Int)]:=by rw [hsn]; simp [qaf,qab]
    cases acc with
    | none=>
     simp only [qav] at q3;simp [qbe,qbj,hk,qow,qox,hwi];intro gm;exact ⟨rfl,⟨i + 1,some (gm 43,[.int .i64 (p.1:Int)])⟩,⟨hi,by simp [qav],by dsimp only [qav]; rw [hn2,<- q3]; rfl⟩,by simp,by simp [qbe],by dsimp only; omega⟩
    | some gl=>
     obtain ⟨g,l⟩:=gl;simp only [qav] at q3 hll;have hle:l.length + 1≤274877906944:=by omega
     simp [qbe,qbj,hk,qow,qox,hwi,hle];intro gm;exact ⟨rfl,⟨i + 1,some (g + 1,l ++ [.int .i64 (p.1:Int)])⟩,⟨hi,by simp [qav],by dsimp only [qav]; rw [hn2,<- q3]⟩,by simp,by simp [qbe],by dsimp only; omega⟩
   ·rw [if_neg (by simp [hc]),List.append_nil] at hsn;simp [hwi];exact ⟨⟨i + 1,acc⟩,⟨hi,q2,by dsimp only; rw [hsn]; exact q3⟩,by simp,by cases acc <;> simp [qbj],by dsimp only; omega⟩
  ·have hi:i = P.length:=by have:=jkc hb2; omega
   subst hi;rw [List.take_length] at q3;have hrl:rdF c P = rdL c k:=by unfold rdF rdL; rw [hP]
   rw [hrl] at q3;simp [hw]
   cases acc with
   | none=>
    have h0:rdL c k = []:=by
     simp only [qav] at q3
     cases h:rdL c k with
     | nil=>rfl
     | cons x l=>rw [h] at q3; cases q3
    refine .done ⟨k + 1,hk,by simp,?_,by omega⟩;simp [qbe,qbj];exact qly c c.n.length k .nil (by simp [rdV,h0])
   | some gl=>
    obtain ⟨g,l⟩:=gl;simp only [qav] at q3;subst q3;have hne:rdL c k ≠ []:=fun e=>by rcases q2 with q2 | q2 <;> simp [qav,e,qaf] at q2
    simp [qbe,qbj];refine .frz (g:=g) (sz:=1) (es:=qaf (rdL c k)) 43 (by simp) (qay _) (.done ⟨k + 1,hk,?_,?_,by omega⟩)
    ·simp [fzF,fzV,V.mapR,fzf,fzp,qao,jid];exact qao _ (qsp c)
    ·simp [fzH,Blk.fz,qze,qjc (qgu c)];refine qly c c.n.length k _ ?_;simp [fzV,V.mapR,fzf,rdV,hne];exact jkf (by simp)
 ·have hk:k = c.n.length:=by have:=jkc hb; omega
  subst hk;simp [qbf (qs9 _ _)];rw [jkf (by simp)];exact qa3 fun j hj=>by simp [hj]
def edV (e:Nat->List Nat) (j:Nat):V:=.sl (qaf (e j)) none
theorem q9a {n:Nat} {f g:Nat->V} {c:Option Nat} (h:∀ j,j < n->qph (f j) (g j)):VLe (.sl (tab n f) c) (.sl (tab n g) c):=by
 refine .slc (by simp [tab]) fun i=>?_;by_cases hi:i < n
 ·simp only [jkd];rw [qhw f hi,qhw g hi];exact h i hi
 ·simp only [jkd];rw [List.getElem?_eq_none (by simp [tab]; omega),List.getElem?_eq_none (by simp [tab]; omega)];exact ⟨.refl _,trivial⟩
theorem qoy (c:Ci) (hv:c.val) (hn:c.n.length < 1000000):qac Tryz.prog gl0 99 [c.v] (.sl (tab c.n.length (edV (rdL c))) (some c.n.length)):=
 qac.wide (qqi c hv hn) (qg5.refl _) (q9a fun j _=>by
  unfold rdV edV;split
  ·rename_i h; rw [h]; exact ⟨.nil',trivial⟩
  ·exact ⟨.refl _,trivial⟩)
end
section
open Go
structure Dn (e:Nat->List Nat) (n:Nat) (m:Nat->Nat):Prop where
 d:∀ x y,y ∈ e x->m y < m x/\y < n
 l:∀ x,(e x).length < 1000000000
end
section
open Go
theorem qns {c:Ci} (hwf:c.wf) (h:qi5 c = 0):c.val/\qgk c:=by
 unfold qi5 at h;split at h
 ·rename_i h1; exact absurd h h1
 ·rename_i h1;split at h
  ·rename_i h2; exact ⟨qo1 hwf (Classical.not_not.1 h1),h2⟩
  ·exact absurd h (by decide)
theorem q3d {c:Ci} (hv:c.val) (hn:c.n.length < 1000000) (x:Nat):(rdL c x).length < 1000000000:=by
 have hin:∀ n ∈ c.n,n.i.length < 17:=fun y hy=>by
  obtain ⟨i,hi,rfl⟩:=List.getElem_of_mem hy;have:=hv.l i hi;rw [c.nd_get hi] at this; omega
 have h1:=qhs (x:Int) 17 c.n 0 hin;rw [qg1,List.length_map] at h1;unfold rdL;rw [List.length_map];have:=List.length_filter_le (fun p:Nat × Nat=>qdz (c.nd p.1).k) (qne (x:Int) c.n 0);omega
noncomputable def q41 (c:Ci) (l:List Int):Int:=if qi5 c ≠ 0 then qi5 c else if l.any (qgg c.n.length) = true then 1 else 0
theorem qxo (c:Ci) (hwf:c.wf) (l:List Int) (cap:Option Nat) (hl:l.length < 1000000000000):qac Tryz.prog gl0 96 [c.v,.sl (qdh l) cap] (.int .i64 (q41 c l)):=by
 obtain ⟨q,hq⟩:∃ r,q41 c l = r:=⟨_,rfl⟩;rw [hq];unfold q41 at hq;have hck:=q1r c hwf;generalize qi5 c = E at hck hq;refine jj7 1 ok96 rfl ?_;simp [i96,x96];intro gf;refine jj4 hck (by simp) ?_;simp;refine jj5 (fun hb=>?_) (fun hb=>?_)
 ·rw [if_neg (by simpa using hb)] at hq;simp;refine jj4 (qw3 c l cap hl) (by simp [qfx]) ?_;simp;refine jj5 (fun h2=>?_) (fun h2=>?_)
  ·rw [if_pos h2] at hq;simp [<- hq]
  ·rw [if_neg (by simp [h2])] at hq;simp [<- hq]
 ·rw [if_pos (by simpa using hb)] at hq;simp [hq]
def okV (l:List Nat):V:=.tup [.sl (qaf l) (some l.length),.int .i64 0]
theorem q2l {n:Nat} {l:List Nat} (h:∀ x ∈ l,x < n):(l.map fun x:Nat=>(x:Int)).any (qgg n) = false:=by
 rw [List.any_eq_false];intro x hx;obtain ⟨y,hy,rfl⟩:=List.mem_map.1 hx;simp [qgg];exact h y hy
theorem q1d {c:Ci} (h:qi5 c = 0) {l:List Nat} (hl:∀ x ∈ l,x < c.n.length):q41 c (l.map fun x:Nat=>(x:Int)) = 0:=by
 unfold q41;rw [if_neg (by simpa using h),q2l hl];simp
end
end Go.Proofs.YtbbnmiaabmbheaaGreatDoor
