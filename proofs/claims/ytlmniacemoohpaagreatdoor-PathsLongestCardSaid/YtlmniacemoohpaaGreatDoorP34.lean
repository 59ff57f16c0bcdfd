/- Paths: the law Check of layer 20. Conditions: none. -/
import Derived.Test.YtlmniacemoohpaaGreatDoorPA
import Derived.Test.YtlmniacemoohpaaGreatDoorPC
import Derived.Test.YtlmniacemoohpaaGreatDoorXL10
import Derived.Test.YtlmniacemoohpaaGreatDoorP31
import Derived.Test.YtlmniacemoohpaaGreatDoorP29
set_option linter.all false
namespace Go.Proofs.YtlmniacemoohpaaGreatDoor
section
open Go
theorem q28 (a b:List Ln) (ca cb:Option Nat) (ha:a.length < 1000000):qac Tryz.prog gl0 34 [.sl (a.map lnI) ca,.sl (b.map lnI) cb] (.bool (decide (a = b))):=by
 refine jiu 2 ok34 rfl ?_;simp [i34,x34];by_cases hl:a.length = b.length
 case neg=>
  have hne:¬ a = b:=fun h=>hl (by rw [h]);have hli:¬ (a.length:Int) = b.length:=by omega
  simp [hl,hne]
 obtain ⟨R,hR⟩:∃ R,decide (a = b) = R:=⟨_,rfl⟩;rw [hR];simp [hl]
 refine jit (X:=Nat) (fun i=>[(5,qab i),(0,.sl (a.map lnI) ca),(1,.sl (b.map lnI) cb)]) (fun _=>[])
  (fun i=>i≤a.length/\a.take i = b.take i) (fun i=>a.length - i) 0 (by simp) (by simp [qab]) (by simp) ?_
 rintro i ⟨hi,he⟩;simp [qab];refine jis (fun hb=>?_) (fun hb=>?_)
 ·have hi1:i < a.length:=by have:=jiy hb; omega
  have hi2:i < b.length:=by omega
  have hw:=qbg i (by omega);obtain ⟨⟨p,q⟩,hp⟩:∃ x,a[i] = x:=⟨_,rfl⟩;obtain ⟨⟨r,s⟩,hq⟩:∃ x,b[i] = x:=⟨_,rfl⟩;by_cases h1:p = r
  ·by_cases h2:q = s
   ·subst h1;subst h2;simp [hi1,hi2,hp,hq,lnI];exact ⟨i + 1,⟨hi1,by rw [List.take_succ_eq_append_getElem hi1,List.take_succ_eq_append_getElem hi2,hp,hq,he]⟩,by simp [hw],by omega⟩
   ·have hne:¬ a = b:=by
     rintro rfl;rw [hp] at hq;simp at hq;exact h2 hq.2
    simp [hi1,hi2,hp,hq,lnI,h1,h2,<- hR,hne]
  ·have hne:¬ a = b:=by
    rintro rfl;rw [hp] at hq;simp at hq;exact h1 hq.1
   simp [hi1,hi2,hp,hq,lnI,h1,<- hR,hne]
 ·have hi1:i = a.length:=by have:=jiz hb; omega
  subst hi1
  have hab:a = b:=by
   rw [List.take_length,hl,List.take_length] at he;exact he
  rw [<- hR,decide_eq_true hab];simp
end
section
open Go
def pw (P:Pth):V:=.sl (P.map lnI) (some P.length)
theorem qg0 (T:List Pth):jgy (T.map pw) = true:=V.pureL_map _ T fun P=>by simp [pw,V.pure,qbs]
def dfV (c:Ci) (k:Nat) (P:Pth):List V:=(dfs c k P).map pw
theorem q7e {c:Ci} (hg:c.good) (hr:c.nar):q19 c (ext c):=fun n hn=>by
 have hn1:=hr.n;have h1:=qj1 hr n c.n.length (ji5 _);refine ⟨by unfold ext; omega,fun l hl=>?_⟩;obtain ⟨m,j,hm,hk14,hj,he,rfl⟩:=qn4.1 hl;refine ⟨m,rfl,hm,?_⟩;rw [g_nd hg hm hk14,List.mem_map];refine ⟨(c.nd m).i[j],ji3 hj,?_⟩;rw [ji0,ji4 hj] at he;simp only [Option.getD_some] at he;rw [he]; rfl
theorem qk6 (c:Ci):jgy (qhc c) = true:=qcd fun n=>by
 have:=qbs (ext c n);unfold qgk;split
 ·rfl
 ·simp only [V.pure]; assumption
theorem qzi (c:Ci) (k:Nat) (P:Pth):dfV c (k + 1) P = (ext c (qb1 P)).flatMap fun l=>dfV c k (P ++ [l]):=by
 unfold dfV;rw [dfs,List.map_flatMap]
set_option maxRecDepth 100000 in
set_option maxHeartbeats 4000000 in
theorem qsw (E:XE) (c:Ci) (hg:c.good) (hr:c.nar) (hcv:E.cv = tab c.n.length fun n=>qa0 c (ext c) n) (hnx:E.nx = qhc c) (hEn:E.n≤4096) (k:Nat) (ih:∀ k',k = k' + 1->∀ P,PP c P->q54 E k' P (dfV c k' P))
  (P:Pth) (hP:PP c P) (hk:k < 256):q54 E k P (dfV c k P):=by
 have hcvp:jgy E.cv = true:=by rw [hcv]; exact qcd fun n=>by simp only [qa0,V.pure]; exact qcd fun _=>rfl
 have hnxp:jgy E.nx = true:=by rw [hnx]; exact qk6 c
 have hn16:=hr.n;intro B hB g J cap acc hJ ha hal hcap;obtain ⟨hl1,hl2⟩:=qr0 hP;have hPl:=qtp hg hr hP;have hP0:0 < P.length:=hP.ne;have hXp:jgy (P.map lnI ++ J) = true:=qa9 (qbs P) hJ;obtain ⟨len,hlen⟩:∃ n,P.length = n:=⟨_,rfl⟩
 have hXe:∀ h:len - 1 < (P.map lnI ++ J).length,(P.map lnI ++ J)[len - 1] = .agg [.int .i64 (qb1 P:Int),.int .i64 (P.getD (len - 1) (0,0)).2]:=fun h=>by
  rw [List.getElem_append_left (by simp; omega),List.getElem_map];rw [hlen] at hl1;rw [ji0,ji4 (by omega)] at hl1 ⊢;simp only [Option.getD_some] at hl1 ⊢;rw [lnI,hl1]
 have hXl:len - 1 < (P.map lnI ++ J).length:=by simp; omega
 have hcvE:E.cv[qb1 P]? = some (.sl (tab 256 fun k=>.bool (qjc c (ext c) k (qb1 P))) (some 256)):=by rw [hcv]; exact qg2 _ hl2
 have hrow:(tab 256 fun k=>V.bool (qjc c (ext c) k (qb1 P)))[k]? = some (.bool (qjc c (ext c) k (qb1 P))):=qg2 _ hk;have hnxE:E.nx[qb1 P]? = some (qgk ((ext c (qb1 P)).map lnI)):=by rw [hnx]; exact qg2 _ hl2
 have hcl:=fun cp=>qnd P (some cp) (fun e=>by rw [e] at hP0; exact absurd hP0 (Nat.lt_irrefl 0)) (by omega);have hcp:=qnc P none (by omega);have hex:=qj1 hr (qb1 P) c.n.length (ji5 _);have hdp:jgy (dfV c k P) = true:=qg0 _;generalize hK:(fun (r:V) (h:Hp)=>r = .tup []/\∃ g' J' acc',jgy J' = true/\qau acc' = qhu E.n (qau acc) (dfV c k P)/\(B = 9000->g' = g)/\h = (B,.row g' 2 (P.map lnI ++ J')) :: E.hp acc') = K
 have hstop:=fun (g':Nat) (hg':B = 9000->g' = g) (fr:Fr) (h:Hp) (J':List V) (acc':Option (Nat × List V)) (hJ':jgy J' = true) (hac:qau acc' = qhu E.n (qau acc) (dfV c k P)) hs=>
  jai E B hB g' g hg' (P.map lnI ++ J') (qa9 (qbs P) hJ') hcvp hnxp acc' (by rw [hac]; exact qdp ha hdp) K fr h hs fun g'' hg''=>by rw [<- hK]; exact ⟨rfl,g'',J',acc',hJ',hac,hg'',rfl⟩
 rw [hlen] at hcap hPl hP0 hcp ⊢;obtain ⟨q,hq⟩:∃ q,len - 1 = q:=⟨_,rfl⟩;have hsb:IntKind.i64.wrap ((len:Int) - 1) = (q:Int):=by rw [qaq] <;> omega
 rw [hq] at hXe hXl;refine jif 1 jft jad rfl ?_;change XC.wpM _ _ 1 qqu _ _ _;rw [q40];obtain ⟨X,hX⟩:∃ X,P.map lnI ++ J = X:=⟨_,rfl⟩;rw [hX] at hXe hXl hXp ⊢;have hl1':q < len:=by omega
 simp [iC73,xs1,qqu,XE.env,hXl,hXe,hsb,hl1'];refine KM.mk ?_;refine q4t E acc ha hcvp hnxp B hB g len cap hcap X hXp k (qb1 P) _ _ (by simp) (by simp) (by simp) (by simp) (by simp) (by simp) (by simp) (by simp) fun fr g' cp hcp2 hg' f0 f1 f2 f3 f4 f5 f6 f9=>?_;rw [<- hX];simp only [qkc];by_cases hfull:(qau acc).length = E.n
 ·exact q11 E P J hJ g' (qb1 P) k len cp hlen acc (dfV c k P) _ _ _ hcvE hrow (.inl hfull) fr f0 f1 f2 f3 f4 f9 K (hstop g' hg')
 have hlt:(qau acc).length < E.n:=by omega
 cases hb:qjc c (ext c) k (qb1 P) with
 | false=>
  rw [hb] at hrow;exact q11 E P J hJ g' (qb1 P) k len cp hlen acc (dfV c k P) _ _ _ hcvE hrow (.inr ⟨hlt,rfl,by unfold dfV; rw [qv0 c k P hb]; rfl⟩) fr f0 f1 f2 f3 f4 f9 K (hstop g' hg')
 | true=>
  rw [hb] at hrow
  cases k with
  | zero=>
   have hd:dfV c 0 P = [.sl (P.map lnI) (some len)]:=by
    unfold dfV;rw [dfs,if_pos (show qjw c (qb1 P) = true from hb)];simp [pw,hlen]
   exact q0q E P J hJ g' (qb1 P) len cp hlen acc hlt (by omega) _ _ hcvE hrow (hcl cp) hcp fr f0 f1 f2 f3 f4 f9 K fun fr h J' acc' hJ' hac hs=>hstop g' hg' fr h J' acc' hJ' (by rw [hac,hd,qzg hlt]) hs
  | succ k=>
   refine q0r E P J hJ g' (qb1 P) k len cp hlen (by omega) hcp2 acc ha hlt _ _ hcvE hrow (by omega) (ext c (qb1 P)) hnxE (by unfold ext; omega) (fun l=>dfV c k (P ++ [l])) (fun l _=>qg0 _) hcvp hnxp (fun l hl=>ih k rfl _ (qr1 hP hl))
    fr f0 f1 f2 f3 f4 f5 f6 f9 K fun fr h J' acc' hJ' hac hs=>hstop g' hg' fr h J' acc' hJ' (by rw [hac,qzi]) hs
theorem q1h (E:XE) (c:Ci) (hg:c.good) (hr:c.nar) (hcv:E.cv = tab c.n.length fun n=>qa0 c (ext c) n) (hnx:E.nx = qhc c) (hEn:E.n≤4096):∀ (k:Nat) (P:Pth),PP c P->k < 256->q54 E k P (dfV c k P)
 | 0,P,hP,hk=>qsw E c hg hr hcv hnx hEn 0 (fun _ h=>by omega) P hP hk
 | k + 1,P,hP,hk=>qsw E c hg hr hcv hnx hEn (k + 1) (fun k' e P hP=>by
   obtain rfl:k' = k:=by omega
   exact q1h E c hg hr hcv hnx hEn k' P hP (by omega)) P hP hk
def qta (c:Ci) (T:Nat):Nat->List Pth
 | 0=>[]
 | i + 1=>qta c T i ++ lev c (T - 1 - i)
theorem qn0 (c:Ci) (T:Nat):∀ i,i≤T->qta c T i ++ qgv c (T - i) = qgv c T
 | 0,_=>rfl
 | i + 1,h=>by
  rw [<- qn0 c T i (by omega),qta,List.append_assoc];congr 1;obtain ⟨j,hj⟩:∃ j,T - i = j + 1:=⟨T - i - 1,by omega⟩;rw [hj,show T - (i + 1) = j by omega,show T - 1 - i = j by omega];rfl
theorem qxe {c:Ci} (hg:c.good) (hr:c.nar) {T:Nat} (hT:c.n.length≤T):qgv c T = qgv c c.n.length:=by
 rw [<- qtd hg hr (T - c.n.length)];congr 1;omega
theorem qtb {c:Ci} (hg:c.good) (hr:c.nar) {T:Nat} (hT:c.n.length≤T):qta c T T = qgv c c.n.length:=by
 have h:=qn0 c T T (ji5 _);rw [Nat.sub_self,qgv,List.append_nil] at h;rw [h,qxe hg hr hT]
structure LoS where
 i:Nat
 j:Nat
 a:Nat
 b:Nat
 d:Nat
 e:Nat
 f:Nat
 acc:Option (Nat × List V)
def LoS.E (c:Ci) (n:Nat) (z:LoS):XE:=⟨z.a,z.b,z.d,z.e,z.f,n,tab c.n.length fun n=>qa0 c (ext c) n,some c.n.length,qhc c,some c.n.length⟩
def LoS.hp (c:Ci) (n g2:Nat) (z:LoS):Hp:=(2,.row g2 4 [c.v]) :: (z.E c n).hp z.acc
theorem qxr (c:Ci) (cap:Option Nat):VLe (.sl (qhc c) cap) (.sl (tab c.n.length fun n=>.sl ((ext c n).map lnI) none) cap):=by
 refine jhu (by simp [qhc]) fun i=>?_;unfold qhc;rw [ji0,ji0];by_cases h:i < c.n.length
 ·rw [qg2 _ h,qg2 _ h];simp only [Option.getD_some];have:=qz8 ((ext c i).map lnI);generalize (ext c i).map lnI = l at this ⊢
  cases l with
  | nil=>exact ⟨this,trivial⟩
  | cons x r=>exact qf9.refl _
 ·rw [List.getElem?_eq_none (by simp; omega),List.getElem?_eq_none (by simp; omega)];exact qf9.refl _
theorem LoS.sub (c:Ci) (n g2:Nat) (z z':LoS) (h:z'.a = z.a/\z'.b = z.b/\z'.d = z.d/\z'.e = z.e/\z'.f = z.f/\z'.acc = z.acc):Sub (z'.hp c n g2) (z.hp c n g2):=by
 obtain ⟨i,j,a,b,d,e,f,acc⟩:=z;obtain ⟨i',j',a',b',d',e',f',acc'⟩:=z';dsimp only at h;obtain ⟨rfl,rfl,rfl,rfl,rfl,rfl⟩:=h;rcases acc' with _ | ⟨gq,l⟩ <;> simp [LoS.hp,LoS.E,XE.hp,qbj,qbo]
set_option maxRecDepth 100000 in
theorem qul (c:Ci) (hg:c.good) (n e:Int) (he:(4096 < n/\e = 3)∨(n < 0/\e = 1)):qac Tryz.prog gl0 33 [c.v,.int .i64 n] (.tup [.nil,.int .i64 e]):=by
 have hl:=qnx c hg;have hlp:jgy (qor c c.n.length) = true:=qgl _ _;refine jiu 4 jb7 rfl ?_;rcases he with ⟨h,rfl⟩ | ⟨h,rfl⟩
 ·simp [i33,x33];intro gf1 gf2;refine jir hl (by simp) ?_;simp [h]
 ·have h2:¬ 4096 < n:=by omega
  simp [i33,x33];intro gf1 gf2;refine jir hl (by simp) ?_;simp [h,h2]
theorem qv3:qac Tryz.prog gl0 76 [.nil] (.sl [] (some 0)):=by
 have h:qac Tryz.prog gl0 76 [.sl [] none] (.sl [] (some 0)):=by
  refine jiu 2 jb8 rfl ?_;simp [i76,x76]
 exact qac.wide h ⟨VLe.nil',trivial⟩ (.refl _)
set_option maxRecDepth 100000 in
set_option maxHeartbeats 4000000 in
theorem qxj (c:Ci) (hg:c.good) (hr:c.nar) (n:Nat) (hn:n≤4096):qac Tryz.prog gl0 33 [c.v,.int .i64 n] (.tup [.sl (((qgv c c.n.length).take n).map pw) (some ((qgv c c.n.length).take n).length),.int .i64 0]):=by
 have hl:=qnx c hg;have hnx:=q4u c hg hr;have hcv:qac Tryz.prog gl0 72 [c.v,.sl (qhc c) (some c.n.length)] (.sl (tab c.n.length fun n=>qa0 c (ext c) n) (some c.n.length)):=qac.wide (qpr c hg (ext c) (q7e hg hr) (some c.n.length)) ⟨.refl _,qxr c (some c.n.length),trivial⟩ (.refl _);have hsr:=fun y=>qii y;have hlp:jgy (qor c c.n.length) = true:=qgl _ _;have hnp:=qk6 c;have hcp:jgy (tab c.n.length fun n=>qa0 c (ext c) n) = true:=qcd fun n=>by simp only [qa0,V.pure]; exact qcd fun _=>rfl
 have hn16:=hr.n;have hext:=fun z:LoS=>q1h (z.E c n) c hg hr rfl rfl hn;have hnn:¬ 4096 < n:=by omega
 have hfin:qhu n [] ((qta c 256 256).map pw) = ((qgv c c.n.length).take n).map pw:=by
  rw [qtb hg hr (by omega)];unfold qhu;rw [List.nil_append,List.map_take]
 have hRl:((qgv c c.n.length).take n).length = (((qgv c c.n.length).take n).map pw).length:=by simp
 have hRp:=qg0 ((qgv c c.n.length).take n);rw [hRl];generalize ((qgv c c.n.length).take n).map pw = R at hfin hRp ⊢;clear hRl;refine jiu 4 jb7 rfl ?_;simp [i33,x33];intro gf1 gf2;generalize gf1 2 = g2;generalize gf2 3 = g3;refine jir hl (by simp) ?_;simp [hnn];refine jir hnx (by simp) ?_;simp;intro gf3;generalize gf3 8 = g8;refine jir hcv (by simp [hnp]) ?_;simp;intro gf4 gf5 gf6;generalize gf4 9 = g9;generalize gf5 10 = g10;generalize gf6 11 = g11;obtain ⟨HF,hHF⟩:∃ HF:Nat->List V,∀ k,HF k = qhu n [] ((qta c 256 (256 - k)).map pw):=⟨_,fun _=>rfl⟩;have hH256:qau (none:Option (Nat × List V)) = HF 256:=by rw [hHF]; simp [qau,qta,qhu]
 have hH0:HF 0 = R:=by rw [hHF,<- hfin]
 clear hfin
 refine jhc (X:=LoS) (fun z=>[(12,.int .i64 ((z.i:Int) - 1)),(11,.ptr 7011 z.a 0 0),(10,.ptr 7010 z.b 0 0),(2,.ptr 2 g2 0 0)]) (LoS.hp c n g2)
  (fun z=>z.i≤256/\qau z.acc = HF z.i) (fun z=>z.i) ?_ ?_
 ·refine .move 11 7011 _ (by simp) (by simp; rfl) fun ga=>.move 10 7010 _ (by simp) (by simp; rfl) fun gb=>.move 9 7009 _ (by simp) (by simp; rfl) fun gd=>.move 8 7008 _ (by simp) (by simp; rfl) fun ge=>.move 3 7003 _ (by simp) (by simp; rfl) fun gf=>.done ⟨⟨256,0,ga,gb,gd,ge,gf,none⟩,⟨by simp,hH256⟩,by simp,?_⟩;simp [LoS.hp,LoS.E,XE.hp,XE.env,qbj,qbo,qap hcp,qap hnp,Blk.rn,V.rn,mvS,qbd _ hcp,qbd _ hnp,qi0 c.v (by simp)]
 rintro ⟨k,j0,a,b,d,e,f,acc⟩ ⟨q1,q2⟩;dsimp only at q1 q2;simp;refine jis (fun hb=>?_) (fun hb=>?_)
 ·have hk1:1≤k:=jiy hb;obtain ⟨q,rfl⟩:∃ q,k = q + 1:=⟨k - 1,by omega⟩;have hst:=LoS.sub c n g2 ⟨q + 1,j0,a,b,d,e,f,acc⟩ ⟨q + 1,0,a,b,d,e,f,acc⟩ ⟨rfl,rfl,rfl,rfl,rfl,rfl⟩;have w2:lk (LoS.hp c n g2 ⟨q + 1,j0,a,b,d,e,f,acc⟩) 2 = some (.row g2 4 [c.v]):=by simp [LoS.hp]
  obtain ⟨GF,hGF⟩:∃ GF:Nat->List V,∀ j,GF j = qhu n [] ((qta c 256 (256 - (q + 1)) ++ (qi3 c j).flatMap (dfs c q)).map pw):=⟨_,fun _=>rfl⟩;have hG0:HF (q + 1) = GF 0:=by rw [hHF,hGF]; simp [qi3]
  have hGN:GF c.n.length = HF q:=by
   rw [hHF,hGF,<- q3n,show 256 - q = (256 - (q + 1)) + 1 by omega,qta,show 256 - 1 - (256 - (q + 1)) = q by omega]
  have hGs:∀ j,j < c.n.length->GF (j + 1) = if qot (c.nd j) = true then qhu n (GF j) (dfV c q [((j:Int),-1)]) else GF j:=fun j hj=>by
   rw [hGF,hGF,qql];split
   ·rw [qsq,List.flatMap_append,<- List.append_assoc,List.map_append];simp [dfV]
   ·rw [List.append_nil]
  have hGp:∀ j,jgy (GF j) = true:=fun j=>by rw [hGF]; exact qdp rfl (qg0 _)
  have hGl:∀ j,(GF j).length≤n:=fun j=>by rw [hGF]; exact qsr _ _ _
  clear hGF;generalize LoS.hp c n g2 ⟨q + 1,j0,a,b,d,e,f,acc⟩ = W at hst w2 ⊢;simp [w2,Ci.v]
  refine jit (X:=LoS) (fun z=>[(42,qab z.j),(41,qab c.n.length),(40,.sl (c.n.map Nd.v) none),(12,.int .i64 (q:Int)),(11,.ptr 7011 z.a 0 0),(10,.ptr 7010 z.b 0 0),(2,.ptr 2 g2 0 0)]) (LoS.hp c n g2)
   (fun z=>z.i = q + 1/\z.j≤c.n.length/\qau z.acc = GF z.j) (fun z=>c.n.length - z.j) ⟨q + 1,0,a,b,d,e,f,acc⟩ ⟨rfl,Nat.zero_le _,by rw [q2,hG0]⟩ (by simp [qab]) hst ?_
  clear hst w2;clear W;rintro ⟨k',j,a,b,d,e,f,acc⟩ ⟨r1,r2,r3⟩;dsimp only at r1 r2 r3;subst r1;have hst:=LoS.sub c n g2 ⟨q + 1,j + 1,a,b,d,e,f,acc⟩ ⟨q + 1,j,a,b,d,e,f,acc⟩ ⟨rfl,rfl,rfl,rfl,rfl,rfl⟩;simp [qab];refine jis (fun hb2=>?_) (fun hb2=>?_)
  ·have hj:j < c.n.length:=jiy hb2;have hw:=qbg j (by omega);obtain ⟨y,hy⟩:∃ y,c.n[j] = y:=⟨_,rfl⟩;have hyn:c.nd j = y:=by rw [c.nd_get hj,hy]
   have hs1:qac Tryz.prog gl0 69 [y.v] (.bool (qot y)):=qii y;have hsT:=hGs j hj;rw [hyn] at hsT;have hE:=hext ⟨q + 1,j,a,b,d,e,f,acc⟩ q [((j:Int),-1)];have hpp:qot y = true->PP c [((j:Int),-1)]:=fun h=>q1y hj (by rw [hyn]; exact h);have hacp:jgy (qau acc) = true:=by rw [r3]; exact hGp j
   have hacl:(qau acc).length≤n:=by rw [r3]; exact hGl j
   have hin:=(LoS.E c n ⟨q + 1,j,a,b,d,e,f,acc⟩).hp_in hcp hnp;have hen:=(LoS.E c n ⟨q + 1,j,a,b,d,e,f,acc⟩).env_in 52;have w7011:lk (LoS.hp c n g2 ⟨q + 1,j,a,b,d,e,f,acc⟩) 7011 = some (.row a 1 [.fn 73 [] (LoS.E c n ⟨q + 1,j,a,b,d,e,f,acc⟩).env]):=by simp [LoS.hp,XE.hp,LoS.E]
   have hst14:∀ (X2 X3:Blk),Sub (LoS.hp c n g2 ⟨q + 1,j + 1,a,b,d,e,f,acc⟩) ((14,X2) :: (14,X3) :: LoS.hp c n g2 ⟨q + 1,j,a,b,d,e,f,acc⟩):=fun X2 X3=>by
    rcases acc with _ | ⟨gq,l⟩ <;> simp [LoS.hp,LoS.E,XE.hp,qbj,qbo]
   have hs52:∀ (X1 X2 X3:Blk),Sub ((52,X1) :: (LoS.E c n ⟨q + 1,j,a,b,d,e,f,acc⟩).hp acc) ((52,X1) :: (14,X2) :: (14,X3) :: LoS.hp c n g2 ⟨q + 1,j,a,b,d,e,f,acc⟩):=fun X1 X2 X3=>by
    rcases acc with _ | ⟨gq,l⟩ <;> simp [LoS.hp,LoS.E,XE.hp,qbj,qbo]
   have hs2:∀ (X1 X2 X3:Blk),Sub [(2,Blk.row g2 4 [c.v])] ((52,X1) :: (14,X2) :: (14,X3) :: LoS.hp c n g2 ⟨q + 1,j,a,b,d,e,f,acc⟩):=fun X1 X2 X3=>by simp [LoS.hp]
   generalize hWW:LoS.hp c n g2 ⟨q + 1,j,a,b,d,e,f,acc⟩ = W at *;simp [hj,hy,Nd.v];intro gf14;simp only [Nd.v] at hs1;refine jir hs1 (by simp) ?_
   cases hs:qot y with
   | false=>
    rw [hs,if_neg (by simp)] at hsT;simp;exact ⟨⟨q + 1,j + 1,a,b,d,e,f,acc⟩,⟨rfl,hj,by rw [r3,hsT]⟩,⟨by simpa using hw,rfl,rfl⟩,hst14 _ _,by dsimp only; omega⟩
   | true=>
    rw [hs,if_pos rfl] at hsT;simp [w7011];intro gf52
    refine CallO.lend [52,7011,7010,7009,7008,7003,40] ((52,.row (gf52 52) 2 ([((j:Int),(-1:Int))].map lnI ++ [])) :: (LoS.E c n ⟨q + 1,j,a,b,d,e,f,acc⟩).hp acc) [(2,.row g2 4 [c.v])]
     (hE (hpp hs) (by omega) 52 (.inr (.inr rfl)) (gf52 52) [] (some 1) acc rfl hacp hacl (fun _ h=>by cases h; simp)) (by simp [jg4,V.inB]; exact hen) (hs52 _ _ _) (by have:=hin acc hacp 52; simp [qcw,Blk.inB,jg4,V.inB,lnI] at this ⊢; exact this) (hs2 _ _ _) (by simp) ?_
    rintro r hh ⟨rfl,g',J',acc',hJ',hac',-,rfl⟩;have hap':jgy (qau acc') = true:=by rw [hac']; exact qdp hacp (qg0 _)
    refine ⟨by simp [V.inB],by have:=hin acc' hap' 52; simp [qcw,Blk.inB,jg4,V.inB,lnI,jgz _ _ hJ'] at this ⊢; exact this,?_⟩
    have hlast:∀ X1:Blk,Sub (LoS.hp c n g2 ⟨q + 1,j + 1,a,b,d,e,f,acc'⟩) ((52,X1) :: ((LoS.E c n ⟨q + 1,j,a,b,d,e,f,acc⟩).hp acc' ++ [(2,Blk.row g2 4 [c.v])])):=fun X1=>by
     rcases acc' with _ | ⟨gq,l⟩ <;> simp [LoS.hp,LoS.E,XE.hp,qbj,qbo]
    simp;exact ⟨⟨q + 1,j + 1,a,b,d,e,f,acc'⟩,⟨rfl,hj,by rw [hsT,<- r3]; exact hac'⟩,⟨by simpa using hw,rfl,rfl⟩,hlast _,by dsimp only; omega⟩
  ·have hj:j = c.n.length:=by have:=jiz hb2; omega
   subst hj;have hws:IntKind.i64.wrap ((q:Int) - 1) = (q:Int) - 1:=by rw [qaq] <;> omega
   simp [hws];exact .done ⟨⟨q,0,a,b,d,e,f,acc⟩,⟨by dsimp only; omega,by rw [r3,hGN]⟩,⟨rfl,rfl,rfl,rfl⟩,LoS.sub c n g2 _ _ ⟨rfl,rfl,rfl,rfl,rfl,rfl⟩,by dsimp only; omega⟩
 ·have hk0:k = 0:=by have:=jiz hb; omega
  subst hk0;rw [hH0] at q2;rcases acc with _ | ⟨gq,l⟩
  ·simp only [qau] at q2;subst q2;simp [LoS.hp,LoS.E,XE.hp,qbj,qbo];refine jir qv3 rfl ?_;simp
  ·simp only [qau] at q2;subst q2;simp [LoS.hp,LoS.E,XE.hp,qbj,qbo];refine jix jb8 rfl ?_;simp [i76,x76];refine .done ?_;simp;refine ⟨[(40,.row gq 1 l)],by simp,?_⟩;simp [qa4 hRp]
end
section
open Go
theorem qws {α:Type} (p:α->Bool) (l:List α) (i:Nat) (hi:i < l.length) (hp:p l[i] = true):(l.filter p)[((l.take i).filter p).length]? = some l[i]:=by
 have e:l = l.take i ++ l[i] :: l.drop (i + 1):=by rw [List.getElem_cons_drop,List.take_append_drop]
 have e2:l.filter p = (l.take i).filter p ++ l[i] :: (l.drop (i + 1)).filter p:=by
  conv=>lhs; rw [e]
  rw [List.filter_append,List.filter_cons_of_pos hp]
 rw [e2,List.getElem?_append_right (ji5 _),Nat.sub_self];rfl
theorem qk3 (c:Ci):∀ k,(qgv c k).length = (qit c k).length
 | 0=>by simp [qgv,qit]
 | k + 1=>by rw [qgv,qgj,List.length_append,List.length_append,qk3 c k]; omega
theorem qpt {c:Ci} (hg:c.good) (hr:c.nar) (s:Nat):(qit c c.n.length).filter (fun P=>decide (P.length = s + 1)) = lev c s:=by
 rw [qk1];split
 ·rfl
 ·rw [lev,qnw hg hr (by omega)]; rfl
def cnS (c:Ci) (s i:Nat):Nat:=(((qit c c.n.length).take i).filter fun P=>decide (P.length = s + 1)).length
theorem jdl {c:Ci} {s i:Nat} (hi:i < (qit c c.n.length).length):cnS c s (i + 1) = cnS c s i + if (qit c c.n.length)[i].length = s + 1 then 1 else 0:=by
 unfold cnS;rw [List.take_succ_eq_append_getElem hi,List.filter_append,List.length_append];congr 1;by_cases h:(qit c c.n.length)[i].length = s + 1
 ·rw [if_pos h,List.filter_cons_of_pos (by simpa using h)]; rfl
 ·rw [if_neg h,List.filter_cons_of_neg (by simpa using h)]; rfl
theorem q21 {c:Ci} (hg:c.good) (hr:c.nar) (s:Nat):cnS c s (qit c c.n.length).length = (lev c s).length:=by
 unfold cnS;rw [List.take_length,qpt hg hr]
theorem q3r {c:Ci} (hg:c.good) (hr:c.nar) {s i:Nat} (hs:s < 20) (hi:i < (qit c c.n.length).length) (h:(qit c c.n.length)[i].length = s + 1) :
  (qgv c c.n.length)[(qta c 20 (20 - (s + 1))).length + cnS c s i]? = some (qit c c.n.length)[i]:=by
 have hn:=hr.n;have e:=qn0 c 20 (20 - (s + 1)) (by omega);rw [show 20 - (20 - (s + 1)) = s + 1 by omega,qxe hg hr (by omega:c.n.length≤20),qgv] at e;have hf:=qws (fun P:Pth=>decide (P.length = s + 1)) (qit c c.n.length) i hi (by simpa using h);rw [qpt hg hr] at hf;rw [<- e,List.getElem?_append_right (by omega),Nat.add_sub_cancel_left,List.getElem?_append_left,<- hf]
 ·rfl
 ·have:=(List.getElem?_eq_some_iff.1 hf).1;exact this
end
section
open Go
theorem qtj {c:Ci} {P:Pth}:∀ k,P ∈ qgv c k->P ∈ qit c k
 | 0,h=>by simp [qgv] at h
 | k + 1,h=>by
  rw [qgv] at h;rw [qgj];rcases List.mem_append.1 h with h | h
  ·exact List.mem_append_right _ h
  ·exact List.mem_append_left _ (qtj k h)
theorem qtc {c:Ci} {P:Pth}:∀ k,P ∈ qit c k->P ∈ qgv c k
 | 0,h=>by simp [qit] at h
 | k + 1,h=>by
  rw [qgj] at h;rw [qgv];rcases List.mem_append.1 h with h | h
  ·exact List.mem_append_right _ (qtc k h)
  ·exact List.mem_append_left _ h
def cnA (c:Ci) (s:Nat):Nat:=(qta c 20 (20 - s)).length
theorem jdk {c:Ci} (hg:c.good) (hr:c.nar) {s:Nat} (hs:s < 20):cnA c (s + 1) + cnS c s (qit c c.n.length).length = cnA c s:=by
 unfold cnA;rw [q21 hg hr,show 20 - s = (20 - (s + 1)) + 1 by omega,qta,List.length_append,show 20 - 1 - (20 - (s + 1)) = s by omega]
theorem jdj {c:Ci} (hg:c.good) (hr:c.nar):cnA c 0 = (qit c c.n.length).length:=by
 have hn:=hr.n;unfold cnA;rw [qtb hg hr (by omega:c.n.length≤20),qk3]
set_option maxRecDepth 100000 in
set_option maxHeartbeats 8000000 in
theorem q7p (x:Cx) (hx:x.ok) (n:Int):qac Tryz.prog gl0 9 [x.v,.int .i64 n] (.bool true):=by
 have hg:=q3z x;have hr:=q6u x.nm;have hof:=q2x x hx;have hgp:jgy (x.g.map Gx.v) = true:=pureL_map (fun g=>by simp [Gx.v,u8V]) x.g;generalize x.nm.ci = c at hof hg hr;have hn1:=hg.n1;have hal:=q6a c hg hr;obtain ⟨hO1,hO2⟩:=qvx hg hr;have hlev:=q2f hg hr;have hlE:=fun e he=>qul c hg n e he;have hlo:=fun m hm=>qxj c hg hr m hm;have hAs:=fun s (hs:s < 20)=>jdk hg hr hs;have hA0:=jdj hg hr;have hat:=fun s i (hs:s < 20) hi h=>q3r hg hr hs hi h (s:=s) (i:=i);have hll:=qk3 c c.n.length;have hcs:=fun s i (hi:i < (qit c c.n.length).length)=>jdl (s:=s) hi;have hml:=fun P=>qtj (c:=c) (P:=P) c.n.length;generalize allP c = O at hal hO1 hO2 hlev;have hpO:=qgz O;simp only [u8V] at hof;refine jiu 4 ok9 rfl ?_;simp [i9,x9,Cx.v,u8V];intro gf1;generalize gf1 2 = g2;refine jir hof (by simp [u8V,hgp]) ?_;simp;intro gf2;generalize gf2 5 = g5;refine jir hal (by simp) ?_;simp;by_cases h5:5000≤O.length
 ·simp [h5];refine jir qj5 rfl ?_;simp
 have hAI:qt4 c [] O:=by rcases hO2 with h | h; exact absurd h h5; exact h
 have hOL:O.length < 5000:=by omega
 obtain rfl:=hlev hOL;clear hlev hO2;by_cases h1:4096 < n
 ·simp [h5,hOL];refine jir (hlE 3 (.inl ⟨h1,rfl⟩)) (by simp) ?_;simp [h1];refine jir qj5 rfl ?_;simp
 by_cases h2:n < 0
 ·simp [h5,hOL];refine jir (hlE 1 (.inr ⟨h2,rfl⟩)) (by simp) ?_;simp [h1,h2];refine jir qj5 rfl ?_;simp
 obtain ⟨m,rfl⟩:∃ m:Nat,n = m:=⟨n.toNat,by omega⟩;have hm:m≤4096:=by omega
 have hlo:=hlo m hm
 have hchk:∀ Q ∈ qgv c c.n.length,qac Tryz.prog gl0 35 [c.v,pw Q] (.int .i64 0)/\Q.length≤16:=fun Q hQ=>by
  have h1:=hAI.o Q (hml Q hQ);have h2:=qtp hg hr (qnt.1 h1).1;have h3:=qsm c hg Q (some Q.length) (by have:=hr.n; omega);have e1:q5b c Q = 0:=by unfold q5b; rw [if_neg (by have:=hr.n; omega),if_pos h1]
  rw [e1] at h3;exact ⟨h3,by have:=hr.n; omega⟩
 have hLm:∀ Q ∈ (qgv c c.n.length).take m,Q ∈ qgv c c.n.length:=fun Q h=>List.mem_of_mem_take h;have hLp:=qg0 ((qgv c c.n.length).take m);have hLl:((qgv c c.n.length).take m).length = min m (qit c c.n.length).length:=by rw [List.length_take,hll]
 obtain ⟨L,hL⟩:∃ L,(qgv c c.n.length).take m = L:=⟨_,rfl⟩;obtain ⟨O,hO⟩:∃ O,qit c c.n.length = O:=⟨_,rfl⟩;have hLt:∀ k Q,k < m->(qgv c c.n.length)[k]? = some Q->L[k]? = some Q:=fun k Q hk h=>by rw [<- hL,List.getElem?_take,if_pos hk,h]
 rw [hL] at hlo hLm hLp hLl;rw [hO] at hOL h5 hA0 hLl hpO hll;simp only [hO] at hAs hat hcs;rw [hO];clear hlE h1 h2;have hnm:¬ 4096 < m:=by omega
 simp [h5];refine jir hlo (by simp) ?_;have hmin:((L.length:Int) = min (m:Int) (O.length:Int)) = True:=eq_true (by omega);simp [hnm,hmin];obtain ⟨kN,hkN⟩:∃ f:Nat->Nat->Nat,∀ s i,f s i = min m (cnA c (s + 1) + cnS c s i):=⟨_,fun _ _=>rfl⟩;obtain ⟨kA,hkA⟩:∃ f:Nat->Nat,∀ s,f s = min m (cnA c s):=⟨_,fun _=>rfl⟩;have hk20:kA 20 = 0:=by rw [hkA]; simp [cnA,qta]
 have hk0:kA 0 = L.length:=by rw [hkA,hA0,hLl]
 have hks0:∀ s,kN s 0 = kA (s + 1):=fun s=>by rw [hkN,hkA]; simp [cnS]
 have hksN:∀ s,s < 20->kN s O.length = kA s:=fun s hs=>by rw [hkN,hkA,hAs s hs]
 have hkb:∀ s i,kN s i≤4096:=fun s i=>by rw [hkN]; omega
 have hstep:∀ s i (hs:s < 20) (hi:i < O.length),(O[i].length ≠ s + 1->kN s (i + 1) = kN s i)/\(O[i].length = s + 1->(kN s i = L.length->kN s (i + 1) = kN s i)/\(kN s i ≠ L.length->L[kN s i]? = some O[i]/\kN s (i + 1) = kN s i + 1)):=fun s i hs hi=>by
  have h1:=hcs s i hi;refine ⟨fun h=>by rw [hkN,hkN,h1,if_neg h]; simp,fun h=>?_⟩;have h2:=hat s i hs hi h;have h3:=(List.getElem?_eq_some_iff.1 h2).1;rw [hll] at h3;rw [if_pos h] at h1;have e:(qta c 20 (20 - (s + 1))).length = cnA c (s + 1):=rfl;rw [e] at h2 h3;refine ⟨fun hk=>?_,fun hk=>?_⟩
  ·rw [hkN] at hk ⊢;rw [hkN,h1];omega
  ·have hlt:cnA c (s + 1) + cnS c s i < m:=by rw [hkN] at hk; omega
   refine ⟨?_,?_⟩
   ·rw [hkN,Nat.min_eq_right (by omega)];exact hLt _ _ hlt h2
   ·rw [hkN,hkN,h1];omega
 have hO16:∀ i (h:i < O.length),O[i].length≤16:=fun i h=>(hchk _ (qtc _ (by rw [hO]; exact ji3 h))).2;clear hkN hkA hAs hat hcs hll hA0;refine jit (X:=Nat) (fun s=>[(10,qab s),(9,qab (kA s)),(7,.sl (L.map pw) (some L.length)),(6,.sl (O.map pv) none),(5,.ptr 5 g5 0 0),(4,.bool false)]) (fun _=>[(5,.row g5 4 [c.v])]) (fun s=>s≤20) (fun s=>s) 20 (by omega) (by simp [qab,hk20]) (by simp [Ci.v]) ?_;intro s hs;simp [qab];refine jis (fun hb=>?_) (fun hb=>?_)
 ·have hs0:0 < s:=jiy hb;obtain ⟨s,rfl⟩:∃ q,s = q + 1:=⟨s - 1,by omega⟩;have hs20:s < 20:=by omega
  have hst:=fun i=>hstep s i hs20;have hN:=hksN s hs20;have h0:=hks0 s;have hkb:=hkb s;clear hstep hksN hks0;simp;refine jit (X:=Nat) (fun i=>[(11,qab i),(10,qab (s + 1)),(9,qab (kN s i)),(7,.sl (L.map pw) (some L.length)),(6,.sl (O.map pv) none),(5,.ptr 5 g5 0 0),(4,.bool false)]) (fun _=>[(5,.row g5 4 [c.v])]) (fun i=>i≤O.length) (fun i=>O.length - i) 0 (Nat.zero_le _) (by simp [qab,h0]) (by simp [Ci.v]) ?_;intro i hi;simp [qab];refine jis (fun hb2=>?_) (fun hb2=>?_)
  ·have hi2:i < O.length:=jiy hb2;have hw:=qbg i (by omega);obtain ⟨Q,hQ⟩:∃ Q,O[i] = Q:=⟨_,rfl⟩;obtain ⟨cp,hpv⟩:∃ cp,pv Q = .sl (Q.map lnI) cp:=⟨_,rfl⟩;obtain ⟨t1,t2⟩:=hst i hi2;rw [hQ] at t1 t2;by_cases hq:Q.length = s + 1
   ·obtain ⟨t3,t4⟩:=t2 hq;by_cases hkl:kN s i = L.length
    ·have t5:=t3 hkl;simp [hi2,hQ,hpv,hq,hkl];exact ⟨i + 1,hi2,⟨by simpa using hw,by rw [t5]; exact hkl.symm⟩,by omega⟩
    ·obtain ⟨t5,t6⟩:=t4 hkl;have hQ16:=hO16 i hi2;rw [hQ] at hQ16;have hQm:Q ∈ L:=List.mem_of_getElem? t5;have hck:=(hchk Q (hLm Q hQm)).1;have heq:=q28 Q Q (some Q.length) cp (by omega);rw [decide_eq_true rfl] at heq;have hQp:=qbs Q;have hkL:kN s i < L.length:=(List.getElem?_eq_some_iff.1 t5).1;have hwk:=qbg (kN s i) (by have:=hkb i; omega);simp only [pw] at hck;simp [hi2,hQ,hpv,hq,hkl];intro gm;refine ⟨⟨hkL,by simp [t5,pw]⟩,by simp [t5,pw],?_⟩;simp [t5,pw]
     first | refine ⟨_,_,_,.pure heq (by simp [hQp,Ci.v,qfv,qic,qc2]),?_⟩ | refine ⟨_,⟨_,_,.pure heq (by simp [hQp,Ci.v,qfv,qic,qc2])⟩,?_⟩ | refine ⟨_,_,⟨_,.pure heq (by simp [hQp,Ci.v,qfv,qic,qc2])⟩,?_⟩
     simp [t5,pw];refine ⟨hkL,?_⟩
     first | refine ⟨_,_,_,.pure hck (by simp [hQp]),?_⟩ | refine ⟨_,⟨_,_,.pure hck (by simp [hQp])⟩,?_⟩ | refine ⟨_,_,⟨_,.pure hck (by simp [hQp])⟩,?_⟩
     simp [t5,pw];exact ⟨hkL,i + 1,hi2,⟨by simpa using hw,by rw [t6]; simpa using hwk⟩,by omega⟩
   ·have t5:=t1 hq;have hqi:((Q.length:Int) = (s:Int) + 1) = False:=eq_false (by omega);simp [hi2,hQ,hpv,hqi];exact ⟨i + 1,hi2,⟨by simpa using hw,by rw [t5]⟩,by omega⟩
  ·have hi2:i = O.length:=by have:=jiz hb2; omega
   subst hi2;have hws:IntKind.i64.wrap (s:Int) = (s:Int):=by rw [qaq] <;> omega
   simp;exact ⟨s,by omega,⟨hws,hN⟩,by omega⟩
 ·have hs0:s = 0:=by have:=jiz hb; omega
  subst hs0;simp [hk0];refine jir qj5 rfl ?_;simp
end
end Go.Proofs.YtlmniacemoohpaaGreatDoor
