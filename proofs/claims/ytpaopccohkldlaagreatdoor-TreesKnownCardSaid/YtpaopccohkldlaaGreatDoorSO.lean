/- Lemmas. Conditions: none. -/
import Derived.Test.YtpaopccohkldlaaGreatDoorSL
import Derived.Test.YtpaopccohkldlaaGreatDoorA5
import Derived.Test.YtpaopccohkldlaaGreatDoorRA
import Derived.Test.YtpaopccohkldlaaGreatDoorXL5
set_option linter.all false
namespace Go.Proofs.YtpaopccohkldlaaGreatDoor
section
open Go
def qh8 (t:List Tn) (bits:Int):Nat->Nat->(Nat->Nat)->List Nat->Bool × (Nat->Nat)
 | 0,_,c,_=>(false,c)
 | k + 1,a,c,w=>
  if 0 < c a∨(t.getD a default).i < 0 then (decide (c a = 0) && decide (t.getD a default = lfN),qbs c a (c a + 1))
  else if bits≤(t.getD a default).i∨(t.getD a default).z≤a∨(t.getD a default).o≤a∨(t.length:Int)≤(t.getD a default).z∨(t.length:Int)≤(t.getD a default).o∨(t.getD a default).i.toNat ∈ w then (false,qbs c a (c a + 1))
  else if (qh8 t bits k (t.getD a default).z.toNat (qbs c a (c a + 1)) (w ++ [(t.getD a default).i.toNat])).1 = true then
   qh8 t bits k (t.getD a default).o.toNat (qh8 t bits k (t.getD a default).z.toNat (qbs c a (c a + 1)) (w ++ [(t.getD a default).i.toNat])).2 (w ++ [(t.getD a default).i.toNat])
  else (false,(qh8 t bits k (t.getD a default).z.toNat (qbs c a (c a + 1)) (w ++ [(t.getD a default).i.toNat])).2)
def qw3 (c:Nat->Nat) (I:List Nat) (j:Nat):Nat:=c j + if j ∈ I then 1 else 0
theorem qu8 {t:List Tn} {bits:Int}:∀ (d:DT) (a:Nat) (I us:List Nat) (k:Nat) (c:Nat->Nat) (w:List Nat),RpX t d a I->I.Nodup->d.ok bits.toNat us->(∀ x ∈ w,x ∈ us)->t.length≤a + k->(∀ j ∈ I,c j = 0)->
  qh8 t bits k a c w = (true,qw3 c I)
 | d,a,I,us,0,c,w,h,_,_,_,hk,_=>by have:=(h.lt _ _ _ a h.self).2; omega
 | .lf,a,I,us,k + 1,c,w,⟨h1,h2,h3⟩,_,_,_,_,hc=>by
  subst h3;have h0:=hc a (by simp);unfold qh8;rw [h1,if_pos (.inr (by decide)),h0,decide_eq_true rfl,decide_eq_true rfl];congr 1;funext j;unfold qbs qw3;simp only [List.mem_singleton];by_cases e:j = a
  ·subst e; rw [if_pos rfl,if_pos rfl,h0]
  ·rw [if_neg e,if_neg e]; rfl
 | .nd i z o,a,I,us,k + 1,c,w,⟨p,q,J,K,h1,h2,a1,a2,h3,h4,h5⟩,hnd,⟨o1,o2,o3,o4⟩,hw,hk,hc=>by
  subst h5;have h0:=hc a (by simp);have hp:=h3.lt _ _ _ p h3.self;have hq:=h4.lt _ _ _ q h4.self;rw [List.nodup_cons,List.nodup_append] at hnd;obtain ⟨n1,n2,n3,n4⟩:=hnd
  have hw2:∀ x ∈ w ++ [i],x ∈ i :: us:=fun x hx=>by
   rcases List.mem_append.1 hx with hx | hx
   ·exact List.mem_cons_of_mem _ (hw x hx)
   ·exact List.mem_cons.2 (.inl (List.mem_singleton.1 hx))
  have cJ:∀ j ∈ J,qbs c a (c a + 1) j = 0:=fun j hj=>by
   rw [qaw _ _ (fun e=>by subst e; exact n1 (List.mem_append_left _ hj))];exact hc j (List.mem_cons_of_mem _ (List.mem_append_left _ hj))
  have r1:=qu8 z p J (i :: us) k (qbs c a (c a + 1)) (w ++ [i]) h3 n2 o3 hw2 (by omega) cJ
  have cK:∀ j ∈ K,qw3 (qbs c a (c a + 1)) J j = 0:=fun j hj=>by
   unfold qw3;rw [qaw _ _ (fun e=>by subst e; exact n1 (List.mem_append_right _ hj)),hc j (List.mem_cons_of_mem _ (List.mem_append_right _ hj)),if_neg fun hJ=>n4 j hJ j hj rfl]
  have r2:=qu8 o q K (i :: us) k (qw3 (qbs c a (c a + 1)) J) (w ++ [i]) h4 n3 o4 hw2 (by omega) cK;unfold qh8;rw [h1,if_neg (by rw [h0]; dsimp only; omega)];simp only [Int.toNat_natCast];rw [if_neg,r1,if_pos rfl,r2]
  ·congr 1;funext j;unfold qw3;simp only [List.mem_cons,List.mem_append];by_cases e:j = a
   ·subst e;rw [qbg,if_neg (fun h=>n1 (List.mem_append_left _ h)),if_neg (fun h=>n1 (List.mem_append_right _ h)),if_pos (.inl rfl)]
   ·rw [qaw _ _ e];by_cases hJ:j ∈ J
    ·rw [if_pos hJ,if_neg fun hK=>n4 j hJ j hK rfl,if_pos (.inr (.inl hJ))]
    ·by_cases hK:j ∈ K
     ·rw [if_neg hJ,if_pos hK,if_pos (.inr (.inr hK))]
     ·rw [if_neg hJ,if_neg hK,if_neg (fun h=>h.elim e fun h=>h.elim hJ hK)]
  ·rintro (h | h | h | h | h | h)
   ·omega
   ·omega
   ·omega
   ·omega
   ·omega
   ·exact o2 (hw _ h)
theorem qlz {t:List Tn} {bits:Int}:∀ (k a:Nat) (c:Nat->Nat) (w:List Nat) (c':Nat->Nat),qh8 t bits k a c w = (true,c')->a < t.length->
  ∃ d I,RpX t d a I/\d.ok bits.toNat w/\I.Nodup/\(∀ j ∈ I,c j = 0)/\c' = qw3 c I
 | 0,_,_,_,_,h,_=>by simp [qh8] at h
 | k + 1,a,c,w,c',h,ha=>by
  unfold qh8 at h;split at h
  ·rename_i hx;simp only [Prod.mk.injEq,Bool.and_eq_true,decide_eq_true_eq] at h;obtain ⟨⟨h1,h2⟩,rfl⟩:=h;refine ⟨.lf,[a],⟨h2,ha,rfl⟩,trivial,by simp,fun j hj=>by rw [List.mem_singleton.1 hj]; exact h1,?_⟩;funext j;unfold qbs qw3;simp only [List.mem_singleton];by_cases e:j = a
   ·subst e; rw [if_pos rfl,if_pos rfl]
   ·rw [if_neg e,if_neg e]; rfl
  rename_i hx;split at h
  ·simp at h
  rename_i hy;split at h
  rotate_left
  ·simp at h
  rename_i hz
  obtain ⟨x,z,o,e⟩:∃ x z o:Nat,t.getD a default = ⟨x,z,o⟩:=⟨(t.getD a default).i.toNat,(t.getD a default).z.toNat,(t.getD a default).o.toNat,by
   generalize t.getD a default = n at *;cases n;simp only [Tn.mk.injEq] at *;exact ⟨by omega,by omega,by omega⟩⟩
  rw [e] at h hx hy hz;simp only [Int.toNat_natCast] at h hx hy hz;simp only [not_or] at hx hy;obtain ⟨y1,y2,y3,y4,y5,y6⟩:=hy;have hc0:c a = 0:=by omega
  obtain ⟨r,hr⟩:∃ r,qh8 t bits k z (qbs c a (c a + 1)) (w ++ [x]) = (true,r):=⟨_,Prod.ext hz rfl⟩;rw [hr] at h;obtain ⟨dz,J,q1,q2,q3,q4,rfl⟩:=qlz k z _ _ _ hr (by omega);obtain ⟨dd,K,s1,s2,s3,s4,rfl⟩:=qlz k o _ _ _ h (by omega);have aJ:a ∉ J:=fun hj=>by have:=q4 a hj; rw [qbg] at this; omega
  have aK:a ∉ K:=fun hj=>by
   have:qbs c a (c a + 1) a + (if a ∈ J then 1 else 0) = 0:=s4 a hj;rw [qbg] at this; omega
  have cJ:∀ j ∈ J,c j = 0:=fun j hj=>by
   have:=q4 j hj
   rwa [qaw _ _ (fun e=>by subst e; exact aJ hj)] at this
  have dK:∀ j ∈ K,j ∉ J:=fun j hj hJ=>by
   have:qbs c a (c a + 1) j + (if j ∈ J then 1 else 0) = 0:=s4 j hj;rw [if_pos hJ] at this; omega
  have cK:∀ j ∈ K,c j = 0:=fun j hj=>by
   have:qbs c a (c a + 1) j + (if j ∈ J then 1 else 0) = 0:=s4 j hj;rw [qaw _ _ (fun e=>by subst e; exact aK hj)] at this;omega
  have hwm:∀ y ∈ x :: w,y ∈ w ++ [x]:=fun y hy=>by
   rcases List.mem_cons.1 hy with rfl | hy
   ·simp
   ·exact List.mem_append_left _ hy
  refine ⟨.nd x dz dd,a :: (J ++ K),⟨z,o,J,K,e,ha,by omega,by omega,q1,s1,rfl⟩,⟨by omega,y6,dz.ok_sub hwm q2,dd.ok_sub hwm s2⟩,?_,?_,?_⟩
  ·rw [List.nodup_cons,List.nodup_append];exact ⟨fun h=>(List.mem_append.1 h).elim aJ aK,q3,s3,fun u hu v hv e=>dK v hv (e ▸ hu)⟩
  ·intro j hj;simp only [List.mem_cons,List.mem_append] at hj;rcases hj with rfl | hj | hj
   ·exact hc0
   ·exact cJ j hj
   ·exact cK j hj
  ·funext j;unfold qw3;simp only [List.mem_cons,List.mem_append];by_cases e:j = a
   ·subst e;rw [qbg,if_neg aJ,if_neg aK,if_pos (.inl rfl)]
   ·rw [qaw _ _ e];by_cases hJ:j ∈ J
    ·rw [if_pos hJ,if_neg fun hK=>dK j hK hJ,if_pos (.inr (.inl hJ))]
    ·by_cases hK:j ∈ K
     ·rw [if_neg hJ,if_pos hK,if_pos (.inr (.inr hK))]
     ·rw [if_neg hJ,if_neg hK,if_neg (fun h=>h.elim e fun h=>h.elim hJ hK)]
theorem qwc (t:List Tn) (bits:Int) (k:Nat) (hk:t.length≤k) (ht:0 < t.length):qbn t bits = ((qh8 t bits k 0 (fun _=>0) []).1 && (List.range t.length).all fun j=>decide ((qh8 t bits k 0 (fun _=>0) []).2 j = 1)):=by
 rw [Bool.eq_iff_iff,Bool.and_eq_true,List.all_eq_true];constructor
 ·intro h;obtain ⟨-,d,I,h1,h2,h3,h4⟩:=qhf h;have:=qu8 d 0 I [] k (fun _=>0) [] h1 h3 h2 (fun x hx=>hx) (by omega) fun _ _=>rfl;rw [this];refine ⟨rfl,fun j hj=>?_⟩;rw [decide_eq_true_eq];show 0 + (if j ∈ I then 1 else 0) = 1;rw [if_pos (h4 j (List.mem_range.1 hj))]
 ·rintro ⟨h1,h2⟩;obtain ⟨c',hc'⟩:∃ c',qh8 t bits k 0 (fun _=>0) [] = (true,c'):=⟨_,Prod.ext h1 rfl⟩;obtain ⟨d,I,q1,q2,q3,q4,rfl⟩:=qlz k 0 _ _ _ hc' ht;refine qk5 q1 q2 q3 fun j hj=>Decidable.byContradiction fun hn=>?_;have:=jfy (h2 j (List.mem_range.2 hj));rw [hc'] at this;have e:(0:Nat) + (if j ∈ I then 1 else 0) = 1:=this;rw [if_neg hn] at e;omega
end
section
open Go
theorem qu7 {t:List Tn} {bits:Int}:∀ (k a:Nat) (c:Nat->Nat) (w:List Nat) (j:Nat),(qh8 t bits k a c w).2 j + 1≤c j + 2 ^ k
 | 0,_,_,_,_=>by simp [qh8]
 | k + 1,a,c,w,j=>by
  have h1:qbs c a (c a + 1) j≤c j + 1:=by
   unfold qbs;split
   ·rename_i e; subst e; omega
   ·omega
  have hp:1≤2 ^ k:=Nat.one_le_two_pow;have e:2 ^ (k + 1) = 2 ^ k + 2 ^ k:=by rw [Nat.pow_succ]; omega
  have h2:=qu7 (t:=t) (bits:=bits) k (t.getD a default).z.toNat (qbs c a (c a + 1)) (w ++ [(t.getD a default).i.toNat]) j;have h3:=qu7 (t:=t) (bits:=bits) k (t.getD a default).o.toNat (qh8 t bits k (t.getD a default).z.toNat (qbs c a (c a + 1)) (w ++ [(t.getD a default).i.toNat])).2 (w ++ [(t.getD a default).i.toNat]) j;unfold qh8;split
  ·dsimp only; omega
  split
  ·dsimp only; omega
  split
  ·omega
  ·dsimp only; omega
noncomputable def u73:XC:=xs2 (xs2 (xs2 (xs2 (xs2 x73))))
noncomputable def r73:XC:=xs2 u73
theorem q7c:x73 = .seq (xs1 x73) (.seq (xs1 (xs2 x73)) (.seq (xs1 (xs2 (xs2 x73))) (.seq (xs1 (xs2 (xs2 (xs2 x73)))) (.seq (xs1 (xs2 (xs2 (xs2 (xs2 x73))))) u73)))):=rfl
theorem q67:u73 = .seq (xs1 u73) r73:=rfl
def jdn (w:List Nat) (W:V):Prop:=(W = .nil/\w = [])∨W = .sl (qak w) none
theorem qf6 (n:Nat) (c:Nat->Nat):jd6 (pT n c) = true:=by unfold pT tab; exact V.pureL_map _ _ fun _=>rfl
def q6w (t:List Tn) (bits:Int) (g k a:Nat) (c:Nat->Nat) (w:List Nat) (r:V) (h:Hp):Prop:=r = .bool (qh8 t bits k a c w).1/\h = [(9000,.row g 1 (pT t.length (qh8 t bits k a c w).2))]
noncomputable def q73:XC:=xs2 r73
theorem qzt:r73 = .seq (xs1 r73) q73:=rfl
set_option maxRecDepth 100000 in
set_option maxHeartbeats 4000000 in
theorem jde (T:List V) (hTp:jd6 T = true) (a N g g11:Nat) (bits:Int) (c':Nat->Nat) (w:List Nat) (hwl:w.length≤1000) (W:V) (hW:jdn w W) (x z o:Nat) (K:V->Hp->Prop)
  (v1 v2 v3 v4 v5:V)
  (tail:∀ fr h,lk fr 0 = some (.sl T none)->lk fr 2 = some (.int .i64 bits)->lk fr 3 = some (.ref 9000 g 0 N (some N))->lk fr 13 = some (.sl (qak (w ++ [x])) none)->lk fr 11 = some (.ptr 11 g11 0 0)->
   lk h 11 = some (.row g11 3 [.agg [.int .i64 x,.int .i64 z,.int .i64 o]])->lk h 9000 = some (.row g 1 (pT N c'))->q73.wpF Tryz.prog gl0 (qmj [.tmp 10] K) fr h) :
  XC.wpM Tryz.prog gl0 1 r73 (qmj [.tmp 10] K) [(87,v1),(86,v2),(85,v3),(84,v4),(12,v5),(11,.ptr 11 g11 0 0),(10,.bool false),(4,W),(3,.ref 9000 g 0 N (some N)),(2,.int .i64 bits),(1,qab a),(0,.sl T none)]
   [(11,.row g11 3 [.agg [.int .i64 x,.int .i64 z,.int .i64 o]]),(9000,.row g 1 (pT N c'))]:=by
 have hnn:=qa8 w
 have hcl:(qak w).all (fun x=>decide (x.cells.length = 1)) = true:=List.all_eq_true.2 fun v hv=>by
  obtain ⟨y,-,rfl⟩:=List.mem_map.1 hv;rfl
 have hpT:=qf6 N c';have hwx:qak (w ++ [x]) = qak w ++ [.int .i64 (x:Int)]:=by simp [qak,qab]
 have hwt:List.take (w.length + 1) (qak (w ++ [x])) = qak (w ++ [x]):=jf2 (by simp [qak]);rcases hW with ⟨rfl,rfl⟩ | rfl
 ·rw [qzt];simp [xs1,r73,u73,xs2,x73];intro gm;refine ⟨by decide,KM.mk (.frz (g:=gm 97 + 1 + 1) (sz:=1) (es:=[.int .i64 (x:Int)]) 97 (by simp) (by simp) (.done ?_))⟩;simp [fzF,fzH,fzV,Blk.fz,V.mapR,jd8,fzp,fzf,qar hpT];exact tail _ _ (by simp [qae _ hTp]) (by simp) (by simp) (by simp [qak,qab]) (by simp) (by simp) (by simp [qdp hpT])
 ·rw [qzt];have hwt2:List.take w.length (qak w) = qak w:=jf2 (by simp);simp [xs1,r73,u73,xs2,x73,hcl];intro gm;refine ⟨by omega,by omega,by decide,KM.mk (.frz (g:=gm 97 + 1 + 1) (sz:=1) (es:=qak (w ++ [x])) 97 (by simp [hwx,hwt2]) (qa8 _) (.done ?_))⟩;simp [fzF,fzH,fzV,Blk.fz,V.mapR,jd8,fzp,fzf,qar hpT,hwt];exact tail _ _ (by simp [qae _ hTp]) (by simp) (by simp) (by simp [qak,qab]) (by simp) (by simp) (by simp [qdp hpT])
set_option maxRecDepth 100000 in
set_option maxHeartbeats 4000000 in
theorem jc9 (T:List V) (hTp:jd6 T = true) (N g g11:Nat) (bits:Int) (c':Nat->Nat) (WW:List V) (hwp:jd6 WW = true) (x z o:Nat) (R1 R2:Bool × (Nat->Nat)) (K:V->Hp->Prop)
  (ihz:qan Tryz.prog gl0 73 [.sl T none,.int .i64 z,.int .i64 bits,.ref 9000 g 0 N (some N),.sl WW none] [(9000,.row g 1 (pT N c'))] fun r h=>r = .bool R1.1/\h = [(9000,.row g 1 (pT N R1.2))])
  (iho:qan Tryz.prog gl0 73 [.sl T none,.int .i64 o,.int .i64 bits,.ref 9000 g 0 N (some N),.sl WW none] [(9000,.row g 1 (pT N R1.2))] fun r h=>r = .bool R2.1/\h = [(9000,.row g 1 (pT N R2.2))])
  (hK1:R1.1 = false->K (.bool false) [(9000,.row g 1 (pT N R1.2))]) (hK2:R1.1 = true->K (.bool R2.1) [(9000,.row g 1 (pT N R2.2))])
  (fr:Fr) (h:Hp) (g0:lk fr 0 = some (.sl T none)) (g2:lk fr 2 = some (.int .i64 bits)) (g3:lk fr 3 = some (.ref 9000 g 0 N (some N))) (g13:lk fr 13 = some (.sl WW none)) (g11':lk fr 11 = some (.ptr 11 g11 0 0))
  (h11:lk h 11 = some (.row g11 3 [.agg [.int .i64 x,.int .i64 z,.int .i64 o]])) (h9:lk h 9000 = some (.row g 1 (pT N c'))):q73.wpF Tryz.prog gl0 (qmj [.tmp 10] K) fr h:=by
 simp [q73,r73,u73,xs2,x73,g0,g2,g3,g13,g11',h11,h9];refine CallO.lend [9000] [(9000,.row g 1 (pT N c'))] [(11,.row g11 3 [.agg [.int .i64 x,.int .i64 z,.int .i64 o]])] ihz (by simp [jd9,V.inB,jd7 _ _ hTp,jd7 _ _ hwp]) (by simp [h9]) (by simp [qbc,Blk.inB,jd7 _ _ (qf6 N c')]) (by simp [h11]) (by simp) ?_;rintro r hh ⟨rfl,rfl⟩;refine ⟨by simp [V.inB],by simp [qbc,Blk.inB,jd7 _ _ (qf6 N R1.2)],?_⟩
 cases hb:R1.1 with
 | false=>
  simp [g0,g2,g3,g13,g11'];refine .done ?_;simp;exact ⟨[(9000,.row g 1 (pT N R1.2))],by simp,hK1 hb⟩
 | true=>
  simp [g0,g2,g3,g13,g11'];refine CallO.lend [9000] [(9000,.row g 1 (pT N R1.2))] [] iho (by simp [jd9,V.inB,jd7 _ _ hTp,jd7 _ _ hwp]) (by simp) (by simp [qbc,Blk.inB,jd7 _ _ (qf6 N R1.2)]) (by simp) (by simp) ?_;rintro r hh ⟨rfl,rfl⟩;refine ⟨by simp [V.inB],by simp [qbc,Blk.inB,jd7 _ _ (qf6 N R2.2)],?_⟩;simp;refine .done ?_;simp;exact ⟨[(9000,.row g 1 (pT N R2.2))],by simp,hK2 hb⟩
set_option maxRecDepth 100000 in
set_option maxHeartbeats 4000000 in
theorem qr3 (T:List V) (hTp:jd6 T = true) (N a g e:Nat) (hTl:T.length = N) (ha:a < N) (bits:Int) (c c':Nat->Nat) (hw1:IntKind.i64.wrap ((c a:Int) + 1) = (e:Int)) (hc':qbs c a e = c') (hce:c' a = e) (f1:(1 < e) = False) (f2:(e = 1) = True)
  (x z o:Nat) (hTe:∀ h:a < T.length,T[a] = Tn.v ⟨x,z,o⟩) (c3:¬ (x:Int) < 0) (d1:¬ bits≤(x:Int)) (d2:¬ (z:Int)≤(a:Int)) (d3:¬ (o:Int)≤(a:Int)) (d4:¬ (N:Int)≤(z:Int)) (d5:¬ (N:Int)≤(o:Int))
  (w:List Nat) (hwl2:w.length≤1000) (W:V) (hW:jdn w W) (hx:x ∉ w) (R1 R2:Bool × (Nat->Nat)) (K:V->Hp->Prop)
  (ihz:qan Tryz.prog gl0 73 [.sl T none,.int .i64 z,.int .i64 bits,.ref 9000 g 0 N (some N),.sl (qak (w ++ [x])) none] [(9000,.row g 1 (pT N c'))] fun r h=>r = .bool R1.1/\h = [(9000,.row g 1 (pT N R1.2))])
  (iho:qan Tryz.prog gl0 73 [.sl T none,.int .i64 o,.int .i64 bits,.ref 9000 g 0 N (some N),.sl (qak (w ++ [x])) none] [(9000,.row g 1 (pT N R1.2))] fun r h=>r = .bool R2.1/\h = [(9000,.row g 1 (pT N R2.2))])
  (hK1:R1.1 = false->K (.bool false) [(9000,.row g 1 (pT N R1.2))]) (hK2:R1.1 = true->K (.bool R2.1) [(9000,.row g 1 (pT N R2.2))]) :
  qan Tryz.prog gl0 73 [.sl T none,qab a,.int .i64 bits,.ref 9000 g 0 N (some N),W] [(9000,.row g 1 (pT N c))] K:=by
 simp only [qab];refine CallO.of_WM 7 qx3 rfl ?_;change XC.wpM _ _ 7 x73 _ _ _;rw [q7c,q67];simp [i73,xs1,u73,xs2,x73,hTl,ha,hTe,Tn.v,qb3,qcv,hw1,f1,f2,hc',hce,c3,d1,d2,d3,d4,d5];refine KM.mk (.done ?_);simp [hTl,ha,hTe,Tn.v,qb3,qcv,hw1,f1,f2,hc',hce,c3,d1,d2,d3,d4,d5];refine KM.mk (.done ?_);simp [hTl,ha,hTe,Tn.v,qb3,qcv,hw1,f1,f2,hc',hce,c3,d1,d2,d3,d4,d5];intro gf;generalize gf 11 = g11;refine KM.mk (.done ?_);simp [hTl,ha,hTe,Tn.v,qb3,qcv,hw1,f1,f2,hc',hce,c3,d1,d2,d3,d4,d5];refine KM.mk (.done ?_);simp [hTl,ha,hTe,Tn.v,qb3,qcv,hw1,f1,f2,hc',hce,c3,d1,d2,d3,d4,d5];refine KM.mk (.done ?_);simp [hTl,ha,hTe,Tn.v,qb3,qcv,hw1,f1,f2,hc',hce,c3,d1,d2,d3,d4,d5];have hq:=jc9 T hTp N g g11 bits c' (qak (w ++ [x])) (qa8 _) x z o R1 R2 K ihz iho hK1 hK2;have htail:=fun v1 v2 v3 v4 v5=>jde T hTp a N g g11 bits c' w hwl2 W hW x z o K v1 v2 v3 v4 v5 hq;clear hq;rcases hW with ⟨rfl,rfl⟩ | rfl
 ·simp only [qab] at htail
  refine jft (X:=Nat) (fun j=>[(12,qab j),(11,.ptr 11 g11 0 0),(10,.bool false),(4,.nil),(3,.ref 9000 g 0 N (some N)),(2,.int .i64 bits),(1,qab a),(0,.sl T none)]) (fun _=>[(11,.row g11 3 [.agg [.int .i64 x,.int .i64 z,.int .i64 o]]),(9000,.row g 1 (pT N c'))])
   (fun j=>j = 0) (fun _=>0) 0 rfl (by simp [qab]) (by simp) ?_
  rintro j rfl;simp [qab];refine KM.mk (.done ?_);exact htail _ _ _ _ _
 ·simp only [qab] at htail;have hnn:=qa8 w
  refine jft (X:=Nat) (fun j=>[(12,qab j),(11,.ptr 11 g11 0 0),(10,.bool false),(4,.sl (qak w) none),(3,.ref 9000 g 0 N (some N)),(2,.int .i64 bits),(1,qab a),(0,.sl T none)]) (fun _=>[(11,.row g11 3 [.agg [.int .i64 x,.int .i64 z,.int .i64 o]]),(9000,.row g 1 (pT N c'))])
   (fun j=>j≤w.length) (fun j=>w.length - j) 0 (Nat.zero_le _) (by simp [qab]) (by simp) ?_
  intro j hj;simp [qab];refine jfr (fun hb=>?_) (fun hb=>?_)
  ·have hj2:j < w.length:=jfy hb;have hwj:=qbi j (by omega);have hgj:∀ h:j < (qak w).length,(qak w)[j] = .int .i64 (w[j]:Int):=fun h=>by simp [qak,qab]
   have hjw:¬ w[j] = x:=fun e=>hx (e ▸ jf3 hj2);simp [hj2,hgj,hjw];exact ⟨j + 1,hj2,by simpa using hwj,by omega⟩
  ·simp;refine KM.mk (.done ?_);exact htail _ _ _ _ _
set_option maxRecDepth 100000 in
set_option maxHeartbeats 4000000 in
theorem qva (t:List Tn) (ht:t.length≤1000) (bits:Int) (g:Nat):∀ (k a:Nat) (c:Nat->Nat) (w:List Nat) (W:V),jdn w W->w.length≤a->t.length≤a + k->a < t.length->(∀ j,c j + 2 ^ k≤2 ^ 59)->
  qan Tryz.prog gl0 73 [.sl (t.map Tn.v) none,qab a,.int .i64 bits,.ref 9000 g 0 t.length (some t.length),W] [(9000,.row g 1 (pT t.length c))] (q6w t bits g k a c w):=by
 intro k
 induction k with
 | zero=>intro a c w W _ _ h1 h2; omega
 | succ k ih=>
  intro a c w W hW hwl hk ha hc;have hca:=hc a;have e2:2 ^ (k + 1) = 2 ^ k + 2 ^ k:=by rw [Nat.pow_succ]; omega
  have hp1:1≤2 ^ k:=Nat.one_le_two_pow;have hw1:=qbi (c a) (by omega);have hTp:jd6 (t.map Tn.v) = true:=qa6 t;have hTl:(t.map Tn.v).length = t.length:=by simp
  have hTe:∀ h:a < (t.map Tn.v).length,(t.map Tn.v)[a] = (t.getD a default).v:=fun h=>by
   rw [jf0,jf4 ha]; simp
  obtain ⟨K,hK⟩:∃ K,q6w t bits g (k + 1) a c w = K:=⟨_,rfl⟩;rw [hK];unfold q6w qh8 at hK;obtain ⟨e,he⟩:∃ e,c a + 1 = e:=⟨_,rfl⟩;rw [he] at hK hw1;obtain ⟨N,hN⟩:∃ N,t.length = N:=⟨_,rfl⟩;rw [hN] at hTl ha hK;rw [hN];obtain ⟨c',hc'⟩:∃ c',qbs c a e = c':=⟨_,rfl⟩;have hce:c' a = e:=by rw [<- hc',qbg]
  rw [hc'] at hK
  have fin:∀ (R:Bool) (h:Hp),lk h 9000 = some (.row g 1 (pT N c'))->(∀ r h',(r = .bool R/\h' = [(9000,.row g 1 (pT N c'))])->K r h')->∃ h2,Sub h2 h/\K (.bool R) h2:=fun R h h1 h2=>
   ⟨[(9000,.row g 1 (pT N c'))],by simp [h1],h2 _ _ ⟨rfl,rfl⟩⟩
  by_cases c1:0 < c a
  ·rw [if_pos (.inl c1),decide_eq_false (by omega),Bool.false_and] at hK;have f1:(1 < e) = True:=eq_true (by omega);have f2:(e = 1) = False:=eq_false (by omega);simp only [qab];refine jfx qx3 rfl ?_;simp [i73,x73,hTl,ha,hTe,Tn.v,qb3,qcv,hw1,f1,f2,hc',hce];intro gf;refine .done ?_;simp;exact fin _ _ (by simp) fun r h hr=>by rw [<- hK]; exact hr
  have f1:(1 < e) = False:=eq_false (by omega);have f2:(e = 1) = True:=eq_true (by omega);by_cases c3:(t.getD a default).i < 0
  ·rw [if_pos (.inr c3),decide_eq_true (by omega),Bool.true_and] at hK;have hlf:=qql (t.getD a default);generalize t.getD a default = n at *;obtain ⟨n1,n2,n3⟩:=n;simp only at hlf c3;simp only [qab];refine jfx qx3 rfl ?_;by_cases q1:n1 = -1
   ·by_cases q2:n2 = 0
    ·by_cases q3:n3 = 0
     ·rw [decide_eq_true (hlf.2 ⟨q1,q2,q3⟩)] at hK;simp [i73,x73,hTl,ha,hTe,Tn.v,qb3,qcv,hw1,f1,f2,hc',hce,q1,q2,q3];intro gf;refine .done ?_;simp;exact fin _ _ (by simp) fun r h hr=>by rw [<- hK]; exact hr
     ·rw [decide_eq_false fun h=>q3 (hlf.1 h).2.2] at hK;simp [i73,x73,hTl,ha,hTe,Tn.v,qb3,qcv,hw1,f1,f2,hc',hce,q1,q2,q3];intro gf;refine .done ?_;simp;exact fin _ _ (by simp) fun r h hr=>by rw [<- hK]; exact hr
    ·rw [decide_eq_false fun h=>q2 (hlf.1 h).2.1] at hK;simp [i73,x73,hTl,ha,hTe,Tn.v,qb3,qcv,hw1,f1,f2,hc',hce,q1,q2];intro gf;refine .done ?_;simp;exact fin _ _ (by simp) fun r h hr=>by rw [<- hK]; exact hr
   ·rw [decide_eq_false fun h=>q1 (hlf.1 h).1] at hK;simp [i73,x73,hTl,ha,hTe,Tn.v,qb3,qcv,hw1,f1,f2,hc',hce,q1,c3];intro gf;refine .done ?_;simp;exact fin _ _ (by simp) fun r h hr=>by rw [<- hK]; exact hr
  rw [if_neg (by omega)] at hK;generalize t.getD a default = n at *;obtain ⟨ni,nz,no⟩:=n;dsimp only at hK hTe c3;by_cases d1:bits≤ni
  ·rw [if_pos (.inl d1)] at hK;simp only [qab];refine jfx qx3 rfl ?_;simp [i73,x73,hTl,ha,hTe,Tn.v,qb3,qcv,hw1,f1,f2,hc',hce,c3,d1];intro gf;refine .done ?_;simp;exact fin _ _ (by simp) fun r h hr=>by rw [<- hK]; exact hr
  by_cases d2:nz≤(a:Int)
  ·rw [if_pos (.inr (.inl d2))] at hK;simp only [qab];refine jfx qx3 rfl ?_;simp [i73,x73,hTl,ha,hTe,Tn.v,qb3,qcv,hw1,f1,f2,hc',hce,c3,d1,d2];intro gf;refine .done ?_;simp;exact fin _ _ (by simp) fun r h hr=>by rw [<- hK]; exact hr
  by_cases d3:no≤(a:Int)
  ·rw [if_pos (.inr (.inr (.inl d3)))] at hK;simp only [qab];refine jfx qx3 rfl ?_;simp [i73,x73,hTl,ha,hTe,Tn.v,qb3,qcv,hw1,f1,f2,hc',hce,c3,d1,d2,d3];intro gf;refine .done ?_;simp;exact fin _ _ (by simp) fun r h hr=>by rw [<- hK]; exact hr
  by_cases d4:(N:Int)≤nz
  ·rw [if_pos (.inr (.inr (.inr (.inl d4))))] at hK;simp only [qab];refine jfx qx3 rfl ?_;simp [i73,x73,hTl,ha,hTe,Tn.v,qb3,qcv,hw1,f1,f2,hc',hce,c3,d1,d2,d3,d4];intro gf;refine .done ?_;simp;exact fin _ _ (by simp) fun r h hr=>by rw [<- hK]; exact hr
  by_cases d5:(N:Int)≤no
  ·rw [if_pos (.inr (.inr (.inr (.inr (.inl d5)))))] at hK;simp only [qab];refine jfx qx3 rfl ?_;simp [i73,x73,hTl,ha,hTe,Tn.v,qb3,qcv,hw1,f1,f2,hc',hce,c3,d1,d2,d3,d4,d5];intro gf;refine .done ?_;simp;exact fin _ _ (by simp) fun r h hr=>by rw [<- hK]; exact hr
  obtain ⟨x,rfl⟩:∃ x:Nat,ni = x:=⟨ni.toNat,by omega⟩;obtain ⟨z,rfl⟩:∃ z:Nat,nz = z:=⟨nz.toNat,by omega⟩;obtain ⟨o,rfl⟩:∃ o:Nat,no = o:=⟨no.toNat,by omega⟩;simp only [Int.toNat_natCast] at hK;by_cases hx:x ∈ w
  ·rw [if_pos (.inr (.inr (.inr (.inr (.inr hx)))))] at hK;rcases hW with ⟨-,rfl⟩ | rfl
   ·cases hx
   have hnn:=qa8 w;simp only [qab];refine jfx qx3 rfl ?_;simp [i73,x73,hTl,ha,hTe,Tn.v,qb3,qcv,hw1,f1,f2,hc',hce,c3,d1,d2,d3,d4,d5];intro gf;generalize gf 11 = g11
   refine jft (X:=Nat) (fun j=>[(12,qab j),(11,.ptr 11 g11 0 0),(10,.bool false),(4,.sl (qak w) none)]) (fun _=>[(11,.row g11 3 [.agg [.int .i64 x,.int .i64 z,.int .i64 o]]),(9000,.row g 1 (pT N c'))])
    (fun j=>j≤w.length/\∀ i (h:i < w.length),i < j->w[i] ≠ x) (fun j=>w.length - j) 0 ⟨Nat.zero_le _,fun _ _ h=>by omega⟩ (by simp [qab]) (by simp) ?_
   rintro j ⟨hj,hjx⟩;simp [qab];refine jfr (fun hb=>?_) (fun hb=>?_)
   ·have hj2:j < w.length:=jfy hb;have hwj:=qbi j (by omega);have hgj:∀ h:j < (qak w).length,(qak w)[j] = .int .i64 (w[j]:Int):=fun h=>by simp [qak,qab]
    by_cases hjw:w[j] = x
    ·simp [hj2,hgj,hjw];refine .done ?_;simp;exact fin _ _ (by simp) fun r h hr=>by rw [<- hK]; exact hr
    ·simp [hj2,hgj,hjw];refine ⟨j + 1,⟨hj2,fun i hi hij=>?_⟩,by simpa using hwj,by omega⟩;by_cases e:i = j
     ·subst e; exact hjw
     ·exact hjx i hi (by omega)
   ·have hj3:j = w.length:=by have:=jfz hb; omega
    exfalso;obtain ⟨i,hi,e⟩:=List.getElem_of_mem hx;exact hjx i hi (by omega) e
  rw [if_neg (by rintro (h | h | h | h | h | h) <;> first | contradiction | omega)] at hK;have hih:=fun a c w W=>ih a c w W;obtain ⟨R1,hR1⟩:∃ R,qh8 t bits k z c' (w ++ [x]) = R:=⟨_,rfl⟩
  have hcz:∀ j,c' j + 2 ^ k≤2 ^ 59:=fun j=>by
   have:=hc j;rw [<- hc'];unfold qbs;split
   ·rename_i e2; subst e2; omega
   ·omega
  have hcr:∀ j,R1.2 j + 2 ^ k≤2 ^ 59:=fun j=>by
   have h1:=qu7 (t:=t) (bits:=bits) k z c' (w ++ [x]) j;have h2:=hc j;rw [hR1] at h1
   have h3:c' j≤c j + 1:=by
    rw [<- hc'];unfold qbs;split
    ·rename_i e2; subst e2; omega
    ·omega
   omega
  have ihz:=ih z c' (w ++ [x]) _ (.inr rfl) (by simp; omega) (by omega) (by omega) hcz;have iho:=ih o R1.2 (w ++ [x]) _ (.inr rfl) (by simp; omega) (by omega) (by omega) hcr;unfold q6w at ihz iho;rw [hR1] at hK ihz;obtain ⟨R2,hR2⟩:∃ R,qh8 t bits k o R1.2 (w ++ [x]) = R:=⟨_,rfl⟩;rw [hR2] at hK iho;rw [hN] at ihz iho;clear ih hih;generalize t.map Tn.v = T at *;exact qr3 T hTp N a g e hTl ha bits c c' hw1 hc' hce f1 f2 x z o hTe c3 d1 d2 d3 d4 d5 w (by omega) W hW hx R1 R2 K ihz iho (fun h=>by rw [<- hK,h]; exact ⟨rfl,rfl⟩) fun h=>by rw [<- hK,h]; exact ⟨rfl,rfl⟩
end
section
open Go
def qy3 (R:Bool × (Nat->Nat)) (j:Nat):Bool:=R.1 && (List.range j).all fun i=>decide (R.2 i = 1)
theorem q3s (R:Bool × (Nat->Nat)):qy3 R 0 = R.1:=by simp [qy3]
theorem q3r (R:Bool × (Nat->Nat)) (j:Nat):qy3 R (j + 1) = (qy3 R j && decide (R.2 j = 1)):=by
 simp [qy3,List.range_succ,Bool.and_assoc]
theorem qsk {t:List Tn} {bits:Int} (h:qbn t bits = true):qbn t (bits + 1) = true:=by
 obtain ⟨-,d,I,h1,h2,h3,h4⟩:=qhf h;exact qk5 h1 (d.ok_bits (by omega) [] h2) h3 h4
noncomputable def l27:XC:=xs2 (xs2 (xs2 (xs2 x27)))
noncomputable def r27:XC:=xs2 l27
theorem qzw:x27 = .seq (xs1 x27) (.seq (xs1 (xs2 x27)) (.seq (xs1 (xs2 (xs2 x27))) (.seq (xs1 (xs2 (xs2 (xs2 x27)))) (.seq (xs1 l27) r27)))):=rfl
set_option maxRecDepth 100000 in
set_option maxHeartbeats 4000000 in
theorem q6s (t:List Tn) (ht:t.length≤40) (bits:Int) (hb1:-9223372036854775808≤bits) (v:Bool) (hv:qbn t bits = v) (fr:Fr) (f0:lk fr 0 = some (.sl (t.map Tn.v) none)) (f1:lk fr 1 = some (.int .i64 bits)) (f6:lk fr 6 = some (.bool v)) (h:Hp) :
  r27.wpF Tryz.prog gl0 (qyh [.tmp 4] 2 (.bool true)) fr h:=by
 have hlv:=qg8;have hTp:jd6 (t.map Tn.v) = true:=qa6 t;have hTl:(t.map Tn.v).length = t.length:=by simp
 have hcl:(t.map Tn.v).all (fun x=>decide (x.cells.length = 3)) = true:=List.all_eq_true.2 fun v hv=>by
  obtain ⟨y,-,rfl⟩:=List.mem_map.1 hv;rfl
 have hval:=qd1 t bits none (by omega);rw [hv] at hval;have hval2:=qd1 t (bits + 1) none (by omega);have hmo:=fun h=>qsk (t:=t) (bits:=bits) h;rw [hv] at hmo;have htk:List.take t.length (t.map Tn.v) = t.map Tn.v:=jf2 (by simp);generalize t.map Tn.v = T at *;generalize t.length = n at *
 cases v with
 | false=>
  simp [r27,l27,xs2,x27,f0,f1,f6,hTl,hcl];intro gf gf2;refine ⟨by omega,?_⟩;refine CallO.borrow 2 hval (by simp [frz,V.mapR,jd8,qar hTp,hTl,htk]) rfl ?_;simp [f0,f1,f6];refine jfq hlv rfl ?_;simp
 | true=>
  by_cases hbig:4611686018427387904 < bits
  ·simp [r27,l27,xs2,x27,f0,f1,f6,hTl,hcl];intro gf gf2;refine ⟨by omega,?_⟩;refine CallO.borrow 2 hval (by simp [frz,V.mapR,jd8,qar hTp,hTl,htk]) rfl ?_;simp [f0,f1,f6,hbig];refine jfq hlv rfl ?_;simp
  ·have hw:IntKind.i64.wrap (bits + 1) = bits + 1:=by rw [qau] <;> omega
   rw [hmo rfl] at hval2;simp [r27,l27,xs2,x27,f0,f1,f6,hTl,hcl];intro gf gf2;refine ⟨by omega,?_⟩;refine CallO.borrow 2 hval (by simp [frz,V.mapR,jd8,qar hTp,hTl,htk]) rfl ?_;simp [f0,f1,f6,hbig,hw];refine jfq hval2 (by simp [hTp]) ?_;simp;refine jfq hlv rfl ?_;simp
set_option maxRecDepth 100000 in
set_option maxHeartbeats 4000000 in
theorem qg7 (t:List Tn) (bits:Int) (hb1:-9223372036854775808≤bits) (hb2:bits≤9223372036854775807):qac Tryz.prog gl0 27 [.sl (t.map Tn.v) none,.int .i64 bits] (.bool true):=by
 have hlv:=qg8;have hTp:jd6 (t.map Tn.v) = true:=qa6 t;have hTl:(t.map Tn.v).length = t.length:=by simp
 by_cases h1:40 < t.length
 ·refine jfu 2 jcn rfl ?_;simp [i27,x27,h1];refine jfq hlv rfl ?_;simp
 by_cases h0:t.length = 0
 ·obtain rfl:=List.length_eq_zero_iff.1 h0;have hr:=q6s [] (by simp) bits hb1 false rfl;refine jfu 2 jcn rfl ?_;change XC.wpF _ _ x27 _ _ _;rw [qzw];simp [i27,xs1,l27,xs2,x27];intro gf;generalize gf 14 = g14;refine jft (X:=Nat) (fun j=>[(7,qab j),(6,.bool false),(1,.int .i64 bits),(0,.sl [] none)]) (fun _=>[]) (fun j=>j = 0) (fun _=>0) 0 rfl (by simp [qab]) (by simp) ?_;rintro j rfl;simp [qab];exact hr _ (by simp) (by simp) (by simp) _
 ·have hr:=fun v hv=>q6s t (by omega) bits hb1 v hv;have hrc:=fun g=>qva t (by omega) bits g 41 0 (fun _=>0) [] .nil (.inl ⟨rfl,rfl⟩) (jf5 _) (by omega) (by omega) (fun _=>by decide);have hvr:=qwc t bits 41 (by omega) (by omega);unfold q6w at hrc;generalize qh8 t bits 41 0 (fun _=>0) [] = R at hrc hvr;have hz:=q3s R;have hs:=q3r R;have hvr:qbn t bits = qy3 R t.length:=hvr;have hpz:=qzr t.length;obtain ⟨N,hN⟩:∃ N,t.length = N:=⟨_,rfl⟩;rw [hN] at hTl h1 h0 hrc hvr hpz;have hr:=hr _ hvr;clear hvr;obtain ⟨T,hT⟩:∃ T,t.map Tn.v = T:=⟨_,rfl⟩;rw [hT] at hTp hTl hr hrc ⊢;simp only [qab] at hrc;refine qac.of_WM 3 2 jcn rfl ?_;change XC.wpM _ _ 3 x27 _ _ _;rw [qzw];simp [i27,xs1,l27,xs2,x27,hTl,h1];have h1n:¬ 40 < N:=h1;have h0n:0 < N:=by omega
  refine KM.mk (.done ?_);simp [hTl,h1n];refine KM.mk (.done ?_);simp [hTl,h1n];intro gf;refine ⟨by omega,KM.mk (.move 14 9000 _ (by simp) (by simp; rfl) fun g=>.done ?_)⟩;simp [hTl,h0n,qa0 _ hTp];have hrc':=hrc g;refine CallO.lend [9000] [(9000,.row g 1 (pT N fun _=>0))] [] hrc' (by simp [jd9,V.inB,jd7 _ _ hTp]) (by rw [<- hpz]; simp) (by simp [qbc,Blk.inB,jd7 _ _ (qf6 N _)]) (by simp) (by simp) ?_;rintro r hh ⟨rfl,rfl⟩;refine ⟨by simp [V.inB],by simp [qbc,Blk.inB,jd7 _ _ (qf6 N R.2)],?_⟩;simp;refine jft (X:=Nat) (fun j=>[(7,qab j),(6,.bool (qy3 R j)),(5,.ref 9000 g 0 N (some N)),(1,.int .i64 bits),(0,.sl T none)]) (fun _=>[(9000,.row g 1 (pT N R.2))]) (fun j=>j≤N) (fun j=>N - j) 0 (Nat.zero_le _) (by simp [qab,hz]) (by simp) ?_;intro j hj;simp [qab,hTl];refine jfr (fun hb=>?_) (fun hb=>?_)
  ·have hj2:j < N:=jfy hb;have hwj:=qbi j (by omega);have hsj:=hs j
   cases hB:qy3 R j with
   | false=>
    rw [hB,Bool.false_and] at hsj;simp;exact ⟨j + 1,hj2,by simp [hwj,hsj],by omega⟩
   | true=>
    rw [hB,Bool.true_and] at hsj;simp [hj2,qb3];exact ⟨j + 1,hj2,by simp [hwj,hsj],by omega⟩
  ·have hj3:j = N:=by have:=jfz hb; omega
   subst hj3;simp;exact hr _ (by simp) (by simp) (by simp) _
end
section
open Go
set_option maxRecDepth 100000 in
theorem q2c (l:List Nat) (n:Nat) (hb:∀ x ∈ l,x < 256) (hn:n≤1000) (hs:2 * l.length < 900000) :
  qb5 Tryz.prog gl0 16 [.sl (l.map u8V) none,qab n] (qsv 3 (((qmk l n).fl 0).map Tn.v) none):=by
 have h1:=fun gu=>qqk l.length l (List.replicate n false) gu (by omega) hb (by simpa using hn) hs;have hbl:qcg (List.replicate n false) = List.replicate n (.bool false):=by simp [qcg]
 unfold qmk;have hp:=fun (d:DT)=>qa6 (d.fl 0);generalize gro (l.length + 1) 0 l (List.replicate n false) = Z at h1 ⊢;simp only [List.length_replicate] at h1;refine qb5.of_WM 3 ok16 rfl ?_;simp [i16,x16,qab];refine KM.mk (.done ?_);simp;intro gf;refine ⟨by omega,KM.mk (.move 9 2000 _ (by simp) (by simp; rfl) fun gu=>.done ?_)⟩;simp [qa0 _ (qaj l)];have h2:=h1 gu;rw [hbl] at h2;refine CallO.lend [1000,2000] [(2000,.row gu 1 (List.replicate n (.bool false)))] [] h2 (by simp [jd9,V.inB,jd7 _ _ (qaj _)]) (by simp) (by rw [<- hbl]; simp [qbc,Blk.inB,jd7 _ _ (qdh _)]) (by simp) (by simp) ?_;rintro v h3 ⟨gz,rfl,rfl⟩;refine ⟨by simp [V.inB,jd9,jd7 _ _ (qaj _)],qg5 gz gu _ (by simpa using hp Z.1) _,?_⟩;simp [qgy];refine KM.mk (.done ?_);simp;refine .move 1000 0 _ (by simp) (by simp; rfl) fun g=>.done ?_;simp;exact ⟨[(0,.row g 3 (Z.1.fl 0 |>.map Tn.v))],by simp; exact fun a _=>qcy _ rfl,g,by simp,rfl⟩
theorem pB5:qcc [40,49,54,51,56,52,32,46,32,46,41] = none:=by
 simp [qcc,prs,qi6,dgt,dgB,Lib.decNat,Lib.decFrom,Lib.digitVal]
theorem q0r:Lib.decDigits 16383 = [49,54,51,56,51]:=by
 rw [Lib.decDigits,dif_neg (by decide),Lib.decDigits,dif_neg (by decide),Lib.decDigits,dif_neg (by decide),Lib.decDigits,dif_neg (by decide),Lib.decDigits,dif_pos (by decide)];rfl
theorem pA5:qcc [40,49,54,51,56,51,32,46,32,46,41] = some (.nd 16383 .lf .lf):=by
 have e:(DT.nd 16383 .lf .lf).tx = [40,49,54,51,56,51,32,46,32,46,41]:=by simp [DT.tx,q0r]
 rw [<- e];exact qfl _ ⟨by decide,trivial,trivial⟩ (by decide)
theorem pZ5 (n:Nat):qcc (List.replicate (n + 1) 0) = none:=by
 simp [qcc,prs,List.replicate_succ]
end
section
open Go
def yb:XC->XC
 | .block _ a=>a
 | c=>c
def yl:XC->XC
 | .loop a=>a
 | c=>c
noncomputable def a5:XC:=xs1 (xs2 (xs2 x5))
noncomputable def r5:XC:=xs2 (xs2 (xs2 x5))
noncomputable def b5:XC:=yb (xs1 (xs2 (yl (yb (xs2 a5)))))
noncomputable def t5:XC:=xs2 (xs2 b5)
theorem jd5:x5 = .seq (xs1 x5) (.seq (xs1 (xs2 x5)) (.seq a5 r5)):=rfl
theorem q9l:a5 = .seq (xs1 a5) (.block 0 (.loop (.seq (xs1 (yl (yb (xs2 a5)))) (.seq (.block 1 b5) (xs2 (xs2 (yl (yb (xs2 a5))))))))):=rfl
theorem q9t:b5 = .seq (xs1 b5) (.seq (xs1 (xs2 b5)) t5):=rfl
theorem q07 (s:List UInt8) (raw:List Tn):qac Tryz.prog gl0 4 [.nil,.str s,.sl (raw.map Tn.v) none] (.bool true):=
 qac.wide (qub [] (fun _ h=>by cases h) s raw) ⟨VLe.nil',.refl _,.refl _,trivial⟩ (.refl _)
theorem q08 (s:List UInt8):qac Tryz.prog gl0 4 [.nil,.str s,.nil] (.bool true):=
 qac.wide (qub [] (fun _ h=>by cases h) s []) ⟨VLe.nil',.refl _,VLe.nil',trivial⟩ (.refl _)
set_option maxRecDepth 100000 in
set_option maxHeartbeats 4000000 in
theorem t5_c (L:List Nat) (hL:∀ x ∈ L,x < 256) (hLl:L.length = 30) (k n:Nat) (hk:k < 100003) (hn:n < 20) (Q:IQ)
  (fr:Fr) (f0:lk fr 0 = some (.bool false)) (f1:lk fr 1 = some (qab k)) (f2:lk fr 2 = some (qab n)) (f3:lk fr 3 = some (.sl (L.map u8V) none))
  (hQ:∀ fr h,lk fr 0 = some (.bool false)->lk fr 1 = some (qab k)->lk fr 2 = some (qab n)->Q .normal fr h):t5.wpF Tryz.prog gl0 Q fr []:=by
 have hto:=qpr L 5;have hts:=qv1 L 5;have htr:=q2c L 5 hL (by omega) (by omega);have hlim:=(qmk L 5).ok_lim (b:=5) (us:=[]) (by omega) hto;have hv:=qme (qmk L 5) ((qmk L 5).ok_bits (b':=16384) (by omega) [] hto);have htl:=(qmk L 5).tx_le hlim;have hsp:=(qmk L 5).sz_pos;generalize qmk L 5 = d at *;have hx:=ql8 d (by omega) hlim (by omega) none;rw [show ((16384:Nat):Int) = 16384 from rfl] at hv;rw [hv,if_pos rfl] at hx;have hne:=d.tx_ne;have hDl:=jet d 0;generalize d.tx = X at *;generalize d.fl 0 = D at *;generalize d.sz = z at *;have h27:=fun t b (h:-9223372036854775808≤b/\b≤9223372036854775807)=>qg7 t b h.1 h.2;have hLp:=qaj L;have hXl:X.length≤1000:=by omega
 have hX0:0 < X.length:=List.length_pos_iff.2 hne;have hz:z≤61:=by omega
 clear hlim hv htl hto hts;obtain ⟨q,hq⟩:∃ q,n % 2 = q:=⟨_,rfl⟩;have hq2:q < 2:=by omega
 obtain ⟨p,hp⟩:∃ p,X.length = q + p:=⟨X.length - q,by omega⟩;have m1:((n:Int)).tmod 2 = (q:Int):=qzo hq;have m2:IntKind.i64.wrap ((X.length:Int) - (q:Int)) = (p:Int):=qn4 hp (by omega);obtain ⟨r,hr⟩:∃ r,k % z = r:=⟨_,rfl⟩;have hrz:r < z:=by rw [<- hr]; exact Nat.mod_lt _ hsp
 have m3:((k:Int)).tmod (z:Int) = (r:Int):=qzo hr;obtain ⟨s7,hs7⟩:∃ r,k % 7 = r:=⟨_,rfl⟩;have m4:((k:Int)).tmod 7 = (s7:Int):=qzo hs7;have hrD:r < D.length:=by omega
 obtain ⟨i,zz,o,hDr⟩:∃ i zz o,D[r] = ⟨i,zz,o⟩:=⟨D[r].i,D[r].z,D[r].o,rfl⟩;have c27a:=qg7 D 5 (by omega) (by omega);have c27b:=qg7 D 3 (by omega) (by omega);have c4a:=qub L hL (X.take p) D;have c27c:=qg7 (D.set r ⟨i,s7,o⟩) 5 (by omega) (by omega);have c4b:=q07 (X ++ List.take (1 - q) (List.drop q [46])) (D.set r ⟨i,s7,o⟩);have hTr:∀ h:r < (D.map Tn.v).length,(D.map Tn.v)[r] = .agg [.int .i64 i,.int .i64 zz,.int .i64 o]:=fun h=>by simp [hDr,Tn.v]
 have hTs:(D.set r ⟨i,s7,o⟩).map Tn.v = (D.map Tn.v).set r (.agg [.int .i64 i,.int .i64 (s7:Int),.int .i64 o]):=by rw [List.map_set]; rfl
 rw [hTs] at c27c c4b;have hTp:jd6 (D.map Tn.v) = true:=qa6 D;have hTp2:jd6 ((D.map Tn.v).set r (.agg [.int .i64 i,.int .i64 (s7:Int),.int .i64 o])) = true:=by rw [<- hTs]; exact qa6 _
 have hTl:(D.map Tn.v).length = z:=by simpa using hDl
 clear hTs hDr;generalize D.map Tn.v = T at *;clear hDl hrD;have hTt:List.take z T = T:=jf2 (by omega);have hTt2:List.take z (T.set r (.agg [.int .i64 i,.int .i64 (s7:Int),.int .i64 o])) = T.set r (.agg [.int .i64 i,.int .i64 (s7:Int),.int .i64 o]):=jf2 (by simp; omega);simp only [qab] at f1 f2 htr;simp [t5,b5,a5,yb,yl,xs1,xs2,x5,f0,f1,f2,f3];refine CallO.own 9000 htr (by simp [hLp]) (by simp) ?_;rintro v h ⟨g0,rfl,rfl⟩ gf;simp [upH,upS,Blk.rn,qaz hTp,hTl];generalize gf 9000 + g0 = g;refine CallO.borrow 2 hx (by simp [frz,V.mapR,jd8,qar hTp,hTl,hTt]) rfl ?_;simp [f0,f1,f2,f3,hne];refine CallO.borrow 2 c27a (by simp [frz,V.mapR,jd8,qar hTp,hTl,hTt]) rfl ?_;simp [f0,f1,f2,f3,hne];refine CallO.borrow 2 c27b (by simp [frz,V.mapR,jd8,qar hTp,hTl,hTt]) rfl ?_;simp [f0,f1,f2,f3,hne,m1,m2];refine ⟨by omega,?_⟩;refine CallO.borrow 2 c4a (by simp [frz,V.mapR,jd8,qar hTp,hTl,hTt,qae _ hLp]) rfl ?_;have hz0:¬ z = 0:=by omega
 simp [f0,f1,f2,f3,hTl,m3,m4,hz0,hrz,hTr];refine CallO.borrow 2 c27c (by simp [frz,V.mapR,jd8,qar hTp2,hTl,hTt2]) rfl ?_;simp [f0,f1,f2,f3,m1];refine ⟨by omega,?_⟩;have hsl:X.length + (1 - q)≤4294967296:=by omega
 simp [hsl];refine CallO.borrow 2 c4b (by simp [frz,V.mapR,jd8,qar hTp2,hTl,hTt2]) rfl ?_;simp;exact hQ _ _ (by simp [f0]) (by simp [f1,qab]) (by simp [f2,qab])
def qyr:List (List UInt8):=[[],[46],[46,46],[40,48,32,46,32,46,41],[40,48,32,46,32,46,41,32],[40,48,32,46,32,46,32,41],[40,48,48,32,46,32,46,41],[40,45,49,32,46,32,46,41],[40,43,49,32,46,32,46,41],[40,49,54,51,56,51,32,46,32,46,41],[40,49,54,51,56,52,32,46,32,46,41],[40,57,57,57,57,57,57,57,57,57,57,57,32,46,32,46,41],[40,49,32,46,32,40,49,32,46,32,46,41,41],[40,49,32,40,50,32,46,32,46,41,32,40,50,32,46,32,46,41,41],[40,49,32,46,41],[40,49],[40,32,46,32,46,41],[40,49,46,46,41]]
noncomputable def s5:XC:=xs2 r5
theorem jdc:r5 = .seq (xs1 r5) s5:=rfl
theorem qs2:∀ n,bytesOf (List.replicate n (V.int .u8 0)) = some (List.replicate n 0)
 | 0=>rfl
 | n + 1=>by
  rw [List.replicate_succ,List.replicate_succ];simp [bytesOf,qs2 n]
theorem q32:∃ Z:List UInt8,bytesOf (List.replicate 1048577 (V.int .u8 0)) = some Z/\1048576 < Z.length:=⟨_,qs2 _,by rw [List.length_replicate]; omega⟩
theorem q33:∃ Z:List UInt8,bytesOf (List.replicate 1048576 (V.int .u8 0)) = some Z/\Z.length≤1048576/\qcc Z = none:=⟨_,qs2 _,by rw [List.length_replicate]; omega,pZ5 1048575⟩
theorem qlp (t:List Tn) (bits:Int) (cap:Option Nat) (hb1:-9223372036854775808≤bits) (hb2:bits≤9223372036854775807):qac Tryz.prog gl0 27 [.sl (t.map Tn.v) cap,.int .i64 bits] (.bool true):=
 qac.wide (qg7 t bits hb1 hb2) ⟨VLe.cap _ _,.refl _,trivial⟩ (.refl _)
theorem qxn (bits:Int) (hb1:-9223372036854775808≤bits) (hb2:bits≤9223372036854775807):qac Tryz.prog gl0 27 [.nil,.int .i64 bits] (.bool true):=
 qac.wide (qg7 [] bits hb1 hb2) ⟨VLe.nil',.refl _,trivial⟩ (.refl _)
set_option maxRecDepth 100000 in
set_option maxHeartbeats 4000000 in
theorem s5_c (fr:Fr) (f0:lk fr 0 = some (.bool false)) (h:Hp):s5.wpF Tryz.prog gl0 (qyh [.tmp 0] 2 (.bool true)) fr h:=by
 have hlv:=qg8;have hA:=qfb [40,49,54,51,56,51,32,46,32,46,41] (by simp);have hB:=qfb [40,49,54,51,56,52,32,46,32,46,41] (by simp);unfold qj7 at hA hB;rw [pA5] at hA;rw [pB5] at hB;dsimp only at hA hB;simp [-List.reduceReplicate,s5,r5,xs2,x5,f0];refine jfq hA rfl ?_;simp [-List.reduceReplicate];refine jfq hB rfl ?_;obtain ⟨Z1,hz1,hz2⟩:=q32;obtain ⟨Z2,hy1,hy2,hy3⟩:=q33;have hC:=qyb Z1 hz2;have hD:=qfb Z2 hy2;unfold qj7 at hD;rw [hy3] at hD;dsimp only at hD;have k1:=qxn 3 (by decide) (by decide);have k2:=qlp [⟨-1,0,1⟩,⟨-1,0,0⟩] 3 (some 2) (by decide) (by decide);have k3:=qlp [⟨0,1,1⟩,⟨-1,0,0⟩] 3 (some 2) (by decide) (by decide);have k4:=qlp [⟨-1,0,0⟩] (-9223372036854775808) (some 1) (by decide) (by decide);simp only [List.map_cons,List.map_nil,Tn.v] at k2 k3 k4;simp [-List.reduceReplicate,hz1];intro gf1;refine jfq hC rfl ?_;simp [-List.reduceReplicate,hy1];intro gf2;refine jfq hD rfl ?_;simp [-List.reduceReplicate];refine jfq k1 rfl ?_;simp [-List.reduceReplicate];intro gf3;refine CallO.borrow 2 k2 (by simp [-List.reduceReplicate,frz,V.mapR,jd8]) rfl ?_;simp [-List.reduceReplicate];intro gf4;refine CallO.borrow 2 k3 (by simp [-List.reduceReplicate,frz,V.mapR,jd8]) rfl ?_;simp [-List.reduceReplicate];intro gf5;refine CallO.borrow 2 k4 (by simp [-List.reduceReplicate,frz,V.mapR,jd8]) rfl ?_;simp [-List.reduceReplicate];refine jfq hlv rfl ?_;simp [-List.reduceReplicate]
set_option maxRecDepth 100000 in
set_option maxHeartbeats 4000000 in
theorem r5_c (fr:Fr) (f0:lk fr 0 = some (.bool false)) (h:Hp):r5.wpF Tryz.prog gl0 (qyh [.tmp 0] 2 (.bool true)) fr h:=by
 rw [jdc];simp [xs1,r5,xs2,x5];intro gf;have hl5:qyr.length = 18:=rfl;refine jft (X:=Nat) (fun j=>[(90,qab j),(89,qab 18),(88,.ref 88 (gf 88) 0 18 (some 18)),(0,.bool false)]) (fun _=>[(88,.row (gf 88) 1 (qyr.map V.str))]) (fun j=>j≤18) (fun j=>18 - j) 0 (Nat.zero_le _) (by simp [qab,f0]) (by simp [qyr]) ?_;intro j hj;simp [qab];refine jfr (fun hb=>?_) (fun hb=>?_)
 ·have hj2:j < 18:=by have:=jfy hb; omega
  have hwj:=qbi j (by omega);obtain ⟨x,hx⟩:∃ x,(qyr[j]'(by omega)) = x:=⟨_,rfl⟩;have h4:=q08 x;simp [hj2,hl5,hx];refine jfq h4 rfl ?_;simp;exact ⟨j + 1,hj2,by simp [hwj],by omega⟩
 ·simp;exact s5_c _ (by simp) _
structure KnS where
 i:Nat
 k:Nat
 l:List Nat
 a:Option (Nat × List V)
set_option maxRecDepth 100000 in
set_option maxHeartbeats 4000000 in
theorem q5f:qac Tryz.prog gl0 5 [] (.bool true):=by
 refine jfu 2 ok5 rfl ?_;change XC.wpF _ _ x5 _ _ _;rw [jd5,q9l];simp [i5,xs1,xs2,x5,a5,yb,yl];refine jft (X:=Nat × Nat) (fun y=>[(2,qab y.1),(1,qab y.2),(0,.bool false)]) (fun _=>[]) (fun y=>y.1≤20/\y.2 < 100003) (fun y=>20 - y.1) (0,1) ⟨by decide,by decide⟩ (by simp [qab]) (by simp) ?_;rintro ⟨n,k⟩ ⟨hn,hk⟩;dsimp only at hn hk ⊢;simp [qab];refine jfr (fun hb=>?_) (fun hb=>?_)
 ·have hn2:n < 20:=by have:=jfy hb; omega
  have hwn:=qbi n (by omega);rw [q9t];simp [xs1,xs2,b5,a5,x5,yb,yl]
  refine jem (X:=KnS) (fun y=>[(4,qab y.i),(3,qbt 29 y.a),(2,qab n),(1,qab y.k),(0,.bool false)]) (fun y=>qbm 29 1 y.a)
   (fun y=>y.i≤30/\y.k < 100003/\y.l.length = y.i/\(∀ x ∈ y.l,x < 256)/\qbe y.a = y.l.map u8V/\(y.a = none↔y.i = 0)) (fun y=>30 - y.i)
   (.done ⟨⟨0,k,[],none⟩,⟨Nat.zero_le _,hk,rfl,(fun x h=>absurd h List.not_mem_nil),rfl,⟨fun _=>rfl,fun _=>rfl⟩⟩,by simp [qab,qbt],by simp [qbm]⟩) ?_
  rintro ⟨i,k1,l,acc⟩ ⟨q1,q2,q3,q4,q5,q6⟩;dsimp only at q1 q2 q3 q4 q5 q6 ⊢;simp [qab];refine jfr (fun hb=>?_) (fun hb=>?_)
  ·have hi:i < 30:=by have:=jfy hb; omega
   have hwi:=qbi i (by omega);obtain ⟨b,hb8⟩:∃ b,k1 % 256 = b:=⟨_,rfl⟩
   have hw8:IntKind.u8.wrap (k1:Int) = (b:Int):=by
    show ((k1:Int) % 256) = _;omega
   obtain ⟨e1,he1⟩:∃ e,k1 * 31 = e:=⟨_,rfl⟩;have w1:IntKind.i64.wrap ((k1:Int) * 31) = (e1:Int):=by rw [qau] <;> omega
   obtain ⟨e2,he2⟩:∃ e,7 * i = e:=⟨_,rfl⟩;have w2:IntKind.i64.wrap (7 * (i:Int)) = (e2:Int):=by rw [qau] <;> omega
   obtain ⟨e3,he3⟩:∃ e,e1 + e2 = e:=⟨_,rfl⟩;have w3:=qq9 he3 (by omega);obtain ⟨e4,he4⟩:∃ e,e3 + 11 = e:=⟨_,rfl⟩;have w4:IntKind.i64.wrap ((e3:Int) + 11) = (e4:Int):=by rw [qau] <;> omega
   obtain ⟨e5,he5⟩:∃ e,e4 % 100003 = e:=⟨_,rfl⟩;have w5:((e4:Int)).tmod 100003 = (e5:Int):=qzo he5;have hnx:qbe acc ++ [.int .u8 (b:Int)] = (l ++ [b]).map u8V:=by rw [q5]; simp [u8V]
   have hal:=congrArg List.length q5;simp only [List.length_map] at hal
   have hbl:∀ x ∈ l ++ [b],x < 256:=fun x hx=>by
    rcases List.mem_append.1 hx with h | h
    ·exact q4 x h
    ·rw [List.mem_singleton.1 h]; omega
   rcases acc with _ | ⟨g,r⟩
   ·simp [qbt,qbm,hw8,w1,w2,w3,w4,w5];intro ga gb;exact .done ⟨⟨i + 1,e5,l ++ [b],some (gb 29,[.int .u8 (b:Int)])⟩,⟨hi,(by dsimp only; omega),(by simp; omega),hbl,(by simpa [qbe] using hnx),(by simp)⟩,by simp [hwi],by simp,by dsimp only; omega⟩
   ·simp only [qbe] at hal;simp [qbt,qbm,hw8,w1,w2,w3,w4,w5];intro ga gb;exact ⟨by omega,.done ⟨⟨i + 1,e5,l ++ [b],some (gb 29,r ++ [.int .u8 (b:Int)])⟩,⟨hi,(by dsimp only; omega),(by simp; omega),hbl,(by simpa [qbe] using hnx),(by simp)⟩,by simp [hwi],by simp,by dsimp only; omega⟩⟩
  ·have hi:i = 30:=by have:=jfz hb; omega
   subst hi;rcases acc with _ | ⟨g,r⟩
   ·exact absurd (q6.1 rfl) (by decide)
   ·simp only [qbe] at q5;subst q5;have hlp:=qaj l;have hlt:List.take 30 (l.map u8V) = l.map u8V:=jf2 (by simp; omega);simp [qbt,qbm];refine .mk [(3,.ref 29 g 0 30 none),(2,.int .i64 n),(1,.int .i64 k1),(0,.bool false)] [(29,.row g 1 (l.map u8V))] (by simp [q3]) (by simp) (.frz (g:=g) (sz:=1) (es:=l.map u8V) 29 (by simp) hlp (.done ?_));simp [fzF,fzH,fzV,V.mapR,fzf,fzp,Blk.fz,hlt,q3];refine t5_c l q4 q3 k1 n q2 hn2 _ _ (by simp) (by simp [qab]) (by simp [qab]) (by simp) fun fr h g0 g1 g2=>?_;simp only [qab] at g1 g2;simp [g0,g1,g2];exact ⟨n + 1,k1,⟨hn2,q2⟩,⟨by simp [hwn],rfl⟩,by omega⟩
 ·simp;exact r5_c _ (by simp) _
end
end Go.Proofs.YtpaopccohkldlaaGreatDoor
