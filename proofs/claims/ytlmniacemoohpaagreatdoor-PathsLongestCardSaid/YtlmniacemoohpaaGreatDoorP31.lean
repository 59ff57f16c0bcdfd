/- Lemmas. Conditions: none. -/
import Derived.Test.YtlmniacemoohpaaGreatDoorXG
import Derived.Test.YtlmniacemoohpaaGreatDoorBase24
import Derived.Test.YtlmniacemoohpaaGreatDoorPC
set_option linter.all false
namespace Go.Proofs.YtlmniacemoohpaaGreatDoor
section
open Go
def qqu:XC:=(.seq (.ops [od 12 (.mv (.t 0)),od 13 (.mv (.t 0)),od 14 (.len (.t 13)),od 15 (.bin .sub (.t 14) (.c (.int .i64 1))),od 16 (.idxA 2 (.t 12) (.t 15)),od 17 (.fieldA 0 (.t 16)),od 18 (.load false 1 (.t 17)),od 9 (.mv (.t 18))]) (.seq (.seq (.ops [od 19 (.load false 1 (.t 2)),od 20 (.len (.t 19)),od 21 (.load false 1 (.t 3)),od 22 (.bin .eql (.t 20) (.t 21)),od 23 (.mv (.t 22)),og 24 23 false (.load false 1 (.t 4)),og 25 23 false (.mv (.t 9)),og 26 23 false (.idxA 1 (.t 24) (.t 25)),og 27 23 false (.load false 1 (.t 26)),og 28 23 false (.mv (.t 1)),og 29 23 false (.idxA 1 (.t 27) (.t 28)),og 30 23 false (.load false 1 (.t 29)),og 31 23 false (.un .not (.t 30)),od 32 (.pick (.t 23) (.c (.bool true)) (.t 31))]) (.cond (.t 32) .ret .skip)) (.seq (.seq (.ops [od 33 (.mv (.t 1)),od 34 (.bin .eql (.t 33) (.c (.int .i64 0)))]) (.cond (.t 34) (.seq (.reg [od 35 (.load false 1 (.t 2)),od 36 (.mv (.t 0)),od 37 (.call (.f 75) [.t 36]),od 38 (.call (.f 74) [.t 37]),od 39 (.buildSl 1 1 [.nil] [(0,(1,.t 38))]),od 40 (.app 1 24 [.nil] (.t 35) (.t 39)),⟨none,none,.store 1 (.t 2) (.t 40)⟩] [(0,2),(0,3),(0,4)]) .ret) .skip)) (.seq (.ops [od 41 (.load false 1 (.t 5)),od 42 (.mv (.t 9)),od 43 (.idxA 1 (.t 41) (.t 42)),od 44 (.load false 1 (.t 43)),od 45 (.len (.t 44)),od 46 (.mv (.c (.int .i64 0)))]) (.block 0 (.loop (.seq (.ops [od 47 (.bin .lss (.t 46) (.t 45))]) (.seq (.cond (.t 47) .skip (.exit 0)) (.seq (.block 1 (.seq (.ops [od 48 (.idxA 2 (.t 44) (.t 46)),od 49 (.load true 2 (.t 48)),od 11 (.alloc (.agg [.int .i64 0,.int .i64 0])),⟨none,none,.store 2 (.t 11) (.t 49)⟩]) (.seq (.reg [od 50 (.load false 1 (.t 6)),od 51 (.mv (.t 0)),od 52 (.load true 2 (.t 11)),od 53 (.buildSl 2 1 [.int .i64 0,.int .i64 0] [(0,(2,.t 52))]),od 54 (.n (.appc 2 16 [.int .i64 0,.int .i64 0] (.t 51) (.t 53))),od 55 (.mv (.t 1)),od 56 (.bin .sub (.t 55) (.c (.int .i64 1)))] [(0,3),(0,4)]) (.ops [od 57 (.call (.t 50) [.t 54,.t 56])])))) (.ops [od 58 (.bin .add (.t 46) (.c (.int .i64 1))),od 46 (.mv (.t 58))]))))))))))
def iC73:FnI:=⟨59,[],qqu⟩
theorem jft:q55 Tryz.prog 73 iC73:=⟨_,_,Tryz.func73,rfl,by decide,by kernel_rfl,by kernel_rfl,by kernel_rfl⟩
theorem jad:((Tryz.prog.funcs[73]?).bind (·.body)).map (jae 3) = some true:=by kernel_rfl
end
section
open Go
def xs1:XC->XC
 | .seq a _=>a
 | c=>c
def xs2:XC->XC
 | .seq _ b=>b
 | c=>c
structure XE where
 a:Nat
 b:Nat
 d:Nat
 e:Nat
 f:Nat
 n:Nat
 cv:List V
 cc:Option Nat
 nx:List V
 nc:Option Nat
def XE.env (E:XE):List V:=[.ptr 7010 E.b 0 0,.ptr 7003 E.f 0 0,.ptr 7009 E.d 0 0,.ptr 7008 E.e 0 0,.ptr 7011 E.a 0 0]
def XE.hp (E:XE) (acc:Option (Nat × List V)):Hp:=
 (7011,.row E.a 1 [.fn 73 [] E.env]) :: (7010,.row E.b 1 [qbj 40 acc]) :: (7009,.row E.d 1 [.sl E.cv E.cc]) :: (7008,.row E.e 1 [.sl E.nx E.nc]) :: (7003,.row E.f 1 [.int .i64 E.n]) :: qbo 40 1 acc
def qhu (n:Nat) (O D:List V):List V:=(O ++ D).take n
theorem qv8 {n:Nat} {O D:List V} (h:O.length = n):qhu n O D = O:=by unfold qhu; rw [<- h]; simp
theorem qss {n:Nat} {O:List V} (h:O.length≤n):qhu n O [] = O:=by unfold qhu; rw [List.append_nil]; exact ji2 h
theorem qzg {n:Nat} {O:List V} {x:V} (h:O.length < n):qhu n O [x] = O ++ [x]:=by unfold qhu; exact ji2 (by simp; omega)
theorem qsr (n:Nat) (O D:List V):(qhu n O D).length≤n:=by unfold qhu; rw [List.length_take]; omega
theorem qsq (n:Nat) (O A B:List V):qhu n (qhu n O A) B = qhu n O (A ++ B):=by
 unfold qhu;rw [<- List.append_assoc,List.take_append,List.take_take,Nat.min_self,List.length_take,List.take_append (l₁:=O ++ A)];congr 2;omega
theorem qdp {n:Nat} {O D:List V} (h1:jgy O = true) (h2:jgy D = true):jgy (qhu n O D) = true:=by
 unfold qhu;rw [jg0];intro v hv;have:=List.mem_of_mem_take hv;rcases List.mem_append.1 this with h | h
 ·exact (jg0 _).1 h1 v h
 ·exact (jg0 _).1 h2 v h
noncomputable def s73:XC:=xs2 qqu
theorem q40:qqu = .seq (xs1 qqu) s73:=rfl
noncomputable def w73:XC:=xs2 s73
noncomputable def y73:XC:=xs2 w73
set_option maxRecDepth 100000 in
set_option maxHeartbeats 4000000 in
theorem q11 (E:XE) (P:List Ln) (J:List V) (hJ:jgy J = true) (g a k len c:Nat) (hlen:P.length = len) (acc:Option (Nat × List V)) (D:List V) (b:Bool) (row:List V) (rc:Option Nat) (hcv:E.cv[a]? = some (.sl row rc)) (hrow:row[k]? = some (.bool b))
  (hb:(qau acc).length = E.n∨((qau acc).length < E.n/\b = false/\D = []))
  (fr:Fr) (f0:lk fr 0 = some (.ref 9000 g 0 len (some c))) (f1:lk fr 1 = some (.int .i64 k)) (f2:lk fr 2 = some (.ptr 7010 E.b 0 0)) (f3:lk fr 3 = some (.ptr 7003 E.f 0 0)) (f4:lk fr 4 = some (.ptr 7009 E.d 0 0)) (f9:lk fr 9 = some (.int .i64 a))
  (K:V->Hp->Prop) (tail:∀ fr h J' acc',jgy J' = true->qau acc' = qhu E.n (qau acc) D->Sub ((9000,.row g 2 (P.map lnI ++ J')) :: E.hp acc') h->MvP (fun _ h=>∃ h2,Sub h2 h/\K (.tup []) h2) fr h) :
  s73.wpF Tryz.prog gl0 (qy2 [] K) fr ((9000,.row g 2 (P.map lnI ++ J)) :: E.hp acc):=by
 obtain ⟨hcl,hce⟩:=List.getElem?_eq_some_iff.1 hcv;obtain ⟨hrl,hre⟩:=List.getElem?_eq_some_iff.1 hrow;obtain ⟨W,hW⟩:∃ W,(9000,Blk.row g 2 (P.map lnI ++ J)) :: E.hp acc = W:=⟨_,rfl⟩;have w1:lk W 7010 = some (.row E.b 1 [qbj 40 acc]):=by rw [<- hW]; simp [XE.hp]
 have w2:lk W 7003 = some (.row E.f 1 [.int .i64 E.n]):=by rw [<- hW]; simp [XE.hp]
 have w3:lk W 7009 = some (.row E.d 1 [.sl E.cv E.cc]):=by rw [<- hW]; simp [XE.hp]
 have w4:∀ gq l,acc = some (gq,l)->lk W 40 = some (.row gq 1 l):=fun gq l e=>by rw [<- hW,e]; simp [XE.hp,qbo]
 have hcut:qau acc = qhu E.n (qau acc) D:=by
  rcases hb with hb | ⟨hb,-,rfl⟩
  ·exact (qv8 hb).symm
  ·exact (qss (by omega)).symm
 have tail':=fun fr=>tail fr W J acc hJ hcut (by rw [<- hW]; rcases acc with _ | ⟨gq,l⟩ <;> simp [XE.hp,qbo]);clear tail;rw [hW];clear hW hcut;rcases acc with _ | ⟨gq,l⟩
 ·simp only [qau,List.length_nil] at hb;simp only [qbj] at w1;rcases hb with hb | ⟨hb,rfl,rfl⟩
  ·have hz:((0:Int) = (E.n:Int)) = True:=eq_true (by omega);simp [s73,xs2,qqu,f0,f1,f2,f3,f4,f9,w1,w2,w3,hz];exact tail' _
  ·have hb0:((0:Int) = (E.n:Int)) = False:=eq_false (by omega);simp [s73,xs2,qqu,f0,f1,f2,f3,f4,f9,w1,w2,w3,hb0,hcl,hce,hrl,hre];exact tail' _
 ·simp only [qau] at hb;simp only [qbj] at w1;have w5:=w4 gq l rfl;rcases hb with hb | ⟨hb,rfl,rfl⟩
  ·simp [s73,xs2,qqu,f0,f1,f2,f3,f4,f9,w1,w2,w3,w5,hb];exact tail' _
  ·have hb0:¬ l.length = E.n:=by omega
   simp [s73,xs2,qqu,f0,f1,f2,f3,f4,f9,w1,w2,w3,w5,hb0,hcl,hce,hrl,hre];exact tail' _
set_option maxRecDepth 100000 in
set_option maxHeartbeats 4000000 in
theorem q0q (E:XE) (P:List Ln) (J:List V) (hJ:jgy J = true) (g a len c:Nat) (hlen:P.length = len) (acc:Option (Nat × List V)) (hO:(qau acc).length < E.n) (hE:E.n≤5000) (row:List V) (rc:Option Nat) (hcv:E.cv[a]? = some (.sl row rc)) (hrow:row[0]? = some (.bool true))
  (hcl:qch Tryz.prog gl0 75 [.sl (P.map lnI) (some c)] (qsi 1 (.sl (P.map lnI) none))) (hcp:qac Tryz.prog gl0 74 [.sl (P.map lnI) none] (.sl (P.map lnI) (some len)))
  (fr:Fr) (f0:lk fr 0 = some (.ref 9000 g 0 len (some c))) (f1:lk fr 1 = some (.int .i64 0)) (f2:lk fr 2 = some (.ptr 7010 E.b 0 0)) (f3:lk fr 3 = some (.ptr 7003 E.f 0 0)) (f4:lk fr 4 = some (.ptr 7009 E.d 0 0)) (f9:lk fr 9 = some (.int .i64 a))
  (K:V->Hp->Prop) (tail:∀ fr h J' acc',jgy J' = true->qau acc' = qau acc ++ [.sl (P.map lnI) (some len)]->Sub ((9000,.row g 2 (P.map lnI ++ J')) :: E.hp acc') h->MvP (fun _ h=>∃ h2,Sub h2 h/\K (.tup []) h2) fr h) :
  s73.wpF Tryz.prog gl0 (qy2 [] K) fr ((9000,.row g 2 (P.map lnI ++ J)) :: E.hp acc):=by
 obtain ⟨hcl1,hce⟩:=List.getElem?_eq_some_iff.1 hcv;obtain ⟨hrl,hre⟩:=List.getElem?_eq_some_iff.1 hrow;have hPp:=qbs P;have htk:List.take len (P.map lnI ++ J) = P.map lnI:=by rw [<- hlen]; simp
 have hln:len≤(P.map lnI ++ J).length:=by simp; omega
 have hPJ:jgy (P.map lnI ++ J) = true:=qa9 hPp hJ;generalize hX:P.map lnI ++ J = X at *;rcases acc with _ | ⟨gq,l⟩
 ·simp only [qau,List.length_nil] at hO;have hb0:((0:Int) = (E.n:Int)) = False:=eq_false (by omega);simp [s73,xs2,qqu,XE.hp,qbj,qbo,f0,f1,f2,f3,f4,f9,hb0,hcl1,hce,hrl,hre];intro gm
  first | refine ⟨_,_,_,.dat 2 hcl (by simp [frz,V.mapR,jg1,lk,qa4 hPJ,htk,hln]),?_⟩ | refine ⟨_,⟨_,_,.dat 2 hcl (by simp [frz,V.mapR,jg1,lk,qa4 hPJ,htk,hln])⟩,?_⟩ | refine ⟨_,_,⟨_,.dat 2 hcl (by simp [frz,V.mapR,jg1,lk,qa4 hPJ,htk,hln])⟩,?_⟩
  simp
  first | refine ⟨_,_,_,.pure hcp (by simp [hPp]),?_⟩ | refine ⟨_,⟨_,_,.pure hcp (by simp [hPp])⟩,?_⟩ | refine ⟨_,_,⟨_,.pure hcp (by simp [hPp])⟩,?_⟩
  simp [f2];exact ⟨by decide,tail _ _ J (some (gm 40,[.sl (P.map lnI) (some len)])) hJ (by simp [qau]) (by rw [hX]; simp [XE.hp,qbj,qbo])⟩
 ·simp only [qau] at hO;have hb0:¬ l.length = E.n:=by omega
  simp [s73,xs2,qqu,XE.hp,qbj,qbo,f0,f1,f2,f3,f4,f9,hb0,hcl1,hce,hrl,hre];intro gm
  first | refine ⟨_,_,_,.dat 2 hcl (by simp [frz,V.mapR,jg1,lk,qa4 hPJ,htk,hln]),?_⟩ | refine ⟨_,⟨_,_,.dat 2 hcl (by simp [frz,V.mapR,jg1,lk,qa4 hPJ,htk,hln])⟩,?_⟩ | refine ⟨_,_,⟨_,.dat 2 hcl (by simp [frz,V.mapR,jg1,lk,qa4 hPJ,htk,hln])⟩,?_⟩
  simp
  first | refine ⟨_,_,_,.pure hcp (by simp [hPp]),?_⟩ | refine ⟨_,⟨_,_,.pure hcp (by simp [hPp])⟩,?_⟩ | refine ⟨_,_,⟨_,.pure hcp (by simp [hPp])⟩,?_⟩
  simp;refine ⟨by omega,?_⟩;simp [f2];exact ⟨by decide,tail _ _ J (some (gq + 1,l ++ [.sl (P.map lnI) (some len)])) hJ (by simp [qau]) (by rw [hX]; simp [XE.hp,qbj,qbo])⟩
structure XS where
 i:Nat
 J:List V
 acc:Option (Nat × List V)
def q54 (E:XE) (k:Nat) (P:List Ln) (F:List V):Prop:=∀ (B:Nat),B = 9000∨B = 54∨B = 52->∀ (g:Nat) (J:List V) (cap:Option Nat) (acc:Option (Nat × List V)),jgy J = true->jgy (qau acc) = true->(qau acc).length≤E.n->(∀ c,cap = some c->P.length≤c)->
 qa6 Tryz.prog gl0 73 (.ref B g 0 P.length cap :: .int .i64 k :: E.env) ((B,.row g 2 (P.map lnI ++ J)) :: E.hp acc) fun r h=>r = .tup []/\∃ g' J' acc',jgy J' = true/\qau acc' = qhu E.n (qau acc) F/\(B = 9000->g' = g)/\h = (B,.row g' 2 (P.map lnI ++ J')) :: E.hp acc'
theorem XE.hp_in (E:XE) (hcv:jgy E.cv = true) (hnx:jgy E.nx = true) (acc:Option (Nat × List V)) (ha:jgy (qau acc) = true) (B:Nat):qcw [B,7011,7010,7009,7008,7003,40] (E.hp acc) = true:=by
 rcases acc with _ | ⟨g,l⟩
 ·simp [XE.hp,qcw,Blk.inB,jg4,V.inB,XE.env,qbj,qbo,jgz _ _ hcv,jgz _ _ hnx]
 ·simp only [qau] at ha;simp [XE.hp,qcw,Blk.inB,jg4,V.inB,XE.env,qbj,qbo,jgz _ _ hcv,jgz _ _ hnx,jgz _ _ ha]
theorem XE.hp_sub (E:XE) (acc:Option (Nat × List V)) (B:Nat) (hB:B = 9000∨B = 54) (x:Blk) (r:Hp):Sub ((B,x) :: E.hp acc) ((B,x) :: (E.hp acc ++ r)):=by
 rcases hB with rfl | rfl <;> rcases acc with _ | ⟨gq,l⟩ <;> simp [XE.hp,qbo]
theorem XE.hp_app (E:XE) (acc:Option (Nat × List V)) (B:Nat) (hB:(B == 9000 || B == 54) = true) (x:Blk) (r:Hp):Sub (E.hp acc) ((B,x) :: (E.hp acc ++ r)):=by
 have:B = 9000∨B = 54:=by simpa using hB
 exact (E.hp_sub acc B this x r).2
theorem XE.hp_9 (E:XE) (acc:Option (Nat × List V)) (x:Blk):lk (E.hp acc ++ [(9000,x)]) 9000 = some x:=by rcases acc with _ | ⟨gq,l⟩ <;> simp [XE.hp,qbo]
theorem XE.env_in (E:XE) (B:Nat):jg4 [B,7011,7010,7009,7008,7003,40] E.env = true:=by simp [XE.env,jg4,V.inB]
noncomputable def z73:XC:=xs2 y73
theorem qog:s73 = .seq (xs1 s73) (.seq (xs1 w73) (.seq (xs1 y73) z73)):=rfl
set_option maxRecDepth 100000 in
set_option maxHeartbeats 4000000 in
theorem jgx (E:XE) (P:List Ln) (J:List V) (hJ:jgy J = true) (g k kk len c:Nat) (hkk:k + 1 = kk) (hlen:P.length = len) (hl6:len < 1000000) (hc:len≤c) (acc:Option (Nat × List V)) (hap:jgy (qau acc) = true) (hO:(qau acc).length≤E.n) (hk:k < 1000) (ls:List Ln) (hls:ls.length < 1000000) (F:Ln->List V) (hFp:∀ l ∈ ls,jgy (F l) = true)
  (hcvp:jgy E.cv = true) (hnxp:jgy E.nx = true) (ih:∀ l ∈ ls,q54 E k (P ++ [l]) (F l)) (M:V) (hM:(M = .nil/\ls = [])∨M = .sl (ls.map lnI) none)
  (fr:Fr) (f0:lk fr 0 = some (.ref 9000 g 0 len (some c))) (f1:lk fr 1 = some (.int .i64 kk)) (f6:lk fr 6 = some (.ptr 7011 E.a 0 0)) (f44:lk fr 44 = some M) (f45:lk fr 45 = some (.int .i64 (ls.length:Int))) (f46:lk fr 46 = some (.int .i64 0))
  (K:V->Hp->Prop) (tail:∀ fr h J' acc',jgy J' = true->qau acc' = qhu E.n (qau acc) (ls.flatMap F)->Sub ((9000,.row g 2 (P.map lnI ++ J')) :: E.hp acc') h->MvP (fun _ h=>∃ h2,Sub h2 h/\K (.tup []) h2) fr h) :
  z73.wpF Tryz.prog gl0 (qy2 [] K) fr ((9000,.row g 2 (P.map lnI ++ J)) :: E.hp acc):=by
 have hPp:=qbs P;have hsub:∀ J acc,Sub ((9000,.row g 2 (P.map lnI ++ J)) :: E.hp acc) ((9000,.row g 2 (P.map lnI ++ J)) :: E.hp acc):=fun J acc=>by rcases acc with _ | ⟨gq,l⟩ <;> simp [XE.hp,qbo]
 simp [z73,y73,w73,s73,xs2,qqu]
 refine jit (X:=XS) (fun y=>[(46,qab y.i),(45,.int .i64 (ls.length:Int)),(44,M),(0,.ref 9000 g 0 len (some c)),(1,.int .i64 kk),(6,.ptr 7011 E.a 0 0)]) (fun y=>(9000,.row g 2 (P.map lnI ++ y.J)) :: E.hp y.acc)
  (fun y=>y.i≤ls.length/\jgy y.J = true/\qau y.acc = qhu E.n (qau acc) ((ls.take y.i).flatMap F)) (fun y=>ls.length - y.i) ⟨0,J,acc⟩ ⟨Nat.zero_le _,hJ,by simp [qss hO]⟩ (by simp [qab,f0,f1,f6,f44,f45,f46]) (hsub J acc) ?_
 rintro ⟨i,J,ac⟩ ⟨q1,q2,q3⟩;dsimp only at q1 q2 q3 ⊢;simp [qab];refine jis (fun hb=>?_) (fun hb=>?_)
 ·have hi:i < ls.length:=jiy hb;have hwi:=qbg i (by omega)
  obtain rfl:M = .sl (ls.map lnI) none:=by
   rcases hM with ⟨-,rfl⟩ | h
   ·simp at hi
   ·exact h
  have hmi:∀ h:i < (ls.map lnI).length,(ls.map lnI)[i] = lnI ls[i]:=fun h=>by simp
  have hih:=ih ls[i] (ji3 hi);have hFi:=hFp ls[i] (ji3 hi);have hts:ls.take (i + 1) = ls.take i ++ [ls[i]]:=by rw [List.take_succ_eq_append_getElem]
  have hacp:jgy (qau ac) = true:=by
   rw [q3];refine qdp hap ?_;rw [jg0];intro v hv;obtain ⟨l,hl,hv⟩:=List.mem_flatMap.1 hv;exact (jg0 _).1 (hFp l (List.mem_of_mem_take hl)) v hv
  have hacl:(qau ac).length≤E.n:=by rw [q3]; exact qsr _ _ _
  have hnx:qhu E.n (qau ac) (F ls[i]) = qhu E.n (qau acc) ((ls.take (i + 1)).flatMap F):=by rw [q3,qsq,hts,List.flatMap_append]; simp
  obtain ⟨x,hx⟩:∃ x,ls[i] = x:=⟨_,rfl⟩;rw [hx] at hmi hih hFi hnx;have hsb:IntKind.i64.wrap ((kk:Int) - 1) = (k:Int):=by rw [qaq] <;> omega
  have hX1:List.take len (P.map lnI ++ J) = P.map lnI:=by rw [<- hlen]; simp
  have hX2:List.drop (len + 1) (P.map lnI ++ J) = J.drop 1:=by
   rw [List.drop_append,List.drop_of_length_le (by simp; omega),List.nil_append];simp [hlen]
  have hX3:len≤(P.map lnI ++ J).length:=by simp; omega
  have hpx:P.map lnI ++ [V.agg [.int .i64 x.1,.int .i64 x.2]] = (P ++ [x]).map lnI:=by simp [lnI]
  have hpl:(P ++ [x]).length = len + 1:=by simp [hlen]
  have hJ1:jgy (J.drop 1) = true:=by
   rw [jg0]; intro v hv; exact (jg0 _).1 q2 v (List.mem_of_mem_drop hv)
  have hpp:=qbs (P ++ [x]);have ih9:=hih 9000 (.inl rfl) g (J.drop 1) (some c) ac hJ1 hacp hacl;have ih54:=fun g54=>hih 54 (.inr (.inl rfl)) g54 [] none ac rfl hacp hacl (fun _ h=>by cases h);rw [hpl] at ih9 ih54;have hin:=E.hp_in hcvp hnxp;have hen:=E.env_in;have hs0:=E.hp_sub;have hs9:=E.hp_9;have hes:=hsub J ac;have hdl:len + 1≤274877906944:=by omega
  simp [hi,hmi,lnI];intro gf11 gm;by_cases hfit:len + 1≤c
  ·have hnf:¬ c < len + 1:=by omega
   rcases ac with _ | ⟨gq,l⟩
   ·simp [nop,XE.hp,qbj,qbo,hfit,hX1,hX2,hX3,hdl,hsb,hpx];refine ⟨by omega,by decide,?_⟩;refine CallO.lend [9000,7011,7010,7009,7008,7003,40] ((9000,.row g 2 ((P ++ [x]).map lnI ++ J.drop 1)) :: E.hp none) [] (ih9 fun c1 e=>by cases e; exact hfit) (by simp [jg4,V.inB]; exact hen 9000) (by simp [XE.hp,qbj,qbo,lnI]) (by have:=hin none hacp 9000; simp [qcw,Blk.inB,jgz _ _ (qa9 hpp hJ1),-List.map_append,-List.drop_one] at this ⊢; exact this) (by simp) (by simp) ?_;rintro r hh ⟨rfl,g',J',acc',hJ',hac',hg',rfl⟩;obtain rfl:=hg' rfl;have hap':jgy (qau acc') = true:=by rw [hac']; exact qdp hacp hFi
    refine ⟨by simp [V.inB],by have:=hin acc' hap' 9000; simp [qcw,Blk.inB,jgz _ _ (qa9 hpp hJ'),-List.map_append] at this ⊢; exact this,?_⟩;have hsx:=hsub (lnI x :: J') acc';have hex:(P ++ [x]).map lnI ++ J' = P.map lnI ++ lnI x :: J':=by simp
    rw [hex,List.append_nil];simp;exact ⟨⟨i + 1,lnI x :: J',acc'⟩,⟨hi,by simp only [jgy,hJ',Bool.and_true]; rfl,by rw [hac',hnx]⟩,by simp [hwi],⟨rfl,hsx.2⟩,by dsimp only; omega⟩
   ·simp [nop,XE.hp,qbj,qbo,hfit,hX1,hX2,hX3,hdl,hsb,hpx];refine ⟨by omega,by decide,?_⟩;refine CallO.lend [9000,7011,7010,7009,7008,7003,40] ((9000,.row g 2 ((P ++ [x]).map lnI ++ J.drop 1)) :: E.hp (some (gq,l))) [] (ih9 fun c1 e=>by cases e; exact hfit) (by simp [jg4,V.inB]; exact hen 9000) (by simp [XE.hp,qbj,qbo,lnI]) (by have:=hin (some (gq,l)) hacp 9000; simp [qcw,Blk.inB,jgz _ _ (qa9 hpp hJ1),-List.map_append,-List.drop_one] at this ⊢; exact this) (by simp) (by simp) ?_;rintro r hh ⟨rfl,g',J',acc',hJ',hac',hg',rfl⟩;obtain rfl:=hg' rfl;have hap':jgy (qau acc') = true:=by rw [hac']; exact qdp hacp hFi
    refine ⟨by simp [V.inB],by have:=hin acc' hap' 9000; simp [qcw,Blk.inB,jgz _ _ (qa9 hpp hJ'),-List.map_append] at this ⊢; exact this,?_⟩;have hsx:=hsub (lnI x :: J') acc';have hex:(P ++ [x]).map lnI ++ J' = P.map lnI ++ lnI x :: J':=by simp
    rw [hex,List.append_nil];simp;exact ⟨⟨i + 1,lnI x :: J',acc'⟩,⟨hi,by simp only [jgy,hJ',Bool.and_true]; rfl,by rw [hac',hnx]⟩,by simp [hwi],⟨rfl,hsx.2⟩,by dsimp only; omega⟩
  ·have hnf:c < len + 1:=by omega
   rcases ac with _ | ⟨gq,l⟩
   ·simp [nop,XE.hp,qbj,qbo,hfit,hX1,hX2,hX3,hdl,hsb,hpx];refine ⟨by omega,by decide,?_⟩;refine CallO.lend [54,7011,7010,7009,7008,7003,40] ((54,.row (gm 54) 2 ((P ++ [x]).map lnI ++ [])) :: E.hp none) [(9000,.row g 2 (P.map lnI ++ J))] (ih54 (gm 54)) (by simp [jg4,V.inB]; exact hen 54) (by simp [XE.hp,qbj,qbo]) (by have:=hin none hacp 54; simp [qcw,Blk.inB,jgz _ _ hpp,-List.map_append] at this ⊢; exact this) (by simp) (by simp) ?_;rintro r hh ⟨rfl,g',J',acc',hJ',hac',-,rfl⟩;have hap':jgy (qau acc') = true:=by rw [hac']; exact qdp hacp hFi
    refine ⟨by simp [V.inB],by have:=hin acc' hap' 54; simp [qcw,Blk.inB,jgz _ _ (qa9 hpp hJ'),-List.map_append] at this ⊢; exact this,?_⟩;have hsx:=E.hp_app acc' 54 (by decide) (.row g' 2 (P.map lnI ++ lnI x :: J')) [(9000,.row g 2 (P.map lnI ++ J))];have h9x:=hs9 acc' (.row g 2 (P.map lnI ++ J));simp;exact ⟨⟨i + 1,J,acc'⟩,⟨hi,q2,by rw [hac',hnx]⟩,by simp [hwi],⟨h9x,hsx⟩,by dsimp only; omega⟩
   ·simp [nop,XE.hp,qbj,qbo,hfit,hX1,hX2,hX3,hdl,hsb,hpx];refine ⟨by omega,by decide,?_⟩;refine CallO.lend [54,7011,7010,7009,7008,7003,40] ((54,.row (gm 54) 2 ((P ++ [x]).map lnI ++ [])) :: E.hp (some (gq,l))) [(9000,.row g 2 (P.map lnI ++ J))] (ih54 (gm 54)) (by simp [jg4,V.inB]; exact hen 54) (by simp [XE.hp,qbj,qbo]) (by have:=hin (some (gq,l)) hacp 54; simp [qcw,Blk.inB,jgz _ _ hpp,-List.map_append] at this ⊢; exact this) (by simp) (by simp) ?_;rintro r hh ⟨rfl,g',J',acc',hJ',hac',-,rfl⟩;have hap':jgy (qau acc') = true:=by rw [hac']; exact qdp hacp hFi
    refine ⟨by simp [V.inB],by have:=hin acc' hap' 54; simp [qcw,Blk.inB,jgz _ _ (qa9 hpp hJ'),-List.map_append] at this ⊢; exact this,?_⟩;have hsx:=E.hp_app acc' 54 (by decide) (.row g' 2 (P.map lnI ++ lnI x :: J')) [(9000,.row g 2 (P.map lnI ++ J))];have h9x:=hs9 acc' (.row g 2 (P.map lnI ++ J));simp;exact ⟨⟨i + 1,J,acc'⟩,⟨hi,q2,by rw [hac',hnx]⟩,by simp [hwi],⟨h9x,hsx⟩,by dsimp only; omega⟩
 ·have hi:i = ls.length:=by have:=jiz hb; omega
  subst hi;simp;rw [List.take_length] at q3;exact tail _ _ J ac q2 q3 (hsub J ac)
set_option maxRecDepth 100000 in
set_option maxHeartbeats 4000000 in
theorem q0r (E:XE) (P:List Ln) (J:List V) (hJ:jgy J = true) (g a k len c:Nat) (hlen:P.length = len) (hl6:len < 1000000) (hc:len≤c) (acc:Option (Nat × List V)) (hap:jgy (qau acc) = true) (hO:(qau acc).length < E.n) (row:List V) (rc:Option Nat)
  (hcv:E.cv[a]? = some (.sl row rc)) (hrow:row[k + 1]? = some (.bool true)) (hk:k < 1000) (ls:List Ln) (hnx:E.nx[a]? = some (qgk (ls.map lnI))) (hls:ls.length < 1000000) (F:Ln->List V) (hFp:∀ l ∈ ls,jgy (F l) = true)
  (hcvp:jgy E.cv = true) (hnxp:jgy E.nx = true) (ih:∀ l ∈ ls,q54 E k (P ++ [l]) (F l))
  (fr:Fr) (f0:lk fr 0 = some (.ref 9000 g 0 len (some c))) (f1:lk fr 1 = some (.int .i64 ((k + 1:Nat):Int))) (f2:lk fr 2 = some (.ptr 7010 E.b 0 0)) (f3:lk fr 3 = some (.ptr 7003 E.f 0 0)) (f4:lk fr 4 = some (.ptr 7009 E.d 0 0)) (f5:lk fr 5 = some (.ptr 7008 E.e 0 0)) (f6:lk fr 6 = some (.ptr 7011 E.a 0 0)) (f9:lk fr 9 = some (.int .i64 a))
  (K:V->Hp->Prop) (tail:∀ fr h J' acc',jgy J' = true->qau acc' = qhu E.n (qau acc) (ls.flatMap F)->Sub ((9000,.row g 2 (P.map lnI ++ J')) :: E.hp acc') h->MvP (fun _ h=>∃ h2,Sub h2 h/\K (.tup []) h2) fr h) :
  s73.wpF Tryz.prog gl0 (qy2 [] K) fr ((9000,.row g 2 (P.map lnI ++ J)) :: E.hp acc):=by
 obtain ⟨hcl1,hce⟩:=List.getElem?_eq_some_iff.1 hcv;obtain ⟨hrl,hre⟩:=List.getElem?_eq_some_iff.1 hrow;obtain ⟨hnl,hne⟩:=List.getElem?_eq_some_iff.1 hnx;obtain ⟨kk,hkk⟩:∃ q,k + 1 = q:=⟨_,rfl⟩;rw [hkk] at f1;have hk0:¬ kk = 0:=by omega
 simp only [hkk] at hre hrl
 have hM:(qgk (ls.map lnI) = .nil/\ls = [])∨qgk (ls.map lnI) = .sl (ls.map lnI) none:=by
  cases ls with
  | nil=>exact .inl ⟨rfl,rfl⟩
  | cons x r=>exact .inr rfl
 generalize qgk (ls.map lnI) = M at hM hne;have hz:=jgx E P J hJ g k kk len c hkk hlen hl6 hc acc hap (by omega) hk ls hls F hFp hcvp hnxp ih M hM;obtain ⟨W,hW⟩:∃ W,(9000,Blk.row g 2 (P.map lnI ++ J)) :: E.hp acc = W:=⟨_,rfl⟩;have w1:lk W 7010 = some (.row E.b 1 [qbj 40 acc]):=by rw [<- hW]; simp [XE.hp]
 have w2:lk W 7003 = some (.row E.f 1 [.int .i64 E.n]):=by rw [<- hW]; simp [XE.hp]
 have w3:lk W 7009 = some (.row E.d 1 [.sl E.cv E.cc]):=by rw [<- hW]; simp [XE.hp]
 have w6:lk W 7008 = some (.row E.e 1 [.sl E.nx E.nc]):=by rw [<- hW]; simp [XE.hp]
 have w4:∀ gq l,acc = some (gq,l)->lk W 40 = some (.row gq 1 l):=fun gq l e=>by rw [<- hW,e]; simp [XE.hp,qbo]
 rw [hW] at hz ⊢;clear hW;rcases acc with _ | ⟨gq,l⟩
 ·simp only [qau,List.length_nil] at hO;simp only [qbj] at w1;have hb0:((0:Int) = (E.n:Int)) = False:=eq_false (by omega);rcases hM with ⟨rfl,rfl⟩ | rfl
  ·rw [qog];simp [xs1,y73,w73,s73,xs2,qqu,f0,f1,f2,f3,f4,f5,f6,f9,w1,w2,w3,w6,hb0,hcl1,hce,hrl,hre,hnl,hne,hk0];exact hz _ (by simp [f0]) (by simp [f1]) (by simp [f6]) (by simp) (by simp) (by simp) K tail
  ·rw [qog];simp [xs1,y73,w73,s73,xs2,qqu,f0,f1,f2,f3,f4,f5,f6,f9,w1,w2,w3,w6,hb0,hcl1,hce,hrl,hre,hnl,hne,hk0];exact hz _ (by simp [f0]) (by simp [f1]) (by simp [f6]) (by simp) (by simp) (by simp) K tail
 ·simp only [qau] at hO;simp only [qbj] at w1;have w5:=w4 gq l rfl;have hb0:¬ l.length = E.n:=by omega
  rcases hM with ⟨rfl,rfl⟩ | rfl
  ·rw [qog];simp [xs1,y73,w73,s73,xs2,qqu,f0,f1,f2,f3,f4,f5,f6,f9,w1,w2,w3,w5,w6,hb0,hcl1,hce,hrl,hre,hnl,hne,hk0];exact hz _ (by simp [f0]) (by simp [f1]) (by simp [f6]) (by simp) (by simp) (by simp) K tail
  ·rw [qog];simp [xs1,y73,w73,s73,xs2,qqu,f0,f1,f2,f3,f4,f5,f6,f9,w1,w2,w3,w5,w6,hb0,hcl1,hce,hrl,hre,hnl,hne,hk0];exact hz _ (by simp [f0]) (by simp [f1]) (by simp [f6]) (by simp) (by simp) (by simp) K tail
theorem XE.hp_mv (E:XE) (acc:Option (Nat × List V)) (ha:jgy (qau acc) = true) (hcv:jgy E.cv = true) (hnx:jgy E.nx = true) (B g g' B':Nat) (hB:B = 54∨B = 52) (hB':B' = 9000) (X:List V) (hX:jgy X = true) :
  mvH (mvS B g B' g') B B' g' ((B,.row g 2 X) :: E.hp acc) = (9000,.row g' 2 X) :: E.hp acc:=by
 subst hB';rcases hB with rfl | rfl <;> rcases acc with _ | ⟨gq,l⟩ <;> simp only [qau] at ha <;> simp [XE.hp,XE.env,qbj,qbo,mvH,mvS,Blk.rn,Blk.gen,V.rn,jhf,qap hX,qbd _ hcv,qbd _ hnx,qap ha]
theorem q4t (E:XE) (acc:Option (Nat × List V)) (ha:jgy (qau acc) = true) (hcv:jgy E.cv = true) (hnx:jgy E.nx = true) (B:Nat) (hB:B = 9000∨B = 54∨B = 52) (g len:Nat) (cap:Option Nat) (hcap:∀ c,cap = some c->len≤c) (X:List V) (hX:jgy X = true) (k a:Nat) (Kx:Fr->Hp->Prop)
  (fr:Fr) (f0:lk fr 0 = some (.ref B g 0 len cap)) (f1:lk fr 1 = some (.int .i64 k)) (f2:lk fr 2 = some (.ptr 7010 E.b 0 0)) (f3:lk fr 3 = some (.ptr 7003 E.f 0 0)) (f4:lk fr 4 = some (.ptr 7009 E.d 0 0)) (f5:lk fr 5 = some (.ptr 7008 E.e 0 0)) (f6:lk fr 6 = some (.ptr 7011 E.a 0 0)) (f9:lk fr 9 = some (.int .i64 a))
  (tail:∀ fr g' c,len≤c->(B = 9000->g' = g)->lk fr 0 = some (.ref 9000 g' 0 len (some c))->lk fr 1 = some (.int .i64 k)->lk fr 2 = some (.ptr 7010 E.b 0 0)->lk fr 3 = some (.ptr 7003 E.f 0 0)->lk fr 4 = some (.ptr 7009 E.d 0 0)->lk fr 5 = some (.ptr 7008 E.e 0 0)->lk fr 6 = some (.ptr 7011 E.a 0 0)->
   lk fr 9 = some (.int .i64 a)->Kx fr ((9000,.row g' 2 X) :: E.hp acc)):MvP Kx fr ((B,.row g 2 X) :: E.hp acc):=by
 have two:∀ (fr:Fr) (g':Nat),(B = 9000->g' = g)->lk fr 0 = some (.ref 9000 g' 0 len cap)->lk fr 1 = some (.int .i64 k)->lk fr 2 = some (.ptr 7010 E.b 0 0)->lk fr 3 = some (.ptr 7003 E.f 0 0)->lk fr 4 = some (.ptr 7009 E.d 0 0)->lk fr 5 = some (.ptr 7008 E.e 0 0)->lk fr 6 = some (.ptr 7011 E.a 0 0)->
   lk fr 9 = some (.int .i64 a)->MvP Kx fr ((9000,.row g' 2 X) :: E.hp acc):=fun fr g' hg h0 h1 h2 h3 h4 h5 h6 h9=>by
  cases cap with
  | some c=>exact .done (tail fr g' c (hcap c rfl) hg h0 h1 h2 h3 h4 h5 h6 h9)
  | none=>exact .rev 0 h0 fun c hc=>.done (tail _ g' c hc hg (by simp) (by simpa using h1) (by simpa using h2) (by simpa using h3) (by simpa using h4) (by simpa using h5) (by simpa using h6) (by simpa using h9))
 rcases hB with rfl | hB
 ·exact two fr g (fun _=>rfl) f0 f1 f2 f3 f4 f5 f6 f9
 ·have hne:B ≠ 9000:=by omega
  refine .move B 9000 (.row g 2 X) hne (by simp) fun g'=>?_;rw [show (Blk.row g 2 X).gen = g from rfl,E.hp_mv acc ha hcv hnx B g g' 9000 hB rfl X hX];have hm:∀ x y,x ≠ B->mvS B g 9000 g' x y = (x,y):=fun x y h=>by unfold mvS; rw [if_neg fun e=>h e.1]
  have hm2:mvS B g 9000 g' B g = (9000,g'):=by unfold mvS; rw [if_pos ⟨rfl,rfl⟩]
  refine two _ g' (fun e=>absurd e hne) ?_ ?_ ?_ ?_ ?_ ?_ ?_ ?_
  ·rw [qha,f0]; simp only [Option.map_some,V.rn,hm2]
  ·rw [qha,f1]; rfl
  ·rw [qha,f2]; simp only [Option.map_some,V.rn,hm 7010 E.b (by omega)]
  ·rw [qha,f3]; simp only [Option.map_some,V.rn,hm 7003 E.f (by omega)]
  ·rw [qha,f4]; simp only [Option.map_some,V.rn,hm 7009 E.d (by omega)]
  ·rw [qha,f5]; simp only [Option.map_some,V.rn,hm 7008 E.e (by omega)]
  ·rw [qha,f6]; simp only [Option.map_some,V.rn,hm 7011 E.a (by omega)]
  ·rw [qha,f9]; rfl
theorem jai (E:XE) (B:Nat) (hB:B = 9000∨B = 54∨B = 52) (g g0:Nat) (hg:B = 9000->g = g0) (X:List V) (hX:jgy X = true) (hcv:jgy E.cv = true) (hnx:jgy E.nx = true) (acc:Option (Nat × List V)) (ha:jgy (qau acc) = true) (K:V->Hp->Prop) (fr:Fr) (h:Hp) (hs:Sub ((9000,.row g 2 X) :: E.hp acc) h)
  (tail:∀ g',(B = 9000->g' = g0)->K (.tup []) ((B,.row g' 2 X) :: E.hp acc)):MvP (fun _ h=>∃ h2,Sub h2 h/\K (.tup []) h2) fr h:=by
 rcases hB with rfl | hB
 ·exact .done ⟨_,hs,tail g hg⟩
 ·have hne:(9000:Nat) ≠ B:=by omega
  refine .move 9000 B (.row g 2 X) hne hs.1 fun g'=>.done ⟨_,?_,tail g' fun e=>absurd e.symm hne⟩;have hl:=fun t=>qs8 (s:=mvS 9000 g B g') (g':=g') hne h t
  rcases hB with rfl | rfl <;> rcases acc with _ | ⟨gq,l⟩ <;> simp only [qau] at ha <;> simp only [XE.hp,qbj,qbo,Sub] at hs ⊢ <;>
   simp [hl,hs,Blk.gen,Blk.rn,V.rn,jhf,XE.env,mvS,qap hX,qbd _ hcv,qbd _ hnx,qap ha]
end
end Go.Proofs.YtlmniacemoohpaaGreatDoor
