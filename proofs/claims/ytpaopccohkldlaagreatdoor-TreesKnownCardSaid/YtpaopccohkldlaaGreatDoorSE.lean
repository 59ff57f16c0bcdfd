/- Lemmas. Conditions: none. -/
import Derived.Test.YtpaopccohkldlaaGreatDoorY3
import Derived.Test.YtpaopccohkldlaaGreatDoorA5
import Derived.Test.YtpaopccohkldlaaGreatDoorR1
import Derived.Test.YtpaopccohkldlaaGreatDoorXL3
set_option linter.all false
namespace Go.Proofs.YtpaopccohkldlaaGreatDoor
section
open Go
def qax (u:List Bool):List Nat:=(List.range u.length).filter fun i=>!(u.getD i false)
theorem qnb {u:List Bool} {i:Nat}:i ∈ qax u↔i < u.length/\u.getD i false = false:=by
 unfold qax;rw [List.mem_filter,List.mem_range];simp
def gro:Nat->Nat->List Nat->List Bool->DT × List Nat
  | _,_,[],_=>(.lf,[])
  | 0,_,_ :: r,_=>(.lf,r)
  | k + 1,a,x :: r,u=>
    if x % 3 = 0∨qax u = []∨200 < a then (.lf,r) else
      (.nd ((qax u).getD (x / 3 % (qax u).length) 0) (gro k (a + 1) r (u.set ((qax u).getD (x / 3 % (qax u).length) 0) true)).1
        (gro k (a + 1 + (gro k (a + 1) r (u.set ((qax u).getD (x / 3 % (qax u).length) 0) true)).1.sz) (gro k (a + 1) r (u.set ((qax u).getD (x / 3 % (qax u).length) 0) true)).2 (u.set ((qax u).getD (x / 3 % (qax u).length) 0) true)).1,
       (gro k (a + 1 + (gro k (a + 1) r (u.set ((qax u).getD (x / 3 % (qax u).length) 0) true)).1.sz) (gro k (a + 1) r (u.set ((qax u).getD (x / 3 % (qax u).length) 0) true)).2 (u.set ((qax u).getD (x / 3 % (qax u).length) 0) true)).2)
def DT.inn:DT->Nat
 | .lf=>0
 | .nd _ z o=>1 + z.inn + o.inn
theorem DT.sz_inn:∀ d:DT,d.sz = 2 * d.inn + 1
 | .lf=>rfl
 | .nd _ z o=>by rw [DT.sz,DT.inn,z.sz_inn,o.sz_inn]; omega
theorem qlm:∀ (k a:Nat) (l:List Nat) (u:List Bool),(gro k a l u).1.inn + (gro k a l u).2.length≤l.length
 | _,_,[],_=>by simp [gro,DT.inn]
 | 0,_,_ :: r,_=>by simp [gro,DT.inn]
 | k + 1,a,x :: r,u=>by
  unfold gro;split
  ·simp [DT.inn]
  ·have h1:=qlm k (a + 1) r (u.set ((qax u).getD (x / 3 % (qax u).length) 0) true);generalize gro k (a + 1) r (u.set ((qax u).getD (x / 3 % (qax u).length) 0) true) = Z at h1 ⊢;have h2:=qlm k (a + 1 + Z.1.sz) Z.2 (u.set ((qax u).getD (x / 3 % (qax u).length) 0) true);generalize gro k (a + 1 + Z.1.sz) Z.2 (u.set ((qax u).getD (x / 3 % (qax u).length) 0) true) = O at h2 ⊢;simp only [DT.inn,List.length_cons];omega
theorem qt2 (k a:Nat) (l:List Nat) (u:List Bool):(gro k a l u).1.sz≤2 * l.length + 1:=by
 have:=qlm k a l u;rw [DT.sz_inn]; omega
theorem qtw {u:List Bool} {x:Nat} (h:qax u ≠ []):(qax u).getD (x / 3 % (qax u).length) 0 ∈ qax u:=by
 have h1:=Nat.mod_lt (x / 3) (List.length_pos_iff.2 h);rw [jf0,jf4 h1];exact jf3 h1
theorem qt1:∀ (k a:Nat) (l:List Nat) (u:List Bool) (us:List Nat),(∀ i ∈ us,u.getD i false = true)->(gro k a l u).1.ok u.length us
 | _,_,[],_,_,_=>by simp only [gro]; trivial
 | 0,_,_ :: r,_,_,_=>by simp only [gro]; trivial
 | k + 1,a,x :: r,u,us,h=>by
  unfold gro;split
  ·trivial
  ·rename_i hn;have hf:qax u ≠ []:=fun e=>hn (.inr (.inl e));have hi:=qnb.1 (qtw (x:=x) hf);generalize (qax u).getD (x / 3 % (qax u).length) 0 = i at hi ⊢
   have hus:∀ j ∈ i :: us,(u.set i true).getD j false = true:=fun j hj=>by
    rw [jf0,List.getElem?_set];split
    ·rename_i e; rw [if_pos hi.1]; rfl
    ·rename_i e;rcases List.mem_cons.1 hj with e2 | e2
     ·exact absurd e2.symm e
     ·have:=h j e2;rw [jf0] at this;exact this
   have h1:=qt1 k (a + 1) r (u.set i true) (i :: us) hus;rw [List.length_set] at h1;generalize gro k (a + 1) r (u.set i true) = Z at h1 ⊢;have h2:=qt1 k (a + 1 + Z.1.sz) Z.2 (u.set i true) (i :: us) hus;rw [List.length_set] at h2;exact ⟨hi.1,fun hm=>by rw [h i hm] at hi; exact Bool.noConfusion hi.2,h1,h2⟩
end
section
open Go
def qcg (u:List Bool):List V:=u.map V.bool
theorem qc0 (u:List Bool) (i:Nat) (h:i < (qcg u).length):(qcg u)[i] = .bool (u[i]'(by simpa [qcg] using h)):=by simp [qcg]
@[simp] theorem q31 (u:List Bool):(qcg u).length = u.length:=by simp [qcg]
theorem qdh (u:List Bool):jd6 (qcg u) = true:=V.pureL_map _ u fun _=>rfl
theorem qmt (u:List Bool) (i:Nat) (b:Bool):(qcg u).set i (.bool b) = qcg (u.set i b):=by simp [qcg,List.map_set]
def qeq (u:List Bool) (j:Nat):List Nat:=(List.range j).filter fun i=>!(u.getD i false)
theorem qnc (u:List Bool):qeq u u.length = qax u:=rfl
theorem qtv (u:List Bool) (j:Nat) (hj:j < u.length):qeq u (j + 1) = if u[j] = true then qeq u j else qeq u j ++ [j]:=by
 have e:u.getD j false = u[j]:=by rw [jf0,jf4 hj]; rfl
 unfold qeq;rw [List.range_succ,List.filter_append]
 cases hu:u[j] with
 | true=>
  rw [hu] at e;rw [if_pos rfl,List.filter_cons_of_neg (by rw [e]; simp),List.filter_nil,List.append_nil]
 | false=>
  rw [hu] at e;rw [if_neg (by simp),List.filter_cons_of_pos (by rw [e]; rfl),List.filter_nil]
theorem qnd (u:List Bool) (j:Nat):(qeq u j).length≤j:=by
 unfold qeq;exact Nat.le_trans (List.length_filter_le _ _) (by simp)
noncomputable def r58:XC:=xs2 (xs2 (xs2 x58))
noncomputable def e58:XC:=xs1 (xs2 (xs2 x58))
set_option maxRecDepth 100000 in
theorem qtu (T:V) (l:V) (hl:l.pure = true) (u:List Bool) (hu:u.length≤1000) (gu:Nat) (R:Fr->Hp->Prop) (Q:IQ) (X:Hp) (hX:(T = .nil/\X = [])∨∃ gz L,T = .ref 1000 gz 0 L.length none/\jd6 L = true/\X = [(1000,.row gz 3 L)])
  (fr:Fr) (h:Hp) (f8:lk fr 8 = some .nil) (f2:lk fr 2 = some (.ref 2000 gu 0 u.length (some u.length))) (f1:lk fr 1 = some l) (f0:lk fr 0 = some T) (hh:Sub ((2000,.row gu 1 (qcg u)) :: X) h)
  (tail:∀ F:V,((F = .nil/\qax u = [])∨(F = .sl (qak (qax u)) none/\qax u ≠ []))->R [(8,F),(2,.ref 2000 gu 0 u.length (some u.length)),(1,l),(0,T)] ((2000,.row gu 1 (qcg u)) :: X)) :
  e58.wpF Tryz.prog gl0 (qj9 R Q) fr h:=by
 rcases hX with ⟨rfl,rfl⟩ | ⟨gz,L,rfl,hLp,rfl⟩
 ·obtain ⟨b2,-⟩:=hh;simp [e58,xs1,xs2,x58]
  refine jem (X:=Nat × Option (Nat × List V)) (fun z=>[(9,qab z.1),(8,qbt 28 z.2),(2,.ref 2000 gu 0 u.length (some u.length)),(1,l),(0,.nil)]) (fun z=>(2000,.row gu 1 (qcg u)) :: qbm 28 1 z.2)
   (fun z=>z.1≤u.length/\qbe z.2 = qak (qeq u z.1)/\(z.2 = none↔qeq u z.1 = [])) (fun z=>u.length - z.1) (.done ⟨(0,none),⟨by simp,by simp [qbe,qeq,qak],by simp [qeq]⟩,by simp [qab,qbt,f8,f2,f1,f0],by simp [qbm,b2,b2]⟩) ?_
  rintro ⟨j,acc⟩ ⟨q1,q2,q3⟩;dsimp only at q1 q2 q3 ⊢;simp [qab];refine jfr (fun hb=>?_) (fun hb=>?_)
  ·have hj:j < u.length:=jfy hb;have hw:=qbi j (by omega);have hs:=qtv u j hj;have hfl:=qnd u j;have hL:=congrArg List.length q2;simp only [qdz] at hL
   cases hu2:u[j] with
   | true=>
    rw [if_pos hu2] at hs;have hsub:Sub (qbm 28 1 acc) (qbm 28 1 acc):=by rcases acc with _ | ⟨g,r⟩ <;> simp [qbm]
    simp [qc0,hj,hu2];refine .done ⟨j + 1,acc,⟨hj,by rw [hs]; exact q2,by rw [hs]; exact q3⟩,by simp [hw],?_,by omega⟩;rcases acc with _ | ⟨g,r⟩ <;> simp [qbm]
   | false=>
    rw [if_neg (by rw [hu2]; simp)] at hs;have hnx:qak (qeq u (j + 1)) = qak (qeq u j) ++ [.int .i64 (j:Int)]:=by rw [hs]; simp [qak,qab]
    rw [<- q2] at hnx;rcases acc with _ | ⟨g,r⟩
    ·simp [qc0,hj,hu2,qbt,qbm];intro ga gb;exact .done ⟨j + 1,some (gb 28,[.int .i64 (j:Int)]),⟨hj,by simpa [qbe] using hnx.symm,by rw [hs]; simp⟩,by simp [hw],by simp,by omega⟩
    ·simp only [qbe] at hL;simp [qc0,hj,hu2,qbt,qbm];intro ga gb;exact ⟨by omega,.done ⟨j + 1,some (gb 28,r ++ [.int .i64 (j:Int)]),⟨hj,by simpa [qbe] using hnx.symm,by rw [hs]; simp⟩,by simp [hw],by simp,by omega⟩⟩
  ·have hj:j = u.length:=by have:=jfz hb; omega
   subst hj;rw [qnc] at q2 q3;have hup:=qdh u;rcases acc with _ | ⟨g,r⟩
   ·have ht:=tail .nil (.inl ⟨rfl,q3.1 rfl⟩);simp [qbt,qbm];refine .mk [(8,.nil),(2,.ref 2000 gu 0 u.length (some u.length)),(1,l),(0,.nil)] ((2000,.row gu 1 (qcg u)) :: []) (by simp) (by simp) (.done ?_);exact ht
   ·simp only [qbe] at q2;subst q2;have hn:qax u ≠ []:=fun e=>by have:=q3.2 e; cases this
    have ht:=tail (.sl (qak (qax u)) none) (.inr ⟨rfl,hn⟩);have hnt:List.take (qax u).length (qak (qax u)) = qak (qax u):=jf2 (by simp);simp [qbt,qbm];refine .mk [(8,.ref 28 g 0 (qax u).length none),(2,.ref 2000 gu 0 u.length (some u.length)),(1,l),(0,.nil)] ((28,.row g 1 (qak (qax u))) :: (2000,.row gu 1 (qcg u)) :: []) (by simp) (by simp) (.frz (g:=g) (sz:=1) (es:=qak (qax u)) 28 (by simp) (qa8 _) (.done ?_));have hmb:(qcg u).map (fzV 28 g (qak (qax u))) = qcg u:=qar hup;simp [fzF,fzH,fzV,V.mapR,fzf,fzp,Blk.fz,hnt,qap _ hl,hmb];exact ht
 ·obtain ⟨b2,b1,-⟩:=hh;simp [e58,xs1,xs2,x58]
  refine jem (X:=Nat × Option (Nat × List V)) (fun z=>[(9,qab z.1),(8,qbt 28 z.2),(2,.ref 2000 gu 0 u.length (some u.length)),(1,l),(0,.ref 1000 gz 0 L.length none)]) (fun z=>(2000,.row gu 1 (qcg u)) :: (1000,.row gz 3 L) :: qbm 28 1 z.2)
   (fun z=>z.1≤u.length/\qbe z.2 = qak (qeq u z.1)/\(z.2 = none↔qeq u z.1 = [])) (fun z=>u.length - z.1) (.done ⟨(0,none),⟨by simp,by simp [qbe,qeq,qak],by simp [qeq]⟩,by simp [qab,qbt,f8,f2,f1,f0],by simp [qbm,b2,b1]⟩) ?_
  rintro ⟨j,acc⟩ ⟨q1,q2,q3⟩;dsimp only at q1 q2 q3 ⊢;simp [qab];refine jfr (fun hb=>?_) (fun hb=>?_)
  ·have hj:j < u.length:=jfy hb;have hw:=qbi j (by omega);have hs:=qtv u j hj;have hfl:=qnd u j;have hL:=congrArg List.length q2;simp only [qdz] at hL
   cases hu2:u[j] with
   | true=>
    rw [if_pos hu2] at hs;have hsub:Sub (qbm 28 1 acc) (qbm 28 1 acc):=by rcases acc with _ | ⟨g,r⟩ <;> simp [qbm]
    simp [qc0,hj,hu2];refine .done ⟨j + 1,acc,⟨hj,by rw [hs]; exact q2,by rw [hs]; exact q3⟩,by simp [hw],?_,by omega⟩;rcases acc with _ | ⟨g,r⟩ <;> simp [qbm]
   | false=>
    rw [if_neg (by rw [hu2]; simp)] at hs;have hnx:qak (qeq u (j + 1)) = qak (qeq u j) ++ [.int .i64 (j:Int)]:=by rw [hs]; simp [qak,qab]
    rw [<- q2] at hnx;rcases acc with _ | ⟨g,r⟩
    ·simp [qc0,hj,hu2,qbt,qbm];intro ga gb;exact .done ⟨j + 1,some (gb 28,[.int .i64 (j:Int)]),⟨hj,by simpa [qbe] using hnx.symm,by rw [hs]; simp⟩,by simp [hw],by simp,by omega⟩
    ·simp only [qbe] at hL;simp [qc0,hj,hu2,qbt,qbm];intro ga gb;exact ⟨by omega,.done ⟨j + 1,some (gb 28,r ++ [.int .i64 (j:Int)]),⟨hj,by simpa [qbe] using hnx.symm,by rw [hs]; simp⟩,by simp [hw],by simp,by omega⟩⟩
  ·have hj:j = u.length:=by have:=jfz hb; omega
   subst hj;rw [qnc] at q2 q3;have hup:=qdh u;rcases acc with _ | ⟨g,r⟩
   ·have ht:=tail .nil (.inl ⟨rfl,q3.1 rfl⟩);simp [qbt,qbm];refine .mk [(8,.nil),(2,.ref 2000 gu 0 u.length (some u.length)),(1,l),(0,.ref 1000 gz 0 L.length none)] ((2000,.row gu 1 (qcg u)) :: [(1000,.row gz 3 L)]) (by simp) (by simp) (.done ?_);exact ht
   ·simp only [qbe] at q2;subst q2;have hn:qax u ≠ []:=fun e=>by have:=q3.2 e; cases this
    have ht:=tail (.sl (qak (qax u)) none) (.inr ⟨rfl,hn⟩);have hnt:List.take (qax u).length (qak (qax u)) = qak (qax u):=jf2 (by simp);simp [qbt,qbm];refine .mk [(8,.ref 28 g 0 (qax u).length none),(2,.ref 2000 gu 0 u.length (some u.length)),(1,l),(0,.ref 1000 gz 0 L.length none)] ((28,.row g 1 (qak (qax u))) :: (2000,.row gu 1 (qcg u)) :: [(1000,.row gz 3 L)]) (by simp) (by simp) (.frz (g:=g) (sz:=1) (es:=qak (qax u)) 28 (by simp) (qa8 _) (.done ?_));have hmb:(qcg u).map (fzV 28 g (qak (qax u))) = qcg u:=qar hup;have hmL:L.map (fzV 28 g (qak (qax u))) = L:=qar hLp;simp [fzF,fzH,fzV,V.mapR,fzf,fzp,Blk.fz,hnt,qap _ hl,hmb,hmL];exact ht
end
section
open Go
noncomputable def q58:XC:=xs2 (xs2 r58)
theorem qu6:r58 = .seq (xs1 r58) (.seq (xs1 (xs2 r58)) q58):=rfl
def qgy (gz gu:Nat) (L:List V) (u:List Bool):Hp:=[(1000,.row gz 3 L),(2000,.row gu 1 (qcg u))]
def qsp (gu:Nat) (L:List V) (u:List Bool) (d:DT) (rest:List Nat) (r:V) (h:Hp):Prop:=
 ∃ gz,r = .tup [.ref 1000 gz 0 (L.length + d.sz) none,.sl (rest.map u8V) none]/\h = qgy gz gu (L ++ (d.fl L.length).map Tn.v) u
set_option maxRecDepth 100000 in
theorem q6n (gz gu a:Nat) (L:List V) (ha:L.length = a) (ha2:a < 1000000) (u:List Bool) (l:List Nat) (F:V) (hF:(F = .nil/\qax u = [])∨(F = .sl (qak (qax u)) none/\qax u ≠ []))
  (hc:l = []∨∃ x r,l = x :: r/\(x % 3 = 0∨qax u = []∨200 < a))
  (fr:Fr) (f0:lk fr 0 = some (.ref 1000 gz 0 (a + 1) none)) (f1:lk fr 1 = some (.sl (l.map u8V) none)) (f2:lk fr 2 = some (.ref 2000 gu 0 u.length (some u.length))) (f8:lk fr 8 = some F) (f10:lk fr 10 = some (qab a))
  (h:Hp) (hh:Sub (qgy gz gu (L ++ [lfN.v]) u) h) :
  q58.wpF Tryz.prog gl0 (qmj [.tmp 6,.tmp 7] (qsp gu L u .lf l.tail)) fr h:=by
 obtain ⟨q1,q2,-⟩:=hh
 have fin:∃ h2,Sub h2 h/\qsp gu L u .lf l.tail (.tup [.ref 1000 gz 0 (a + 1) none,.sl (l.tail.map u8V) none]) h2:=
  ⟨qgy gz gu (L ++ [lfN.v]) u,by simp [qgy,q1,q2],gz,by rw [ha]; rfl,by simp [qgy,DT.fl]⟩
 simp only [qab] at f10;rcases hc with rfl | ⟨x,r,rfl,hc⟩
 ·simp [q58,r58,xs2,x58,f0,f1,f2,f8,f10];exact .done fin
 ·have hm3:((x:Int)).tmod 3 = ((x % 3:Nat):Int):=qzo rfl;have hm0:(((x % 3:Nat):Int) = 0) = (x % 3 = 0):=propext ⟨fun h=>by omega,fun h=>by omega⟩;have hr1:¬ ((r.length:Int) + 1 = 0):=by omega
  have hr2:(0:Int) < (r.length:Int) + 1:=by omega
  have hr3:(1:Int)≤(r.length:Int) + 1:=by omega
  have hrt:List.take r.length (r.map u8V) = r.map u8V:=jf2 (by simp);have hre:r = []∨((Option.map u8V r[0]?).getD V.undef).cells.length = 1:=by cases r <;> simp [u8V,V.cells]
  by_cases c1:x % 3 = 0
  ·have c1i:((x:Int)).tmod 3 = 0:=by rw [hm3,c1]; rfl
   simp [q58,r58,xs2,x58,f0,f1,f2,f8,f10,u8V,hr1,hr2,hr3,hrt,c1i];exact ⟨hre,.done fin⟩
  ·have c1i:¬ ((x:Int)).tmod 3 = 0:=by rw [hm3]; omega
   rcases hF with ⟨rfl,hF⟩ | ⟨rfl,hF⟩
   ·simp [q58,r58,xs2,x58,f0,f1,f2,f8,f10,u8V,hr1,hr2,hr3,hrt,c1i];exact ⟨hre,.done fin⟩
   ·have c3:200 < a:=by
     rcases hc with h | h | h
     ·exact absurd h c1
     ·exact absurd h hF
     ·exact h
    have c2:¬ (qax u).length = 0:=fun e=>hF (List.length_eq_zero_iff.1 e);simp [q58,r58,xs2,x58,f0,f1,f2,f8,f10,u8V,hr1,hr2,hr3,hrt,c1i,hF,c3];exact ⟨hre,.done fin⟩
theorem qg5 (gz gu:Nat) (L:List V) (hL:jd6 L = true) (u:List Bool):qbc [1000,2000] (qgy gz gu L u) = true:=by
 simp [qbc,qgy,Blk.inB,jd7 _ _ hL,jd7 _ _ (qdh u)]
set_option maxRecDepth 100000 in
set_option maxHeartbeats 4000000 in
theorem jc8 (gz gu a:Nat) (L:List V) (ha:L.length = a) (hL:jd6 L = true) (ha2:a≤200) (u u1:List Bool) (hu:u.length≤1000) (x:Nat) (hx:x < 256) (r:List Nat) (hx3:x % 3 ≠ 0) (hfr:qax u ≠ [])
  (i:Nat) (hi:(qax u).getD (x / 3 % (qax u).length) 0 = i) (hu1:u.set i true = u1) (zd oo:DT) (zr orr:List Nat) (hzs:zd.sz < 1000000) (hos:oo.sz < 1000000)
  (hz:∀ gz L',jd6 L' = true->L'.length = a + 1->qan Tryz.prog gl0 58 [.ref 1000 gz 0 (a + 1) none,.sl (r.map u8V) none,.ref 2000 gu 0 u.length (some u.length)] (qgy gz gu L' u1) (qsp gu L' u1 zd zr))
  (ho:∀ gz L',jd6 L' = true->L'.length = a + 1 + zd.sz->qan Tryz.prog gl0 58 [.ref 1000 gz 0 (a + 1 + zd.sz) none,.sl (zr.map u8V) none,.ref 2000 gu 0 u.length (some u.length)] (qgy gz gu L' u1) (qsp gu L' u1 oo orr))
  (fr:Fr) (f0:lk fr 0 = some (.ref 1000 gz 0 (a + 1) none)) (f1:lk fr 1 = some (.sl ((x :: r).map u8V) none)) (f2:lk fr 2 = some (.ref 2000 gu 0 u.length (some u.length))) (f8:lk fr 8 = some (.sl (qak (qax u)) none)) (f10:lk fr 10 = some (qab a))
  (h:Hp) (hh:Sub (qgy gz gu (L ++ [lfN.v]) u) h) :
  q58.wpF Tryz.prog gl0 (qmj [.tmp 6,.tmp 7] (qsp gu L u (.nd i zd oo) orr)) fr h:=by
 obtain ⟨q1,q2,-⟩:=hh;have hm3:((x:Int)).tmod 3 = ((x % 3:Nat):Int):=qzo rfl;have c1i:¬ ((x:Int)).tmod 3 = 0:=by rw [hm3]; omega
 have hr1:¬ ((r.length:Int) + 1 = 0):=by omega
 have hr3:(1:Int)≤(r.length:Int) + 1:=by omega
 have hrt:List.take r.length (r.map u8V) = r.map u8V:=jf2 (by simp);have hre:r = []∨((Option.map u8V r[0]?).getD V.undef).cells.length = 1:=by cases r <;> simp [u8V,V.cells]
 have hfl:0 < (qax u).length:=List.length_pos_iff.2 hfr;have hmod:(((x / 3:Nat):Int)).tmod ((qax u).length:Int) = ((x / 3 % (qax u).length:Nat):Int):=qzo rfl;have hlt:=Nat.mod_lt (x / 3) hfl;have hmem:=qtw (x:=x) hfr;rw [hi] at hmem;obtain ⟨hiu,hif⟩:=qnb.1 hmem
 have hget:∀ hh,(qak (qax u))[x / 3 % (qax u).length]'hh = .int .i64 (i:Int):=fun hh=>by
  rw [qav]
  have:(qax u)[x / 3 % (qax u).length] = i:=by
   rw [<- hi,jf0,jf4 hlt]; rfl
  rw [this]
 have c3:¬ 200 < a:=by omega
 simp only [qab] at f10;obtain ⟨w,hw⟩:∃ w:Nat,x / 3 = w:=⟨_,rfl⟩
 have hw0:IntKind.u8.wrap ((x:Int) / 3) = (w:Int):=by
  show ((x:Int) / 3 % 256) = _;omega
 have hw3:IntKind.i64.wrap (w:Int) = (w:Int):=by rw [qau] <;> omega
 rw [hw] at hmod hlt hget hi;generalize hpE:w % (qax u).length = pI at *;have hbs:(qcg u).set i (.bool true) = qcg u1:=by rw [qmt,hu1]
 have hul:u1.length = u.length:=by rw [<- hu1]; simp
 have hend:u1.set i false = u:=by
  rw [<- hu1,List.set_set];rw [jf0,jf4 hiu] at hif;simp only [Option.getD_some] at hif;rw [<- hif]; exact List.set_getElem_self hiu
 have hbe:(qcg u1).set i (.bool false) = qcg u:=by rw [qmt,hend]
 have hi1:i < u1.length:=by omega
 have hmod':=hmod;have hlt':=hlt;have hget':=hget;clear hmod hlt hget hi;obtain ⟨M,hM⟩:∃ M,L ++ [lfN.v] = M:=⟨_,rfl⟩;have hMl:M.length = a + 1:=by rw [<- hM,List.length_append,ha]; rfl
 have hMp:jd6 M = true:=by rw [<- hM]; exact qbv hL rfl
 rw [hM] at q1;simp [q58,r58,xs2,x58,f0,f1,f2,f8,f10,u8V,hr1,hr3,hrt,c1i,hfr,c3,hw0,hw3,hmod',hlt',hget',q1,q2,hiu,qc0,hbs];refine ⟨hre,?_⟩;refine CallO.lend [1000,2000] (qgy gz gu M u1) [] (hz gz M hMp hMl) (by simp [jd9,V.inB,jd7 _ _ (qaj _)]) (by simp [qgy,q1]) (qg5 gz gu M hMp u1) (by simp) (by simp) ?_;rintro v h1 ⟨gz1,rfl,rfl⟩;rw [hMl];obtain ⟨N,hN⟩:∃ N,M ++ (zd.fl (a + 1)).map Tn.v = N:=⟨_,rfl⟩;have hNl:N.length = a + 1 + zd.sz:=by rw [<- hN,List.length_append,hMl]; simp
 have hNp:jd6 N = true:=by rw [<- hN]; exact qbv hMp (qa6 _)
 rw [hN];refine ⟨by simp [jd9,V.inB,jd7 _ _ (qaj _)],qg5 gz1 gu N hNp u1,?_⟩;simp [f0,f1,f2,f8,f10,qgy];refine CallO.lend [1000,2000] (qgy gz1 gu N u1) [] (ho gz1 N hNp hNl) (by simp [jd9,V.inB,jd7 _ _ (qaj _)]) (by simp [qgy]) (qg5 gz1 gu N hNp u1) (by simp) (by simp) ?_;rintro v h2 ⟨gz2,rfl,rfl⟩;rw [hNl];obtain ⟨Q,hQ⟩:∃ Q,N ++ (oo.fl (a + 1 + zd.sz)).map Tn.v = Q:=⟨_,rfl⟩;have hQl:Q.length = a + 1 + zd.sz + oo.sz:=by rw [<- hQ,List.length_append,hNl]; simp
 have hQp:jd6 Q = true:=by rw [<- hQ]; exact qbv hNp (qa6 _)
 have hQe:Q = L ++ lfN.v :: ((zd.fl (a + 1)).map Tn.v ++ (oo.fl (a + 1 + zd.sz)).map Tn.v):=by rw [<- hQ,<- hN,<- hM]; simp
 have haQ:a < Q.length:=by omega
 have hQa:Q[a]'haQ = lfN.v:=by subst ha; simp only [hQe]; simp
 have hset:Q.set a (.agg [.int .i64 (i:Int),.int .i64 ((a + 1:Nat):Int),.int .i64 ((a + 1 + zd.sz:Nat):Int)]) = L ++ ((DT.nd i zd oo).fl L.length).map Tn.v:=by
  subst ha;rw [hQe,List.set_append_right _ _ (jf5 _)];simp [DT.fl,Tn.v]
 rw [hQ];refine ⟨by simp [jd9,V.inB,jd7 _ _ (qaj _)],qg5 gz2 gu Q hQp u1,?_⟩;have haQ':a < a + 1 + zd.sz + oo.sz:=by omega
 have hQa':Q[a]'haQ = .agg [.int .i64 (-1),.int .i64 0,.int .i64 0]:=hQa;simp [f0,f1,f2,f8,f10,qgy,hiu,hi1,qc0,hbe,haQ,haQ',hQa'];refine ⟨by omega,.done ?_⟩;have hset':Q.set a (.agg [.int .i64 (i:Int),.int .i64 ((a:Int) + 1),.int .i64 ((a:Int) + 1 + (zd.sz:Int))]) = L ++ ((DT.nd i zd oo).fl L.length).map Tn.v:=by simpa using hset
 refine ⟨qgy gz2 gu (L ++ ((DT.nd i zd oo).fl L.length).map Tn.v) u,?_,gz2,?_,rfl⟩
 ·rw [<- hset']; simp [qgy]
 ·have e:L.length + (DT.nd i zd oo).sz = a + 1 + zd.sz + oo.sz:=by rw [ha,DT.sz]; omega
  rw [e]
end
section
open Go
theorem q2l:x58 = .seq (xs1 x58) (.seq (xs1 (xs2 x58)) (.seq e58 r58)):=rfl
theorem jal (k:Nat) (l:List Nat) (u:List Bool) (a:Nat):(l = []∨∃ x r,l = x :: r/\(x % 3 = 0∨qax u = []∨200 < a))->gro k a l u = (.lf,l.tail):=by
 rintro (rfl | ⟨x,r,rfl,h⟩)
 ·cases k <;> rfl
 ·cases k with
  | zero=>rfl
  | succ k=>unfold gro; rw [if_pos h]; rfl
theorem qoz:∀ (k a:Nat) (l:List Nat) (u:List Bool),∀ y ∈ (gro k a l u).2,y ∈ l
 | _,_,[],_,y,hy=>by simp [gro] at hy
 | 0,_,_ :: r,_,y,hy=>by simp only [gro] at hy; exact List.mem_cons_of_mem _ hy
 | k + 1,a,x :: r,u,y,hy=>by
  unfold gro at hy;split at hy
  ·exact List.mem_cons_of_mem _ hy
  ·exact List.mem_cons_of_mem _ (qoz _ _ _ _ _ (qoz _ _ _ _ _ hy))
theorem q6o (k:Nat) (ih:∀ (l:List Nat) (u:List Bool) (gz gu:Nat) (L:List V), l.length≤k -> (∀ x ∈ l, x < 256) -> u.length≤1000 -> jd6 L = true -> L.length + 2 * l.length < 900000 ->
      qan Tryz.prog gl0 58 [.ref 1000 gz 0 L.length none,.sl (l.map u8V) none,.ref 2000 gu 0 u.length (some u.length)] (qgy gz gu L u) (qsp gu L u (gro k L.length l u).1 (gro k L.length l u).2))
    (gz gu:Nat) (L:List V) (hL:jd6 L = true) (u:List Bool) (hu:u.length≤1000) (l:List Nat) (hl:l.length≤k + 1) (hb:∀ x ∈ l,x < 256) (hs:L.length + 2 * l.length < 900000) (F:V) (hF:(F = .nil/\qax u = [])∨(F = .sl (qak (qax u)) none/\qax u ≠ []))
    (fr:Fr) (f0:lk fr 0 = some (.ref 1000 gz 0 (L.length + 1) none)) (f1:lk fr 1 = some (.sl (l.map u8V) none)) (f2:lk fr 2 = some (.ref 2000 gu 0 u.length (some u.length))) (f8:lk fr 8 = some F) (f10:lk fr 10 = some (qab L.length))
    (h:Hp) (hh:Sub (qgy gz gu (L ++ [lfN.v]) u) h) :
    q58.wpF Tryz.prog gl0 (qmj [.tmp 6,.tmp 7] (qsp gu L u (gro (k + 1) L.length l u).1 (gro (k + 1) L.length l u).2)) fr h:=by
  by_cases hc:l = []∨∃ x r,l = x :: r/\(x % 3 = 0∨qax u = []∨200 < L.length)
  · rw [jal (k + 1) l u L.length hc];exact q6n gz gu L.length L rfl (by omega) u l F hF hc fr f0 f1 f2 f8 f10 h hh
  · cases l with
    | nil=>exact absurd (.inl rfl) hc
    | cons x r=>
      have hn:¬ (x % 3 = 0∨qax u = []∨200 < L.length):=fun h=>hc (.inr ⟨x,r,rfl,h⟩);have hfr:qax u ≠ []:=fun e=>hn (.inr (.inl e))
      obtain rfl:F = .sl (qak (qax u)) none:=by
        rcases hF with ⟨-,e⟩ | ⟨e,-⟩
        · exact absurd e hfr
        · exact e
      have hr:r.length≤k:=by simpa using hl
      have hbr:∀ y ∈ r,y < 256:=fun y hy=>hb y (List.mem_cons_of_mem _ hy);simp only [List.length_cons] at hs;unfold gro;rw [if_neg hn];generalize hi:(qax u).getD (x / 3 % (qax u).length) 0 = i;obtain ⟨u1,hu1⟩:∃ u1,u.set i true = u1:=⟨_,rfl⟩;have hul:u1.length = u.length:=by rw [<- hu1]; simp
      rw [hu1];obtain ⟨Z,hZ⟩:∃ Z,gro k (L.length + 1) r u1 = Z:=⟨_,rfl⟩;have hZl:=qlm k (L.length + 1) r u1;have hZs:=qt2 k (L.length + 1) r u1;rw [hZ] at hZl hZs ⊢;obtain ⟨O,hO⟩:∃ O,gro k (L.length + 1 + Z.1.sz) Z.2 u1 = O:=⟨_,rfl⟩;have hOs:=qt2 k (L.length + 1 + Z.1.sz) Z.2 u1;rw [hO] at hOs ⊢;have hZi:=Z.1.sz_inn;have hZb:∀ y ∈ Z.2,y < 256:=fun y hy=>hbr y (qoz k (L.length + 1) r u1 y (by rw [hZ]; exact hy));refine jc8 gz gu L.length L rfl hL (by omega) u u1 hu x (hb x List.mem_cons_self) r (fun e=>hn (.inl e)) hfr i hi hu1 Z.1 O.1 Z.2 O.2 (by omega) (by omega) ?_ ?_ fr f0 f1 f2 f8 f10 h hh
      · intro gz L' hp' hl';have:=ih r u1 gz gu L' hr hbr (by omega) hp' (by omega);rw [hl',hZ,hul] at this;exact this
      · intro gz L' hp' hl';have:=ih Z.2 u1 gz gu L' (by omega) hZb (by omega) hp' (by omega);rw [hl',hO,hul] at this;exact this
set_option maxRecDepth 100000 in
set_option maxHeartbeats 4000000 in
theorem q03:∀ (k:Nat) (l:List Nat) (u:List Bool) (gz gu:Nat) (L:List V),l.length≤k->(∀ x ∈ l,x < 256)->u.length≤1000->jd6 L = true->L.length + 2 * l.length < 900000->
  qan Tryz.prog gl0 58 [.ref 1000 gz 0 L.length none,.sl (l.map u8V) none,.ref 2000 gu 0 u.length (some u.length)] (qgy gz gu L u) (qsp gu L u (gro k L.length l u).1 (gro k L.length l u).2):=by
 intro k
 induction k with
 | zero=>
  intro l u gz gu L hl hb hu hL hs;obtain rfl:l = []:=List.length_eq_zero_iff.1 (by omega);have hs2:L.length < 900000:=by simpa using hs
  obtain ⟨K,hK⟩:∃ K,qsp gu L u (gro 0 L.length [] u).1 (gro 0 L.length [] u).2 = K:=⟨_,rfl⟩;rw [hK];refine CallO.of_WM 5 jco rfl ?_;change XC.wpM _ _ 5 x58 _ _ _;rw [q2l];simp [i58,xs1,xs2,x58];refine KM.mk (.done ?_);simp;refine KM.mk (.done ?_);simp;refine qtu (.ref 1000 gz 0 L.length none) (.sl (([]:List Nat).map u8V) none) (qaj _) u hu gu _ _ [(1000,.row gz 3 L)] (.inr ⟨gz,L,rfl,hL,rfl⟩) _ _ (by simp) (by simp) (by simp) (by simp) (by simp [qgy]) fun F hF=>?_;refine KM.mk (.done ?_);rw [qu6];simp [r58,xs1,xs2,x58];refine KM.mk (.done ?_);simp;intro ga gb;refine ⟨by omega,KM.mk (.done ?_)⟩;rw [<- hK];simp only [qgw];exact q6n (gb 1000) gu L.length L rfl (by omega) u [] F hF (.inl rfl) _ (by simp) (by simp) (by simp) (by simp) (by simp [qab]) _ (by simp [qgy,lfN,Tn.v])
 | succ k ih=>
  intro l u gz gu L hl hb hu hL hs;obtain ⟨K,hK⟩:∃ K,qsp gu L u (gro (k + 1) L.length l u).1 (gro (k + 1) L.length l u).2 = K:=⟨_,rfl⟩;rw [hK];refine CallO.of_WM 5 jco rfl ?_;change XC.wpM _ _ 5 x58 _ _ _;rw [q2l];simp [i58,xs1,xs2,x58];refine KM.mk (.done ?_);simp;refine KM.mk (.done ?_);simp;refine qtu (.ref 1000 gz 0 L.length none) (.sl (l.map u8V) none) (qaj _) u hu gu _ _ [(1000,.row gz 3 L)] (.inr ⟨gz,L,rfl,hL,rfl⟩) _ _ (by simp) (by simp) (by simp) (by simp) (by simp [qgy]) fun F hF=>?_;refine KM.mk (.done ?_);rw [qu6];simp [r58,xs1,xs2,x58];refine KM.mk (.done ?_);simp;intro ga gb;refine ⟨by omega,KM.mk (.done ?_)⟩;rw [<- hK];simp only [qgw];exact q6o k ih (gb 1000) gu L hL u hu l hl hb hs F hF _ (by simp) (by simp) (by simp) (by simp) (by simp [qab]) _ (by simp [qgy,lfN,Tn.v])
set_option maxRecDepth 100000 in
set_option maxHeartbeats 4000000 in
theorem qqk (k:Nat) (l:List Nat) (u:List Bool) (gu:Nat) (hl:l.length≤k + 1) (hb:∀ x ∈ l,x < 256) (hu:u.length≤1000) (hs:2 * l.length < 900000) :
  qan Tryz.prog gl0 58 [.nil,.sl (l.map u8V) none,.ref 2000 gu 0 u.length (some u.length)] [(2000,.row gu 1 (qcg u))] (qsp gu [] u (gro (k + 1) 0 l u).1 (gro (k + 1) 0 l u).2):=by
 have ih:=q03 k;obtain ⟨K,hK⟩:∃ K,qsp gu [] u (gro (k + 1) 0 l u).1 (gro (k + 1) 0 l u).2 = K:=⟨_,rfl⟩;rw [hK];refine CallO.of_WM 5 jco rfl ?_;change XC.wpM _ _ 5 x58 _ _ _;rw [q2l];simp [i58,xs1,xs2,x58];refine KM.mk (.done ?_);simp;refine KM.mk (.done ?_);simp;refine qtu .nil (.sl (l.map u8V) none) (qaj _) u hu gu _ _ [] (.inl ⟨rfl,rfl⟩) _ _ (by simp) (by simp) (by simp) (by simp) (by simp) fun F hF=>?_
 have hFp:F.pure = true:=by
  rcases hF with ⟨rfl,-⟩ | ⟨rfl,-⟩
  ·rfl
  ·exact qa8 _
 refine KM.mk (.done ?_);rw [qu6];simp [r58,xs1,xs2,x58];refine KM.mk (.done ?_);simp;intro ga gb;refine KM.mk (.move 34 1000 _ (by simp) (by simp; rfl) fun g'=>.done ?_);rw [<- hK];simp only [qgw];exact q6o k ih g' gu [] rfl u hu l hl hb (by simpa using hs) F hF _ (by simp) (by simp [qa0 _ (qaj _)]) (by simp) (by simp [qcy _ hFp]) (by simp [qab]) _ (by simp [qgy,lfN,Tn.v,qaz (qdh u)])
end
section
open Go
def qmk (l:List Nat) (n:Nat):DT:=(gro (l.length + 1) 0 l (List.replicate n false)).1
set_option maxRecDepth 100000 in
theorem q65 (l:List Nat) (n:Nat) (hb:∀ x ∈ l,x < 256) (hn:n≤1000) (hs:2 * l.length < 900000) :
  qac Tryz.prog gl0 16 [.sl (l.map u8V) none,qab n] (.sl (((qmk l n).fl 0).map Tn.v) none):=by
 have h1:=fun gu=>qqk l.length l (List.replicate n false) gu (by omega) hb (by simpa using hn) hs;have hbl:qcg (List.replicate n false) = List.replicate n (.bool false):=by simp [qcg]
 unfold qmk;have hp:=fun (d:DT)=>qa6 (d.fl 0);generalize gro (l.length + 1) 0 l (List.replicate n false) = Z at h1 ⊢;simp only [List.length_replicate] at h1;refine qac.of_WM 3 2 ok16 rfl ?_;simp [i16,x16,qab];refine KM.mk (.done ?_);simp;intro gf;refine ⟨by omega,KM.mk (.move 9 2000 _ (by simp) (by simp; rfl) fun gu=>.done ?_)⟩;simp [qa0 _ (qaj l)];have h2:=h1 gu;rw [hbl] at h2;refine CallO.lend [1000,2000] [(2000,.row gu 1 (List.replicate n (.bool false)))] [] h2 (by simp [jd9,V.inB,jd7 _ _ (qaj _)]) (by simp) (by rw [<- hbl]; simp [qbc,Blk.inB,jd7 _ _ (qdh _)]) (by simp) (by simp) ?_;rintro v h3 ⟨gz,rfl,rfl⟩;refine ⟨by simp [V.inB,jd9,jd7 _ _ (qaj _)],qg5 gz gu _ (by simpa using hp Z.1) _,?_⟩;simp [qgy];refine KM.mk (.done ?_);simp [qar (hp Z.1),-List.map_map];exact jf2 (by simp)
theorem qpr (l:List Nat) (n:Nat):(qmk l n).ok n []:=by
 have:=qt1 (l.length + 1) 0 l (List.replicate n false) [] (fun _ h=>by cases h);rw [List.length_replicate] at this;exact this
theorem qv1 (l:List Nat) (n:Nat):(qmk l n).sz≤2 * l.length + 1:=qt2 _ _ _ _
end
end Go.Proofs.YtpaopccohkldlaaGreatDoor
