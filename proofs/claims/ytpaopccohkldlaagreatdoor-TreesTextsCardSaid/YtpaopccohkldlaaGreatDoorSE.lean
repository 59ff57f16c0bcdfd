/- Lemmas. Conditions: none. -/
import Derived.Test.YtpaopccohkldlaaGreatDoorY3
import Derived.Test.YtpaopccohkldlaaGreatDoorA5
import Derived.Test.YtpaopccohkldlaaGreatDoorR1
import Derived.Test.YtpaopccohkldlaaGreatDoorXL3
set_option linter.all false
namespace Go.Proofs.YtpaopccohkldlaaGreatDoor
section
open Go
def qay (u:List Bool):List Nat:=(List.range u.length).filter fun i=>!(u.getD i false)
theorem qob {u:List Bool} {i:Nat}:i ∈ qay u↔i < u.length/\u.getD i false = false:=by
 unfold qay;rw [List.mem_filter,List.mem_range];simp
def gro:Nat->Nat->List Nat->List Bool->DT × List Nat
  | _,_,[],_=>(.lf,[])
  | 0,_,_ :: r,_=>(.lf,r)
  | k + 1,a,x :: r,u=>
    if x % 3 = 0∨qay u = []∨200 < a then (.lf,r) else
      (.nd ((qay u).getD (x / 3 % (qay u).length) 0) (gro k (a + 1) r (u.set ((qay u).getD (x / 3 % (qay u).length) 0) true)).1
        (gro k (a + 1 + (gro k (a + 1) r (u.set ((qay u).getD (x / 3 % (qay u).length) 0) true)).1.sz) (gro k (a + 1) r (u.set ((qay u).getD (x / 3 % (qay u).length) 0) true)).2 (u.set ((qay u).getD (x / 3 % (qay u).length) 0) true)).1,
       (gro k (a + 1 + (gro k (a + 1) r (u.set ((qay u).getD (x / 3 % (qay u).length) 0) true)).1.sz) (gro k (a + 1) r (u.set ((qay u).getD (x / 3 % (qay u).length) 0) true)).2 (u.set ((qay u).getD (x / 3 % (qay u).length) 0) true)).2)
def DT.inn:DT->Nat
 | .lf=>0
 | .nd _ z o=>1 + z.inn + o.inn
theorem DT.sz_inn:∀ d:DT,d.sz = 2 * d.inn + 1
 | .lf=>rfl
 | .nd _ z o=>by rw [DT.sz,DT.inn,z.sz_inn,o.sz_inn]; omega
theorem qmr:∀ (k a:Nat) (l:List Nat) (u:List Bool),(gro k a l u).1.inn + (gro k a l u).2.length≤l.length
 | _,_,[],_=>by simp [gro,DT.inn]
 | 0,_,_ :: r,_=>by simp [gro,DT.inn]
 | k + 1,a,x :: r,u=>by
  unfold gro;split
  ·simp [DT.inn]
  ·have h1:=qmr k (a + 1) r (u.set ((qay u).getD (x / 3 % (qay u).length) 0) true);generalize gro k (a + 1) r (u.set ((qay u).getD (x / 3 % (qay u).length) 0) true) = Z at h1 ⊢;have h2:=qmr k (a + 1 + Z.1.sz) Z.2 (u.set ((qay u).getD (x / 3 % (qay u).length) 0) true);generalize gro k (a + 1 + Z.1.sz) Z.2 (u.set ((qay u).getD (x / 3 % (qay u).length) 0) true) = O at h2 ⊢;simp only [DT.inn,List.length_cons];omega
theorem qvm (k a:Nat) (l:List Nat) (u:List Bool):(gro k a l u).1.sz≤2 * l.length + 1:=by
 have:=qmr k a l u;rw [DT.sz_inn]; omega
theorem qvd {u:List Bool} {x:Nat} (h:qay u ≠ []):(qay u).getD (x / 3 % (qay u).length) 0 ∈ qay u:=by
 have h1:=Nat.mod_lt (x / 3) (List.length_pos_iff.2 h);rw [jh0,jh4 h1];exact jh3 h1
theorem qvl:∀ (k a:Nat) (l:List Nat) (u:List Bool) (us:List Nat),(∀ i ∈ us,u.getD i false = true)->(gro k a l u).1.ok u.length us
 | _,_,[],_,_,_=>by simp only [gro]; trivial
 | 0,_,_ :: r,_,_,_=>by simp only [gro]; trivial
 | k + 1,a,x :: r,u,us,h=>by
  unfold gro;split
  ·trivial
  ·rename_i hn;have hf:qay u ≠ []:=fun e=>hn (.inr (.inl e));have hi:=qob.1 (qvd (x:=x) hf);generalize (qay u).getD (x / 3 % (qay u).length) 0 = i at hi ⊢
   have hus:∀ j ∈ i :: us,(u.set i true).getD j false = true:=fun j hj=>by
    rw [jh0,List.getElem?_set];split
    ·rename_i e; rw [if_pos hi.1]; rfl
    ·rename_i e;rcases List.mem_cons.1 hj with e2 | e2
     ·exact absurd e2.symm e
     ·have:=h j e2;rw [jh0] at this;exact this
   have h1:=qvl k (a + 1) r (u.set i true) (i :: us) hus;rw [List.length_set] at h1;generalize gro k (a + 1) r (u.set i true) = Z at h1 ⊢;have h2:=qvl k (a + 1 + Z.1.sz) Z.2 (u.set i true) (i :: us) hus;rw [List.length_set] at h2;exact ⟨hi.1,fun hm=>by rw [h i hm] at hi; exact Bool.noConfusion hi.2,h1,h2⟩
end
section
open Go
def qcu (u:List Bool):List V:=u.map V.bool
theorem qdb (u:List Bool) (i:Nat) (h:i < (qcu u).length):(qcu u)[i] = .bool (u[i]'(by simpa [qcu] using h)):=by simp [qcu]
@[simp] theorem q5y (u:List Bool):(qcu u).length = u.length:=by simp [qcu]
theorem qek (u:List Bool):jf8 (qcu u) = true:=V.pureL_map _ u fun _=>rfl
theorem qnt (u:List Bool) (i:Nat) (b:Bool):(qcu u).set i (.bool b) = qcu (u.set i b):=by simp [qcu,List.map_set]
def qe5 (u:List Bool) (j:Nat):List Nat:=(List.range j).filter fun i=>!(u.getD i false)
theorem qoc (u:List Bool):qe5 u u.length = qay u:=rfl
theorem qvc (u:List Bool) (j:Nat) (hj:j < u.length):qe5 u (j + 1) = if u[j] = true then qe5 u j else qe5 u j ++ [j]:=by
 have e:u.getD j false = u[j]:=by rw [jh0,jh4 hj]; rfl
 unfold qe5;rw [List.range_succ,List.filter_append]
 cases hu:u[j] with
 | true=>
  rw [hu] at e;rw [if_pos rfl,List.filter_cons_of_neg (by rw [e]; simp),List.filter_nil,List.append_nil]
 | false=>
  rw [hu] at e;rw [if_neg (by simp),List.filter_cons_of_pos (by rw [e]; rfl),List.filter_nil]
theorem qod (u:List Bool) (j:Nat):(qe5 u j).length≤j:=by
 unfold qe5;exact Nat.le_trans (List.length_filter_le _ _) (by simp)
noncomputable def r58:XC:=xs2 (xs2 (xs2 x58))
noncomputable def e58:XC:=xs1 (xs2 (xs2 x58))
set_option maxRecDepth 100000 in
theorem qvb (T:V) (l:V) (hl:l.pure = true) (u:List Bool) (hu:u.length≤1000) (gu:Nat) (R:Fr->Hp->Prop) (Q:IQ) (X:Hp) (hX:(T = .nil/\X = [])∨∃ gz L,T = .ref 1000 gz 0 L.length none/\jf8 L = true/\X = [(1000,.row gz 3 L)])
  (fr:Fr) (h:Hp) (f8:lk fr 8 = some .nil) (f2:lk fr 2 = some (.ref 2000 gu 0 u.length (some u.length))) (f1:lk fr 1 = some l) (f0:lk fr 0 = some T) (hh:Sub ((2000,.row gu 1 (qcu u)) :: X) h)
  (tail:∀ F:V,((F = .nil/\qay u = [])∨(F = .sl (qae (qay u)) none/\qay u ≠ []))->R [(8,F),(2,.ref 2000 gu 0 u.length (some u.length)),(1,l),(0,T)] ((2000,.row gu 1 (qcu u)) :: X)) :
  e58.wpF Tryz.prog gl0 (qk6 R Q) fr h:=by
 rcases hX with ⟨rfl,rfl⟩ | ⟨gz,L,rfl,hLp,rfl⟩
 ·obtain ⟨b2,-⟩:=hh;simp [e58,xs1,xs2,x58]
  refine jgv (X:=Nat × Option (Nat × List V)) (fun z=>[(9,qaa z.1),(8,qbl 28 z.2),(2,.ref 2000 gu 0 u.length (some u.length)),(1,l),(0,.nil)]) (fun z=>(2000,.row gu 1 (qcu u)) :: qbj 28 1 z.2)
   (fun z=>z.1≤u.length/\qa5 z.2 = qae (qe5 u z.1)/\(z.2 = none↔qe5 u z.1 = [])) (fun z=>u.length - z.1) (.done ⟨(0,none),⟨by simp,by simp [qa5,qe5,qae],by simp [qe5]⟩,by simp [qaa,qbl,f8,f2,f1,f0],by simp [qbj,b2,b2]⟩) ?_
  rintro ⟨j,acc⟩ ⟨q1,q2,q3⟩;dsimp only at q1 q2 q3 ⊢;simp [qaa];refine jhr (fun hb=>?_) (fun hb=>?_)
  ·have hj:j < u.length:=jhy hb;have hw:=qbb j (by omega);have hs:=qvc u j hj;have hfl:=qod u j;have hL:=congrArg List.length q2;simp only [qee] at hL
   cases hu2:u[j] with
   | true=>
    rw [if_pos hu2] at hs;have hsub:Sub (qbj 28 1 acc) (qbj 28 1 acc):=by rcases acc with _ | ⟨g,r⟩ <;> simp [qbj]
    simp [qdb,hj,hu2];refine .done ⟨j + 1,acc,⟨hj,by rw [hs]; exact q2,by rw [hs]; exact q3⟩,by simp [hw],?_,by omega⟩;rcases acc with _ | ⟨g,r⟩ <;> simp [qbj]
   | false=>
    rw [if_neg (by rw [hu2]; simp)] at hs;have hnx:qae (qe5 u (j + 1)) = qae (qe5 u j) ++ [.int .i64 (j:Int)]:=by rw [hs]; simp [qae,qaa]
    rw [<- q2] at hnx;rcases acc with _ | ⟨g,r⟩
    ·simp [qdb,hj,hu2,qbl,qbj];intro ga gb;exact .done ⟨j + 1,some (gb 28,[.int .i64 (j:Int)]),⟨hj,by simpa [qa5] using hnx.symm,by rw [hs]; simp⟩,by simp [hw],by simp,by omega⟩
    ·simp only [qa5] at hL;simp [qdb,hj,hu2,qbl,qbj];intro ga gb;exact ⟨by omega,.done ⟨j + 1,some (gb 28,r ++ [.int .i64 (j:Int)]),⟨hj,by simpa [qa5] using hnx.symm,by rw [hs]; simp⟩,by simp [hw],by simp,by omega⟩⟩
  ·have hj:j = u.length:=by have:=jhz hb; omega
   subst hj;rw [qoc] at q2 q3;have hup:=qek u;rcases acc with _ | ⟨g,r⟩
   ·have ht:=tail .nil (.inl ⟨rfl,q3.1 rfl⟩);simp [qbl,qbj];refine .mk [(8,.nil),(2,.ref 2000 gu 0 u.length (some u.length)),(1,l),(0,.nil)] ((2000,.row gu 1 (qcu u)) :: []) (by simp) (by simp) (.done ?_);exact ht
   ·simp only [qa5] at q2;subst q2;have hn:qay u ≠ []:=fun e=>by have:=q3.2 e; cases this
    have ht:=tail (.sl (qae (qay u)) none) (.inr ⟨rfl,hn⟩);have hnt:List.take (qay u).length (qae (qay u)) = qae (qay u):=jh2 (by simp);simp [qbl,qbj];refine .mk [(8,.ref 28 g 0 (qay u).length none),(2,.ref 2000 gu 0 u.length (some u.length)),(1,l),(0,.nil)] ((28,.row g 1 (qae (qay u))) :: (2000,.row gu 1 (qcu u)) :: []) (by simp) (by simp) (.frz (g:=g) (sz:=1) (es:=qae (qay u)) 28 (by simp) (qa3 _) (.done ?_));have hmb:(qcu u).map (fzV 28 g (qae (qay u))) = qcu u:=qa0 hup;simp [fzF,fzH,fzV,V.mapR,fzf,fzp,Blk.fz,hnt,qaq _ hl,hmb];exact ht
 ·obtain ⟨b2,b1,-⟩:=hh;simp [e58,xs1,xs2,x58]
  refine jgv (X:=Nat × Option (Nat × List V)) (fun z=>[(9,qaa z.1),(8,qbl 28 z.2),(2,.ref 2000 gu 0 u.length (some u.length)),(1,l),(0,.ref 1000 gz 0 L.length none)]) (fun z=>(2000,.row gu 1 (qcu u)) :: (1000,.row gz 3 L) :: qbj 28 1 z.2)
   (fun z=>z.1≤u.length/\qa5 z.2 = qae (qe5 u z.1)/\(z.2 = none↔qe5 u z.1 = [])) (fun z=>u.length - z.1) (.done ⟨(0,none),⟨by simp,by simp [qa5,qe5,qae],by simp [qe5]⟩,by simp [qaa,qbl,f8,f2,f1,f0],by simp [qbj,b2,b1]⟩) ?_
  rintro ⟨j,acc⟩ ⟨q1,q2,q3⟩;dsimp only at q1 q2 q3 ⊢;simp [qaa];refine jhr (fun hb=>?_) (fun hb=>?_)
  ·have hj:j < u.length:=jhy hb;have hw:=qbb j (by omega);have hs:=qvc u j hj;have hfl:=qod u j;have hL:=congrArg List.length q2;simp only [qee] at hL
   cases hu2:u[j] with
   | true=>
    rw [if_pos hu2] at hs;have hsub:Sub (qbj 28 1 acc) (qbj 28 1 acc):=by rcases acc with _ | ⟨g,r⟩ <;> simp [qbj]
    simp [qdb,hj,hu2];refine .done ⟨j + 1,acc,⟨hj,by rw [hs]; exact q2,by rw [hs]; exact q3⟩,by simp [hw],?_,by omega⟩;rcases acc with _ | ⟨g,r⟩ <;> simp [qbj]
   | false=>
    rw [if_neg (by rw [hu2]; simp)] at hs;have hnx:qae (qe5 u (j + 1)) = qae (qe5 u j) ++ [.int .i64 (j:Int)]:=by rw [hs]; simp [qae,qaa]
    rw [<- q2] at hnx;rcases acc with _ | ⟨g,r⟩
    ·simp [qdb,hj,hu2,qbl,qbj];intro ga gb;exact .done ⟨j + 1,some (gb 28,[.int .i64 (j:Int)]),⟨hj,by simpa [qa5] using hnx.symm,by rw [hs]; simp⟩,by simp [hw],by simp,by omega⟩
    ·simp only [qa5] at hL;simp [qdb,hj,hu2,qbl,qbj];intro ga gb;exact ⟨by omega,.done ⟨j + 1,some (gb 28,r ++ [.int .i64 (j:Int)]),⟨hj,by simpa [qa5] using hnx.symm,by rw [hs]; simp⟩,by simp [hw],by simp,by omega⟩⟩
  ·have hj:j = u.length:=by have:=jhz hb; omega
   subst hj;rw [qoc] at q2 q3;have hup:=qek u;rcases acc with _ | ⟨g,r⟩
   ·have ht:=tail .nil (.inl ⟨rfl,q3.1 rfl⟩);simp [qbl,qbj];refine .mk [(8,.nil),(2,.ref 2000 gu 0 u.length (some u.length)),(1,l),(0,.ref 1000 gz 0 L.length none)] ((2000,.row gu 1 (qcu u)) :: [(1000,.row gz 3 L)]) (by simp) (by simp) (.done ?_);exact ht
   ·simp only [qa5] at q2;subst q2;have hn:qay u ≠ []:=fun e=>by have:=q3.2 e; cases this
    have ht:=tail (.sl (qae (qay u)) none) (.inr ⟨rfl,hn⟩);have hnt:List.take (qay u).length (qae (qay u)) = qae (qay u):=jh2 (by simp);simp [qbl,qbj];refine .mk [(8,.ref 28 g 0 (qay u).length none),(2,.ref 2000 gu 0 u.length (some u.length)),(1,l),(0,.ref 1000 gz 0 L.length none)] ((28,.row g 1 (qae (qay u))) :: (2000,.row gu 1 (qcu u)) :: [(1000,.row gz 3 L)]) (by simp) (by simp) (.frz (g:=g) (sz:=1) (es:=qae (qay u)) 28 (by simp) (qa3 _) (.done ?_));have hmb:(qcu u).map (fzV 28 g (qae (qay u))) = qcu u:=qa0 hup;have hmL:L.map (fzV 28 g (qae (qay u))) = L:=qa0 hLp;simp [fzF,fzH,fzV,V.mapR,fzf,fzp,Blk.fz,hnt,qaq _ hl,hmb,hmL];exact ht
end
section
open Go
noncomputable def q58:XC:=xs2 (xs2 r58)
theorem qws:r58 = .seq (xs1 r58) (.seq (xs1 (xs2 r58)) q58):=rfl
def qhv (gz gu:Nat) (L:List V) (u:List Bool):Hp:=[(1000,.row gz 3 L),(2000,.row gu 1 (qcu u))]
def qt0 (gu:Nat) (L:List V) (u:List Bool) (d:DT) (rest:List Nat) (r:V) (h:Hp):Prop:=
 ∃ gz,r = .tup [.ref 1000 gz 0 (L.length + d.sz) none,.sl (rest.map u8V) none]/\h = qhv gz gu (L ++ (d.fl L.length).map Tn.v) u
set_option maxRecDepth 100000 in
theorem q8r (gz gu a:Nat) (L:List V) (ha:L.length = a) (ha2:a < 1000000) (u:List Bool) (l:List Nat) (F:V) (hF:(F = .nil/\qay u = [])∨(F = .sl (qae (qay u)) none/\qay u ≠ []))
  (hc:l = []∨∃ x r,l = x :: r/\(x % 3 = 0∨qay u = []∨200 < a))
  (fr:Fr) (f0:lk fr 0 = some (.ref 1000 gz 0 (a + 1) none)) (f1:lk fr 1 = some (.sl (l.map u8V) none)) (f2:lk fr 2 = some (.ref 2000 gu 0 u.length (some u.length))) (f8:lk fr 8 = some F) (f10:lk fr 10 = some (qaa a))
  (h:Hp) (hh:Sub (qhv gz gu (L ++ [lfN.v]) u) h) :
  q58.wpF Tryz.prog gl0 (qqq [.tmp 6,.tmp 7] (qt0 gu L u .lf l.tail)) fr h:=by
 obtain ⟨q1,q2,-⟩:=hh
 have fin:∃ h2,Sub h2 h/\qt0 gu L u .lf l.tail (.tup [.ref 1000 gz 0 (a + 1) none,.sl (l.tail.map u8V) none]) h2:=
  ⟨qhv gz gu (L ++ [lfN.v]) u,by simp [qhv,q1,q2],gz,by rw [ha]; rfl,by simp [qhv,DT.fl]⟩
 simp only [qaa] at f10;rcases hc with rfl | ⟨x,r,rfl,hc⟩
 ·simp [q58,r58,xs2,x58,f0,f1,f2,f8,f10];exact .done fin
 ·have hm3:((x:Int)).tmod 3 = ((x % 3:Nat):Int):=q98 rfl;have hm0:(((x % 3:Nat):Int) = 0) = (x % 3 = 0):=propext ⟨fun h=>by omega,fun h=>by omega⟩;have hr1:¬ ((r.length:Int) + 1 = 0):=by omega
  have hr2:(0:Int) < (r.length:Int) + 1:=by omega
  have hr3:(1:Int)≤(r.length:Int) + 1:=by omega
  have hrt:List.take r.length (r.map u8V) = r.map u8V:=jh2 (by simp);have hre:r = []∨((Option.map u8V r[0]?).getD V.undef).cells.length = 1:=by cases r <;> simp [u8V,V.cells]
  by_cases c1:x % 3 = 0
  ·have c1i:((x:Int)).tmod 3 = 0:=by rw [hm3,c1]; rfl
   simp [q58,r58,xs2,x58,f0,f1,f2,f8,f10,u8V,hr1,hr2,hr3,hrt,c1i];exact ⟨hre,.done fin⟩
  ·have c1i:¬ ((x:Int)).tmod 3 = 0:=by rw [hm3]; omega
   rcases hF with ⟨rfl,hF⟩ | ⟨rfl,hF⟩
   ·simp [q58,r58,xs2,x58,f0,f1,f2,f8,f10,u8V,hr1,hr2,hr3,hrt,c1i];exact ⟨hre,.done fin⟩
   ·have c3:200 < a:=by
     rcases hc with h | h | h
     ·exact absurd h c1
     ·exact absurd h hF
     ·exact h
    have c2:¬ (qay u).length = 0:=fun e=>hF (List.length_eq_zero_iff.1 e);simp [q58,r58,xs2,x58,f0,f1,f2,f8,f10,u8V,hr1,hr2,hr3,hrt,c1i,hF,c3];exact ⟨hre,.done fin⟩
theorem qjr (gz gu:Nat) (L:List V) (hL:jf8 L = true) (u:List Bool):qbp [1000,2000] (qhv gz gu L u) = true:=by
 simp [qbp,qhv,Blk.inB,jf9 _ _ hL,jf9 _ _ (qek u)]
set_option maxRecDepth 100000 in
set_option maxHeartbeats 4000000 in
theorem jfa (gz gu a:Nat) (L:List V) (ha:L.length = a) (hL:jf8 L = true) (ha2:a≤200) (u u1:List Bool) (hu:u.length≤1000) (x:Nat) (hx:x < 256) (r:List Nat) (hx3:x % 3 ≠ 0) (hfr:qay u ≠ [])
  (i:Nat) (hi:(qay u).getD (x / 3 % (qay u).length) 0 = i) (hu1:u.set i true = u1) (zd oo:DT) (zr orr:List Nat) (hzs:zd.sz < 1000000) (hos:oo.sz < 1000000)
  (hz:∀ gz L',jf8 L' = true->L'.length = a + 1->qao Tryz.prog gl0 58 [.ref 1000 gz 0 (a + 1) none,.sl (r.map u8V) none,.ref 2000 gu 0 u.length (some u.length)] (qhv gz gu L' u1) (qt0 gu L' u1 zd zr))
  (ho:∀ gz L',jf8 L' = true->L'.length = a + 1 + zd.sz->qao Tryz.prog gl0 58 [.ref 1000 gz 0 (a + 1 + zd.sz) none,.sl (zr.map u8V) none,.ref 2000 gu 0 u.length (some u.length)] (qhv gz gu L' u1) (qt0 gu L' u1 oo orr))
  (fr:Fr) (f0:lk fr 0 = some (.ref 1000 gz 0 (a + 1) none)) (f1:lk fr 1 = some (.sl ((x :: r).map u8V) none)) (f2:lk fr 2 = some (.ref 2000 gu 0 u.length (some u.length))) (f8:lk fr 8 = some (.sl (qae (qay u)) none)) (f10:lk fr 10 = some (qaa a))
  (h:Hp) (hh:Sub (qhv gz gu (L ++ [lfN.v]) u) h) :
  q58.wpF Tryz.prog gl0 (qqq [.tmp 6,.tmp 7] (qt0 gu L u (.nd i zd oo) orr)) fr h:=by
 obtain ⟨q1,q2,-⟩:=hh;have hm3:((x:Int)).tmod 3 = ((x % 3:Nat):Int):=q98 rfl;have c1i:¬ ((x:Int)).tmod 3 = 0:=by rw [hm3]; omega
 have hr1:¬ ((r.length:Int) + 1 = 0):=by omega
 have hr3:(1:Int)≤(r.length:Int) + 1:=by omega
 have hrt:List.take r.length (r.map u8V) = r.map u8V:=jh2 (by simp);have hre:r = []∨((Option.map u8V r[0]?).getD V.undef).cells.length = 1:=by cases r <;> simp [u8V,V.cells]
 have hfl:0 < (qay u).length:=List.length_pos_iff.2 hfr;have hmod:(((x / 3:Nat):Int)).tmod ((qay u).length:Int) = ((x / 3 % (qay u).length:Nat):Int):=q98 rfl;have hlt:=Nat.mod_lt (x / 3) hfl;have hmem:=qvd (x:=x) hfr;rw [hi] at hmem;obtain ⟨hiu,hif⟩:=qob.1 hmem
 have hget:∀ hh,(qae (qay u))[x / 3 % (qay u).length]'hh = .int .i64 (i:Int):=fun hh=>by
  rw [qap]
  have:(qay u)[x / 3 % (qay u).length] = i:=by
   rw [<- hi,jh0,jh4 hlt]; rfl
  rw [this]
 have c3:¬ 200 < a:=by omega
 simp only [qaa] at f10;obtain ⟨w,hw⟩:∃ w:Nat,x / 3 = w:=⟨_,rfl⟩
 have hw0:IntKind.u8.wrap ((x:Int) / 3) = (w:Int):=by
  show ((x:Int) / 3 % 256) = _;omega
 have hw3:IntKind.i64.wrap (w:Int) = (w:Int):=by rw [qar] <;> omega
 rw [hw] at hmod hlt hget hi;generalize hpE:w % (qay u).length = pI at *;have hbs:(qcu u).set i (.bool true) = qcu u1:=by rw [qnt,hu1]
 have hul:u1.length = u.length:=by rw [<- hu1]; simp
 have hend:u1.set i false = u:=by
  rw [<- hu1,List.set_set];rw [jh0,jh4 hiu] at hif;simp only [Option.getD_some] at hif;rw [<- hif]; exact List.set_getElem_self hiu
 have hbe:(qcu u1).set i (.bool false) = qcu u:=by rw [qnt,hend]
 have hi1:i < u1.length:=by omega
 have hmod':=hmod;have hlt':=hlt;have hget':=hget;clear hmod hlt hget hi;obtain ⟨M,hM⟩:∃ M,L ++ [lfN.v] = M:=⟨_,rfl⟩;have hMl:M.length = a + 1:=by rw [<- hM,List.length_append,ha]; rfl
 have hMp:jf8 M = true:=by rw [<- hM]; exact qbt hL rfl
 rw [hM] at q1;simp [q58,r58,xs2,x58,f0,f1,f2,f8,f10,u8V,hr1,hr3,hrt,c1i,hfr,c3,hw0,hw3,hmod',hlt',hget',q1,q2,hiu,qdb,hbs];refine ⟨hre,?_⟩;refine CallO.lend [1000,2000] (qhv gz gu M u1) [] (hz gz M hMp hMl) (by simp [jgb,V.inB,jf9 _ _ (qad _)]) (by simp [qhv,q1]) (qjr gz gu M hMp u1) (by simp) (by simp) ?_;rintro v h1 ⟨gz1,rfl,rfl⟩;rw [hMl];obtain ⟨N,hN⟩:∃ N,M ++ (zd.fl (a + 1)).map Tn.v = N:=⟨_,rfl⟩;have hNl:N.length = a + 1 + zd.sz:=by rw [<- hN,List.length_append,hMl]; simp
 have hNp:jf8 N = true:=by rw [<- hN]; exact qbt hMp (qax _)
 rw [hN];refine ⟨by simp [jgb,V.inB,jf9 _ _ (qad _)],qjr gz1 gu N hNp u1,?_⟩;simp [f0,f1,f2,f8,f10,qhv];refine CallO.lend [1000,2000] (qhv gz1 gu N u1) [] (ho gz1 N hNp hNl) (by simp [jgb,V.inB,jf9 _ _ (qad _)]) (by simp [qhv]) (qjr gz1 gu N hNp u1) (by simp) (by simp) ?_;rintro v h2 ⟨gz2,rfl,rfl⟩;rw [hNl];obtain ⟨Q,hQ⟩:∃ Q,N ++ (oo.fl (a + 1 + zd.sz)).map Tn.v = Q:=⟨_,rfl⟩;have hQl:Q.length = a + 1 + zd.sz + oo.sz:=by rw [<- hQ,List.length_append,hNl]; simp
 have hQp:jf8 Q = true:=by rw [<- hQ]; exact qbt hNp (qax _)
 have hQe:Q = L ++ lfN.v :: ((zd.fl (a + 1)).map Tn.v ++ (oo.fl (a + 1 + zd.sz)).map Tn.v):=by rw [<- hQ,<- hN,<- hM]; simp
 have haQ:a < Q.length:=by omega
 have hQa:Q[a]'haQ = lfN.v:=by subst ha; simp only [hQe]; simp
 have hset:Q.set a (.agg [.int .i64 (i:Int),.int .i64 ((a + 1:Nat):Int),.int .i64 ((a + 1 + zd.sz:Nat):Int)]) = L ++ ((DT.nd i zd oo).fl L.length).map Tn.v:=by
  subst ha;rw [hQe,List.set_append_right _ _ (jh5 _)];simp [DT.fl,Tn.v]
 rw [hQ];refine ⟨by simp [jgb,V.inB,jf9 _ _ (qad _)],qjr gz2 gu Q hQp u1,?_⟩;have haQ':a < a + 1 + zd.sz + oo.sz:=by omega
 have hQa':Q[a]'haQ = .agg [.int .i64 (-1),.int .i64 0,.int .i64 0]:=hQa;simp [f0,f1,f2,f8,f10,qhv,hiu,hi1,qdb,hbe,haQ,haQ',hQa'];refine ⟨by omega,.done ?_⟩;have hset':Q.set a (.agg [.int .i64 (i:Int),.int .i64 ((a:Int) + 1),.int .i64 ((a:Int) + 1 + (zd.sz:Int))]) = L ++ ((DT.nd i zd oo).fl L.length).map Tn.v:=by simpa using hset
 refine ⟨qhv gz2 gu (L ++ ((DT.nd i zd oo).fl L.length).map Tn.v) u,?_,gz2,?_,rfl⟩
 ·rw [<- hset']; simp [qhv]
 ·have e:L.length + (DT.nd i zd oo).sz = a + 1 + zd.sz + oo.sz:=by rw [ha,DT.sz]; omega
  rw [e]
end
section
open Go
theorem q4j:x58 = .seq (xs1 x58) (.seq (xs1 (xs2 x58)) (.seq e58 r58)):=rfl
theorem jcn (k:Nat) (l:List Nat) (u:List Bool) (a:Nat):(l = []∨∃ x r,l = x :: r/\(x % 3 = 0∨qay u = []∨200 < a))->gro k a l u = (.lf,l.tail):=by
 rintro (rfl | ⟨x,r,rfl,h⟩)
 ·cases k <;> rfl
 ·cases k with
  | zero=>rfl
  | succ k=>unfold gro; rw [if_pos h]; rfl
theorem qp3:∀ (k a:Nat) (l:List Nat) (u:List Bool),∀ y ∈ (gro k a l u).2,y ∈ l
 | _,_,[],_,y,hy=>by simp [gro] at hy
 | 0,_,_ :: r,_,y,hy=>by simp only [gro] at hy; exact List.mem_cons_of_mem _ hy
 | k + 1,a,x :: r,u,y,hy=>by
  unfold gro at hy;split at hy
  ·exact List.mem_cons_of_mem _ hy
  ·exact List.mem_cons_of_mem _ (qp3 _ _ _ _ _ (qp3 _ _ _ _ _ hy))
theorem q8s (k:Nat) (ih:∀ (l:List Nat) (u:List Bool) (gz gu:Nat) (L:List V), l.length≤k -> (∀ x ∈ l, x < 256) -> u.length≤1000 -> jf8 L = true -> L.length + 2 * l.length < 900000 ->
      qao Tryz.prog gl0 58 [.ref 1000 gz 0 L.length none,.sl (l.map u8V) none,.ref 2000 gu 0 u.length (some u.length)] (qhv gz gu L u) (qt0 gu L u (gro k L.length l u).1 (gro k L.length l u).2))
    (gz gu:Nat) (L:List V) (hL:jf8 L = true) (u:List Bool) (hu:u.length≤1000) (l:List Nat) (hl:l.length≤k + 1) (hb:∀ x ∈ l,x < 256) (hs:L.length + 2 * l.length < 900000) (F:V) (hF:(F = .nil/\qay u = [])∨(F = .sl (qae (qay u)) none/\qay u ≠ []))
    (fr:Fr) (f0:lk fr 0 = some (.ref 1000 gz 0 (L.length + 1) none)) (f1:lk fr 1 = some (.sl (l.map u8V) none)) (f2:lk fr 2 = some (.ref 2000 gu 0 u.length (some u.length))) (f8:lk fr 8 = some F) (f10:lk fr 10 = some (qaa L.length))
    (h:Hp) (hh:Sub (qhv gz gu (L ++ [lfN.v]) u) h) :
    q58.wpF Tryz.prog gl0 (qqq [.tmp 6,.tmp 7] (qt0 gu L u (gro (k + 1) L.length l u).1 (gro (k + 1) L.length l u).2)) fr h:=by
  by_cases hc:l = []∨∃ x r,l = x :: r/\(x % 3 = 0∨qay u = []∨200 < L.length)
  · rw [jcn (k + 1) l u L.length hc];exact q8r gz gu L.length L rfl (by omega) u l F hF hc fr f0 f1 f2 f8 f10 h hh
  · cases l with
    | nil=>exact absurd (.inl rfl) hc
    | cons x r=>
      have hn:¬ (x % 3 = 0∨qay u = []∨200 < L.length):=fun h=>hc (.inr ⟨x,r,rfl,h⟩);have hfr:qay u ≠ []:=fun e=>hn (.inr (.inl e))
      obtain rfl:F = .sl (qae (qay u)) none:=by
        rcases hF with ⟨-,e⟩ | ⟨e,-⟩
        · exact absurd e hfr
        · exact e
      have hr:r.length≤k:=by simpa using hl
      have hbr:∀ y ∈ r,y < 256:=fun y hy=>hb y (List.mem_cons_of_mem _ hy);simp only [List.length_cons] at hs;unfold gro;rw [if_neg hn];generalize hi:(qay u).getD (x / 3 % (qay u).length) 0 = i;obtain ⟨u1,hu1⟩:∃ u1,u.set i true = u1:=⟨_,rfl⟩;have hul:u1.length = u.length:=by rw [<- hu1]; simp
      rw [hu1];obtain ⟨Z,hZ⟩:∃ Z,gro k (L.length + 1) r u1 = Z:=⟨_,rfl⟩;have hZl:=qmr k (L.length + 1) r u1;have hZs:=qvm k (L.length + 1) r u1;rw [hZ] at hZl hZs ⊢;obtain ⟨O,hO⟩:∃ O,gro k (L.length + 1 + Z.1.sz) Z.2 u1 = O:=⟨_,rfl⟩;have hOs:=qvm k (L.length + 1 + Z.1.sz) Z.2 u1;rw [hO] at hOs ⊢;have hZi:=Z.1.sz_inn;have hZb:∀ y ∈ Z.2,y < 256:=fun y hy=>hbr y (qp3 k (L.length + 1) r u1 y (by rw [hZ]; exact hy));refine jfa gz gu L.length L rfl hL (by omega) u u1 hu x (hb x List.mem_cons_self) r (fun e=>hn (.inl e)) hfr i hi hu1 Z.1 O.1 Z.2 O.2 (by omega) (by omega) ?_ ?_ fr f0 f1 f2 f8 f10 h hh
      · intro gz L' hp' hl';have:=ih r u1 gz gu L' hr hbr (by omega) hp' (by omega);rw [hl',hZ,hul] at this;exact this
      · intro gz L' hp' hl';have:=ih Z.2 u1 gz gu L' (by omega) hZb (by omega) hp' (by omega);rw [hl',hO,hul] at this;exact this
set_option maxRecDepth 100000 in
set_option maxHeartbeats 4000000 in
theorem q2y:∀ (k:Nat) (l:List Nat) (u:List Bool) (gz gu:Nat) (L:List V),l.length≤k->(∀ x ∈ l,x < 256)->u.length≤1000->jf8 L = true->L.length + 2 * l.length < 900000->
  qao Tryz.prog gl0 58 [.ref 1000 gz 0 L.length none,.sl (l.map u8V) none,.ref 2000 gu 0 u.length (some u.length)] (qhv gz gu L u) (qt0 gu L u (gro k L.length l u).1 (gro k L.length l u).2):=by
 intro k
 induction k with
 | zero=>
  intro l u gz gu L hl hb hu hL hs;obtain rfl:l = []:=List.length_eq_zero_iff.1 (by omega);have hs2:L.length < 900000:=by simpa using hs
  obtain ⟨K,hK⟩:∃ K,qt0 gu L u (gro 0 L.length [] u).1 (gro 0 L.length [] u).2 = K:=⟨_,rfl⟩;rw [hK];refine CallO.of_WM 5 jeq rfl ?_;change XC.wpM _ _ 5 x58 _ _ _;rw [q4j];simp [i58,xs1,xs2,x58];refine KM.mk (.done ?_);simp;refine KM.mk (.done ?_);simp;refine qvb (.ref 1000 gz 0 L.length none) (.sl (([]:List Nat).map u8V) none) (qad _) u hu gu _ _ [(1000,.row gz 3 L)] (.inr ⟨gz,L,rfl,hL,rfl⟩) _ _ (by simp) (by simp) (by simp) (by simp) (by simp [qhv]) fun F hF=>?_;refine KM.mk (.done ?_);rw [qws];simp [r58,xs1,xs2,x58];refine KM.mk (.done ?_);simp;intro ga gb;refine ⟨by omega,KM.mk (.done ?_)⟩;rw [<- hK];simp only [qhl];exact q8r (gb 1000) gu L.length L rfl (by omega) u [] F hF (.inl rfl) _ (by simp) (by simp) (by simp) (by simp) (by simp [qaa]) _ (by simp [qhv,lfN,Tn.v])
 | succ k ih=>
  intro l u gz gu L hl hb hu hL hs;obtain ⟨K,hK⟩:∃ K,qt0 gu L u (gro (k + 1) L.length l u).1 (gro (k + 1) L.length l u).2 = K:=⟨_,rfl⟩;rw [hK];refine CallO.of_WM 5 jeq rfl ?_;change XC.wpM _ _ 5 x58 _ _ _;rw [q4j];simp [i58,xs1,xs2,x58];refine KM.mk (.done ?_);simp;refine KM.mk (.done ?_);simp;refine qvb (.ref 1000 gz 0 L.length none) (.sl (l.map u8V) none) (qad _) u hu gu _ _ [(1000,.row gz 3 L)] (.inr ⟨gz,L,rfl,hL,rfl⟩) _ _ (by simp) (by simp) (by simp) (by simp) (by simp [qhv]) fun F hF=>?_;refine KM.mk (.done ?_);rw [qws];simp [r58,xs1,xs2,x58];refine KM.mk (.done ?_);simp;intro ga gb;refine ⟨by omega,KM.mk (.done ?_)⟩;rw [<- hK];simp only [qhl];exact q8s k ih (gb 1000) gu L hL u hu l hl hb hs F hF _ (by simp) (by simp) (by simp) (by simp) (by simp [qaa]) _ (by simp [qhv,lfN,Tn.v])
set_option maxRecDepth 100000 in
set_option maxHeartbeats 4000000 in
theorem qy9 (k:Nat) (l:List Nat) (u:List Bool) (gu:Nat) (hl:l.length≤k + 1) (hb:∀ x ∈ l,x < 256) (hu:u.length≤1000) (hs:2 * l.length < 900000) :
  qao Tryz.prog gl0 58 [.nil,.sl (l.map u8V) none,.ref 2000 gu 0 u.length (some u.length)] [(2000,.row gu 1 (qcu u))] (qt0 gu [] u (gro (k + 1) 0 l u).1 (gro (k + 1) 0 l u).2):=by
 have ih:=q2y k;obtain ⟨K,hK⟩:∃ K,qt0 gu [] u (gro (k + 1) 0 l u).1 (gro (k + 1) 0 l u).2 = K:=⟨_,rfl⟩;rw [hK];refine CallO.of_WM 5 jeq rfl ?_;change XC.wpM _ _ 5 x58 _ _ _;rw [q4j];simp [i58,xs1,xs2,x58];refine KM.mk (.done ?_);simp;refine KM.mk (.done ?_);simp;refine qvb .nil (.sl (l.map u8V) none) (qad _) u hu gu _ _ [] (.inl ⟨rfl,rfl⟩) _ _ (by simp) (by simp) (by simp) (by simp) (by simp) fun F hF=>?_
 have hFp:F.pure = true:=by
  rcases hF with ⟨rfl,-⟩ | ⟨rfl,-⟩
  ·rfl
  ·exact qa3 _
 refine KM.mk (.done ?_);rw [qws];simp [r58,xs1,xs2,x58];refine KM.mk (.done ?_);simp;intro ga gb;refine KM.mk (.move 34 1000 _ (by simp) (by simp; rfl) fun g'=>.done ?_);rw [<- hK];simp only [qhl];exact q8s k ih g' gu [] rfl u hu l hl hb (by simpa using hs) F hF _ (by simp) (by simp [qa6 _ (qad _)]) (by simp) (by simp [qdk _ hFp]) (by simp [qaa]) _ (by simp [qhv,lfN,Tn.v,qaz (qek u)])
end
section
open Go
def qt3 (l:List Nat) (n:Nat):DT:=(gro (l.length + 1) 0 l (List.replicate n false)).1
set_option maxRecDepth 100000 in
theorem q1n (l:List Nat) (n:Nat) (hb:∀ x ∈ l,x < 256) (hn:n≤1000) (hs:2 * l.length < 900000) :
  qac Tryz.prog gl0 16 [.sl (l.map u8V) none,qaa n] (.sl (((qt3 l n).fl 0).map Tn.v) none):=by
 have h1:=fun gu=>qy9 l.length l (List.replicate n false) gu (by omega) hb (by simpa using hn) hs;have hbl:qcu (List.replicate n false) = List.replicate n (.bool false):=by simp [qcu]
 unfold qt3;have hp:=fun (d:DT)=>qax (d.fl 0);generalize gro (l.length + 1) 0 l (List.replicate n false) = Z at h1 ⊢;simp only [List.length_replicate] at h1;refine qac.of_WM 3 2 ok16 rfl ?_;simp [i16,x16,qaa];refine KM.mk (.done ?_);simp;intro gf;refine ⟨by omega,KM.mk (.move 9 2000 _ (by simp) (by simp; rfl) fun gu=>.done ?_)⟩;simp [qa6 _ (qad l)];have h2:=h1 gu;rw [hbl] at h2;refine CallO.lend [1000,2000] [(2000,.row gu 1 (List.replicate n (.bool false)))] [] h2 (by simp [jgb,V.inB,jf9 _ _ (qad _)]) (by simp) (by rw [<- hbl]; simp [qbp,Blk.inB,jf9 _ _ (qek _)]) (by simp) (by simp) ?_;rintro v h3 ⟨gz,rfl,rfl⟩;refine ⟨by simp [V.inB,jgb,jf9 _ _ (qad _)],qjr gz gu _ (by simpa using hp Z.1) _,?_⟩;simp [qhv];refine KM.mk (.done ?_);simp [qa0 (hp Z.1),-List.map_map];exact jh2 (by simp)
theorem qq1 (l:List Nat) (n:Nat):(qt3 l n).ok n []:=by
 have:=qvl (l.length + 1) 0 l (List.replicate n false) [] (fun _ h=>by cases h);rw [List.length_replicate] at this;exact this
theorem qxn (l:List Nat) (n:Nat):(qt3 l n).sz≤2 * l.length + 1:=qvm _ _ _ _
end
end Go.Proofs.YtpaopccohkldlaaGreatDoor
