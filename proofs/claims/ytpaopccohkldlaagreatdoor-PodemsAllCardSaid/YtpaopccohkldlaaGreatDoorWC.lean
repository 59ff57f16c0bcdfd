/- Transitions: the contract of All. Conditions: none. -/
import Derived.Test.YtpaopccohkldlaaGreatDoorT12
import Derived.Test.YtpaopccohkldlaaGreatDoorT7
import Derived.Test.YtpaopccohkldlaaGreatDoorWA
set_option linter.all false
namespace Go.Proofs.YtpaopccohkldlaaGreatDoor
section
open Go
def qwd (n m:Nat):List V:=(List.range m).map fun (k:Nat)=>.agg [qaa n,.int .i64 ((k:Int) - 1)]
def qj5 (c:Ci) (i:Nat):List V:=(List.range i).flatMap fun n=>qwd n ((c.nd n).i.length + 1)
theorem qz3 (n m:Nat):qwd n (m + 1) = qwd n m ++ [.agg [qaa n,.int .i64 ((m:Int) - 1)]]:=by simp [qwd,List.range_succ]
theorem qpu (c:Ci) (i:Nat):qj5 c (i + 1) = qj5 c i ++ qwd i ((c.nd i).i.length + 1):=by simp [qj5,List.range_succ]
theorem qw8 (n m:Nat):jnp (qwd n m) = true:=by
 rw [jnu]; intro v hv;obtain ⟨k,-,rfl⟩:=List.mem_map.1 hv;rfl
theorem qle (c:Ci) (i:Nat):jnp (qj5 c i) = true:=by
 rw [jnu]; intro v hv;obtain ⟨n,-,h⟩:=List.mem_flatMap.1 hv;exact (jnu _).1 (qw8 _ _) v h
theorem qt6 (n m:Nat):(qwd n m).length = m:=by simp [qwd]
theorem qo3 (c:Ci) (hc:∀ n,n < c.n.length->(c.nd n).i.length≤16):∀ i,i≤c.n.length->(qj5 c i).length≤17 * i
 | 0,_=>by simp [qj5]
 | i + 1,h=>by
  rw [qpu,List.length_append,qt6];have:=qo3 c hc i (by omega);have:=hc i (by omega);omega
theorem q9h (l:List V) (cap:Option Nat) (hp:jnp l = true) (_hc:∀ x ∈ l,x.cells.length = 2):qac Tryz.prog gl0 136 [.sl l cap] (.sl l (some l.length)):=by
 refine jpk 2 q8j rfl ?_;simp [jg0,jgy];exact qae _ hp
theorem q84 (c:Ci) (hg:c.good):qac Tryz.prog gl0 97 [c.v] (.tup [.sl (qj5 c c.n.length) (some (qj5 c c.n.length).length),.int .i64 0]):=by
 have h1:=qsj c hg;have hn1:=hg.n1;have hn0:=hg.n0;have hval:=hg.val;have hll:=qo3 c (fun n hn=>hval.l n hn);refine jpk 2 ok97 rfl ?_;simp [i97,x97];intro gf1;generalize gf1 1 = g1;refine jpg h1 (by simp) ?_;simp
 refine jog (X:=Nat × Option (Nat × List V)) (fun z=>[(17,qaa z.1),(16,qaa c.n.length),(15,.sl (c.n.map Nd.v) none),(5,qbi 35 z.2),(1,.ptr 1 g1 0 0)]) (fun z=>(1,.row g1 4 [c.v]) :: qbj 35 2 z.2)
  (fun z=>z.1≤c.n.length/\qa0 z.2 = qj5 c z.1/\(z.2 = none↔z.1 = 0)) (fun z=>c.n.length - z.1) (.done ⟨(0,none),⟨by simp,by simp [qa0,qj5],by simp⟩,by simp [qaa,qbi],by simp [qbj]⟩) ?_
 rintro ⟨i,acc⟩ ⟨q1,q2,q3⟩;dsimp only at q1 q2 q3 ⊢;simp [qaa];refine jph (fun hb=>?_) (fun hb=>?_)
 ·have hi:i < c.n.length:=jpp hb;have hw:=qa1 i (by omega);obtain ⟨y,hy⟩:∃ y,c.n[i] = y:=⟨_,rfl⟩;have hyl:=hval.l i hi;have hnd:c.nd i = y:=by rw [c.nd_get hi,hy]
  have hsN:=qpu c i;rw [hnd] at hyl hsN;have hlli:=hll i (by omega);have hw2:=qa1 y.i.length (by omega);obtain ⟨M,hM⟩:∃ M,y.i.length + 1 = M:=⟨_,rfl⟩;rw [hM] at hw2 hsN;simp [hi,hy];intro gf2;generalize gf2 7 = g7;simp [hw2]
  refine jpj (X:=Nat × Option (Nat × List V)) (fun z=>[(26,qaa z.1),(25,qaa M),(6,qaa i),(17,qaa i),(16,qaa c.n.length),(15,.sl (c.n.map Nd.v) none),(5,qbi 35 z.2),(1,.ptr 1 g1 0 0)]) (fun z=>(1,.row g1 4 [c.v]) :: qbj 35 2 z.2)
   (fun z=>z.1≤M/\qa0 z.2 = qj5 c i ++ qwd i z.1/\(z.2 = none->i = 0/\z.1 = 0)) (fun z=>M - z.1) (0,acc) ⟨by simp,by simp [qwd,q2],fun h=>⟨q3.1 h,rfl⟩⟩ (by simp [qaa]) (by rcases acc with _ | ⟨ga,r⟩ <;> simp [qbj]) ?_
  rintro ⟨k,acc2⟩ ⟨p1,p2,p3⟩;dsimp only at p1 p2 p3 ⊢;simp [qaa];refine jph (fun hb2=>?_) (fun hb2=>?_)
  ·have hk:k < M:=jpp hb2;have hw3:=qa1 k (by omega);have hw4:IntKind.i64.wrap ((k:Int) - 1) = (k:Int) - 1:=by rw [qaq] <;> omega
   have hnx:=qz3 i k;have hnx2:qj5 c i ++ qwd i (k + 1) = (qj5 c i ++ qwd i k) ++ [.agg [.int .i64 (i:Int),.int .i64 ((k:Int) - 1)]]:=by rw [hnx,List.append_assoc]; rfl
   rw [<- p2] at hnx2;have hlen:=congrArg List.length p2;rw [List.length_append,qt6] at hlen;rcases acc2 with _ | ⟨gb,rb⟩
   ·simp [qbi,qbj,hw4];intro ga gb;exact ⟨k + 1,some (gb 35,[.agg [.int .i64 (i:Int),.int .i64 ((k:Int) - 1)]]),⟨hk,by simpa [qa0] using hnx2.symm,by simp⟩,by simp [hw3],by simp,by omega⟩
   ·simp [qbi,qbj,hw4];intro ga gb1;exact ⟨by simp only [qa0] at hlen; omega,k + 1,some (gb1 35,rb ++ [.agg [.int .i64 (i:Int),.int .i64 ((k:Int) - 1)]]),⟨hk,by simpa [qa0] using hnx2.symm,by simp⟩,by simp [hw3],by simp,by omega⟩
  ·have hk:k = M:=by have:=jpq hb2; omega
   subst hk;simp [hw];refine .done ⟨i + 1,acc2,⟨hi,by rw [p2,hsN],?_⟩,by simp,by rcases acc2 with _ | ⟨ga,r⟩ <;> simp [qbj],by omega⟩;constructor
   ·intro h; have:=(p3 h).2; omega
   ·intro h; omega
 ·have hi:i = c.n.length:=by have:=jpq hb; omega
  subst hi
  have hcl:=q9h (qj5 c c.n.length) none (qle _ _) (fun x hx=>by
   obtain ⟨n,-,h⟩:=List.mem_flatMap.1 hx;obtain ⟨k,-,rfl⟩:=List.mem_map.1 h;rfl)
  have hpp:=qle c c.n.length;generalize qj5 c c.n.length = C at q2 hcl hpp ⊢;rcases acc with _ | ⟨ga,r⟩
  ·have:=q3.1 rfl; omega
  ·simp only [qa0] at q2;subst q2;simp [qbi,qbj];refine .mk [(5,.ref 35 ga 0 r.length none)] [(35,.row ga 2 r)] (by simp) (by simp) (.frz (g:=ga) (sz:=2) (es:=r) 35 (by simp) hpp (.done ?_));simp [fzF,fzH,fzV,fzf];refine jpg hcl (by simp [hpp]) ?_;simp [qae,hpp]
end
section
open Go
theorem q7e (c:Ci) (l:V) (hl:l.pure = true) (hc:l.cellsOk = true) (m:Nat):qac Tryz.prog gl0 98 [c.v,u8V m,l] (.fn 137 [] [.iptr (u8V m) 0,.iptr l 0,.iptr c.v 0]):=by
 refine jpk 3 ok98 rfl ?_;simp [i98,x98,u8V];intro gf1 gf2 gf3;exact ⟨hc,qba _ hl⟩
theorem qjw (l:List Ft):jnp (l.map Ft.w) = true:=pureL_map (fun x=>by simp [Ft.w,u8V,qaa]) l
theorem q8i (l:List Ft) (cap:Option Nat):qac Tryz.prog gl0 99 [.sl (l.map Ft.w) cap] (.sl (l.map Ft.w) (some l.length)):=by
 have hp:=qjw l;have hl:(l.map Ft.w).length = l.length:=by simp
 generalize l.map Ft.w = v at hp hl ⊢;rw [<- hl];refine jpk 2 ok99 rfl ?_;simp [i99,x99];exact qae _ hp
theorem q4c:qac Tryz.prog gl0 99 [.nil] (.sl [] (some 0)):=by
 refine jpk 2 ok99 rfl ?_;simp [i99,x99]
def flV (l:List Ft):V:=.sl (l.map Ft.w) (some l.length)
noncomputable def jdm (g g8:Nat):Blk:=.loop g 36 [(8,.ptr 7008 g8 0 0)] [26] qzm qyj false
theorem jch {g g8:Nat} {z:Option (Nat × List V)} {f:Ft} {h:Hp} {K:V->Hp->Prop} (hz:(qa0 z).length < 65536) (hp:jnp (qa0 z) = true) (h1:lk h 2000026 = some (jdm g g8)) (h2:lk h 7008 = some (.row g8 1 [qbi 33 z])) (h3:∀ g' l,z = some (g',l)->lk h 33 = some (.row g' 5 l))
  (hk:∀ ga h3,lk h3 2000026 = some (jdm g g8)->lk h3 7008 = some (.row g8 1 [qbi 33 (some (ga,qa0 z ++ [f.w]))])->lk h3 33 = some (.row ga 5 (qa0 z ++ [f.w]))->(∀ t,t ≠ 2000026->t ≠ 7008->t ≠ 33->t ≠ 9->t ≠ 32->lk h3 t = lk h t)->K (.bool true) h3) :
  qft Tryz.prog gl0 2000026 g [f.w] h K:=by
 unfold jdm at *;refine qft.of_W q89 h1 rfl ?_;rcases z with _ | ⟨gz,l⟩
 ·simp only [qbi,qa0] at *;simp [qxz,qw0,Ft.w,u8V,qaa,h1,h2];intro gf;refine ⟨_,_,_,_,_,⟨rfl,rfl,rfl,rfl,rfl⟩,?_⟩;intro ga gb;refine .done ⟨_,_,_,_,_,by simp; exact ⟨rfl,rfl,rfl,rfl,rfl⟩,_,qdm _,?_⟩;refine hk (gb 33) _ ?_ ?_ ?_ fun t q1 q2 q3 q4 q5=>?_
  all_goals rw [qeh]
  all_goals simp [Ft.w,u8V,qaa, *]
 ·have h4:=h3 _ _ rfl;simp only [qbi,qa0] at *;simp [qxz,qw0,Ft.w,u8V,qaa,h1,h2,h4];intro gf;refine ⟨_,_,_,_,_,⟨rfl,rfl,rfl,rfl,rfl⟩,?_⟩;have hle:¬ l.length = 65536:=by omega
  simp [hle,h1,h2,h4];intro ga gb;refine ⟨by omega,.done ⟨_,_,_,_,_,by simp; exact ⟨rfl,rfl,rfl,rfl,rfl⟩,_,qdm _,?_⟩⟩;refine hk (gb 33) _ ?_ ?_ ?_ fun t q1 q2 q3 q4 q5=>?_
  all_goals rw [qeh]
  all_goals simp [Ft.w,u8V,qaa, *]
noncomputable def hhA (g g5 g7 g8:Nat) (z:Option (Nat × List V)):Hp:=
 (2000026,jdm g g8) :: (7008,.row g8 1 [qbi 33 z]) :: (7004,.row g7 1 [.nil]) :: (5,.row g5 1 [.int .i64 0]) :: qbj 33 5 z
def fsS (l:List (Nat × Nat)):List Ft:=l.flatMap fun p=>[⟨0,p.1,p.2,0,0⟩,⟨0,p.1,p.2,1,0⟩]
def lnV (p:Nat × Nat):V:=.agg [qaa p.1,.int .i64 ((p.2:Int) - 1)]
structure SitS where
 j:Nat
 z:Option (Nat × List V)
theorem q20 (l:List (Nat × Nat)) (j:Nat) (hj:j < l.length):fsS (l.take (j + 1)) = fsS (l.take j) ++ [⟨0,l[j].1,l[j].2,0,0⟩,⟨0,l[j].1,l[j].2,1,0⟩]:=by
 rw [List.take_succ_eq_append_getElem hj];unfold fsS;rw [List.flatMap_append];rfl
theorem qzr (l:List (Nat × Nat)):(fsS l).length = 2 * l.length:=by
 induction l with
 | nil=>rfl
 | cons a r ih=>
  have:fsS (a :: r) = [⟨0,a.1,a.2,0,0⟩,⟨0,a.1,a.2,1,0⟩] ++ fsS r:=by simp [fsS]
  rw [this,List.length_append,ih];simp; omega
set_option maxRecDepth 100000 in
theorem q9f (c:Ci) (l:List (Nat × Nat)) (cap:Option Nat) (hl:l.length < 30000) (g g5 g7 g8:Nat) (K:V->Hp->Prop)
  (hK:∀ v z,qa0 z = (fsS l).map Ft.w->K v (hhA g g5 g7 g8 z)) :
  qat Tryz.prog gl0 137 [.own 2000026 g,.iptr (.int .u8 0) 0,.iptr (.sl (l.map lnV) cap) 0,.iptr c.v 0] (hhA g g5 g7 g8 none) K:=by
 have hwl:(l.map lnV).length = l.length:=by simp
 refine jpn jmt rfl ?_;simp [i137,x137];intro gf;generalize gf 4 = g4
 refine jpj (X:=SitS) (fun s=>[(14,qaa s.j),(13,qaa l.length),(12,.sl (l.map lnV) cap),(4,.ptr 4 g4 0 0),(1,.iptr (.int .u8 0) 0)]) (fun s=>(4,.row g4 1 [.own 2000026 g]) :: hhA g g5 g7 g8 s.z)
  (fun s=>s.j≤l.length/\qa0 s.z = (fsS (l.take s.j)).map Ft.w) (fun s=>l.length - s.j) ⟨0,none⟩ ⟨Nat.zero_le _,rfl⟩ (by simp [qaa]) (by simp [hhA,qbj]) ?_
 rintro ⟨j,z⟩ ⟨hj,hz⟩;dsimp only at hj hz;simp [qaa];refine jph (fun hb=>?_) (fun hb=>?_)
 ·have hj2:j < l.length:=jpp hb;have hwj:=qa1 j (by omega);have htk:=q20 l j hj2;have hlen:(qa0 z).length = 2 * j:=by rw [hz,List.length_map,qzr,List.length_take]; omega
  have hzp:jnp (qa0 z) = true:=by rw [hz]; exact qjw _
  obtain ⟨p,hp⟩:∃ p,l[j] = p:=⟨_,rfl⟩;obtain ⟨a,b⟩:=p;rw [hp] at htk;have hw:∀ x:Nat,(Ft.w ⟨0,a,b,x,0⟩) = .agg [.int .u8 0,.int .i64 a,.int .i64 ((b:Int) - 1),.int .u8 x,.int .i64 0]:=fun x=>rfl;simp [hj2,hp,lnV,qaa];intro gf6;refine jch (g8:=g8) (z:=z) (f:=⟨0,a,b,0,0⟩) (by omega) hzp (by simp [hhA]) (by simp [hhA]) (fun g' l' e=>by subst e; simp [hhA,qbj]) fun ga h3 k1 k2 k3 k4=>?_;have f6:=k4 6 (by simp) (by simp) (by simp) (by simp) (by simp);have f4:=k4 4 (by simp) (by simp) (by simp) (by simp) (by simp);have f7004:=k4 7004 (by simp) (by simp) (by simp) (by simp) (by simp);have f5:=k4 5 (by simp) (by simp) (by simp) (by simp) (by simp);simp [hhA] at f6 f4 f7004 f5;clear k4;have hp2:jnp (qa0 z ++ [Ft.w ⟨0,a,b,0,0⟩]) = true:=qem hzp (by simp [Ft.w,u8V,qaa]);have hz2:(qa0 z ++ [Ft.w ⟨0,a,b,0,0⟩]).length < 65536:=by rw [List.length_append]; simp only [List.length_singleton]; omega
  simp [f6,f4,f7004,f5];refine jch (g8:=g8) (z:=some (ga,qa0 z ++ [Ft.w ⟨0,a,b,0,0⟩])) (f:=⟨0,a,b,1,0⟩) hz2 hp2 (by simp [k1]) (by simp [k2]) (fun g' l' e=>by cases e; simp [k3]) fun gb h4 m1 m2 m3 m4=>?_;have n4:=m4 4 (by simp) (by simp) (by simp) (by simp) (by simp);have n7004:=m4 7004 (by simp) (by simp) (by simp) (by simp) (by simp);have n5:=m4 5 (by simp) (by simp) (by simp) (by simp) (by simp);simp [f4,f7004,f5] at n4 n7004 n5;clear m4;simp;refine ⟨⟨j + 1,some (gb,qa0 z ++ [Ft.w ⟨0,a,b,0,0⟩] ++ [Ft.w ⟨0,a,b,1,0⟩])⟩,⟨hj2,?_⟩,by simpa using hwj,?_,by simp only []; omega⟩
  ·rw [htk,List.map_append,<- hz]; simp [qa0]
  ·simp [hhA,qbj,n4,n7004,n5,m1,m2,m3,qa0]
 ·have hj3:j = l.length:=by have:=jpq hb; omega
  subst hj3;rw [List.take_length] at hz;simp;refine .done ⟨_,?_,hK _ z hz⟩;rcases z with _ | ⟨ga,r⟩ <;> simp [hhA,qbj]
def lnF (c:Ci):List (Nat × Nat):=(List.range c.n.length).flatMap fun n=>(List.range ((c.nd n).i.length + 1)).map fun q=>(n,q)
theorem jbq (c:Ci):(lnF c).map lnV = qj5 c c.n.length:=by
 unfold lnF qj5;rw [List.map_flatMap];congr 1;funext n;unfold qwd;rw [List.map_map];rfl
theorem qxb (c:Ci) (hg:c.good):(lnF c).length < 30000:=by
 have h1:=qo3 c (fun n hn=>hg.val.l n hn) c.n.length (jpw _);rw [<- jbq,List.length_map] at h1;have:=hg.n1;omega
theorem jfl (c:Ci) (p:Nat × Nat) (hp:p ∈ lnF c):p.1 < c.n.length/\p.2≤(c.nd p.1).i.length:=by
 unfold lnF at hp;rw [List.mem_flatMap] at hp;obtain ⟨n,hn,hq⟩:=hp;rw [List.mem_map] at hq;obtain ⟨q,hq,rfl⟩:=hq;have:=List.mem_range.1 hn;have:=List.mem_range.1 hq;exact ⟨by assumption,by simp only []; omega⟩
theorem jdo (c:Ci) (f:Ft) (hf:f ∈ fsS (lnF c)):f.ok c/\f.m = 0:=by
 unfold fsS at hf;rw [List.mem_flatMap] at hf;obtain ⟨p,hp,hq⟩:=hf;obtain ⟨h1,h2⟩:=jfl c p hp;simp only [List.mem_cons,List.not_mem_nil,or_false] at hq;rcases hq with rfl | rfl
 ·exact ⟨⟨Nat.zero_lt_two,h1,h2,Nat.zero_le _,rfl⟩,rfl⟩
 ·exact ⟨⟨Nat.zero_lt_two,h1,h2,jpw _,rfl⟩,rfl⟩
set_option maxRecDepth 100000 in
theorem jbw (c:Ci) (hg:c.good):qac Tryz.prog gl0 52 [c.v,u8V 0] (.tup [flV (fsS (lnF c)),.int .i64 0]):=by
 have hl:=q84 c hg;have hn1:=hg.n1;have hlp:=qle c c.n.length;have hll:=qxb c hg;have hm:qac Tryz.prog gl0 98 [c.v,.int .u8 0,.sl (qj5 c c.n.length) (some (qj5 c c.n.length).length)] (.fn 137 [] [.iptr (.int .u8 0) 0,.iptr (.sl (qj5 c c.n.length) (some (qj5 c c.n.length).length)) 0,.iptr c.v 0]):=q7e c (.sl (qj5 c c.n.length) (some (qj5 c c.n.length).length)) (by simp [V.pure,hlp]) rfl 0;have hLL:=jbq c;generalize qj5 c c.n.length = L at hl hm hlp hLL
 have hit:∀ (g g5 g7 g8:Nat) (K:V->Hp->Prop),(∀ v z,qa0 z = (fsS (lnF c)).map Ft.w->K v (hhA g g5 g7 g8 z))->qat Tryz.prog gl0 137 [.own 2000026 g,.iptr (.int .u8 0) 0,.iptr (.sl L (some L.length)) 0,.iptr c.v 0] (hhA g g5 g7 g8 none) K:=by
  rw [<- hLL];exact fun g g5 g7 g8 K hK=>q9f c (lnF c) _ hll g g5 g7 g8 K hK
 simp only [u8V];refine joe 5 2 ok52 rfl ?_;simp [i52,x52];intro gf1 gf2 gf3;refine KM.mk (.done ?_);simp;refine jpg hl (by simp) ?_;simp;refine KM.mk (.done ?_);simp;refine KM.mk (.done ?_);simp;intro gf4;refine KM.mk (.move 4 7004 _ (by decide) (by simp; rfl) fun g7=>.move 8 7008 _ (by decide) (by simp [mvH,mvS]; rfl) fun g8=>.done ?_);simp [mvF,mvH,mvS,V.rn,jn6,Blk.rn,Blk.gen,qee _ (qcw c),qao L hlp];refine jpg hm (by simp [V.pure,hlp]) ?_;simp;generalize gf3 5 = g5;refine ⟨[(8,.ptr 7008 g8 0 0)],by simp,[(7008,.row g8 1 [.nil]),(7004,.row g7 1 [.nil]),(5,.row g5 1 [.int .i64 0])],by simp,fun g=>hit g g5 g7 g8 _ fun v z hz=>?_⟩;unfold hhA jdm;simp;rcases z with _ | ⟨ga,r⟩
 ·have hz2:fsS (lnF c) = []:=List.map_eq_nil_iff.1 hz.symm;rw [hz2];refine KM.mk (.done ?_);simp [qbi,qbj];refine jpg q4c rfl ?_;simp [flV]
 ·have hr:r = (fsS (lnF c)).map Ft.w:=hz;have hp:jnp r = true:=by rw [hr]; exact qjw _
  have hclip:=q8i (fsS (lnF c)) none;have hpv:flV (fsS (lnF c)) = .sl r (some r.length):=by rw [hr]; simp [flV]
  rw [<- hr,show (fsS (lnF c)).length = r.length by rw [hr]; simp] at hclip;rw [hpv];refine KM.mk (.frz (g:=ga) (sz:=5) (es:=r) 33 (by simp [qbj]) hp (.done ?_));simp [qbi,qbj,fzV,V.mapR,jnr,fzH,Blk.fz,hlp,fzF,fzp,fzf];refine jpg hclip (by simp [hp]) ?_;simp;exact qae _ hp
end
section
open Go
def Fx.st (z:Fx):Fx:={ z with m:=0 }
def stF (c:Ci) (z:Fx):Ft:=z.st.of c 0
theorem jbe (c:Ci) (hg:c.good) (z:Fx):(stF c z).ok c/\(stF c z).m = 0:=⟨jm4 c hg _ 0 (by decide),rfl⟩
theorem q6m (c:Ci) (hg:c.good) (z:Fx) (hz:z.ok):qac Tryz.prog gl0 15 [c.v,z.v] (stF c z).w:=by
 have h1:=jmm c hg z.st (by obtain ⟨h1,h2,h3,h4⟩:=hz; exact ⟨Nat.zero_lt_succ _,h2,h3,h4⟩) 0 rfl (by decide);simp only [Fx.v,Fx.st,u8V] at h1;simp only [Fx.v,u8V];refine jpk 2 ok15 rfl ?_;simp [i15,x15,nop,Fx.v,u8V];intro gf1 gf2 gf3;refine jpg h1 (by simp) ?_;simp [stF,Fx.st,Ft.w,V.mapR,jnr,u8V,qaa]
end
end Go.Proofs.YtpaopccohkldlaaGreatDoor
