/- Transitions: the contract of All. Conditions: none. -/
import Derived.Test.YtpaopccohkldlaaGreatDoorT12
import Derived.Test.YtpaopccohkldlaaGreatDoorT7
import Derived.Test.YtpaopccohkldlaaGreatDoorWA
set_option linter.all false
namespace Go.Proofs.YtpaopccohkldlaaGreatDoor
section
open Go
def qvp (n m:Nat):List V:=(List.range m).map fun (k:Nat)=>.agg [qaa n,.int .i64 ((k:Int) - 1)]
def qjq (c:Ci) (i:Nat):List V:=(List.range i).flatMap fun n=>qvp n ((c.nd n).i.length + 1)
theorem qy7 (n m:Nat):qvp n (m + 1) = qvp n m ++ [.agg [qaa n,.int .i64 ((m:Int) - 1)]]:=by simp [qvp,List.range_succ]
theorem qqa (c:Ci) (i:Nat):qjq c (i + 1) = qjq c i ++ qvp i ((c.nd i).i.length + 1):=by simp [qjq,List.range_succ]
theorem qy6 (n m:Nat):jne (qvp n m) = true:=by
 rw [jnj]; intro v hv;obtain ⟨k,-,rfl⟩:=List.mem_map.1 hv;rfl
theorem qkx (c:Ci) (i:Nat):jne (qjq c i) = true:=by
 rw [jnj]; intro v hv;obtain ⟨n,-,h⟩:=List.mem_flatMap.1 hv;exact (jnj _).1 (qy6 _ _) v h
theorem qt0 (n m:Nat):(qvp n m).length = m:=by simp [qvp]
theorem qn2 (c:Ci) (hc:∀ n,n < c.n.length->(c.nd n).i.length≤16):∀ i,i≤c.n.length->(qjq c i).length≤17 * i
 | 0,_=>by simp [qjq]
 | i + 1,h=>by
  rw [qqa,List.length_append,qt0];have:=qn2 c hc i (by omega);have:=hc i (by omega);omega
theorem q64 (l:List V) (cap:Option Nat) (hp:jne l = true) (_hc:∀ x ∈ l,x.cells.length = 2):qab Tryz.prog gl0 136 [.sl l cap] (.sl l (some l.length)):=by
 refine jpb 2 q8m rfl ?_;simp [jf4,jhh];exact qad _ hp
theorem q71 (c:Ci) (hg:c.good):qab Tryz.prog gl0 97 [c.v] (.tup [.sl (qjq c c.n.length) (some (qjq c c.n.length).length),.int .i64 0]):=by
 have h1:=qs0 c hg;have hn1:=hg.n1;have hn0:=hg.n0;have hval:=hg.val;have hll:=qn2 c (fun n hn=>hval.l n hn);refine jpb 2 ok97 rfl ?_;simp [i97,x97];intro gf1;generalize gf1 1 = g1;refine jo7 h1 (by simp) ?_;simp
 refine jn0 (X:=Nat × Option (Nat × List V)) (fun z=>[(17,qaa z.1),(16,qaa c.n.length),(15,.sl (c.n.map Nd.v) none),(5,qbo 35 z.2),(1,.ptr 1 g1 0 0)]) (fun z=>(1,.row g1 4 [c.v]) :: qbn 35 2 z.2)
  (fun z=>z.1≤c.n.length/\qa7 z.2 = qjq c z.1/\(z.2 = none↔z.1 = 0)) (fun z=>c.n.length - z.1) (.done ⟨(0,none),⟨by simp,by simp [qa7,qjq],by simp⟩,by simp [qaa,qbo],by simp [qbn]⟩) ?_
 rintro ⟨i,acc⟩ ⟨q1,q2,q3⟩;dsimp only at q1 q2 q3 ⊢;simp [qaa];refine jo8 (fun hb=>?_) (fun hb=>?_)
 ·have hi:i < c.n.length:=jpf hb;have hw:=qa1 i (by omega);obtain ⟨y,hy⟩:∃ y,c.n[i] = y:=⟨_,rfl⟩;have hyl:=hval.l i hi;have hnd:c.nd i = y:=by rw [c.nd_get hi,hy]
  have hsN:=qqa c i;rw [hnd] at hyl hsN;have hlli:=hll i (by omega);have hw2:=qa1 y.i.length (by omega);obtain ⟨M,hM⟩:∃ M,y.i.length + 1 = M:=⟨_,rfl⟩;rw [hM] at hw2 hsN;simp [hi,hy];intro gf2;generalize gf2 7 = g7;simp [hw2]
  refine jpa (X:=Nat × Option (Nat × List V)) (fun z=>[(26,qaa z.1),(25,qaa M),(6,qaa i),(17,qaa i),(16,qaa c.n.length),(15,.sl (c.n.map Nd.v) none),(5,qbo 35 z.2),(1,.ptr 1 g1 0 0)]) (fun z=>(1,.row g1 4 [c.v]) :: qbn 35 2 z.2)
   (fun z=>z.1≤M/\qa7 z.2 = qjq c i ++ qvp i z.1/\(z.2 = none->i = 0/\z.1 = 0)) (fun z=>M - z.1) (0,acc) ⟨by simp,by simp [qvp,q2],fun h=>⟨q3.1 h,rfl⟩⟩ (by simp [qaa]) (by rcases acc with _ | ⟨ga,r⟩ <;> simp [qbn]) ?_
  rintro ⟨k,acc2⟩ ⟨p1,p2,p3⟩;dsimp only at p1 p2 p3 ⊢;simp [qaa];refine jo8 (fun hb2=>?_) (fun hb2=>?_)
  ·have hk:k < M:=jpf hb2;have hw3:=qa1 k (by omega);have hw4:IntKind.i64.wrap ((k:Int) - 1) = (k:Int) - 1:=by rw [qas] <;> omega
   have hnx:=qy7 i k;have hnx2:qjq c i ++ qvp i (k + 1) = (qjq c i ++ qvp i k) ++ [.agg [.int .i64 (i:Int),.int .i64 ((k:Int) - 1)]]:=by rw [hnx,List.append_assoc]; rfl
   rw [<- p2] at hnx2;have hlen:=congrArg List.length p2;rw [List.length_append,qt0] at hlen;rcases acc2 with _ | ⟨gb,rb⟩
   ·simp [qbo,qbn,hw4];intro ga gb;exact ⟨k + 1,some (gb 35,[.agg [.int .i64 (i:Int),.int .i64 ((k:Int) - 1)]]),⟨hk,by simpa [qa7] using hnx2.symm,by simp⟩,by simp [hw3],by simp,by omega⟩
   ·simp [qbo,qbn,hw4];intro ga gb1;exact ⟨by simp only [qa7] at hlen; omega,k + 1,some (gb1 35,rb ++ [.agg [.int .i64 (i:Int),.int .i64 ((k:Int) - 1)]]),⟨hk,by simpa [qa7] using hnx2.symm,by simp⟩,by simp [hw3],by simp,by omega⟩
  ·have hk:k = M:=by have:=jpg hb2; omega
   subst hk;simp [hw];refine .done ⟨i + 1,acc2,⟨hi,by rw [p2,hsN],?_⟩,by simp,by rcases acc2 with _ | ⟨ga,r⟩ <;> simp [qbn],by omega⟩;constructor
   ·intro h; have:=(p3 h).2; omega
   ·intro h; omega
 ·have hi:i = c.n.length:=by have:=jpg hb; omega
  subst hi
  have hcl:=q64 (qjq c c.n.length) none (qkx _ _) (fun x hx=>by
   obtain ⟨n,-,h⟩:=List.mem_flatMap.1 hx;obtain ⟨k,-,rfl⟩:=List.mem_map.1 h;rfl)
  have hpp:=qkx c c.n.length;generalize qjq c c.n.length = C at q2 hcl hpp ⊢;rcases acc with _ | ⟨ga,r⟩
  ·have:=q3.1 rfl; omega
  ·simp only [qa7] at q2;subst q2;simp [qbo,qbn];refine .mk [(5,.ref 35 ga 0 r.length none)] [(35,.row ga 2 r)] (by simp) (by simp) (.frz (g:=ga) (sz:=2) (es:=r) 35 (by simp) hpp (.done ?_));simp [fzF,fzH,fzV,fzf];refine jo7 hcl (by simp [hpp]) ?_;simp [qad,hpp]
end
section
open Go
theorem q8a (c:Ci) (l:V) (hl:l.pure = true) (hc:l.cellsOk = true) (m:Nat):qab Tryz.prog gl0 98 [c.v,u8V m,l] (.fn 137 [] [.iptr (u8V m) 0,.iptr l 0,.iptr c.v 0]):=by
 refine jpb 3 ok98 rfl ?_;simp [i98,x98,u8V];intro gf1 gf2 gf3;exact ⟨hc,qa5 _ hl⟩
theorem qjo (l:List Ft):jne (l.map Ft.w) = true:=pureL_map (fun x=>by simp [Ft.w,u8V,qaa]) l
theorem q63 (l:List Ft) (cap:Option Nat):qab Tryz.prog gl0 99 [.sl (l.map Ft.w) cap] (.sl (l.map Ft.w) (some l.length)):=by
 have hp:=qjo l;have hl:(l.map Ft.w).length = l.length:=by simp
 generalize l.map Ft.w = v at hp hl ⊢;rw [<- hl];refine jpb 2 ok99 rfl ?_;simp [i99,x99];exact qad _ hp
theorem q16:qab Tryz.prog gl0 99 [.nil] (.sl [] (some 0)):=by
 refine jpb 2 ok99 rfl ?_;simp [i99,x99]
def flV (l:List Ft):V:=.sl (l.map Ft.w) (some l.length)
noncomputable def jdm (g g8:Nat):Blk:=.loop g 36 [(8,.ptr 7008 g8 0 0)] [26] qzw qzx false
theorem jfh {g g8:Nat} {z:Option (Nat × List V)} {f:Ft} {h:Hp} {K:V->Hp->Prop} (hz:(qa7 z).length < 65536) (hp:jne (qa7 z) = true) (h1:lk h 2000026 = some (jdm g g8)) (h2:lk h 7008 = some (.row g8 1 [qbo 33 z])) (h3:∀ g' l,z = some (g',l)->lk h 33 = some (.row g' 5 l))
  (hk:∀ ga h3,lk h3 2000026 = some (jdm g g8)->lk h3 7008 = some (.row g8 1 [qbo 33 (some (ga,qa7 z ++ [f.w]))])->lk h3 33 = some (.row ga 5 (qa7 z ++ [f.w]))->(∀ t,t ≠ 2000026->t ≠ 7008->t ≠ 33->t ≠ 9->t ≠ 32->lk h3 t = lk h t)->K (.bool true) h3) :
  qfh Tryz.prog gl0 2000026 g [f.w] h K:=by
 unfold jdm at *;refine qfh.of_W q9e h1 rfl ?_;rcases z with _ | ⟨gz,l⟩
 ·simp only [qbo,qa7] at *;simp [q1c,q1e,Ft.w,u8V,qaa,h1,h2];intro gf;refine ⟨_,_,_,_,_,⟨rfl,rfl,rfl,rfl,rfl⟩,?_⟩;intro ga gb;refine .done ⟨_,_,_,_,_,by simp; exact ⟨rfl,rfl,rfl,rfl,rfl⟩,_,qdk _,?_⟩;refine hk (gb 33) _ ?_ ?_ ?_ fun t q1 q2 q3 q4 q5=>?_
  all_goals rw [qd6]
  all_goals simp [Ft.w,u8V,qaa, *]
 ·have h4:=h3 _ _ rfl;simp only [qbo,qa7] at *;simp [q1c,q1e,Ft.w,u8V,qaa,h1,h2,h4];intro gf;refine ⟨_,_,_,_,_,⟨rfl,rfl,rfl,rfl,rfl⟩,?_⟩;have hle:¬ l.length = 65536:=by omega
  simp [hle,h1,h2,h4];intro ga gb;refine ⟨by omega,.done ⟨_,_,_,_,_,by simp; exact ⟨rfl,rfl,rfl,rfl,rfl⟩,_,qdk _,?_⟩⟩;refine hk (gb 33) _ ?_ ?_ ?_ fun t q1 q2 q3 q4 q5=>?_
  all_goals rw [qd6]
  all_goals simp [Ft.w,u8V,qaa, *]
noncomputable def hhA (g g5 g7 g8:Nat) (z:Option (Nat × List V)):Hp:=
 (2000026,jdm g g8) :: (7008,.row g8 1 [qbo 33 z]) :: (7004,.row g7 1 [.nil]) :: (5,.row g5 1 [.int .i64 0]) :: qbn 33 5 z
def fsS (l:List (Nat × Nat)):List Ft:=l.flatMap fun p=>[⟨0,p.1,p.2,0,0⟩,⟨0,p.1,p.2,1,0⟩]
def lnV (p:Nat × Nat):V:=.agg [qaa p.1,.int .i64 ((p.2:Int) - 1)]
structure SitS where
 j:Nat
 z:Option (Nat × List V)
theorem q2h (l:List (Nat × Nat)) (j:Nat) (hj:j < l.length):fsS (l.take (j + 1)) = fsS (l.take j) ++ [⟨0,l[j].1,l[j].2,0,0⟩,⟨0,l[j].1,l[j].2,1,0⟩]:=by
 rw [List.take_succ_eq_append_getElem hj];unfold fsS;rw [List.flatMap_append];rfl
theorem qrz (l:List (Nat × Nat)):(fsS l).length = 2 * l.length:=by
 induction l with
 | nil=>rfl
 | cons a r ih=>
  have:fsS (a :: r) = [⟨0,a.1,a.2,0,0⟩,⟨0,a.1,a.2,1,0⟩] ++ fsS r:=by simp [fsS]
  rw [this,List.length_append,ih];simp; omega
set_option maxRecDepth 100000 in
theorem q7t (c:Ci) (l:List (Nat × Nat)) (cap:Option Nat) (hl:l.length < 30000) (g g5 g7 g8:Nat) (K:V->Hp->Prop)
  (hK:∀ v z,qa7 z = (fsS l).map Ft.w->K v (hhA g g5 g7 g8 z)) :
  qat Tryz.prog gl0 137 [.own 2000026 g,.iptr (.int .u8 0) 0,.iptr (.sl (l.map lnV) cap) 0,.iptr c.v 0] (hhA g g5 g7 g8 none) K:=by
 have hwl:(l.map lnV).length = l.length:=by simp
 refine jpe jjr rfl ?_;simp [i137,x137];intro gf;generalize gf 4 = g4
 refine jpa (X:=SitS) (fun s=>[(14,qaa s.j),(13,qaa l.length),(12,.sl (l.map lnV) cap),(4,.ptr 4 g4 0 0),(1,.iptr (.int .u8 0) 0)]) (fun s=>(4,.row g4 1 [.own 2000026 g]) :: hhA g g5 g7 g8 s.z)
  (fun s=>s.j≤l.length/\qa7 s.z = (fsS (l.take s.j)).map Ft.w) (fun s=>l.length - s.j) ⟨0,none⟩ ⟨Nat.zero_le _,rfl⟩ (by simp [qaa]) (by simp [hhA,qbn]) ?_
 rintro ⟨j,z⟩ ⟨hj,hz⟩;dsimp only at hj hz;simp [qaa];refine jo8 (fun hb=>?_) (fun hb=>?_)
 ·have hj2:j < l.length:=jpf hb;have hwj:=qa1 j (by omega);have htk:=q2h l j hj2;have hlen:(qa7 z).length = 2 * j:=by rw [hz,List.length_map,qrz,List.length_take]; omega
  have hzp:jne (qa7 z) = true:=by rw [hz]; exact qjo _
  obtain ⟨p,hp⟩:∃ p,l[j] = p:=⟨_,rfl⟩;obtain ⟨a,b⟩:=p;rw [hp] at htk;have hw:∀ x:Nat,(Ft.w ⟨0,a,b,x,0⟩) = .agg [.int .u8 0,.int .i64 a,.int .i64 ((b:Int) - 1),.int .u8 x,.int .i64 0]:=fun x=>rfl;simp [hj2,hp,lnV,qaa];intro gf6;refine jfh (g8:=g8) (z:=z) (f:=⟨0,a,b,0,0⟩) (by omega) hzp (by simp [hhA]) (by simp [hhA]) (fun g' l' e=>by subst e; simp [hhA,qbn]) fun ga h3 k1 k2 k3 k4=>?_;have f6:=k4 6 (by simp) (by simp) (by simp) (by simp) (by simp);have f4:=k4 4 (by simp) (by simp) (by simp) (by simp) (by simp);have f7004:=k4 7004 (by simp) (by simp) (by simp) (by simp) (by simp);have f5:=k4 5 (by simp) (by simp) (by simp) (by simp) (by simp);simp [hhA] at f6 f4 f7004 f5;clear k4;have hp2:jne (qa7 z ++ [Ft.w ⟨0,a,b,0,0⟩]) = true:=qfw hzp (by simp [Ft.w,u8V,qaa]);have hz2:(qa7 z ++ [Ft.w ⟨0,a,b,0,0⟩]).length < 65536:=by rw [List.length_append]; simp only [List.length_singleton]; omega
  simp [f6,f4,f7004,f5];refine jfh (g8:=g8) (z:=some (ga,qa7 z ++ [Ft.w ⟨0,a,b,0,0⟩])) (f:=⟨0,a,b,1,0⟩) hz2 hp2 (by simp [k1]) (by simp [k2]) (fun g' l' e=>by cases e; simp [k3]) fun gb h4 m1 m2 m3 m4=>?_;have n4:=m4 4 (by simp) (by simp) (by simp) (by simp) (by simp);have n7004:=m4 7004 (by simp) (by simp) (by simp) (by simp) (by simp);have n5:=m4 5 (by simp) (by simp) (by simp) (by simp) (by simp);simp [f4,f7004,f5] at n4 n7004 n5;clear m4;simp;refine ⟨⟨j + 1,some (gb,qa7 z ++ [Ft.w ⟨0,a,b,0,0⟩] ++ [Ft.w ⟨0,a,b,1,0⟩])⟩,⟨hj2,?_⟩,by simpa using hwj,?_,by simp only []; omega⟩
  ·rw [htk,List.map_append,<- hz]; simp [qa7]
  ·simp [hhA,qbn,n4,n7004,n5,m1,m2,m3,qa7]
 ·have hj3:j = l.length:=by have:=jpg hb; omega
  subst hj3;rw [List.take_length] at hz;simp;refine .done ⟨_,?_,hK _ z hz⟩;rcases z with _ | ⟨ga,r⟩ <;> simp [hhA,qbn]
def lnF (c:Ci):List (Nat × Nat):=(List.range c.n.length).flatMap fun n=>(List.range ((c.nd n).i.length + 1)).map fun q=>(n,q)
theorem jdj (c:Ci):(lnF c).map lnV = qjq c c.n.length:=by
 unfold lnF qjq;rw [List.map_flatMap];congr 1;funext n;unfold qvp;rw [List.map_map];rfl
theorem qy5 (c:Ci) (hg:c.good):(lnF c).length < 30000:=by
 have h1:=qn2 c (fun n hn=>hg.val.l n hn) c.n.length (jpm _);rw [<- jdj,List.length_map] at h1;have:=hg.n1;omega
theorem jdi (c:Ci) (p:Nat × Nat) (hp:p ∈ lnF c):p.1 < c.n.length/\p.2≤(c.nd p.1).i.length:=by
 unfold lnF at hp;rw [List.mem_flatMap] at hp;obtain ⟨n,hn,hq⟩:=hp;rw [List.mem_map] at hq;obtain ⟨q,hq,rfl⟩:=hq;have:=List.mem_range.1 hn;have:=List.mem_range.1 hq;exact ⟨by assumption,by simp only []; omega⟩
theorem jcn (c:Ci) (f:Ft) (hf:f ∈ fsS (lnF c)):f.ok c/\f.m = 0:=by
 unfold fsS at hf;rw [List.mem_flatMap] at hf;obtain ⟨p,hp,hq⟩:=hf;obtain ⟨h1,h2⟩:=jdi c p hp;simp only [List.mem_cons,List.not_mem_nil,or_false] at hq;rcases hq with rfl | rfl
 ·exact ⟨⟨Nat.zero_lt_two,h1,h2,Nat.zero_le _,rfl⟩,rfl⟩
 ·exact ⟨⟨Nat.zero_lt_two,h1,h2,jpm _,rfl⟩,rfl⟩
set_option maxRecDepth 100000 in
theorem jbf (c:Ci) (hg:c.good):qab Tryz.prog gl0 52 [c.v,u8V 0] (.tup [flV (fsS (lnF c)),.int .i64 0]):=by
 have hl:=q71 c hg;have hn1:=hg.n1;have hlp:=qkx c c.n.length;have hll:=qy5 c hg;have hm:qab Tryz.prog gl0 98 [c.v,.int .u8 0,.sl (qjq c c.n.length) (some (qjq c c.n.length).length)] (.fn 137 [] [.iptr (.int .u8 0) 0,.iptr (.sl (qjq c c.n.length) (some (qjq c c.n.length).length)) 0,.iptr c.v 0]):=q8a c (.sl (qjq c c.n.length) (some (qjq c c.n.length).length)) (by simp [V.pure,hlp]) rfl 0;have hLL:=jdj c;generalize qjq c c.n.length = L at hl hm hlp hLL
 have hit:∀ (g g5 g7 g8:Nat) (K:V->Hp->Prop),(∀ v z,qa7 z = (fsS (lnF c)).map Ft.w->K v (hhA g g5 g7 g8 z))->qat Tryz.prog gl0 137 [.own 2000026 g,.iptr (.int .u8 0) 0,.iptr (.sl L (some L.length)) 0,.iptr c.v 0] (hhA g g5 g7 g8 none) K:=by
  rw [<- hLL];exact fun g g5 g7 g8 K hK=>q7t c (lnF c) _ hll g g5 g7 g8 K hK
 simp only [u8V];refine jn3 5 2 ok52 rfl ?_;simp [i52,x52];intro gf1 gf2 gf3;refine KM.mk (.done ?_);simp;refine jo7 hl (by simp) ?_;simp;refine KM.mk (.done ?_);simp;refine KM.mk (.done ?_);simp;intro gf4;refine KM.mk (.move 4 7004 _ (by decide) (by simp; rfl) fun g7=>.move 8 7008 _ (by decide) (by simp [mvH,mvS]; rfl) fun g8=>.done ?_);simp [mvF,mvH,mvS,V.rn,jnz,Blk.rn,Blk.gen,qea _ (qcr c),qan L hlp];refine jo7 hm (by simp [V.pure,hlp]) ?_;simp;generalize gf3 5 = g5;refine ⟨[(8,.ptr 7008 g8 0 0)],by simp,[(7008,.row g8 1 [.nil]),(7004,.row g7 1 [.nil]),(5,.row g5 1 [.int .i64 0])],by simp,fun g=>hit g g5 g7 g8 _ fun v z hz=>?_⟩;unfold hhA jdm;simp;rcases z with _ | ⟨ga,r⟩
 ·have hz2:fsS (lnF c) = []:=List.map_eq_nil_iff.1 hz.symm;rw [hz2];refine KM.mk (.done ?_);simp [qbo,qbn];refine jo7 q16 rfl ?_;simp [flV]
 ·have hr:r = (fsS (lnF c)).map Ft.w:=hz;have hp:jne r = true:=by rw [hr]; exact qjo _
  have hclip:=q63 (fsS (lnF c)) none;have hpv:flV (fsS (lnF c)) = .sl r (some r.length):=by rw [hr]; simp [flV]
  rw [<- hr,show (fsS (lnF c)).length = r.length by rw [hr]; simp] at hclip;rw [hpv];refine KM.mk (.frz (g:=ga) (sz:=5) (es:=r) 33 (by simp [qbn]) hp (.done ?_));simp [qbo,qbn,fzV,V.mapR,jnh,fzH,Blk.fz,hlp,fzF,fzp,fzf];refine jo7 hclip (by simp [hp]) ?_;simp;exact qad _ hp
end
section
open Go
end
end Go.Proofs.YtpaopccohkldlaaGreatDoor
