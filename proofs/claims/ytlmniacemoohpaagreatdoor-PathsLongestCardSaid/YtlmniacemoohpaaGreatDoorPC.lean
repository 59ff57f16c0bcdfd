/- Lemmas. Conditions: none. -/
import Derived.Test.YtlmniacemoohpaaGreatDoorP9
import Derived.Test.YtlmniacemoohpaaGreatDoorXPL
import Derived.Test.YtlmniacemoohpaaGreatDoorT7
set_option linter.all false
namespace Go.Proofs.YtlmniacemoohpaaGreatDoor
section
open Go
def gX (n:Nat):List Ln:=if n = 0 then [(2,0)] else if n = 1 then [(2,1)] else []
theorem jdv:q19 gtC gX:=fun n hn=>by
 have h3:gtC.n.length = 3:=rfl;obtain ⟨g0,g1,g2⟩:=qwx
 match n,hn with
 | 0,_=>exact ⟨by simp [gX],by intro l hl; simp [gX] at hl; subst hl; exact ⟨2,rfl,by omega,by rw [g2]; simp⟩⟩
 | 1,_=>exact ⟨by simp [gX],by intro l hl; simp [gX] at hl; subst hl; exact ⟨2,rfl,by omega,by rw [g2]; simp⟩⟩
 | 2,_=>exact ⟨by simp [gX],by intro l hl; simp [gX] at hl⟩
 | n + 3,h=>omega
def cvG:V:=.sl (tab 3 fun n=>qa0 gtC gX n) (some 3)
theorem q3y:qch Tryz.prog gl0 71 [gtC.v] (qsi 6 q0g):=jhh ql3 (m:=200000) (by kernel_rfl)
theorem jdo:qac Tryz.prog gl0 72 [gtC.v,q0g] cvG:=by
 refine qac.wide (qpr gtC qc8 gX jdv (some 3)) ⟨.refl _,?_,trivial⟩ (.refl _);unfold q0g;refine jhu rfl fun i=>?_
 match i with
 | 0=>exact ⟨.refl _,trivial⟩
 | 1=>exact ⟨.refl _,trivial⟩
 | 2=>exact ⟨.nil',trivial⟩
 | i + 3=>exact qf9.refl _
theorem qzh:cvG.pure = true:=qcd fun n=>by simp only [qa0,V.pure]; exact qcd fun _=>rfl
theorem can0 (k:Nat) (hk:k ≠ 1) {n:Nat} (hn:n < 2):qjc gtC gX k n = false:=by
 have o0:qjw gtC 0 = false:=by decide
 have o1:qjw gtC 1 = false:=by decide
 match k with
 | 0=>match n,hn with
  | 0,_=>exact o0
  | 1,_=>exact o1
 | 1=>exact absurd rfl hk
 | k + 2=>match n,hn with
  | 0,_=>simp [qjc,gX]
  | 1,_=>simp [qjc,gX]
theorem can1 {n:Nat} (hn:n < 2):qjc gtC gX 1 n = true:=by
 have o2:qjw gtC 2 = true:=by decide
 match n,hn with
 | 0,_=>simp [qjc,gX,o2]
 | 1,_=>simp [qjc,gX,o2]
theorem can2:qjc gtC gX 0 2 = true:=by decide
def pG (n:Nat):V:=.sl [.agg [.int .i64 n,.int .i64 (-1)],.agg [.int .i64 2,.int .i64 n]] (some 2)
def gc (k j:Nat):Nat:=if 3≤k then 0 else if k = 2 then min j 2 else 2
def goV (m g:Nat):V:=match m with | 0=>.nil | m + 1=>.ref 40 g 0 (m + 1) none
def goH (m g:Nat):Hp:=match m with | 0=>[] | m + 1=>[(40,.row g 1 ([pG 0,pG 1].take (m + 1)))]
theorem qv4 (l:List Ln) (cap:Option Nat) (h0:l ≠ []) (hl:l.length < 1000000):qch Tryz.prog gl0 75 [.sl (l.map lnI) cap] (qvs 2 (l.map lnI) none):=by
 refine jiw ok75 rfl ?_
 obtain ⟨x,r,rfl⟩:∃ x r,l = x :: r:=by cases l with
  | nil=>exact absurd rfl h0
  | cons x r=>exact ⟨x,r,rfl⟩
 have hp:=qbs (x :: r);have hx:(x :: r).map lnI = lnI x :: r.map lnI:=rfl;rw [hx] at hp ⊢;simp at hl;simp [i75,x75];intro gf0;simp [nop];intro gf1 gf2;have hc:(lnI x).cells.length = 2:=rfl;have hall:(r.all ((fun x=>decide (x.cells.length = 2)) ∘ lnI)) = true:=List.all_eq_true.2 fun x _=>rfl;have hle:r.length + 1≤274877906944:=by omega
 simp [hc,hall,hle];refine .move 5 0 _ (by simp) (by simp; rfl) fun g=>.done ?_;simp;exact ⟨[(0,.row g 2 (lnI x :: r.map lnI))],by simp [Blk.rn,V.rn,qap (qbs r),lnI],g,by simp,rfl⟩
theorem qnd (l:List Ln) (cap:Option Nat) (h0:l ≠ []) (hl:l.length < 1000000):qch Tryz.prog gl0 75 [.sl (l.map lnI) cap] (qsi 1 (.sl (l.map lnI) none)):=by
 refine (qv4 l cap h0 hl).dat1 (qbs l) ?_;clear h0 hl
 induction l with
 | nil=>rfl
 | cons a r ih=>simp only [List.map_cons,jg5,ih,Bool.and_true]; rfl
theorem qnc (l:List Ln) (cap:Option Nat) (hl:l.length < 1000000):qac Tryz.prog gl0 74 [.sl (l.map lnI) cap] (.sl (l.map lnI) (some l.length)):=by
 have hp:=qbs l;have hll:(l.map lnI).length = l.length:=by simp
 generalize l.map lnI = v at hp hll ⊢;rw [<- hll];refine jiu 2 q9n rfl ?_;simp [i74,x74];exact qak _ hp
structure GS where
 k:Nat
 j:Nat
 g:Nat
 a:Nat
 b:Nat
 d:Nat
 e:Nat
 f:Nat
def qjg (z:GS):List V:=[.ptr 7010 z.b 0 0,.ptr 7003 z.f 0 0,.ptr 7009 z.d 0 0,.ptr 7008 z.e 0 0,.ptr 7011 z.a 0 0]
def hpG (c:Ci) (nx:List V) (g2:Nat) (z:GS):Hp:=(7011,.row z.a 1 [.fn 73 [] (qjg z)]) :: (7010,.row z.b 1 [goV (gc z.k z.j) z.g]) :: (7009,.row z.d 1 [.sl (tab 3 fun n=>qa0 gtC gX n) (some 3)]) :: (7008,.row z.e 1 [.sl nx (some 3)]) :: (7003,.row z.f 1 [.int .i64 5]) :: (2,.row g2 4 [c.v]) :: goH (gc z.k z.j) z.g
set_option maxRecDepth 100000 in
set_option maxHeartbeats 4000000 in
theorem qum:qac Tryz.prog gl0 33 [gtC.v,.int .i64 5] (.tup [.sl [pG 0,pG 1] (some 2),.int .i64 0]):=by
 have hl:=qnx gtC qc8;have hnx:=jii q3y;have hcv:=jdo;have hcp:=qzh;have hsr:=fun y=>qii y;obtain ⟨c,hc⟩:∃ c,gtC = c:=⟨_,rfl⟩;have h3:c.n.length = 3:=by rw [<- hc]; rfl
 have n0:c.n[0]? = some ⟨0,[],0,0⟩:=by rw [<- hc]; rfl
 have n1:c.n[1]? = some ⟨0,[],0,0⟩:=by rw [<- hc]; rfl
 have n2:c.n[2]? = some ⟨5,[0,1],0,0⟩:=by rw [<- hc]; rfl
 have hlp:jgy (qor c c.n.length) = true:=qgl _ _;rw [hc] at hl hnx hcv ⊢;obtain ⟨nx,hnx0⟩:∃ nx:List V,nx = [.sl [.agg [.int .i64 2,.int .i64 0]] none,.sl [.agg [.int .i64 2,.int .i64 1]] none,.nil]:=⟨_,rfl⟩;have hnv:q0g = .sl nx (some 3):=by rw [hnx0]; rfl
 have hnp:jgy nx = true:=by rw [hnx0]; rfl
 have x0:nx[0]? = some (.sl [.agg [.int .i64 2,.int .i64 0]] none):=by rw [hnx0]; rfl
 have x1:nx[1]? = some (.sl [.agg [.int .i64 2,.int .i64 1]] none):=by rw [hnx0]; rfl
 have xl:nx.length = 3:=by rw [hnx0]; rfl
 clear hnx0;rw [hnv] at hnx hcv;unfold cvG at hcv hcp;simp only [V.pure] at hcp;refine jiu 4 jb7 rfl ?_;simp [i33,x33];intro gf1 gf2;generalize gf1 2 = g2;generalize gf2 3 = g3;refine jir hl (by simp) ?_;simp;refine jir hnx (by simp) ?_;simp;intro gf3;generalize gf3 8 = g8;refine jir hcv (by simp [hnp]) ?_;simp;intro gf4 gf5 gf6;generalize gf4 9 = g9;generalize gf5 10 = g10;generalize gf6 11 = g11;have hcr:jgy (tab 3 fun n=>qa0 gtC gX n) = true:=hcp
 refine jhc (X:=GS) (fun z=>[(12,.int .i64 ((z.k:Int) - 1)),(11,.ptr 7011 z.a 0 0),(10,.ptr 7010 z.b 0 0),(2,.ptr 2 g2 0 0)]) (hpG c nx g2)
  (fun z=>z.k≤256/\z.j = 0) (fun z=>z.k) ?_ ?_
 ·refine .move 11 7011 _ (by simp) (by simp; rfl) fun ga=>.move 10 7010 _ (by simp) (by simp; rfl) fun gb=>.move 9 7009 _ (by simp) (by simp; rfl) fun gd=>.move 8 7008 _ (by simp) (by simp; rfl) fun ge=>.move 3 7003 _ (by simp) (by simp; rfl) fun gf=>.done ⟨⟨256,0,0,ga,gb,gd,ge,gf⟩,⟨by simp,rfl⟩,by simp,?_⟩;simp [hpG,qjg,gc,goV,goH,qap hcr,qap hnp,Blk.rn,V.rn,mvS,qbd _ hcr,qbd _ hnp,qi0 c.v (by simp)]
 rintro ⟨k,j,g,a,b,d,e,f⟩ ⟨q1,q2⟩;dsimp only at q1 q2;subst q2;simp;refine jis (fun hb=>?_) (fun hb=>?_)
 ·have hk1:1≤k:=jiy hb;simp [hpG,h3]
  refine jit (X:=GS) (fun z=>[(42,qab z.j),(41,qab 3),(40,.sl (c.n.map Nd.v) none),(12,.int .i64 ((k:Int) - 1)),(11,.ptr 7011 z.a 0 0),(10,.ptr 7010 z.b 0 0),(2,.ptr 2 g2 0 0)]) (hpG c nx g2)
   (fun z=>z.k = k/\z.j≤3) (fun z=>3 - z.j) ⟨k,0,g,a,b,d,e,f⟩ (by simp) (by simp [qab]) (by simp [hpG]; generalize gc k 0 = m; cases m <;> simp [goH]) ?_
  rintro ⟨k',j,g,a,b,d,e,f⟩ ⟨r1,r2⟩;dsimp only at r1 r2;subst r1;simp [qab];refine jis (fun hb2=>?_) (fun hb2=>?_)
  ·have hj:j < 3:=jiy hb2;have hw:=qbg j (by omega);have hj3:j < c.n.length:=by omega
   by_cases hj2:j = 2
   ·subst hj2;have hs:=hsr ⟨5,[0,1],0,0⟩;have n2':c.n[2] = ⟨5,[0,1],0,0⟩:=(List.getElem?_eq_some_iff.1 n2).2;have hg3:gc k' 3 = gc k' 2:=by unfold gc; split <;> (try split) <;> rfl
    simp [hpG,n2',hj3];intro gf14;refine jir hs (by simp) ?_;simp;refine ⟨⟨k',3,g,a,b,d,e,f⟩,⟨rfl,by simp⟩,by simp,?_,by simp⟩;simp [hg3,qjg];generalize gc k' 2 = m;cases m <;> simp [goH]
   ·have hnj:c.n[j]? = some ⟨0,[],0,0⟩:=by
     match j,hj,hj2 with
     | 0,_,_=>exact n0
     | 1,_,_=>exact n1
     | 2,_,h=>exact absurd rfl h
    have hs:=hsr ⟨0,[],0,0⟩;have hnj':c.n[j] = ⟨0,[],0,0⟩:=(List.getElem?_eq_some_iff.1 hnj).2;simp [hpG,hnj',hj3];intro gf14;generalize gf14 14 = g14;refine jir hs (by simp) ?_;simp;intro gf52;generalize gf52 52 = g52;obtain ⟨q,rfl⟩:∃ q,k' = q + 1:=⟨k' - 1,by omega⟩;by_cases hq1:q = 1
    ·subst hq1;have hcan:=can1 (n:=j) (by omega);have hcan2:=can2;have hgj:gc 2 j = j:=by unfold gc; rw [if_neg (by omega),if_pos rfl]; omega
     have hgj1:gc 2 (j + 1) = j + 1:=by unfold gc; rw [if_neg (by omega),if_pos rfl]; omega
     have x0':nx[0] = .sl [.agg [.int .i64 2,.int .i64 0]] none:=(List.getElem?_eq_some_iff.1 x0).2;have x1':nx[1] = .sl [.agg [.int .i64 2,.int .i64 1]] none:=(List.getElem?_eq_some_iff.1 x1).2;have hj01:j = 0∨j = 1:=by omega
     have hh:(1 + 1:Nat) = 2:=rfl;simp only [hh,hgj];rcases hj01 with rfl | rfl
     ·simp only [goV,goH];refine jhm qut rfl ?_;simp [q3j,q41,qjg,qa1,qa0,hcan,x0',xl]
      refine jit (X:=Nat × Nat) (fun z=>match z.1 with
        | 0=>[(46,qab 0),(45,qab 1),(44,.sl [.agg [.int .i64 2,.int .i64 0]] none),(0,.ref 52 g52 0 1 (some 1)),(1,.int .i64 1),(6,.ptr 7011 a 0 0)]
        | _ + 1=>[(46,qab 1),(45,qab 1)])
       (fun z=>match z.1 with
        | 0=>(52,.row g52 2 [lnI (0,-1)]) :: hpG c nx g2 ⟨2,0,z.2,a,b,d,e,f⟩
        | _ + 1=>hpG c nx g2 ⟨2,1,z.2,a,b,d,e,f⟩)
       (fun z=>z.1≤1) (fun z=>1 - z.1) (0,g) (by simp) (by simp [qab]) (by simp [hpG,gc,goV,goH,qjg,qa0,lnI]) ?_
      rintro ⟨i,gq⟩ hi;dsimp only at hi;rcases i with _ | i
      ·simp [qab,lnI,hpG,gc,goV,goH,qjg];intro gf11 gm;refine ⟨rfl,?_⟩;have hcl:=qnd [(0,-1),(2,0)] none (by simp) (by simp);have hcp2:=qnc [(0,-1),(2,0)] none (by simp);simp only [List.map_cons,List.map_nil,lnI] at hcl hcp2;refine jhm qut rfl ?_;simp [q3j,q41,qa1,qa0,hcan2];intro gm2
       first | refine ⟨_,_,_,.dat 2 hcl (by simp [frz,V.mapR,jg1,lk]),?_⟩ | refine ⟨_,⟨_,_,.dat 2 hcl (by simp [frz,V.mapR,jg1,lk])⟩,?_⟩ | refine ⟨_,_,⟨_,.dat 2 hcl (by simp [frz,V.mapR,jg1,lk])⟩,?_⟩
       simp
       first | refine ⟨_,_,_,.pure hcp2 (by simp),?_⟩ | refine ⟨_,⟨_,_,.pure hcp2 (by simp)⟩,?_⟩ | refine ⟨_,_,⟨_,.pure hcp2 (by simp)⟩,?_⟩
       simp;refine ⟨rfl,.done ⟨hpG c nx g2 ⟨2,1,gm2 40,a,b,d,e,f⟩,by simp [hpG,gc,goV,goH,qa0,qjg,pG],1,by simp,by simp,⟨gm2 40,by simp [hpG,gc,goV,goH,qa0,qjg,pG]⟩,by simp⟩⟩
      ·have hi0:i = 0:=by omega
       subst hi0;simp [qab,hpG,gc,goV,goH,qjg];refine .done ⟨hpG c nx g2 ⟨2,1,gq,a,b,d,e,f⟩,by simp [hpG,gc,goV,goH,qa0,qjg],⟨2,1,gq,a,b,d,e,f⟩,⟨rfl,by simp⟩,⟨rfl,rfl,rfl⟩,by simp [hpG,gc,goV,goH,qa0,qjg],by simp⟩
     ·simp only [goV,goH];refine jhm qut rfl ?_;simp [q3j,q41,qjg,qa1,qa0,hcan,x1',xl]
      refine jit (X:=Nat × Nat) (fun z=>match z.1 with
        | 0=>[(46,qab 0),(45,qab 1),(44,.sl [.agg [.int .i64 2,.int .i64 1]] none),(0,.ref 52 g52 0 1 (some 1)),(1,.int .i64 1),(6,.ptr 7011 a 0 0)]
        | _ + 1=>[(46,qab 1),(45,qab 1)])
       (fun z=>match z.1 with
        | 0=>(52,.row g52 2 [lnI (1,-1)]) :: hpG c nx g2 ⟨2,1,z.2,a,b,d,e,f⟩
        | _ + 1=>hpG c nx g2 ⟨2,2,z.2,a,b,d,e,f⟩)
       (fun z=>z.1≤1) (fun z=>1 - z.1) (0,g) (by simp) (by simp [qab]) (by simp [hpG,gc,goV,goH,qjg,qa0,lnI]) ?_
      rintro ⟨i,gq⟩ hi;dsimp only at hi;rcases i with _ | i
      ·simp [qab,lnI,hpG,gc,goV,goH,qjg];intro gf11 gm;refine ⟨rfl,?_⟩;have hcl:=qnd [(1,-1),(2,1)] none (by simp) (by simp);have hcp2:=qnc [(1,-1),(2,1)] none (by simp);simp only [List.map_cons,List.map_nil,lnI] at hcl hcp2;refine jhm qut rfl ?_;simp [q3j,q41,qa1,qa0,hcan2];intro gm2
       first | refine ⟨_,_,_,.dat 2 hcl (by simp [frz,V.mapR,jg1,lk]),?_⟩ | refine ⟨_,⟨_,_,.dat 2 hcl (by simp [frz,V.mapR,jg1,lk])⟩,?_⟩ | refine ⟨_,_,⟨_,.dat 2 hcl (by simp [frz,V.mapR,jg1,lk])⟩,?_⟩
       simp
       first | refine ⟨_,_,_,.pure hcp2 (by simp),?_⟩ | refine ⟨_,⟨_,_,.pure hcp2 (by simp)⟩,?_⟩ | refine ⟨_,_,⟨_,.pure hcp2 (by simp)⟩,?_⟩
       simp;refine ⟨rfl,.done ⟨hpG c nx g2 ⟨2,2,gq + 1,a,b,d,e,f⟩,by simp [hpG,gc,goV,goH,qa0,qjg,pG],1,by simp,by simp,⟨gq + 1,by simp [hpG,gc,goV,goH,qa0,qjg,pG]⟩,by simp⟩⟩
      ·have hi0:i = 0:=by omega
       subst hi0;simp [qab,hpG,gc,goV,goH,qjg];refine .done ⟨hpG c nx g2 ⟨2,2,gq,a,b,d,e,f⟩,by simp [hpG,gc,goV,goH,qa0,qjg],⟨2,2,gq,a,b,d,e,f⟩,⟨rfl,by simp⟩,⟨rfl,rfl,rfl⟩,by simp [hpG,gc,goV,goH,qa0,qjg],by simp⟩
    ·have hcan:=can0 q hq1 (n:=j) (by omega);have hq256:q < 256:=by omega
     have hgj:gc (q + 1) (j + 1) = gc (q + 1) j:=by
      unfold gc;split
      ·rfl
      ·rw [if_neg (by omega),if_neg (by omega)]
     by_cases hq0:q = 0
     case' pos=>
      subst hq0;simp [gc,goV,goH]
     case' neg=>
      have hgz:gc (q + 1) j = 0:=by unfold gc; rw [if_pos (by omega)]
      rw [hgz] at hgj ⊢;simp [goV,goH]
     case' pos=>
      refine jhm qut rfl ?_;simp [q3j,q41,qjg,hj,qa1,qa0,hq256,hcan];refine .done ⟨hpG c nx g2 ⟨1,j + 1,g,a,b,d,e,f⟩,by simp [hpG,gc,goV,goH,qa0,qjg],⟨1,j + 1,g,a,b,d,e,f⟩,⟨rfl,by dsimp only; omega⟩,⟨by simpa using hw,rfl,rfl⟩,by simp [hpG,gc,goV,goH,qa0,qjg],by dsimp only; omega⟩
     case' neg=>
      refine jhm qut rfl ?_;simp [q3j,q41,qjg,hj,qa1,qa0,hq256,hcan];refine .done ⟨hpG c nx g2 ⟨q + 1,j + 1,g,a,b,d,e,f⟩,by simp [hpG,hgj,goV,goH,qa0,qjg],⟨q + 1,j + 1,g,a,b,d,e,f⟩,⟨rfl,by dsimp only; omega⟩,⟨by simpa using hw,rfl,rfl⟩,by simp [hpG,hgj,goV,goH,qa0,qjg],by dsimp only; omega⟩
  ·have hj:j = 3:=by have:=jiz hb2; omega
   subst hj
   have hgk:gc (k' - 1) 0 = gc k' 3:=by
    unfold gc;by_cases h1:3≤k'
    ·rw [if_pos h1];by_cases h2:3≤k' - 1
     ·rw [if_pos h2]
     ·rw [if_neg h2,if_pos (by omega)]; rfl
    ·rw [if_neg h1,if_neg (by omega),if_neg (by omega)];by_cases h2:k' = 2
     ·rw [if_pos h2]; rfl
     ·rw [if_neg h2]
   have hws:IntKind.i64.wrap ((k':Int) - 1 - 1) = ((k' - 1:Nat):Int) - 1:=by simp [IntKind.wrap,IntKind.bits,IntKind.signed]; omega
   simp [hws];refine .done ⟨⟨k' - 1,0,g,a,b,d,e,f⟩,⟨by dsimp only; omega,rfl⟩,by simp,?_,by dsimp only; omega⟩;simp [hpG,hgk,qjg];generalize gc k' 3 = m;cases m <;> simp [goH]
 ·have hk1:k = 0:=by have:=jiz hb; omega
  subst hk1;have pp:jgy [pG 0,pG 1] = true:=rfl;simp [hpG,gc,goV,goH];refine jix jb8 rfl ?_;simp [i76,x76];refine .done ?_;simp;refine ⟨[(40,.row g 1 [pG 0,pG 1])],by simp,?_⟩;simp [pG]
end
section
open Go
def q1l:V:=.sl [.agg [.int .i64 0,.int .i64 (-1)],.agg [.int .i64 2,.int .i64 0]] (some 2)
theorem qns (a b d e r:Nat) (ha:a≤1) (hb:b≤1) (hd:d≤1) (he:e≤1) (hn:d = qlz a) (hr:(if e = 1 then (if (decide (b≤1) && decide (b = e) || !decide (d = 0)) = true then 2 else 1) else 0) = r) :
  qac Tryz.prog gl0 39 [qpg,q1l,qxy a b d e] (.tup [.int .i64 (r:Int),.int .i64 0]):=by
 have h:=q4x gtC qc8 (g2P a b) (g2P d e) (q1j ha hb) (q1j hd he) qzs (some 2) (by decide) qzt;rw [gtst a b d e hd hn ha,hr] at h;refine qac.wide h ⟨qwy,.refl _,?_,trivial⟩ (.refl _);exact VLe.agg ⟨.cap _ _,.nil',.cap _ _,.nil',trivial⟩
set_option maxRecDepth 100000 in
set_option maxHeartbeats 4000000 in
theorem qj5:qac Tryz.prog gl0 31 [] (.bool true):=by
 have h1:=q7h;have h2:=q22;have h3:qac Tryz.prog gl0 33 [qpg,.int .i64 5] (.tup [.sl [pG 0,pG 1] (some 2),.int .i64 0]):=qac.wide qum ⟨qwy,.refl _,trivial⟩ (.refl _);have p1:=q4g;have p2:=q4h;have p3:=q4i;have t1:=qns 0 1 1 1 2 (by omega) (by omega) (by omega) (by omega) rfl rfl;have t2:=qns 1 1 0 1 2 (by omega) (by omega) (by omega) (by omega) rfl rfl;have t3:=qns 1 0 0 1 1 (by omega) (by omega) (by omega) (by omega) rfl rfl;have hl:qpg.pure = true:=rfl;simp only [q1l,qxy,pG] at h3 p1 p2 p3 t1 t2 t3;generalize qpg = L at h1 h2 h3 t1 t2 t3 hl;refine jiu 6 ok31 rfl ?_;simp [i31,x31];intro gf14;generalize gf14 14 = g14;refine CallO.dat 0 h1 rfl ?_;simp;refine CallO.dat 0 h2 (by simp [qbz _ hl]) ?_;simp;refine CallO.dat 0 h1 rfl ?_;simp;refine jir h3 (by simp [hl]) ?_;simp;refine CallO.dat 0 h1 rfl ?_;simp;refine CallO.dat 0 p1 rfl ?_;simp;refine CallO.borrow 2 t1 (by simp [frz,V.mapR,jg1,lk,qbz _ hl]) rfl ?_;simp;refine CallO.dat 0 h1 rfl ?_;simp;refine CallO.dat 0 p2 rfl ?_;simp;refine CallO.borrow 2 t2 (by simp [frz,V.mapR,jg1,lk,qbz _ hl]) rfl ?_;simp;refine CallO.dat 0 h1 rfl ?_;simp;refine CallO.dat 0 p3 rfl ?_;simp;refine CallO.borrow 2 t3 (by simp [frz,V.mapR,jg1,lk,qbz _ hl]) rfl ?_;simp
 done
end
section
open Go
end
end Go.Proofs.YtlmniacemoohpaaGreatDoor
