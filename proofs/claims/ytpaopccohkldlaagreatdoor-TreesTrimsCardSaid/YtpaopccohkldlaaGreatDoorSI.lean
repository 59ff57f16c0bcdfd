/- Lemmas. Conditions: none. -/
import Derived.Test.YtpaopccohkldlaaGreatDoorSE
import Derived.Test.YtpaopccohkldlaaGreatDoorRE
import Derived.Test.YtpaopccohkldlaaGreatDoorR7
import Derived.Test.YtpaopccohkldlaaGreatDoorRA
import Derived.Test.YtpaopccohkldlaaGreatDoorRF
import Derived.Test.YtpaopccohkldlaaGreatDoorXL3
set_option linter.all false
namespace Go.Proofs.YtpaopccohkldlaaGreatDoor
section
open Go
def qk2:Nat->Nat->DT
 | 0,_=>.lf
 | k + 1,f=>.nd f (qk2 k (f + 1)) (qk2 k (f + 1))
theorem qp2:∀ k f,(qk2 k f).sz + 1 = 2 ^ (k + 1)
 | 0,_=>rfl
 | k + 1,f=>by
  have h:=qp2 k (f + 1);simp only [qk2,DT.sz];rw [Nat.pow_succ];omega
theorem qvh:∀ (k f:Nat) (us:List Nat),(∀ i ∈ us,i < f)->(qk2 k f).ok (f + k) us
 | 0,_,_,_=>trivial
 | k + 1,f,us,h=>by
  have h2:=qvh k (f + 1) (f :: us) fun i hi=>by
   rcases List.mem_cons.1 hi with rfl | hi
   ·omega
   ·have:=h i hi; omega
  rw [show f + 1 + k = f + (k + 1) by omega] at h2;exact ⟨by omega,fun hf=>by have:=h f hf; omega,h2,h2⟩
def Tn.sh (b:Nat) (n:Tn):Tn:=if 0≤n.i then ⟨n.i,n.z + b,n.o + b⟩ else n
theorem qy6 (b:Nat):∀ (d:DT) (a:Nat),(d.fl a).map (Tn.sh b) = d.fl (a + b)
 | .lf,_=>rfl
 | .nd i z o,a=>by
  have h1:=qy6 b z (a + 1);have h2:=qy6 b o (a + 1 + z.sz);simp only [DT.fl,List.map_cons,List.map_append,h1,h2];congr 1
  ·unfold Tn.sh;rw [if_pos (by dsimp only; omega)];simp only [Tn.mk.injEq,true_and];omega
  ·rw [show a + 1 + b = a + b + 1 by omega,show a + 1 + z.sz + b = a + b + 1 + z.sz by omega]
theorem q2u (k f:Nat):(qk2 (k + 1) f).fl 0 = ⟨f,1,((1 + (qk2 k (f + 1)).sz:Nat):Int)⟩ :: (((qk2 k (f + 1)).fl 0).map (Tn.sh 1) ++ ((qk2 k (f + 1)).fl 0).map (Tn.sh (1 + (qk2 k (f + 1)).sz))):=by
 rw [qy6,qy6];simp only [qk2,DT.fl,Nat.zero_add];rfl
end
section
open Go
theorem qp1:∀ (d:DT) (a:Nat),∀ n ∈ d.fl a,n = lfN∨∃ x z o:Nat,n = ⟨x,z,o⟩/\a < z/\z < a + d.sz/\a < o/\o < a + d.sz
 | .lf,a,n,h=>.inl (by simpa [DT.fl] using h)
 | .nd i z o,a,n,h=>by
  have hz:=z.sz_pos;have ho:=o.sz_pos;simp only [DT.fl,List.mem_cons,List.mem_append] at h;simp only [DT.sz];rcases h with rfl | h | h
  ·exact .inr ⟨i,a + 1,a + 1 + z.sz,rfl,by omega,by omega,by omega,by omega⟩
  ·rcases qp1 z _ n h with h | ⟨x,u,v,h,h1,h2,h3,h4⟩
   ·exact .inl h
   ·exact .inr ⟨x,u,v,h,by omega,by omega,by omega,by omega⟩
  ·rcases qp1 o _ n h with h | ⟨x,u,v,h,h1,h2,h3,h4⟩
   ·exact .inl h
   ·exact .inr ⟨x,u,v,h,by omega,by omega,by omega,by omega⟩
def q63:Nat->Option Nat
 | 0=>some 1
 | _ + 1=>none
def qvg (R:Tn) (t:List Tn) (m:Nat):Nat->List V
 | 0=>[R.v]
 | 1=>R.v :: (t.map (Tn.sh 1)).map Tn.v
 | _=>R.v :: ((t.map (Tn.sh 1)).map Tn.v ++ (t.map (Tn.sh (1 + m))).map Tn.v)
def q42 (m:Nat):Nat->Nat
 | 0=>1
 | _=>1 + m
theorem q62 (R:Tn) (t:List Tn) (m j:Nat) (hj:j < 2):qvg R t m j ++ (t.map (Tn.sh (q42 m j))).map Tn.v = qvg R t m (j + 1):=by
 match j,hj with
 | 0,_=>rfl
 | 1,_=>rfl
theorem qy7 (R:Tn) (t:List Tn) (m j:Nat) (hj:j≤2):(qvg R t m j).length = 1 + j * t.length:=by
 match j,hj with
 | 0,_=>simp [qvg]
 | 1,_=>simp [qvg]; omega
 | 2,_=>simp [qvg]; omega
structure FuS where
 j:Nat
 g:Nat
 c:Option Nat
structure FvS where
 i:Nat
 g:Nat
 c:Option Nat
set_option maxRecDepth 100000 in
set_option maxHeartbeats 4000000 in
theorem q64:∀ (k f B:Nat),f + k = B->k≤20->B≤1000->qac Tryz.prog gl0 20 [qaa f,qaa B] (.sl (((qk2 k f).fl 0).map Tn.v) (q63 k)):=by
 intro k
 induction k with
 | zero=>
  intro f B hB _ h1;obtain rfl:f = B:=by omega
  refine jhu 2 ok20 rfl ?_;simp [i20,x20,qaa];simp [qk2,DT.fl,q63,lfN,Tn.v]
 | succ k ih=>
  intro f B hB hk h1;have h2:=ih (f + 1) B (by omega) (by omega) h1;have hsz:=qp2 k (f + 1);have hpw:2 ^ (k + 1)≤2 ^ 20:=Nat.pow_le_pow_right (by omega) hk;rw [q2u];have hnode:=qp1 (qk2 k (f + 1)) 0;have hlen:=jgy (qk2 k (f + 1)) 0;generalize (qk2 k (f + 1)).fl 0 = t at h2 hnode hlen ⊢;generalize (qk2 k (f + 1)).sz = m at hsz hnode hlen ⊢;have hm:m < 4000000:=by omega
  have hf1:=qbb f (by omega);obtain ⟨N,hN⟩:∃ N,1 + m = N:=⟨_,rfl⟩;have hm1:IntKind.i64.wrap (1 + (m:Int)) = (N:Int):=by rw [qar] <;> omega
  rw [hN];have hT:∀ i (h:i < t.length),(t.map Tn.v)[i]'(by simpa using h) = (t[i]).v:=fun i h=>by simp
  have hTl:(t.map Tn.v).length = m:=by simpa using hlen
  have hTp:jf8 (t.map Tn.v) = true:=qax t;have hTg:=fun (i:Nat) (h:i < m)=>hnode t[i] (jh3 (by omega));obtain ⟨R,hR⟩:∃ R:Tn,(⟨f,1,(N:Int)⟩:Tn) = R:=⟨_,rfl⟩;rw [hR];refine jhu 2 ok20 rfl ?_;simp [i20,x20,qaa];have hle:¬ B≤f:=by omega
  simp [hle,hf1];refine jhq h2 rfl ?_;simp [hTl,hm1];intro gf1 gf2;generalize gf2 29 = g29;generalize gf1 25 = g25;obtain ⟨row,hrow⟩:∃ row,[V.int .i64 1,V.int .i64 (N:Int)] = row:=⟨_,rfl⟩;have hrl:row.length = 2:=by rw [<- hrow]; rfl
  have hgb:∀ j (_:j < 2) (h':j < row.length),row[j] = V.int .i64 ((q42 m j:Nat):Int):=fun j h h'=>by
   subst hrow
   match j,h with
   | 0,_=>rfl
   | 1,_=>simp [q42,hN]
  have hfb:∀ j,q42 m j≤N:=fun j=>by unfold q42; split <;> omega
  have hR':V.agg (.int .i64 (f:Int) :: row) = R.v:=by rw [<- hrow,<- hR]; rfl
  rw [hrow];clear hrow
  refine jht (X:=FuS) (fun z=>[(31,qaa z.j),(30,qaa 2),(29,.ref 29 g29 0 2 (some 2)),(6,.ref 25 z.g 0 (1 + z.j * m) z.c),(5,.sl (t.map Tn.v) (q63 k))])
   (fun z=>[(29,.row g29 1 row),(25,.row z.g 3 (qvg R t m z.j))]) (fun z=>z.j≤2/\(0 < z.j->z.c = none)) (fun z=>2 - z.j) ⟨0,g25,some 1⟩ ⟨Nat.zero_le _,fun h=>absurd h (Nat.lt_irrefl 0)⟩ (by simp [qaa]) (by simp [qvg,hR']) ?_
  rintro ⟨j,g,cc⟩ ⟨hj,hjc⟩;dsimp only at hj hjc ⊢;simp [qaa];refine jhr (fun hb=>?_) (fun hb=>?_)
  ·have hj2:j < 2:=by have:=jhy hb; omega
   have hwj:=qbb j (by omega);have hg:=hgb j hj2 (by omega);have hb1:=hfb j;have hfs:=q62 R t m j hj2;have hfl:=qy7 R t m j (by omega);have hm0:j * m≤2 * m:=Nat.mul_le_mul_right m hj;rw [hlen] at hfl;generalize qvg R t m j = A at hfs hfl ⊢;generalize q42 m j = b at hg hb1 hfs;obtain ⟨a0,ha0⟩:∃ a,1 + j * m = a:=⟨_,rfl⟩;rw [ha0] at hfl ⊢;obtain ⟨M,hMM⟩:∃ M,(t.map (Tn.sh b)).map Tn.v = M:=⟨_,rfl⟩;have hMl:M.length = m:=by rw [<- hMM]; simp [hlen]
   have hM:∀ i (h:i < m) (h':i < M.length),M[i] = (Tn.sh b (t[i]'(by omega))).v:=fun i h h'=>by simp [<- hMM]
   rw [hMM] at hfs;clear hMM;simp [hj2,hg,hrl]
   refine jht (X:=FvS) (fun y=>[(9,qaa y.i),(8,qaa b),(6,.ref 25 y.g 0 (a0 + y.i) y.c),(5,.sl (t.map Tn.v) (q63 k)),(31,qaa j),(30,qaa 2),(29,.ref 29 g29 0 2 (some 2))])
    (fun y=>[(29,.row g29 1 row),(25,.row y.g 3 (A ++ M.take y.i))]) (fun y=>y.i≤m/\(0 < y.i->y.c = none)) (fun y=>m - y.i) ⟨0,g,cc⟩ ⟨Nat.zero_le _,fun h=>absurd h (Nat.lt_irrefl 0)⟩ (by simp [qaa]) (by simp) ?_
   clear hjc;rintro ⟨i,g,cc⟩ ⟨hi,hic⟩;dsimp only at hi hic ⊢;simp [qaa];refine jhr (fun hb=>?_) (fun hb=>?_)
   ·have hi2:i < m:=by have:=jhy hb; omega
    have hwi:=qbb i (by omega);have hTi:=hT i (by omega);have hMi:=hM i hi2 (by omega);have hts:M.take (i + 1) = M.take i ++ [M[i]'(by omega)]:=by rw [List.take_succ_eq_append_getElem]
    rw [hMi] at hts;have hal:(A ++ M.take i).length = a0 + i:=by simp [hfl]; omega
    have hnx:A ++ M.take (i + 1) = A ++ M.take i ++ [(Tn.sh b t[i]).v]:=by rw [hts]; simp
    generalize A ++ M.take i = L at hal hnx ⊢;rcases hTg i hi2 with hl | ⟨x,z,o,hl,_,hz,_,ho⟩
    ·rw [hl] at hTi hnx;have e1:(Tn.sh b lfN).v = .agg [.int .i64 (-1),.int .i64 0,.int .i64 0]:=rfl;rw [e1] at hnx;simp [hi2,hTi,lfN,Tn.v,hTl];intro gf;refine ⟨by omega,⟨i + 1,gf 25,none⟩,⟨hi2,fun _=>rfl⟩,by simp [hwi]; omega,?_,by dsimp only; omega⟩;rw [<- hal,List.take_length];exact ⟨rfl,hnx.symm⟩
    ·rw [hl] at hTi hnx;have e1:(Tn.sh b ⟨x,z,o⟩).v = .agg [.int .i64 (x:Int),.int .i64 ((z:Int) + (b:Int)),.int .i64 ((o:Int) + (b:Int))]:=by unfold Tn.sh; rw [if_pos (by dsimp only; omega)]; rfl
     rw [e1] at hnx;have w1:IntKind.i64.wrap ((z:Int) + (b:Int)) = (z:Int) + (b:Int):=by rw [qar] <;> omega
     have w2:IntKind.i64.wrap ((o:Int) + (b:Int)) = (o:Int) + (b:Int):=by rw [qar] <;> omega
     simp [hi2,hTi,Tn.v,hTl,w1,w2];intro gf;refine ⟨by omega,⟨i + 1,gf 25,none⟩,⟨hi2,fun _=>rfl⟩,by simp [hwi]; omega,?_,by dsimp only; omega⟩;rw [<- hal,List.take_length];exact ⟨rfl,hnx.symm⟩
   ·have hi3:i = m:=by have:=jhz hb; omega
    subst hi3;have hMt:M.take i = M:=jh2 (by omega);rw [hMt,hfs];have e3:a0 + i = 1 + (j + 1) * i:=by rw [<- ha0,Nat.succ_mul]; omega
    simp;exact ⟨⟨j + 1,g,cc⟩,⟨by dsimp only; omega,fun _=>hic (by omega)⟩,⟨hwj,rfl,e3,rfl⟩,⟨rfl,rfl⟩,by dsimp only; omega⟩
  ·have hj3:j = 2:=by have:=jhz hb; omega
   subst hj3;have hcc:cc = none:=hjc (Nat.zero_lt_succ 1);subst hcc;have e2:qvg R t m 2 = (R :: (t.map (Tn.sh 1) ++ t.map (Tn.sh N))).map Tn.v:=by rw [<- hN]; simp [qvg]
   rw [e2];have hfp:=qax (R :: (t.map (Tn.sh 1) ++ t.map (Tn.sh N)));have hfl2:((R :: (t.map (Tn.sh 1) ++ t.map (Tn.sh N))).map Tn.v).length = 1 + 2 * m:=by simp [hlen]; omega
   generalize hX:(R :: (t.map (Tn.sh 1) ++ t.map (Tn.sh N))).map Tn.v = X at hfp hfl2 ⊢;simp [qa0 hfp,q63,hfl2];exact (jh2 (Nat.le_of_eq hfl2)).trans (by rw [<- hX]; simp)
end
section
open Go
set_option maxRecDepth 100000 in
set_option maxHeartbeats 4000000 in
theorem qpf (c:Ci) (hg:c.good) (f:Ft) (hf:f.ok c) (hm:f.m = 0) (T:List V) (hT:jf8 T = true) (got:List Tn) (cap:Option Nat) (hgl:got.length < 10000000) (a b:Nat) (p:Pt) (hp:p.fit c) (hb:qgn c f p = true) (hgt:got[b]? = some lfN) :
  qac Tryz.prog gl0 21 [c.v,f.w,.sl T none,qaa a,.sl (got.map Tn.v) cap,qaa b,p.v] (.tup [qaa (b + 1),.bool true]):=by
 obtain ⟨hbl,hbe⟩:=List.getElem?_eq_some_iff.1 hgt;have hlw:=qlb c hg f hf hm p hp;rw [hb] at hlw;have hw:=qbb b (by omega);have hG:∀ h:b < (got.map Tn.v).length,(got.map Tn.v)[b] = .agg [.int .i64 (-1),.int .i64 0,.int .i64 0]:=fun _=>by simp [hbe,lfN,Tn.v]
 have hGl:(got.map Tn.v).length = got.length:=by simp
 have hGp:jf8 (got.map Tn.v) = true:=qax got;clear hbe hgt;generalize got.map Tn.v = G at *;generalize got.length = n at *;simp only [qaa,Pt.v,Ft.w,u8V] at hlw ⊢;refine jhu 2 ok21 rfl ?_;simp [i21,x21];intro gf2 gf3 gf4;have hn:¬ n≤b:=by omega
 simp [hGl,hn];refine jhq hlw (by simp [qad]) ?_;simp [hGl,hbl,hG,hw]
set_option maxRecDepth 100000 in
set_option maxHeartbeats 4000000 in
theorem qx2 (c:Ci) (hg:c.good) (f:Ft) (hf:f.ok c) (hm:f.m = 0) (t got:List Tn) (cap:Option Nat) (ht:t.length < 10000000) (hgl:got.length < 10000000) (a b i:Nat) (zs os:Nat) (zd:Nat) (p:Pt) (hp:p.fit c) (hb:qgn c f p = false)
  (hat:t[a]? = some ⟨i,((a + 1:Nat):Int),((a + 1 + zs:Nat):Int)⟩) (hgt:got[b]? = some ⟨i,((b + 1:Nat):Int),((b + 1 + zd:Nat):Int)⟩) (hi:i < p.many) (hmy:p.many < 1000) (hbs:b + 1 + zd + os < 10000000)
  (hz:qac Tryz.prog gl0 21 [c.v,f.w,.sl (t.map Tn.v) none,qaa (a + 1),.sl (got.map Tn.v) cap,qaa (b + 1),(p.set i 0).v] (.tup [qaa (b + 1 + zd),.bool true]))
  (ho:qac Tryz.prog gl0 21 [c.v,f.w,.sl (t.map Tn.v) none,qaa (a + 1 + zs),.sl (got.map Tn.v) cap,qaa (b + 1 + zd),(p.set i 1).v] (.tup [qaa (b + 1 + zd + os),.bool true])) :
  qac Tryz.prog gl0 21 [c.v,f.w,.sl (t.map Tn.v) none,qaa a,.sl (got.map Tn.v) cap,qaa b,p.v] (.tup [qaa (b + 1 + zd + os),.bool true]):=by
 obtain ⟨hbl,hbe⟩:=List.getElem?_eq_some_iff.1 hgt;obtain ⟨hal,hae⟩:=List.getElem?_eq_some_iff.1 hat;have hlw:=qlb c hg f hf hm p hp;rw [hb] at hlw;have hw:=qbb b (by omega);have hw0:=qx4 p i 0 hi (by omega);have hw1:=qx4 p i 1 hi (by omega);obtain ⟨a1,ha1⟩:∃ x,a + 1 = x:=⟨_,rfl⟩;rw [ha1] at hz ho hae;obtain ⟨a2,ha2⟩:∃ x,a1 + zs = x:=⟨_,rfl⟩;rw [ha2] at ho hae;obtain ⟨b1,hb1⟩:∃ x,b + 1 = x:=⟨_,rfl⟩;rw [hb1] at hz ho hbe hw hbs ⊢;obtain ⟨b2,hb2⟩:∃ x,b1 + zd = x:=⟨_,rfl⟩;rw [hb2] at hz ho hbe hbs ⊢;obtain ⟨b3,hb3⟩:∃ x,b2 + os = x:=⟨_,rfl⟩;rw [hb3] at ho hbs ⊢;have hG:∀ h:b < (got.map Tn.v).length,(got.map Tn.v)[b] = .agg [.int .i64 (i:Int),.int .i64 (b1:Int),.int .i64 (b2:Int)]:=fun _=>by simp [hbe,Tn.v]
 have hGl:(got.map Tn.v).length = got.length:=by simp
 have hGp:jf8 (got.map Tn.v) = true:=qax got;have hTe:∀ h:a < (t.map Tn.v).length,(t.map Tn.v)[a] = .agg [.int .i64 (i:Int),.int .i64 (a1:Int),.int .i64 (a2:Int)]:=fun _=>by simp [hae,Tn.v]
 have hTl:(t.map Tn.v).length = t.length:=by simp
 have hTp:jf8 (t.map Tn.v) = true:=qax t;clear hbe hgt hae hat;generalize got.map Tn.v = G at *;generalize t.map Tn.v = T at *;generalize got.length = n at *;generalize t.length = m at *;simp only [qaa,Pt.v,Ft.w,u8V] at hlw hz ho hw0 hw1 ⊢;refine jhu 2 ok21 rfl ?_;simp [i21,x21];intro gf2 gf3 gf4;have hn:¬ n≤b:=by omega
 simp [hGl,hn];refine jhq hlw (by simp [qad]) ?_;simp [hGl,hTl,hbl,hal,hG,hTe,hw];intro gf5 gm1
 first | refine ⟨_,_,_,.pure hw0 (by simp [hTp,hGp,qad]),?_⟩ | refine ⟨_,⟨_,_,.pure hw0 (by simp [hTp,hGp,qad])⟩,?_⟩ | refine ⟨_,_,⟨_,.pure hw0 (by simp [hTp,hGp,qad])⟩,?_⟩
 simp
 first | refine ⟨_,_,_,.pure hz (by simp [hTp,hGp,qad]),?_⟩ | refine ⟨_,⟨_,_,.pure hz (by simp [hTp,hGp,qad])⟩,?_⟩ | refine ⟨_,_,⟨_,.pure hz (by simp [hTp,hGp,qad])⟩,?_⟩
 simp;refine ⟨by decide,?_⟩;simp [hGl,hbl,hG];intro gm2
 first | refine ⟨_,_,_,.pure hw1 (by simp [hTp,hGp,qad]),?_⟩ | refine ⟨_,⟨_,_,.pure hw1 (by simp [hTp,hGp,qad])⟩,?_⟩ | refine ⟨_,_,⟨_,.pure hw1 (by simp [hTp,hGp,qad])⟩,?_⟩
 simp
 first | refine ⟨_,_,_,.pure ho (by simp [hTp,hGp,qad]),?_⟩ | refine ⟨_,⟨_,_,.pure ho (by simp [hTp,hGp,qad])⟩,?_⟩ | refine ⟨_,_,⟨_,.pure ho (by simp [hTp,hGp,qad])⟩,?_⟩
 simp;decide
theorem q0q (c:Ci) (hg:c.good) (f:Ft) (hf:f.ok c) (hm:f.m = 0) (t got:List Tn) (cap:Option Nat) (ht:t.length < 10000000) (hgl:got.length < 10000000):∀ (d:DT) (us:List Nat) (a b:Nat) (p:Pt),At t d a->a + d.sz≤t.length->d.ok p.many us->p.fit c->p.many < 1000->
  At got (qba c f d p) b->b + (qba c f d p).sz≤got.length->prB c f d p = true->
  qac Tryz.prog gl0 21 [c.v,f.w,.sl (t.map Tn.v) none,qaa a,.sl (got.map Tn.v) cap,qaa b,p.v] (.tup [qaa (b + (qba c f d p).sz),.bool true]):=by
 intro d
 induction d with
 | lf=>
  intro us a b p _ _ _ hp _ hgt _ hpr;exact qpf c hg f hf hm _ (qax t) got cap hgl a b p hp hpr hgt.lf
 | nd i z o ihz iho=>
  intro us a b p hat hal ⟨o1,o2,o3,o4⟩ hp hmy hgt hgs hpr;by_cases hb:qgn c f p = true
  ·rw [show qba c f (.nd i z o) p = .lf by rw [qba,if_pos hb]] at hgt ⊢;exact qpf c hg f hf hm _ (qax t) got cap hgl a b p hp hb hgt.lf
  ·rw [show qba c f (.nd i z o) p = .nd i (qba c f z (p.set i 0)) (qba c f o (p.set i 1)) by rw [qba,if_neg hb]] at hgt hgs ⊢;simp only [prB,Bool.and_eq_true] at hpr;simp only [DT.sz] at hal hgs ⊢;have hmn:∀ v,(p.set i v).many = p.many:=fun v=>by simp
   have h1:=ihz (i :: us) (a + 1) (b + 1) (p.set i 0) hat.z (by omega) (by rw [hmn]; exact o3) (jgt hp i 0 (by omega)) (by rw [hmn]; exact hmy) hgt.z (by omega) hpr.1;have h2:=iho (i :: us) (a + 1 + z.sz) (b + 1 + (qba c f z (p.set i 0)).sz) (p.set i 1) hat.o (by omega) (by rw [hmn]; exact o4) (jgt hp i 1 (by omega)) (by rw [hmn]; exact hmy) hgt.o (by omega) hpr.2;have key:=qx2 c hg f hf hm t got cap ht hgl a b i z.sz (qba c f o (p.set i 1)).sz (qba c f z (p.set i 0)).sz p hp (by cases hq:qgn c f p <;> simp_all) hat.nd hgt.nd o1 hmy (by omega) h1 h2;rw [show b + (1 + (qba c f z (p.set i 0)).sz + (qba c f o (p.set i 1)).sz) = b + 1 + (qba c f z (p.set i 0)).sz + (qba c f o (p.set i 1)).sz by omega];exact key
end
section
open Go
noncomputable def r3:XC:=xs2 (xs2 (xs2 (xs2 (xs2 (xs2 x3)))))
theorem jf6:x3 = .seq (xs1 x3) (.seq (xs1 (xs2 x3)) (.seq (xs1 (xs2 (xs2 x3))) (.seq (xs1 (xs2 (xs2 (xs2 x3)))) (.seq (xs1 (xs2 (xs2 (xs2 (xs2 x3))))) (.seq (xs1 (xs2 (xs2 (xs2 (xs2 (xs2 x3)))))) r3))))):=rfl
theorem qrf (c:Ci) (hg:c.good):qac Tryz.prog gl0 22 [c.v] (qcj c).v:=by
 have hbi:(qcj c).i.map u8V = List.replicate (cnt 0 c.n) (.int .u8 2):=by simp [qcj,u8V]
 have hbs:(qcj c).s.map u8V = List.replicate (cnt 14 c.n) (.int .u8 2):=by simp [qcj,u8V]
 refine jgk 2 (ql7 c hg) ?_;rintro v h ⟨g0,g1,rfl,rfl⟩;have hpA:jf8 (List.replicate (cnt 0 c.n) (V.int .u8 2)) = true:=qc2 _;have hpB:jf8 (List.replicate (cnt 14 c.n) (V.int .u8 2)) = true:=qc2 _
 have e:frz [(0,.row g0 1 (List.replicate (cnt 0 c.n) (.int .u8 2))),(1,.row g1 1 (List.replicate (cnt 14 c.n) (.int .u8 2)))] 2 (.agg [.ref 0 g0 0 (cnt 0 c.n) (some (cnt 0 c.n)),.ref 1 g1 0 (cnt 14 c.n) (some (cnt 14 c.n))]) =
   .agg [.sl (List.replicate (cnt 0 c.n) (.int .u8 2)) (some (cnt 0 c.n)),.sl (List.replicate (cnt 14 c.n) (.int .u8 2)) (some (cnt 14 c.n))]:=by
  rw [qjo];simp [frz,V.mapR,jga,qa0 hpA,qa0 hpB]
 rw [e,Pt.v,hbi,hbs];exact VLe.agg ⟨VLe.cap _ _,VLe.cap _ _,trivial⟩
set_option maxRecDepth 100000 in
set_option maxHeartbeats 4000000 in
theorem jfc (c:Ci) (f:Ft) (T:List V) (hT:jf8 T = true) (g7 g8:Nat)
  (hck:qac Tryz.prog gl0 18 [c.v,f.w,.sl T none] (.int .i64 10)) (htr:qac Tryz.prog gl0 19 [c.v,f.w,.sl T none] (.tup [.nil,.int .i64 10]))
  (fr:Fr) (f6:lk fr 6 = some (.bool false)) (f7:lk fr 7 = some (.ptr 7 g7 0 0)) (f8:lk fr 8 = some (.ptr 8 g8 0 0)) (f9:lk fr 9 = some (.sl T none)) (h:Hp) (h7:lk h 7 = some (.row g7 4 [c.v])) (h8:lk h 8 = some (.row g8 5 [f.w])) :
  r3.wpF Tryz.prog gl0 (qz7 [.tmp 6] 2 (.bool true)) fr h:=by
 have hlv:=qhy;simp only [Ft.w,u8V,qaa] at hck htr h8;simp [r3,xs2,x3,f6,f7,f8,f9,h7,h8];refine jhq htr (by simp [hT]) ?_;simp [f6,f7,f8,f9,h7,h8];refine jhq hck (by simp [hT]) ?_;simp [f6,f7,f8,f9,h7,h8];refine jhq hlv rfl ?_;simp
set_option maxRecDepth 100000 in
set_option maxHeartbeats 4000000 in
theorem q8w (c:Ci) (f:Ft) (T:List V) (hT:jf8 T = true) (G:List V) (hG:jf8 G = true) (hGc:∀ j (h:j < G.length),∃ x y z,G[j] = .agg [.int .i64 x,.int .i64 y,.int .i64 z]) (hGT:G.length≤T.length) (hGl:G.length < 10000000) (p:Pt) (g7 g8:Nat)
  (hck:qac Tryz.prog gl0 18 [c.v,f.w,.sl T none] (.int .i64 0)) (htr:qac Tryz.prog gl0 19 [c.v,f.w,.sl T none] (.tup [.sl G (some G.length),.int .i64 0]))
  (hck2:qac Tryz.prog gl0 18 [c.v,f.w,.sl G (some G.length)] (.int .i64 0)) (htr2:qac Tryz.prog gl0 19 [c.v,f.w,.sl G (some G.length)] (.tup [.sl G (some G.length),.int .i64 0]))
  (hbk:qac Tryz.prog gl0 22 [c.v] p.v) (hwk:qac Tryz.prog gl0 21 [c.v,f.w,.sl T none,qaa 0,.sl G (some G.length),qaa 0,p.v] (.tup [qaa G.length,.bool true]))
  (fr:Fr) (f6:lk fr 6 = some (.bool false)) (f7:lk fr 7 = some (.ptr 7 g7 0 0)) (f8:lk fr 8 = some (.ptr 8 g8 0 0)) (f9:lk fr 9 = some (.sl T none)) (h:Hp) (h7:lk h 7 = some (.row g7 4 [c.v])) (h8:lk h 8 = some (.row g8 5 [f.w])) :
  r3.wpF Tryz.prog gl0 (qz7 [.tmp 6] 2 (.bool true)) fr h:=by
 have hlv:=qhy;simp only [Ft.w,u8V,qaa,Pt.v] at hck htr h8 hck2 htr2 hbk hwk;simp [r3,xs2,x3,f6,f7,f8,f9,h7,h8];refine jhq htr (by simp [hT]) ?_;simp [f6,f7,f8,f9,h7,h8];refine jhq hck (by simp [hT]) ?_;simp [f6,f7,f8,f9,h7,h8];refine jhq htr2 (by simp [hG]) ?_;simp [f6,f7,f8,f9,h7,h8];refine jhq hck2 (by simp [hG]) ?_;simp [f6,f7,f8,f9,h7,h8];refine jhr (fun hb=>absurd (jhy hb) (by omega)) (fun _=>?_);simp [f6,f7,f8,f9,h7,h8]
 refine jht (X:=Nat) (fun j=>[(16,qaa j),(14,.sl G (some G.length)),(12,.sl G (some G.length)),(9,.sl T none),(8,.ptr 8 g8 0 0),(7,.ptr 7 g7 0 0),(6,.bool false)]) (fun _=>[(8,.row g8 5 [f.w]),(7,.row g7 4 [c.v])])
  (fun j=>j≤G.length) (fun j=>G.length - j) 0 (Nat.zero_le _) (by simp [qaa,f6,f7,f8,f9]) (by simp [Ft.w,u8V,qaa,h7,h8]) ?_
 intro j hj;simp [qaa];refine jhr (fun hb=>?_) (fun hb=>?_)
 ·have hj2:j < G.length:=jhy hb;have hwj:=qbb j (by omega);obtain ⟨x,y,z,hcl⟩:=hGc j hj2;simp [hj2,hcl];exact ⟨j + 1,hj2,by simpa using hwj,by omega⟩
 ·have hj3:j = G.length:=by have:=jhz hb; omega
  subst hj3;simp [Ft.w,u8V,qaa];intro gm
  first | refine ⟨_,_,_,.pure hbk (by simp [hT,hG,qad]),?_⟩ | refine ⟨_,⟨_,_,.pure hbk (by simp [hT,hG,qad])⟩,?_⟩ | refine ⟨_,_,⟨_,.pure hbk (by simp [hT,hG,qad])⟩,?_⟩
  simp
  first | refine ⟨_,_,_,.pure hwk (by simp [hT,hG,qad]),?_⟩ | refine ⟨_,⟨_,_,.pure hwk (by simp [hT,hG,qad])⟩,?_⟩ | refine ⟨_,_,⟨_,.pure hwk (by simp [hT,hG,qad])⟩,?_⟩
  simp;refine ⟨by decide,?_⟩;refine jhq hlv rfl ?_;simp
theorem jfl (l:List Tn) (j:Nat) (h:j < (l.map Tn.v).length):∃ x y z,(l.map Tn.v)[j] = .agg [.int .i64 x,.int .i64 y,.int .i64 z]:=by
 simp only [List.length_map] at h;exact ⟨_,_,_,List.getElem_map ..⟩
set_option maxRecDepth 100000 in
theorem r3_c (c:Ci) (hg:c.good) (hpl:c.plain) (f:Ft) (hf:f.ok c) (hfm:f.m = 0) (d:DT) (hd:d.ok (cnt 0 c.n + cnt 14 c.n) []) (hs:d.sz < 5000000) (g7 g8:Nat)
  (fr:Fr) (f6:lk fr 6 = some (.bool false)) (f7:lk fr 7 = some (.ptr 7 g7 0 0)) (f8:lk fr 8 = some (.ptr 8 g8 0 0)) (f9:lk fr 9 = some (.sl ((d.fl 0).map Tn.v) none)) (h:Hp) (h7:lk h 7 = some (.row g7 4 [c.v])) (h8:lk h 8 = some (.row g8 5 [f.w])) :
  r3.wpF Tryz.prog gl0 (qz7 [.tmp 6] 2 (.bool true)) fr h:=by
 have hn1:=hg.n1;have l2:=qpt c.n;have hck:=qg1 c hg hpl f hf hfm d hd (by omega)
 cases hpr:prB c f d (qcj c) with
 | false=>
  rw [hpr,if_neg (by simp)] at hck;exact jfc c f _ (qax _) g7 g8 hck (qxo c _ _ _ _ _ rfl _ none (qax _) 10 (by decide) hck) fr f6 f7 f8 f9 h h7 h8
 | true=>
  rw [hpr,if_pos rfl] at hck;have htr:=qxp c hg hpl f hf hfm d (by omega) hd hpr;have hok:=qq3 (c:=c) (f:=f) d [] (qcj c) hd;have hsz:=qkj (c:=c) (f:=f) d (qcj c);have hp2:=qq4 d (qcj c) hpr;have hck2:=qg1 c hg hpl f hf hfm _ hok (by omega);rw [hp2,if_pos rfl] at hck2;have htr2:=qxp c hg hpl f hf hfm _ (by omega) hok hp2;rw [qkk] at htr2;have hwk:=fun cap=>q0q c hg f hf hfm (d.fl 0) ((qba c f d (qcj c)).fl 0) cap (by simp; omega) (by simp; omega) d [] 0 0 (qcj c) (At.fl d) (by simp) (by rw [qfn]; exact hd) (ql8 c) (by rw [qfn]; omega) (At.fl _) (by simp) hpr;have hGl:(((qba c f d (qcj c)).fl 0).map Tn.v).length = (qba c f d (qcj c)).sz:=by simp
  have hGc:=jfl ((qba c f d (qcj c)).fl 0);have hGp:=qax ((qba c f d (qcj c)).fl 0);have hTl:((d.fl 0).map Tn.v).length = d.sz:=by simp
  generalize ((qba c f d (qcj c)).fl 0).map Tn.v = G at *;rw [Nat.zero_add] at hwk;rw [<- hGl] at htr htr2 hwk hsz;exact q8w c f _ (qax _) G hGp hGc (by omega) (by omega) (qcj c) g7 g8 hck htr (qac.wide hck2 ⟨.refl _,.refl _,VLe.cap _ _,trivial⟩ (.refl _)) (qac.wide htr2 ⟨.refl _,.refl _,VLe.cap _ _,trivial⟩ (.refl _)) (qrf c hg) (hwk _) fr f6 f7 f8 f9 h h7 h8
set_option maxRecDepth 100000 in
set_option maxHeartbeats 4000000 in
theorem q7h (x:Cx) (hx:x.ok) (z:Fx) (hz:z.ok) (l:List Nat) (hl:∀ y ∈ l,y < 256):qac Tryz.prog gl0 3 [x.v,z.v,.sl (l.map u8V) none] (.bool true):=by
 have hcs:=q3r x hx;have hcp:=qmb x;have hg:=q3e x.pl;have hpl:=qys x.pl.nm rfl rfl;generalize x.pl.nm.ci = c at hcs hg hpl;have hn1:=hg.n1;have hst:=q36 c hg z hz;obtain ⟨hf,hfm⟩:=q84 c hg z;generalize stF c z = f at hst hf hfm;have hlv:=qhy;have hlp:jf8 (l.map u8V) = true:=qad l;have l2:=qpt c.n;have hb:=q5v c (by omega);have hbk:=qrf c hg;have hmb:=qfn c;have hbf:=ql8 c;by_cases h1:150 < l.length
 ·simp only [Cx.v,Fx.v,u8V] at hcp ⊢;refine jhu 2 ok3 rfl ?_;simp [i3,x3,nop,h1];intro gf1 gf2;refine jhq hlv rfl ?_;simp
 ·have hpw:(2:Nat) ^ (cnt 0 c.n + cnt 14 c.n + 1)≤2 ^ 21:=Nat.pow_le_pow_right (by omega) (by omega);have hfs:=qp2 (cnt 0 c.n + cnt 14 c.n) 0;have hfo:=qvh (cnt 0 c.n + cnt 14 c.n) 0 [] (fun _ h=>by cases h);rw [Nat.zero_add] at hfo;have hful:qac Tryz.prog gl0 20 [qaa 0,qaa (cnt 0 c.n + cnt 14 c.n)] (.sl (((qk2 (cnt 0 c.n + cnt 14 c.n) 0).fl 0).map Tn.v) none):=qac.wide (q64 (cnt 0 c.n + cnt 14 c.n) 0 (cnt 0 c.n + cnt 14 c.n) (by omega) (by omega) (by omega)) ⟨.refl _,.refl _,trivial⟩ (VLe.cap _ _);have htr:=q1n l (cnt 0 c.n + cnt 14 c.n) hl (by omega) (by omega);have hto:=qq1 l (cnt 0 c.n + cnt 14 c.n);have hts:=qxn l (cnt 0 c.n + cnt 14 c.n);have hr0:=fun g7 g8=>r3_c c hg hpl f hf hfm (qt3 l (cnt 0 c.n + cnt 14 c.n)) hto (by omega) g7 g8;have hr1:=fun g7 g8=>r3_c c hg hpl f hf hfm (qk2 (cnt 0 c.n + cnt 14 c.n) 0) hfo (by omega) g7 g8;have hck:=qg1 c hg hpl f hf hfm _ hto (by omega);generalize qt3 l (cnt 0 c.n + cnt 14 c.n) = d at *;have htE:=fun h=>qxo c _ _ _ _ _ rfl ((d.fl 0).map Tn.v) none (qax _) 10 (by decide) (show qac Tryz.prog gl0 18 [c.v,f.w,.sl ((d.fl 0).map Tn.v) none] (.int .i64 10) from h);have hTp:=qax (d.fl 0);generalize (d.fl 0).map Tn.v = T at *;have hFp:=qax ((qk2 (cnt 0 c.n + cnt 14 c.n) 0).fl 0);generalize ((qk2 (cnt 0 c.n + cnt 14 c.n) 0).fl 0).map Tn.v = F at *;generalize cnt 0 c.n + cnt 14 c.n = n at *;simp only [Cx.v] at hcs hcp;simp only [Fx.v,u8V] at hst;simp only [qaa,Ft.w,u8V,Pt.v] at hb hst hck htE htr hful;refine jhu 2 ok3 rfl ?_;change XC.wpF _ _ x3 _ _ _;rw [jf6];simp [i3,xs1,xs2,x3,nop,Cx.v,Fx.v,u8V,h1];intro gf2 gf3;refine jhq hcs (by simp only [jf8,Bool.and_true]; exact hcp) ?_;simp;intro gf5;refine jhq hst (by simp [qb8,qck,qbs,qad]) ?_;simp;intro gf6;refine jhq hb (by simp [qb8,qck,qbs,qad]) ?_;simp;refine jhq htr (by simp [hlp]) ?_;simp;generalize gf5 7 = g7;generalize gf6 8 = g8;have hr0':=hr0 g7 g8;have hr1':=hr1 g7 g8;clear hr0 hr1
  cases hpr:prB c f d (qcj c) with
  | true=>
   rw [hpr,if_pos rfl] at hck;refine jhq hck (by simp [qb8,qck,qbs,qad,hTp]) ?_;simp;exact hr0' _ (by simp) (by simp) (by simp) (by simp) _ (by simp [ci_v]) (by simp [Ft.w,u8V,qaa])
  | false=>
   rw [hpr,if_neg (by simp)] at hck;refine jhq hck (by simp [qb8,qck,qbs,qad,hTp]) ?_;simp;refine jhq (htE hck) (by simp [qb8,qck,qbs,qad,hTp]) ?_;simp;refine jhq hb (by simp [qb8,qck,qbs,qad]) ?_;simp;refine jhq hful (by simp) ?_;simp;exact hr1' _ (by simp) (by simp) (by simp) (by simp) _ (by simp [ci_v]) (by simp [Ft.w,u8V,qaa])
end
end Go.Proofs.YtpaopccohkldlaaGreatDoor
