/- Podems: the walk of the way back. Conditions: none. -/
import Derived.Test.YtpaopccohkldlaaGreatDoorV5
import Derived.Test.YtpaopccohkldlaaGreatDoorA5
import Derived.Test.YtpaopccohkldlaaGreatDoorY3
set_option linter.all false
namespace Go.Proofs.YtpaopccohkldlaaGreatDoor
section
open Go
def qr7:XC:=xbk (xlp (xbk (xs2 q48)))
def q94:XC:=xs2 (xs2 (xs2 qr7))
theorem jad:q48 = .seq (xs1 q48) (.block 0 (.loop (.block 1 (.seq (xs1 qr7) (.seq (xs1 (xs2 qr7)) (.seq (xs1 (xs2 (xs2 qr7))) q94)))))):=rfl
set_option maxRecDepth 10000 in
theorem q6v (S:Sea) (hS:S.ok) (hW:S.okW) (g:SG) (p:Pt) (A:Nat->Nat) (ca:Option Nat) (Q:IQ) (fr:Fr) (h:Hp) (B0 B1 B3 B4:Blk) (n v g13:Nat) (hn:n < S.c.n.length)
  (h0:lk fr 0 = some (.ptr 9002 g.s 0 0)) (h2:lk fr 2 = some (u8V v)) (h3:lk fr 3 = some (.sl (tU S.c.n.length A) ca)) (h13:lk fr 13 = some (.ptr 13 g13 0 0))
  (hsb:Sub [(13,.row g13 4 [(S.c.nd n).v]),(9002,.row g.s 15 [.agg (S.cells g p)]),(9003,B3),(9004,B4),(9001,B1),(9000,B0)] h)
  (hf:(qdg S A v (S.c.nd n).i).1 < 0->∀ fr',lk fr' 8 = some (.int .i64 0)->lk fr' 9 = some (.int .u8 0)->lk fr' 10 = some (.bool false)->Q .ret fr' [(13,.row g13 4 [(S.c.nd n).v]),(9002,.row g.s 15 [.agg (S.cells g p)]),(9003,B3),(9004,B4),(9001,B1),(9000,B0)])
  (hq:¬ (qdg S A v (S.c.nd n).i).1 < 0->∀ fr',lk fr' 0 = some (.ptr 9002 g.s 0 0)->lk fr' 1 = some (.int .i64 (qdg S A v (S.c.nd n).i).1)->lk fr' 2 = some (u8V v)->lk fr' 3 = some (.sl (tU S.c.n.length A) ca)->Q .normal fr' [(13,.row g13 4 [(S.c.nd n).v]),(9002,.row g.s 15 [.agg (S.cells g p)]),(9003,B3),(9004,B4),(9001,B1),(9000,B0)]) :
  q94.wpF Tryz.prog gl0 Q fr h:=by
 have hh:=hsb.spec 13 (.row g13 4 [(S.c.nd n).v]) (by simp);have hyi:=hS.g.val.i n hn;have hyl:=hS.g.val.l n hn;have hcl:=hW.cl;obtain ⟨y,hy⟩:∃ y,S.c.nd n = y:=⟨_,rfl⟩;rw [hy] at hyi hyl hf hq hsb hh;obtain ⟨C,hC⟩:∃ C,S.cells g p = C:=⟨_,rfl⟩;rw [hC] at hf hq hsb;have c1:(∀ h:10 < C.length,C[10] = .sl (S.cst.map qmg) S.cc)/\C.length = 15:=by subst hC; exact ⟨fun _=>rfl,rfl⟩
 obtain ⟨N,hN⟩:∃ N,S.c.n.length = N:=⟨_,rfl⟩;rw [hN] at h3 hyi hcl hq;simp [q94,qr7,xs1,xs2,xbk,xlp,q48,h13,hh]
 refine jo2 (X:=Nat) (fun j=>[(53,qaa j),(52,qaa y.i.length),(51,.sl (qc8 y.i) none),(14,.int .i64 (qdg S A v (y.i.take j)).1),(15,.int .i64 (qdg S A v (y.i.take j)).2),(0,.ptr 9002 g.s 0 0),(2,u8V v),(3,.sl (tU N A) ca)])
  (fun _=>[(13,.row g13 4 [y.v]),(9002,.row g.s 15 [.agg C]),(9003,B3),(9004,B4),(9001,B1),(9000,B0)]) (fun j=>j≤y.i.length) (fun j=>y.i.length - j) 0 (Nat.zero_le _) (by simp [qaa,h0,h2,h3,qdg]) hsb ?_
 intro j hj;simp [qaa,u8V];refine jo0 (fun hb=>?_) (fun hb=>?_)
 ·have hj2:j < y.i.length:=jo7 hb;have hw:=qa5 j (by omega);obtain ⟨x,hx⟩:∃ x,y.i[j] = x:=⟨_,rfl⟩;have hxb:=hyi x (by rw [<- hx]; exact jpc hj2)
  have hsn:qdg S A v (y.i.take (j + 1)) = qr6 S A v (qdg S A v (y.i.take j)) x:=by
   unfold qdg;rw [List.take_succ_eq_append_getElem hj2,List.foldl_append,hx];rfl
  obtain ⟨z,rfl⟩:∃ z:Nat,x = z:=⟨x.toNat,(Int.toNat_of_nonneg hxb.1).symm⟩;have hzN:z < N:=by omega
  have hzc:z < S.cst.length:=by omega
  have hcost:S.cost v z = if v = 1 then S.cst[z].2 else S.cst[z].1:=by unfold Sea.cost; rw [jo9,jpd hzc]; rfl
  obtain ⟨b,hb2⟩:∃ b,qdg S A v (y.i.take j) = b:=⟨_,rfl⟩;rw [hb2] at hsn ⊢;unfold qr6 at hsn;rw [Int.toNat_natCast,hcost] at hsn;by_cases hv:v = 1
  ·subst hv;rw [if_pos rfl] at hsn;by_cases hA2:A z = 2
   ·by_cases hlt:S.cst[z].2 < b.2
    ·rw [if_pos ⟨hA2,hlt⟩] at hsn;simp [hj2,qaz,hx,nop,c1.1,c1.2,hzc,qmg,hzN,qb1,u8V,hA2,hlt];exact ⟨j + 1,hj2,⟨hw,by rw [hsn],by rw [hsn]⟩,by omega⟩
    ·rw [if_neg (by simp [hlt])] at hsn;simp [hj2,qaz,hx,nop,c1.1,c1.2,hzc,qmg,hzN,qb1,u8V,hA2,hlt];exact ⟨j + 1,hj2,⟨hw,by rw [hsn],by rw [hsn]⟩,by omega⟩
   ·rw [if_neg (by simp [hA2])] at hsn;simp [hj2,qaz,hx,nop,c1.1,c1.2,hzc,qmg,hzN,qb1,u8V,hA2];exact ⟨j + 1,hj2,⟨hw,by rw [hsn],by rw [hsn]⟩,by omega⟩
  ·rw [if_neg hv] at hsn;have hv':¬ ((v:Int) = 1):=by omega
   by_cases hA2:A z = 2
   ·by_cases hlt:S.cst[z].1 < b.2
    ·rw [if_pos ⟨hA2,hlt⟩] at hsn;simp [hj2,qaz,hx,nop,c1.1,c1.2,hzc,qmg,hv,hv',hzN,qb1,u8V,hA2,hlt];exact ⟨j + 1,hj2,⟨hw,by rw [hsn],by rw [hsn]⟩,by omega⟩
    ·rw [if_neg (by simp [hlt])] at hsn;simp [hj2,qaz,hx,nop,c1.1,c1.2,hzc,qmg,hv,hv',hzN,qb1,u8V,hA2,hlt];exact ⟨j + 1,hj2,⟨hw,by rw [hsn],by rw [hsn]⟩,by omega⟩
   ·rw [if_neg (by simp [hA2])] at hsn;simp [hj2,qaz,hx,nop,c1.1,c1.2,hzc,qmg,hv,hv',hzN,qb1,u8V,hA2];exact ⟨j + 1,hj2,⟨hw,by rw [hsn],by rw [hsn]⟩,by omega⟩
 ·have hj:j = y.i.length:=by have:=jo8 hb; omega
  subst hj;rw [List.take_length];obtain ⟨b,hb2⟩:∃ b,qdg S A v y.i = b:=⟨_,rfl⟩;rw [hb2] at hf hq ⊢;by_cases hneg:b.1 < 0
  ·simp [hneg];exact hf hneg _ (by simp) (by simp) (by simp)
  ·simp [hneg];exact hq hneg _ (by simp) (by simp) (by simp [u8V]) (by simp)
def jbi (S:Sea) (g:SG) (p:Pt) (l u:Nat) (r:Nat × Nat × Bool) (v:V) (h':Hp):Prop:=v = .tup [qaa r.1,u8V r.2.1,.bool r.2.2]/\h' = S.H g p l u
theorem qr8 (g:SG) (p:Pt) (i:Nat):V.inB [9002,9003,9004,9001,9000] (qvp g p i) = true:=by unfold qvp; split <;> rfl
theorem qvv (l:List (Int × Int)):jm8 (l.map qmg) = true:=pureL_map (fun _=>rfl) l
theorem q8h (D:List Nat) (l:List Nat):((qi0 l).all fun e=>e.1.inB D && e.2.inB D) = true:=by
 simp [qi0,qaa]
theorem qcl (S:Sea) (g:SG) (p:Pt) (l u:Nat):qb4 [9002,9003,9004,9001,9000] (S.H g p l u) = true:=by
 have hm:=q8h [9002,9003,9004,9001,9000] S.w;simp only [Sea.H,Sea.cells,qb4,List.all_cons,List.all_nil,Blk.inB,jnb,V.inB,jm9 _ _ (qeo _),jm9 _ _ (qfp _),jm9 _ _ (qdt _),jm9 _ _ (qdr _),jm9 _ _ (qav _),jm9 _ _ (qa0 _),jm9 _ _ (qvv _),u8V,qaa,hm];rfl
set_option maxRecDepth 10000 in
theorem jbj (S:Sea) (hS:S.ok) (hW:S.okW) (g:SG) (p:Pt) (hp:p.fit S.c) (hpw:S.w.length = p.i.length + p.s.length) (l u:Nat) (A:Nat->Nat) (ca:Option Nat) (n v:Nat) (hn:n < S.c.n.length) (hv:v≤1) :
  qau Tryz.prog gl0 195 [.ptr 9002 g.s 0 0,qaa n,u8V v,.sl (tU S.c.n.length A) ca] (S.H g p l u) (jbi S g p l u (qjs S p A n v)):=by
 have hbit:=fun i hi=>qtv S g p l u i hi (by have:=hW.wl; omega);have hT:=fun Q fr h=>q6v S hS hW g p A ca Q fr h;have hn1:=hS.g.n1;refine jo6 jkk rfl ?_;generalize hR:qjs S p A n v = R;show q48.wpF _ _ _ _ _;rw [jad];have hSH:S.H g p l u = [(9002,.row g.s 15 [.agg (S.cells g p)]),(9003,.row g.i 1 (p.i.map u8V)),(9004,.row g.t 1 (p.s.map u8V)),(9001,.map g.w (qi0 S.w)),(9000,.row g.b 2 [.agg [qaa l,qaa u]])]:=rfl;obtain ⟨C,hC⟩:∃ C,S.cells g p = C:=⟨_,rfl⟩;obtain ⟨N,hN⟩:∃ N,S.c.n.length = N:=⟨_,rfl⟩;unfold jbi;rw [hC] at hT hSH;rw [hN] at hT hn ⊢;rw [hSH] at hbit ⊢;have c1:(∀ h:1 < C.length,C[1] = .sl (S.c.n.map Nd.v) none)/\(∀ h:11 < C.length,C[11] = .own 9001 g.w)/\C.length = 15:=by subst hC; exact ⟨fun _=>rfl,fun _=>rfl,rfl⟩
 simp [xs1,q48]
 refine jo2 (X:=Nat × Nat) (fun z=>[(0,.ptr 9002 g.s 0 0),(1,qaa z.1),(2,u8V z.2),(3,.sl (tU N A) ca)])
  (fun _=>[(9002,.row g.s 15 [.agg C]),(9003,.row g.i 1 (p.i.map u8V)),(9004,.row g.t 1 (p.s.map u8V)),(9001,.map g.w (qi0 S.w)),(9000,.row g.b 2 [.agg [qaa l,qaa u]])]) (fun z=>z.1 < N/\z.2≤1/\qjs S p A z.1 z.2 = R) (fun z=>qih S.c z.1) (n,v) ⟨hn,hv,hR⟩ (by simp) (by simp) ?_
 rintro ⟨n,v⟩ ⟨q1,q2,q3⟩;dsimp only at q1 q2 q3 ⊢;obtain ⟨m,hm⟩:=qhc n S.w 0 0;have hm2:qgs (.int .i64 (n:Int)) (qi0 S.w) 0 = some ((qc4 S.w n 0).map fun r=>(m,qaa r)):=hm
 cases hw:qc4 S.w n 0 with
 | some i=>
  rw [hw] at hm2;have hi:=ql8 _ _ _ _ hw;rw [qvo S hS p A n v i hw] at q3;subst q3;simp [qr7,xs1,xs2,xbk,xlp,q48,nop,c1.1,c1.2.1,c1.2.2,qaa,u8V,hm2,qdj];intro gm;refine ⟨_,_,_,.lend [9002,9003,9004,9001,9000] (hbit i (by omega)) (by simp [jnb,V.inB,qaa]) (by simp [qaa]) (by rw [<- hSH]; exact qcl S g p l u) (fun v hh k=>k) (qr8 g p i) (by rw [<- hSH]; exact qcl S g p l u) (by simp [qv0,Blk.gen]) (by simp),?_⟩;by_cases hl:i < p.i.length
  ·have hbt:p.bit i = p.i[i]:=by unfold Pt.bit; rw [if_pos hl,jo9,jpd hl]; rfl
   rw [hbt];simp [qvp,hl,u8V];refine .done ?_;simp [jcp,qaa]
  ·have hl2:i - p.i.length < p.s.length:=by omega
   have hbt:p.bit i = p.s[i - p.i.length]:=by unfold Pt.bit; rw [if_neg hl,jo9,jpd hl2]; rfl
   rw [hbt];simp [qvp,hl,hl2,u8V];refine .done ?_;simp [jcp,qaa]
 | none=>
  rw [hw] at hm2;have hnc:n < S.c.n.length:=by omega
  have hnd:=S.c.nd_get hnc;rw [qvn S hS hW p A n v hnc hw] at q3;have hT2:=fun Q fr h v g13=>hT Q fr h (.row g.b 2 [.agg [qaa l,qaa u]]) (.map g.w (qi0 S.w)) (.row g.i 1 (p.i.map u8V)) (.row g.t 1 (p.s.map u8V)) n v g13 q1;have hnx:=fun v hb=>qkj S hS hW A n v hnc hw hb;have hst:qi9 S n v = if jcu (S.c.nd n).k = true then qjx v else v:=rfl
  obtain ⟨y,hy⟩:∃ y,S.c.nd n = y:=⟨_,rfl⟩;rw [hy] at q3 hT2 hnd hnx hst;have hiv:=jcv y.k;simp [qr7,xs1,xs2,xbk,xlp,q48,nop,c1.1,c1.2.1,c1.2.2,qaa,u8V,hm2,qdj,hnc,<- hnd];intro gf;refine joz hiv (by simp) ?_;by_cases hiB:jcu y.k = true
  ·simp [hiB];refine joz (qqw v) (by simp [u8V]) ?_;simp;rw [if_pos hiB] at hst;rw [hst] at q3;refine hT2 _ _ _ (qjx v) (gf 13) (by simp) (by simp [u8V]) (by simp) (by simp) (by simp [qaa]) (fun hb fr' k8 k9 k10=>?_) (fun hb fr' k0 k1 k2 k3=>?_)
   ·rw [if_pos hb] at q3;subst q3;simp;refine .done ?_;simp [jcp,k8,k9,k10,qaa]
   ·rw [if_neg hb] at q3;obtain ⟨hx1,hx2⟩:=hnx (qjx v) hb;have hxe:(qdg S A ((qjx v)) y.i).1 = (((qdg S A ((qjx v)) y.i).1.toNat:Nat):Int):=by omega
    simp [k0,k2,k3,u8V];exact ⟨_,_,⟨by omega,by unfold qjx; split <;> omega,q3⟩,⟨by rw [k1,<- hxe],rfl⟩,⟨rfl,rfl⟩,hx2⟩
  ·simp [hiB];rw [if_neg hiB] at hst;rw [hst] at q3;refine hT2 _ _ _ v (gf 13) (by simp) (by simp [u8V]) (by simp) (by simp) (by simp [qaa]) (fun hb fr' k8 k9 k10=>?_) (fun hb fr' k0 k1 k2 k3=>?_)
   ·rw [if_pos hb] at q3;subst q3;simp;refine .done ?_;simp [jcp,k8,k9,k10,qaa]
   ·rw [if_neg hb] at q3;obtain ⟨hx1,hx2⟩:=hnx v hb;have hxe:(qdg S A (v) y.i).1 = (((qdg S A (v) y.i).1.toNat:Nat):Int):=by omega
    simp [k0,k2,k3,u8V];exact ⟨_,_,⟨by omega,by omega,q3⟩,⟨by rw [k1,<- hxe],rfl⟩,⟨rfl,rfl⟩,hx2⟩
end
section
open Go
def qmn (p:Pt):Nat->Nat->Nat
 | 0,i=>i
 | k + 1,i=>if p.bit i = 2 then i else qmn p k (i + 1)
def qce (S:Sea) (p:Pt) (A M:Nat->Nat):Nat × Nat:=
 match q5e S.c S.f S.ord A M with
 | some x=>if (qjs S p A x.1 x.2).2.2 = true then ((qjs S p A x.1 x.2).1,(qjs S p A x.1 x.2).2.1) else (qmn p p.many 0,0)
 | none=>(qmn p p.many 0,0)
theorem q33 (c:Ci) (hg:c.good) (hk:c.plain) (f:Ft) (hf:f.ok c) (hm:f.m = 0) (p:Pt) (hp:p.fit c) (hc:p.cu) (ca cb:Option Nat) :
  qbl Tryz.prog gl0 37 [c.v,f.w,.agg [.sl (p.i.map u8V) ca,.sl (p.s.map u8V) cb]] (q1l 1 (.tup [.sl (tU c.n.length (qbm c p)) (some c.n.length),.sl (tU c.n.length (f.M c p)) (some c.n.length),.int .i64 0])):=by
 have h:=(q85 c hg hk f hf hm p hp hc).mono (K':=q1l 1 (.tup [.sl (tU c.n.length (qbm c p)) (some c.n.length),.sl (tU c.n.length (f.M c p)) (some c.n.length),.int .i64 0])) (by
  rintro v h ⟨g0,g1,rfl,rfl⟩;refine ⟨rfl,fun x k hk=>?_,?_⟩
  ·simp only [lk] at hk;split at hk
   ·cases hk; exact q0z _ _
   ·split at hk
    ·cases hk; exact q0z _ _
    ·cases hk
  ·have e:frz [(0,.row g0 1 (tU c.n.length (qbm c p))),(1,.row g1 1 (tU c.n.length (f.M c p)))] 1 (.tup ([.ref 0 g0 0 c.n.length (some c.n.length),.ref 1 g1 0 c.n.length (some c.n.length)] ++ [.int .i64 0])) = .tup [.sl (tU c.n.length (qbm c p)) (some c.n.length),.sl (tU c.n.length (f.M c p)) (some c.n.length),.int .i64 0]:=by
    rw [qub];simp only [List.cons_append,List.nil_append,List.map_cons,List.map_nil];rw [qbb (es:=tU c.n.length (qbm c p)) (sz:=1) (by simp) (by simp),qbb (es:=tU c.n.length (f.M c p)) (sz:=1) (by simp) (by simp),List.drop_zero,List.drop_zero,jpb (by simp),jpb (by simp),qbj _ _ (qbg _ _),qbj _ _ (qbg _ _),qcb _ _ rfl]
   rw [e];exact .refl _)
 exact h.wide ⟨.refl _,.refl _,q37 p ca cb,trivial⟩
theorem qi4 (p:Pt):∀ (k i j:Nat),i≤j->j < i + k->p.bit j = 2->i≤qmn p k i/\qmn p k i < i + k/\p.bit (qmn p k i) = 2/\∀ m,i≤m->m < qmn p k i->p.bit m ≠ 2
 | 0,i,j,h1,h2,_=>by omega
 | k + 1,i,j,h1,h2,h3=>by
  unfold qmn;by_cases e:p.bit i = 2
  ·rw [if_pos e]; exact ⟨jpe _,by omega,e,fun m q1 q2=>by omega⟩
  ·rw [if_neg e];have hij:i ≠ j:=fun h=>e (by rw [h]; exact h3);obtain ⟨q1,q2,q3,q4⟩:=qi4 p k (i + 1) j (by omega) (by omega) h3;refine ⟨by omega,by omega,q3,fun m r1 r2=>?_⟩;by_cases hm:m = i
   ·rw [hm]; exact e
   ·exact q4 m (by omega) r2
theorem qxj (p:Pt) (i:Nat) (hi:i < p.i.length + p.s.length):(∃ h:i < p.i.length,p.bit i = p.i[i])∨(¬ i < p.i.length/\∃ h:i - p.i.length < p.s.length,p.bit i = p.s[i - p.i.length]):=by
 by_cases hl:i < p.i.length
 ·exact .inl ⟨hl,by unfold Pt.bit; rw [if_pos hl,jo9,jpd hl]; rfl⟩
 ·have hl2:i - p.i.length < p.s.length:=by omega
  exact .inr ⟨hl,hl2,by unfold Pt.bit; rw [if_neg hl,jo9,jpd hl2]; rfl⟩
def q92:XC:=xs2 (xs2 (xs2 q47))
theorem jab:q47 = .seq (xs1 q47) (.seq (xs1 (xs2 q47)) (.seq (xs1 (xs2 (xs2 q47))) q92)):=rfl
def qnz (S:Sea) (g:SG) (p:Pt) (l u:Nat) (r:Nat × Nat) (v:V) (h':Hp):Prop:=v = .tup [qaa r.1,u8V r.2]/\h' = S.H g p l u
theorem q83 (S:Sea) (g:SG) (p:Pt) (hpb:p.i.length + p.s.length < 1000000) (l u:Nat) (fr:Fr) (h0:lk fr 0 = some (.ptr 9002 g.s 0 0)) (j:Nat) (hj:j < p.many) (hj2:p.bit j = 2) :
  q92.wpF Tryz.prog gl0 (q0a jfv.rs (qnz S g p l u (qmn p p.many 0,0))) fr (S.H g p l u):=by
 have hbit:=fun i hi=>qtv S g p l u i hi hpb;obtain ⟨-,q2,q3,q4⟩:=qi4 p p.many 0 j (Nat.zero_le _) (by omega) hj2;have hmany:p.many = p.i.length + p.s.length:=rfl;generalize qmn p p.many 0 = o at q2 q3 q4 ⊢;have hSH:S.H g p l u = [(9002,.row g.s 15 [.agg (S.cells g p)]),(9003,.row g.i 1 (p.i.map u8V)),(9004,.row g.t 1 (p.s.map u8V)),(9001,.map g.w (qi0 S.w)),(9000,.row g.b 2 [.agg [qaa l,qaa u]])]:=rfl;unfold qnz;rw [hSH] at hbit ⊢;generalize S.cells g p = C at hbit ⊢;simp [q92,xs2,q47,jfv]
 refine jo2 (X:=Nat) (fun i=>[(13,qaa i),(0,.ptr 9002 g.s 0 0)])
  (fun _=>[(9002,.row g.s 15 [.agg C]),(9003,.row g.i 1 (p.i.map u8V)),(9004,.row g.t 1 (p.s.map u8V)),(9001,.map g.w (qi0 S.w)),(9000,.row g.b 2 [.agg [qaa l,qaa u]])]) (fun i=>i≤o) (fun i=>o - i) 0 (Nat.zero_le _) (by simp [qaa,h0]) (by simp) ?_
 intro i hi;have hio:i < p.i.length + p.s.length:=by omega
 have hw:=qa5 i (by omega);simp [qaa];refine joe (hbit i hio) ?_;rintro v h ⟨rfl,rfl⟩;refine ⟨_,.refl _,?_⟩
 have fin:∀ b:Nat,p.bit i = b->(b = 2->i = o)/\(b ≠ 2->i < o):=fun b hb=>⟨fun e=>by
  by_cases h:i = o
  ·exact h
  ·exact absurd (hb.trans e) (q4 i (Nat.zero_le _) (by omega)),fun e=>by
  by_cases h:i = o
  ·exact absurd (hb.symm.trans (h ▸ q3)) e
  ·omega⟩
 rcases qxj p i hio with ⟨hl,hb⟩ | ⟨hl,hl2,hb⟩
 ·obtain ⟨f1,f2⟩:=fin _ hb;simp [qvp,hl,u8V,nop];refine jo0 (fun hb=>?_) (fun hb=>?_)
  ·have:=f1 (jo7 hb);subst this;simp;refine .done ?_;simp [qaa]
  ·have:=f2 (jo8 hb);simp [hw,qaa];exact ⟨i + 1,this,rfl,by omega⟩
 ·obtain ⟨f1,f2⟩:=fin _ hb;simp [qvp,hl,hl2,u8V,nop];refine jo0 (fun hb=>?_) (fun hb=>?_)
  ·have:=f1 (jo7 hb);subst this;simp;refine .done ?_;simp [qaa]
  ·have:=f2 (jo8 hb);simp [hw,qaa];exact ⟨i + 1,this,rfl,by omega⟩
theorem jou {c:Ci} (hg:c.good) {f:Ft} (hf:f.ok c):f.at c < c.n.length:=by
 unfold Ft.at;split
 ·exact hf.n
 ·have hl:f.q - 1 < (c.nd f.n).i.length:=by have:=hf.q; omega
  rw [jo9,jpd hl];have:=hg.val.i f.n hf.n _ (jpc hl);simp only [Option.getD_some];omega
theorem q90 (k:Int):q4z k≤1:=by unfold q4z; split <;> omega
theorem q6r {c:Ci} (hg:c.good) {f:Ft} {A M:Nat->Nat} {n:Nat} (hn:n < c.n.length) {x:Nat × Nat} (h:qpu c f A M n = some x):x.1 < c.n.length/\x.2≤1:=by
 unfold qpu at h;split at h
 ·cases h
 ·split at h
  ·cases hf:(c.nd n).i.find? fun x=>decide (A x.toNat = 2) with
   | none=>rw [hf] at h; cases h
   | some y=>
    rw [hf] at h;cases h;have:=hg.val.i n hn y (List.mem_of_find?_eq_some hf);exact ⟨by simp only []; omega,q90 _⟩
  ·cases h
theorem qxf {c:Ci} (hg:c.good) {f:Ft} (hf:f.ok c) {ord:List Nat} (ho:∀ x ∈ ord,x < c.n.length) {A M:Nat->Nat} {x:Nat × Nat} (h:q5e c f ord A M = some x):x.1 < c.n.length/\x.2≤1:=by
 unfold q5e at h;split at h
 ·cases h; exact ⟨jou hg hf,by simp only []; omega⟩
 ·obtain ⟨n,h1,h2⟩:=List.exists_of_findSome?_eq_some h;exact q6r hg (ho n h1) h2
theorem q2b (S:Sea) (hS:S.ok) (hW:S.okW) (hk:S.c.plain) (g:SG) (p:Pt) (hp:p.fit S.c) (hc:p.cu) (hpw:S.w.length = p.i.length + p.s.length) (l u:Nat) (j:Nat) (hj:j < p.many) (hj2:p.bit j = 2) :
  qau Tryz.prog gl0 169 [.ptr 9002 g.s 0 0] (S.H g p l u) (qnz S g p l u (qce S p (qbm S.c p) (S.f.M S.c p))):=by
 have hwl:=hW.wl;have hpr:=q33 S.c hS.g hk S.f hS.f hS.m p hp hc (some p.i.length) (some p.s.length);have hfv:=hS.f.v;have hA:∀ i,qbm S.c p i≤3:=by rw [qq3]; exact qk0 (fun _ _ h=>h) _ _ (que hp)
 have hM:∀ i,S.f.M S.c p i≤3:=qk0 (qtr S.f _ fun _=>by omega) _ _ (que hp);have haim:=jhm S hS g p l u (qbm S.c p) (S.f.M S.c p) hA hM (some S.c.n.length) (some S.c.n.length);have hbk:=fun n v hn hv=>jbj S hS hW g p hp hpw l u (qbm S.c p) (some S.c.n.length) n v hn hv;have hop:=fun fr=>q83 S g p (by omega) l u fr;have hAp:jm8 (tU S.c.n.length (qbm S.c p)) = true:=qbg _ _;have hMp:jm8 (tU S.c.n.length (S.f.M S.c p)) = true:=qbg _ _;refine jo6 jj6 rfl ?_;show q47.wpF _ _ _ _ _;rw [jab];simp [xs1,xs2,q47,Sea.H,Sea.cells,nop];intro gm
 have hfz:∀ h:Hp,lk h 9003 = some (.row g.i 1 (p.i.map u8V))->lk h 9004 = some (.row g.t 1 (p.s.map u8V))->[S.c.v,S.f.w,V.agg [.ref 9003 g.i 0 p.i.length (some p.i.length),.ref 9004 g.t 0 p.s.length (some p.s.length)]].map (frz h 2) = [S.c.v,S.f.w,V.agg [.sl (p.i.map u8V) (some p.i.length),.sl (p.s.map u8V) (some p.s.length)]]:=fun h e3 e4=>by
  simp only [List.map_cons,List.map_nil];rw [qcb _ _ (qdm S.c),qcb _ _ (show S.f.w.pure = true from rfl),qfi];simp only [List.map_cons,List.map_nil];rw [qbb e3 (by simp),qbb e4 (by simp),List.drop_zero,List.drop_zero,jpb (by simp),jpb (by simp),qbj _ _ (qav _),qbj _ _ (qav _)]
 refine ⟨_,_,_,.dat 2 hpr (hfz _ (by simp) (by simp)),?_⟩;simp;refine qau.mono haim ?_;rintro v h ⟨rfl,rfl⟩;have hin:=fun x (hx:q5e S.c S.f S.ord (qbm S.c p) (S.f.M S.c p) = some x)=>qxf hS.g hS.f hS.o hx;unfold qce
 cases haP:q5e S.c S.f S.ord (qbm S.c p) (S.f.M S.c p) with
 | none=>
  simp [qs1];exact hop _ (by simp) j hj hj2
 | some x=>
  obtain ⟨n,v⟩:=x;obtain ⟨h1,h2⟩:=hin _ haP;simp [qs1];refine qau.mono (hbk n v h1 h2) ?_;rintro w h ⟨rfl,rfl⟩
  cases hb:(qjs S p (qbm S.c p) n v).2.2 with
  | true=>
   simp [hb];refine .done ?_;simp [qnz,jfv,Sea.H]
  | false=>
   simp [hb];exact hop _ (by simp) j hj hj2
end
section
open Go
def upT (a:Nat) (n:Tn):Tn:=if 0≤n.i then ⟨n.i,n.z + a,n.o + a⟩ else n
theorem qj6:∀ (d:DT) (a b:Nat),d.fl (b + a) = (d.fl b).map (upT a)
 | .lf,_,_=>by simp [DT.fl,upT,lfN]
 | .nd i z o,a,b=>by
  have h1:=qj6 z a (b + 1);have h2:=qj6 o a (b + 1 + z.sz);rw [show b + 1 + a = b + a + 1 by omega] at h1;rw [show b + 1 + z.sz + a = b + a + 1 + z.sz by omega] at h2;simp only [DT.fl,List.map_cons,List.map_append,h1,h2];congr 1;simp [upT];omega
theorem jh9 (i:Nat) (z o:DT):(DT.nd i z o).fl 0 = ⟨i,1,((1 + z.sz:Nat):Int)⟩ :: ((z.fl 0).map (upT 1) ++ (o.fl 0).map (upT (1 + z.sz))):=by
 have h1:=qj6 z 1 0;have h2:=qj6 o (1 + z.sz) 0;rw [Nat.zero_add] at h1 h2;simp only [DT.fl,Nat.zero_add,h1,h2];rfl
theorem q29 (i:Nat) (zl ol:List Tn) (cz co:Option Nat) (hl:zl.length + ol.length < 10000000) (hz:∀ n ∈ zl,-1000000000 < n.z/\n.z < 1000000000/\-1000000000 < n.o/\n.o < 1000000000) (ho:∀ n ∈ ol,-1000000000 < n.z/\n.z < 1000000000/\-1000000000 < n.o/\n.o < 1000000000) :
  qac Tryz.prog gl0 171 [qaa i,.sl (zl.map Tn.v) cz,.sl (ol.map Tn.v) co] (.sl ((⟨i,1,((1 + zl.length:Nat):Int)⟩ :: (zl.map (upT 1) ++ ol.map (upT (1 + zl.length)))).map Tn.v) none):=by
 refine jnn (K:=fun v h=>∃ g k cap es,v = .ref 0 g 0 k cap/\h = [(0,.row g 3 es)]/\k≤es.length/\es.take k = (⟨i,1,((1 + zl.length:Nat):Int)⟩ :: (zl.map (upT 1) ++ ol.map (upT (1 + zl.length)))).map Tn.v) 1 ?_ ?_
 ·obtain ⟨L0,hL0⟩:∃ L:List Tn,L = [⟨i,1,((1 + zl.length:Nat):Int)⟩]:=⟨_,rfl⟩;have w1:IntKind.i64.wrap (1 + (zl.length:Int)) = ((1 + zl.length:Nat):Int):=by rw [qat] <;> omega
  have w2:IntKind.i64.wrap (1 + (zl.length:Int) + (ol.length:Int)) = ((1 + zl.length + ol.length:Nat):Int):=by rw [qat] <;> omega
  refine jo5 jj8 rfl ?_;simp [i171,x171,qaa];simp [w1,w2];intro gf1;refine ⟨⟨by omega,by omega⟩,fun gf2=>?_⟩;generalize gf1 19 = g19;generalize gf2 29 = g29;obtain ⟨P,hP⟩:∃ P:Nat->List Tn,P = fun j=>if j = 0 then zl else ol:=⟨_,rfl⟩
  obtain ⟨L,hL⟩:∃ L:Nat->List Tn,L = fun j=>L0 ++ ((if 1≤j then zl.map (upT 1) else []) ++ if 2≤j then ol.map (upT (1 + zl.length)) else []):=⟨_,rfl⟩
  have hLs:∀ j,j < 2->L (j + 1) = L j ++ (P j).map (upT (L j).length):=by
   intro j hj;subst hL hP hL0
   match j,hj with
   | 0,_=>simp
   | 1,_=>simp [Nat.add_comm]
  have hPj:∀ j,j < 2->(P j).length < 10000000/\(L j).length + (P j).length < 20000000/\∀ n ∈ P j,-1000000000 < n.z/\n.z < 1000000000/\-1000000000 < n.o/\n.o < 1000000000:=by
   intro j hj;subst hL hP hL0
   match j,hj with
   | 0,_=>exact ⟨by simp; omega,by simp; omega,hz⟩
   | 1,_=>exact ⟨by simp; omega,by simp; omega,ho⟩
  obtain ⟨B29,hB⟩:∃ b:List V,b = [.sl (zl.map Tn.v) cz,.sl (ol.map Tn.v) co]:=⟨_,rfl⟩
  have hBj:∀ j,j < 2->∃ cp,∀ h:j < B29.length,B29[j] = .sl ((P j).map Tn.v) cp:=by
   intro j hj;subst hB hP
   match j,hj with
   | 0,_=>exact ⟨cz,fun _=>rfl⟩
   | 1,_=>exact ⟨co,fun _=>rfl⟩
  have hBl:B29.length = 2:=by rw [hB]; rfl
  rw [<- hB]
  refine jnp (X:=Nat × Nat × Nat × List V × Option Nat) (fun z=>[(31,qaa z.1),(30,qaa 2),(29,.ref 29 g29 0 2 (some 2)),(7,.ref 2000 z.2.1 0 z.2.2.1 z.2.2.2.2)])
   (fun z=>[(29,.row g29 1 B29),(2000,.row z.2.1 3 z.2.2.2.1)]) (fun z=>z.1≤2/\z.2.2.1≤z.2.2.2.1.length/\z.2.2.2.1.take z.2.2.1 = (L z.1).map Tn.v) (fun z=>2 - z.1) ?_ ?_
  ·refine .move 19 2000 _ (by simp) (by simp; rfl) fun g'=>.done ⟨(0,g',1,[.agg [.int .i64 i,.int .i64 1,.int .i64 (1 + (zl.length:Int))]],some (1 + (zl.length:Int) + (ol.length:Int)).toNat),⟨by simp,by simp,?_⟩,by simp [qaa],by simp [hB,qap _ (qcp _)]⟩;subst hL hL0;simp [Tn.v]
  rintro ⟨j,g,k,es,cap⟩ ⟨p1,p2,p3⟩;dsimp only at p1 p2 p3 ⊢;simp [qaa];refine jo0 (fun hb=>?_) (fun hb=>?_)
  ·have hj:j < 2:=by have:=jo7 hb; omega
   obtain ⟨cp,hcp⟩:=hBj j hj;obtain ⟨b1,b2,b3⟩:=hPj j hj;have hkl:k = (L j).length:=by have:=congrArg List.length p3; simp at this; omega
   have hls:=hLs j hj;have hw:=qa5 j (by omega);generalize P j = Q at hcp b1 b2 b3 hls;simp [hj,hBl,hcp]
   refine jnp (X:=Nat × Nat × Nat × List V × Option Nat) (fun z=>[(39,qaa z.1),(38,qaa Q.length),(37,.sl (Q.map Tn.v) cp),(10,qaa k),(31,qaa j),(30,qaa 2),(29,.ref 29 g29 0 2 (some 2)),(7,.ref 2000 z.2.1 0 z.2.2.1 z.2.2.2.2)])
    (fun z=>[(29,.row g29 1 B29),(2000,.row z.2.1 3 z.2.2.2.1)]) (fun z=>z.1≤Q.length/\z.2.2.1≤z.2.2.2.1.length/\z.2.2.2.1.take z.2.2.1 = (L j ++ (Q.take z.1).map (upT k)).map Tn.v/\z.2.2.1 = k + z.1) (fun z=>Q.length - z.1) (.done ⟨(0,g,k,es,cap),⟨by simp,p2,by simp [p3],rfl⟩,by simp [qaa],by simp⟩) ?_
   rintro ⟨m,g2,k2,es2,cap2⟩ ⟨r1,r2,r3,r4⟩;dsimp only at r1 r2 r3 r4 ⊢;simp [qaa];refine jo0 (fun hb2=>?_) (fun hb2=>?_)
   ·have hm:m < Q.length:=jo7 hb2;have hwm:=qa5 m (by omega);obtain ⟨x,hx⟩:∃ x,Q[m] = x:=⟨_,rfl⟩;obtain ⟨c1,c2,c3,c4⟩:=b3 x (by rw [<- hx]; exact jpc hm)
    have hnx:(L j ++ (Q.take (m + 1)).map (upT k)).map Tn.v = es2.take k2 ++ [(upT k x).v]:=by
     rw [r3,List.take_succ_eq_append_getElem hm,hx];simp
    have hz2:IntKind.i64.wrap (x.z + (k:Int)) = x.z + k:=by rw [qat] <;> omega
    have ho2:IntKind.i64.wrap (x.o + (k:Int)) = x.o + k:=by rw [qat] <;> omega
    by_cases hxi:0≤x.i
    ·have hup:(upT k x).v = .agg [.int .i64 x.i,.int .i64 (x.z + k),.int .i64 (x.o + k)]:=by unfold upT; rw [if_pos hxi]; rfl
     simp [hm,hx,Tn.v];intro ga;simp [hxi,hz2,ho2];intro gb gc;refine ⟨⟨r2,by omega⟩,.done ⟨m + 1,gc 2000,k2 + 1,List.take k2 es2 ++ [.agg [.int .i64 x.i,.int .i64 (x.z + k),.int .i64 (x.o + k)]],⟨hm,?_,?_,by omega⟩,by simp [hwm],⟨by simp,by simp⟩,by omega⟩⟩
     ·simp; omega
     ·rw [jpb (by simp; omega)];rw [hup] at hnx;simpa [Tn.v] using hnx.symm
    ·have hup:(upT k x).v = x.v:=by unfold upT; rw [if_neg hxi]
     simp [hm,hx,Tn.v];intro ga;simp [hxi];intro gb gc;refine ⟨⟨r2,by omega⟩,.done ⟨m + 1,gc 2000,k2 + 1,List.take k2 es2 ++ [.agg [.int .i64 x.i,.int .i64 x.z,.int .i64 x.o]],⟨hm,?_,?_,by omega⟩,by simp [hwm],⟨by simp,by simp⟩,by omega⟩⟩
     ·simp; omega
     ·rw [jpb (by simp; omega)];rw [hup] at hnx;simpa [Tn.v] using hnx.symm
   ·have hm:m = Q.length:=by have:=jo8 hb2; omega
    subst hm;rw [List.take_length] at r3;simp [hw];refine .done ⟨j + 1,g2,k2,es2,⟨hj,r2,?_⟩,by simp,⟨by simp,by simp⟩,by omega⟩;rw [r3,hls,hkl]
  ·have hj:j = 2:=by have:=jo8 hb; omega
   subst hj;simp;refine .move 2000 0 _ (by simp) (by simp; rfl) fun g'=>.done ?_;simp;refine ⟨[(0,.row g' 3 (es.map (V.rn (mvS 2000 g 0 g'))))],by simp,g',k,⟨rfl,rfl⟩,_,rfl,by simpa using p2,?_⟩;rw [<- List.map_take,p3,qae (qcp _),hL,hL0];simp
 ·rintro v h ⟨g,k,cap,es,rfl,rfl,hk,he⟩;have hp:jm8 (es.take k) = true:=by rw [he]; exact qcp _
  rw [qbb (es:=es) (sz:=3) (by simp) (by simpa using hk),List.drop_zero,qbj _ _ hp,he];exact VLe.cap _ _
end
section
open Go
theorem q9q (c:Ci) (hg:c.good) (hk:c.plain) (f:Ft) (hf:f.ok c) (hm:f.m = 0) (p:Pt) (hp:p.fit c) (hc:p.cu):qac Tryz.prog gl0 30 [c.v,f.w,p.v] (.tup [.bool (f.det c p),.int .i64 0]):=by
 have h1:=qkn c hg hk f hf hm p hp hc;have h2:=jb6 c hg f hf hm p hp;generalize f.det c p = B at h2 ⊢;simp only [Pt.v,Ft.w] at h1 h2 ⊢;refine jo3 2 ok30 rfl ?_;simp [i30,x30,Ft.w];intro gf1 gf2 gf3;refine joz h1 (by simp [jm8,V.pure,u8V,qaa]) ?_;simp;refine joz h2 (by simp [jm8,V.pure,u8V,qaa]) ?_;simp
theorem q11 (c:Ci) (hg:c.good) (hk:c.plain) (f:Ft) (hf:f.ok c) (hm:f.m = 0) (p:Pt) (hp:p.fit c) (hc:p.cu):qac Tryz.prog gl0 29 [c.v,f.w,p.v] (.tup [.bool (qma c f p),.int .i64 0]):=by
 have h1:=qkn c hg hk f hf hm p hp hc;have h2:=qtx c hg f hf hm p hp;generalize qma c f p = B at h2 ⊢;simp only [Pt.v,Ft.w] at h1 h2 ⊢;refine jo3 2 ok29 rfl ?_;simp [i29,x29,Ft.w];intro gf1 gf2 gf3;refine joz h1 (by simp [jm8,V.pure,u8V,qaa]) ?_;simp;refine joz h2 (by simp [jm8,V.pure,u8V,qaa]) ?_;simp
inductive VR where
 | found (q:Pt) (u:Nat)
 | proof (t:DT) (u:Nat)
 | spent (q:Pt)
noncomputable def qbk (S:Sea) (l:Nat):Nat->Pt->Nat->VR
 | 0,p,_=>.spent p
 | k + 1,p,u=>
  if S.f.det S.c p = true then .found p u
  else if qma S.c S.f p = true then .proof .lf u
  else if u = l then .spent p
  else match qbk S l k (p.set (qce S p (qbm S.c p) (S.f.M S.c p)).1 (qce S p (qbm S.c p) (S.f.M S.c p)).2) (u + 1) with
   | .found q w=>.found q w
   | .spent q=>.spent q
   | .proof t w=>match qbk S l k (p.set (qce S p (qbm S.c p) (S.f.M S.c p)).1 (1 - (qce S p (qbm S.c p) (S.f.M S.c p)).2)) w with
    | .found q w=>.found q w
    | .spent q=>.spent q
    | .proof t2 w2=>.proof (if (qce S p (qbm S.c p) (S.f.M S.c p)).2 = 0 then .nd (qce S p (qbm S.c p) (S.f.M S.c p)).1 t t2 else .nd (qce S p (qbm S.c p) (S.f.M S.c p)).1 t2 t) w2
def Pt.opens (p:Pt):Nat:=(List.range p.many).countP fun j=>decide (p.bit j = 2)
theorem qmz {P P':Nat->Bool} {k:Nat} (h0:P k = true) (h1:P' k = false) (h2:∀ j,j ≠ k->P' j = P j):∀ n,(List.range n).countP P = (List.range n).countP P' + if k < n then 1 else 0
 | 0=>rfl
 | n + 1=>by
  rw [List.range_succ,List.countP_append,List.countP_append,qmz h0 h1 h2 n];simp only [List.countP_singleton];by_cases e:n = k
  ·subst e; simp [h0,h1]
  ·rw [h2 n e]
   have e1:(if k < n + 1 then 1 else 0:Nat) = if k < n then 1 else 0:=by
    by_cases h:k < n
    ·rw [if_pos h,if_pos (by omega)]
    ·rw [if_neg h,if_neg (by omega)]
   rw [e1]; omega
theorem qe7 {p:Pt} {k v:Nat} (hk:k < p.many) (h2:p.bit k = 2) (hv:v≤1):p.opens = (p.set k v).opens + 1:=by
 unfold Pt.opens;rw [jnu,qmz (k:=k) (P':=fun j=>decide ((p.set k v).bit j = 2)) (by simpa using h2) (by rw [jng hk,if_pos rfl]; simp; omega) (fun j hj=>by rw [jng hk,if_neg hj]) p.many,if_pos hk]
theorem q5n {p:Pt}:p.cu↔∀ j,j < p.many->p.bit j≤2:=by
 constructor
 ·intro h j hj;rcases qxj p j hj with ⟨hl,e⟩ | ⟨hl,hl2,e⟩
  ·rw [e]; exact h.1 _ (jpc hl)
  ·rw [e]; exact h.2 _ (jpc hl2)
 ·intro h;refine ⟨fun x hx=>?_,fun x hx=>?_⟩
  ·obtain ⟨j,hj,rfl⟩:=List.mem_iff_getElem.1 hx;have:=h j (by unfold Pt.many; omega);unfold Pt.bit at this
   rwa [if_pos hj,jo9,jpd hj] at this
  ·obtain ⟨j,hj,rfl⟩:=List.mem_iff_getElem.1 hx;have:=h (p.i.length + j) (by unfold Pt.many; omega);unfold Pt.bit at this
   rwa [if_neg (by omega),Nat.add_sub_cancel_left,jo9,jpd hj] at this
theorem qg2 {p:Pt} (h:p.cu) {k v:Nat} (hk:k < p.many) (hv:v≤2):(p.set k v).cu:=by
 rw [q5n] at h ⊢;intro j hj;rw [jnu] at hj;rw [jng hk];split
 ·exact hv
 ·exact h j hj
theorem qs0 {c:Ci} (hg:c.good) (hk:c.plain) {f:Ft} (hf:f.ok c) {p:Pt} (hp:p.fit c) (hc:p.cu) (h1:¬ f.det c p = true) (h2:¬ qma c f p = true):∃ j,j < p.many/\p.bit j = 2:=by
 refine Classical.byContradiction fun hn=>?_
 have hkn:p.kn:=by
  have hb:∀ j,j < p.many->p.bit j≤1:=fun j hj=>by
   have q1:=q5n.1 hc j hj;have q2:p.bit j ≠ 2:=fun e=>hn ⟨j,hj,e⟩;omega
  refine ⟨fun x hx=>?_,fun x hx=>?_⟩
  ·obtain ⟨j,hj,rfl⟩:=List.mem_iff_getElem.1 hx;have:=hb j (by unfold Pt.many; omega);unfold Pt.bit at this
   rwa [if_pos hj,jo9,jpd hj] at this
  ·obtain ⟨j,hj,rfl⟩:=List.mem_iff_getElem.1 hx;have:=hb (p.i.length + j) (by unfold Pt.many; omega);unfold Pt.bit at this
   rwa [if_neg (by omega),Nat.add_sub_cancel_left,jo9,jpd hj] at this
 have:=q1z hg hk hf hp hkn;rw [Bool.eq_false_iff.2 h2] at this;exact h1 (by rw [this]; rfl)
theorem qtu (S:Sea) (p:Pt) (A:Nat->Nat):∀ (k n v:Nat),v≤1->(qim S p A k n v).2.2 = true->p.bit (qim S p A k n v).1 = 2/\(qim S p A k n v).1 < S.w.length/\(qim S p A k n v).2.1≤1
 | 0,n,v,_,h=>by simp [qim] at h
 | k + 1,n,v,hv,h=>by
  unfold qim at h ⊢
  cases hw:qc4 S.w n 0 with
  | some i=>
   rw [hw] at h;have:=ql8 _ _ _ _ hw;exact ⟨by simpa using h,by simp only []; omega,hv⟩
  | none=>
   rw [hw] at h;simp only [] at h ⊢;split at h
   ·simp at h
   ·rename_i hb;rw [if_neg hb];have hs:qi9 S n v≤1:=by unfold qi9 qjx; split <;> (try split) <;> omega
    exact qtu S p A k _ _ hs h
theorem qko (S:Sea) (hS:S.ok) (p:Pt) (hpw:S.w.length = p.many) (A M:Nat->Nat) {j:Nat} (hj:j < p.many) (hj2:p.bit j = 2):(qce S p A M).1 < p.many/\p.bit (qce S p A M).1 = 2/\(qce S p A M).2≤1:=by
 have ho:=qi4 p p.many 0 j (Nat.zero_le _) (by omega) hj2;unfold qce
 cases ha:q5e S.c S.f S.ord A M with
 | none=>exact ⟨by simp only []; omega,ho.2.2.1,by simp⟩
 | some x=>
  have hx:=qxf hS.g hS.f hS.o ha;simp only [];split
  ·rename_i hb;have:=qtu S p A S.c.n.length x.1 x.2 hx.2 hb;exact ⟨by rw [<- hpw]; exact this.2.1,this.1,this.2.2⟩
  ·exact ⟨by simp only []; omega,ho.2.2.1,by simp⟩
end
end Go.Proofs.YtpaopccohkldlaaGreatDoor
