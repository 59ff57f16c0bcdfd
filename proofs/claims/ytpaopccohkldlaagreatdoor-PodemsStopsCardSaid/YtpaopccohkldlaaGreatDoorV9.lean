/- Podems: the walk of the way back. Conditions: none. -/
import Derived.Test.YtpaopccohkldlaaGreatDoorV5
import Derived.Test.YtpaopccohkldlaaGreatDoorA5
import Derived.Test.YtpaopccohkldlaaGreatDoorY3
set_option linter.all false
namespace Go.Proofs.YtpaopccohkldlaaGreatDoor
section
open Go
def qsp:XC:=xbk (xlp (xbk (xs2 q6b)))
def jba:XC:=xs2 (xs2 (xs2 qsp))
theorem jbk:q6b = .seq (xs1 q6b) (.block 0 (.loop (.block 1 (.seq (xs1 qsp) (.seq (xs1 (xs2 qsp)) (.seq (xs1 (xs2 (xs2 qsp))) jba)))))):=rfl
set_option maxRecDepth 10000 in
theorem q72 (S:Sea) (hS:S.ok) (hW:S.okW) (g:SG) (p:Pt) (A:Nat->Nat) (ca:Option Nat) (Q:IQ) (fr:Fr) (h:Hp) (B0 B1 B3 B4:Blk) (n v g13:Nat) (hn:n < S.c.n.length)
  (h0:lk fr 0 = some (.ptr 9002 g.s 0 0)) (h2:lk fr 2 = some (u8V v)) (h3:lk fr 3 = some (.sl (tU S.c.n.length A) ca)) (h13:lk fr 13 = some (.ptr 13 g13 0 0))
  (hsb:Sub [(13,.row g13 4 [(S.c.nd n).v]),(9002,.row g.s 15 [.agg (S.cells g p)]),(9003,B3),(9004,B4),(9001,B1),(9000,B0)] h)
  (hf:(qdg S A v (S.c.nd n).i).1 < 0->∀ fr',lk fr' 8 = some (.int .i64 0)->lk fr' 9 = some (.int .u8 0)->lk fr' 10 = some (.bool false)->Q .ret fr' [(13,.row g13 4 [(S.c.nd n).v]),(9002,.row g.s 15 [.agg (S.cells g p)]),(9003,B3),(9004,B4),(9001,B1),(9000,B0)])
  (hq:¬ (qdg S A v (S.c.nd n).i).1 < 0->∀ fr',lk fr' 0 = some (.ptr 9002 g.s 0 0)->lk fr' 1 = some (.int .i64 (qdg S A v (S.c.nd n).i).1)->lk fr' 2 = some (u8V v)->lk fr' 3 = some (.sl (tU S.c.n.length A) ca)->Q .normal fr' [(13,.row g13 4 [(S.c.nd n).v]),(9002,.row g.s 15 [.agg (S.cells g p)]),(9003,B3),(9004,B4),(9001,B1),(9000,B0)]) :
  jba.wpF Tryz.prog gl0 Q fr h:=by
 have hh:=hsb.spec 13 (.row g13 4 [(S.c.nd n).v]) (by simp);have hyi:=hS.g.val.i n hn;have hyl:=hS.g.val.l n hn;have hcl:=hW.cl;obtain ⟨y,hy⟩:∃ y,S.c.nd n = y:=⟨_,rfl⟩;rw [hy] at hyi hyl hf hq hsb hh;obtain ⟨C,hC⟩:∃ C,S.cells g p = C:=⟨_,rfl⟩;rw [hC] at hf hq hsb;have c1:(∀ h:10 < C.length,C[10] = .sl (S.cst.map qms) S.cc)/\C.length = 15:=by subst hC; exact ⟨fun _=>rfl,rfl⟩
 obtain ⟨N,hN⟩:∃ N,S.c.n.length = N:=⟨_,rfl⟩;rw [hN] at h3 hyi hcl hq;simp [jba,qsp,xs1,xs2,xbk,xlp,q6b,h13,hh]
 refine jqn (X:=Nat) (fun j=>[(53,qaa j),(52,qaa y.i.length),(51,.sl (qc8 y.i) none),(14,.int .i64 (qdg S A v (y.i.take j)).1),(15,.int .i64 (qdg S A v (y.i.take j)).2),(0,.ptr 9002 g.s 0 0),(2,u8V v),(3,.sl (tU N A) ca)])
  (fun _=>[(13,.row g13 4 [y.v]),(9002,.row g.s 15 [.agg C]),(9003,B3),(9004,B4),(9001,B1),(9000,B0)]) (fun j=>j≤y.i.length) (fun j=>y.i.length - j) 0 (Nat.zero_le _) (by simp [qaa,h0,h2,h3,qdg]) hsb ?_
 intro j hj;simp [qaa,u8V];refine jql (fun hb=>?_) (fun hb=>?_)
 ·have hj2:j < y.i.length:=jqs hb;have hw:=qaz j (by omega);obtain ⟨x,hx⟩:∃ x,y.i[j] = x:=⟨_,rfl⟩;have hxb:=hyi x (by rw [<- hx]; exact jqx hj2)
  have hsn:qdg S A v (y.i.take (j + 1)) = qso S A v (qdg S A v (y.i.take j)) x:=by
   unfold qdg;rw [List.take_succ_eq_append_getElem hj2,List.foldl_append,hx];rfl
  obtain ⟨z,rfl⟩:∃ z:Nat,x = z:=⟨x.toNat,(Int.toNat_of_nonneg hxb.1).symm⟩;have hzN:z < N:=by omega
  have hzc:z < S.cst.length:=by omega
  have hcost:S.cost v z = if v = 1 then S.cst[z].2 else S.cst[z].1:=by unfold Sea.cost; rw [jqu,jqy hzc]; rfl
  obtain ⟨b,hb2⟩:∃ b,qdg S A v (y.i.take j) = b:=⟨_,rfl⟩;rw [hb2] at hsn ⊢;unfold qso at hsn;rw [Int.toNat_natCast,hcost] at hsn;by_cases hv:v = 1
  ·subst hv;rw [if_pos rfl] at hsn;by_cases hA2:A z = 2
   ·by_cases hlt:S.cst[z].2 < b.2
    ·rw [if_pos ⟨hA2,hlt⟩] at hsn;simp [hj2,qa3,hx,nop,c1.1,c1.2,hzc,qms,hzN,qb2,u8V,hA2,hlt];exact ⟨j + 1,hj2,⟨hw,by rw [hsn],by rw [hsn]⟩,by omega⟩
    ·rw [if_neg (by simp [hlt])] at hsn;simp [hj2,qa3,hx,nop,c1.1,c1.2,hzc,qms,hzN,qb2,u8V,hA2,hlt];exact ⟨j + 1,hj2,⟨hw,by rw [hsn],by rw [hsn]⟩,by omega⟩
   ·rw [if_neg (by simp [hA2])] at hsn;simp [hj2,qa3,hx,nop,c1.1,c1.2,hzc,qms,hzN,qb2,u8V,hA2];exact ⟨j + 1,hj2,⟨hw,by rw [hsn],by rw [hsn]⟩,by omega⟩
  ·rw [if_neg hv] at hsn;have hv':¬ ((v:Int) = 1):=by omega
   by_cases hA2:A z = 2
   ·by_cases hlt:S.cst[z].1 < b.2
    ·rw [if_pos ⟨hA2,hlt⟩] at hsn;simp [hj2,qa3,hx,nop,c1.1,c1.2,hzc,qms,hv,hv',hzN,qb2,u8V,hA2,hlt];exact ⟨j + 1,hj2,⟨hw,by rw [hsn],by rw [hsn]⟩,by omega⟩
    ·rw [if_neg (by simp [hlt])] at hsn;simp [hj2,qa3,hx,nop,c1.1,c1.2,hzc,qms,hv,hv',hzN,qb2,u8V,hA2,hlt];exact ⟨j + 1,hj2,⟨hw,by rw [hsn],by rw [hsn]⟩,by omega⟩
   ·rw [if_neg (by simp [hA2])] at hsn;simp [hj2,qa3,hx,nop,c1.1,c1.2,hzc,qms,hv,hv',hzN,qb2,u8V,hA2];exact ⟨j + 1,hj2,⟨hw,by rw [hsn],by rw [hsn]⟩,by omega⟩
 ·have hj:j = y.i.length:=by have:=jqt hb; omega
  subst hj;rw [List.take_length];obtain ⟨b,hb2⟩:∃ b,qdg S A v y.i = b:=⟨_,rfl⟩;rw [hb2] at hf hq ⊢;by_cases hneg:b.1 < 0
  ·simp [hneg];exact hf hneg _ (by simp) (by simp) (by simp)
  ·simp [hneg];exact hq hneg _ (by simp) (by simp) (by simp [u8V]) (by simp)
def jcq (S:Sea) (g:SG) (p:Pt) (l u:Nat) (r:Nat × Nat × Bool) (v:V) (h':Hp):Prop:=v = .tup [qaa r.1,u8V r.2.1,.bool r.2.2]/\h' = S.H g p l u
theorem qsq (g:SG) (p:Pt) (i:Nat):V.inB [9002,9003,9004,9001,9000] (qwd g p i) = true:=by unfold qwd; split <;> rfl
theorem qwj (l:List (Int × Int)):jos (l.map qms) = true:=pureL_map (fun _=>rfl) l
theorem q9p (D:List Nat) (l:List Nat):((qi5 l).all fun e=>e.1.inB D && e.2.inB D) = true:=by
 simp [qi5,qaa]
theorem qcl (S:Sea) (g:SG) (p:Pt) (l u:Nat):qb5 [9002,9003,9004,9001,9000] (S.H g p l u) = true:=by
 have hm:=q9p [9002,9003,9004,9001,9000] S.w;simp only [Sea.H,Sea.cells,qb5,List.all_cons,List.all_nil,Blk.inB,jov,V.inB,jot _ _ (qdq _),jot _ _ (qd7 _),jot _ _ (qdw _),jot _ _ (qcu _),jot _ _ (qat _),jot _ _ (qa1 _),jot _ _ (qwj _),u8V,qaa,hm];rfl
set_option maxRecDepth 10000 in
theorem jcr (S:Sea) (hS:S.ok) (hW:S.okW) (g:SG) (p:Pt) (hp:p.fit S.c) (hpw:S.w.length = p.i.length + p.s.length) (l u:Nat) (A:Nat->Nat) (ca:Option Nat) (n v:Nat) (hn:n < S.c.n.length) (hv:v≤1) :
  qau Tryz.prog gl0 195 [.ptr 9002 g.s 0 0,qaa n,u8V v,.sl (tU S.c.n.length A) ca] (S.H g p l u) (jcq S g p l u (qj3 S p A n v)):=by
 have hbit:=fun i hi=>qui S g p l u i hi (by have:=hW.wl; omega);have hT:=fun Q fr h=>q72 S hS hW g p A ca Q fr h;have hn1:=hS.g.n1;refine jqr jl4 rfl ?_;generalize hR:qj3 S p A n v = R;show q6b.wpF _ _ _ _ _;rw [jbk];have hSH:S.H g p l u = [(9002,.row g.s 15 [.agg (S.cells g p)]),(9003,.row g.i 1 (p.i.map u8V)),(9004,.row g.t 1 (p.s.map u8V)),(9001,.map g.w (qi5 S.w)),(9000,.row g.b 2 [.agg [qaa l,qaa u]])]:=rfl;obtain ⟨C,hC⟩:∃ C,S.cells g p = C:=⟨_,rfl⟩;obtain ⟨N,hN⟩:∃ N,S.c.n.length = N:=⟨_,rfl⟩;unfold jcq;rw [hC] at hT hSH;rw [hN] at hT hn ⊢;rw [hSH] at hbit ⊢;have c1:(∀ h:1 < C.length,C[1] = .sl (S.c.n.map Nd.v) none)/\(∀ h:11 < C.length,C[11] = .own 9001 g.w)/\C.length = 15:=by subst hC; exact ⟨fun _=>rfl,fun _=>rfl,rfl⟩
 simp [xs1,q6b]
 refine jqn (X:=Nat × Nat) (fun z=>[(0,.ptr 9002 g.s 0 0),(1,qaa z.1),(2,u8V z.2),(3,.sl (tU N A) ca)])
  (fun _=>[(9002,.row g.s 15 [.agg C]),(9003,.row g.i 1 (p.i.map u8V)),(9004,.row g.t 1 (p.s.map u8V)),(9001,.map g.w (qi5 S.w)),(9000,.row g.b 2 [.agg [qaa l,qaa u]])]) (fun z=>z.1 < N/\z.2≤1/\qj3 S p A z.1 z.2 = R) (fun z=>qkm S.c z.1) (n,v) ⟨hn,hv,hR⟩ (by simp) (by simp) ?_
 rintro ⟨n,v⟩ ⟨q1,q2,q3⟩;dsimp only at q1 q2 q3 ⊢;obtain ⟨m,hm⟩:=qhe n S.w 0 0;have hm2:qgu (.int .i64 (n:Int)) (qi5 S.w) 0 = some ((qc3 S.w n 0).map fun r=>(m,qaa r)):=hm
 cases hw:qc3 S.w n 0 with
 | some i=>
  rw [hw] at hm2;have hi:=qml _ _ _ _ hw;rw [qwc S hS p A n v i hw] at q3;subst q3;simp [qsp,xs1,xs2,xbk,xlp,q6b,nop,c1.1,c1.2.1,c1.2.2,qaa,u8V,hm2,qdl];intro gm;refine ⟨_,_,_,.lend [9002,9003,9004,9001,9000] (hbit i (by omega)) (by simp [jov,V.inB,qaa]) (by simp [qaa]) (by rw [<- hSH]; exact qcl S g p l u) (fun v hh k=>k) (qsq g p i) (by rw [<- hSH]; exact qcl S g p l u) (by simp [qwm,Blk.gen]) (by simp),?_⟩;by_cases hl:i < p.i.length
  ·have hbt:p.bit i = p.i[i]:=by unfold Pt.bit; rw [if_pos hl,jqu,jqy hl]; rfl
   rw [hbt];simp [qwd,hl,u8V];refine .done ?_;simp [jd5,qaa]
  ·have hl2:i - p.i.length < p.s.length:=by omega
   have hbt:p.bit i = p.s[i - p.i.length]:=by unfold Pt.bit; rw [if_neg hl,jqu,jqy hl2]; rfl
   rw [hbt];simp [qwd,hl,hl2,u8V];refine .done ?_;simp [jd5,qaa]
 | none=>
  rw [hw] at hm2;have hnc:n < S.c.n.length:=by omega
  have hnd:=S.c.nd_get hnc;rw [qwb S hS hW p A n v hnc hw] at q3;have hT2:=fun Q fr h v g13=>hT Q fr h (.row g.b 2 [.agg [qaa l,qaa u]]) (.map g.w (qi5 S.w)) (.row g.i 1 (p.i.map u8V)) (.row g.t 1 (p.s.map u8V)) n v g13 q1;have hnx:=fun v hb=>qkw S hS hW A n v hnc hw hb;have hst:qjg S n v = if jea (S.c.nd n).k = true then qj8 v else v:=rfl
  obtain ⟨y,hy⟩:∃ y,S.c.nd n = y:=⟨_,rfl⟩;rw [hy] at q3 hT2 hnd hnx hst;have hiv:=jeb y.k;simp [qsp,xs1,xs2,xbk,xlp,q6b,nop,c1.1,c1.2.1,c1.2.2,qaa,u8V,hm2,qdl,hnc,<- hnd];intro gf;refine jqk hiv (by simp) ?_;by_cases hiB:jea y.k = true
  ·simp [hiB];refine jqk (qrd v) (by simp [u8V]) ?_;simp;rw [if_pos hiB] at hst;rw [hst] at q3;refine hT2 _ _ _ (qj8 v) (gf 13) (by simp) (by simp [u8V]) (by simp) (by simp) (by simp [qaa]) (fun hb fr' k8 k9 k10=>?_) (fun hb fr' k0 k1 k2 k3=>?_)
   ·rw [if_pos hb] at q3;subst q3;simp;refine .done ?_;simp [jd5,k8,k9,k10,qaa]
   ·rw [if_neg hb] at q3;obtain ⟨hx1,hx2⟩:=hnx (qj8 v) hb;have hxe:(qdg S A ((qj8 v)) y.i).1 = (((qdg S A ((qj8 v)) y.i).1.toNat:Nat):Int):=by omega
    simp [k0,k2,k3,u8V];exact ⟨_,_,⟨by omega,by unfold qj8; split <;> omega,q3⟩,⟨by rw [k1,<- hxe],rfl⟩,⟨rfl,rfl⟩,hx2⟩
  ·simp [hiB];rw [if_neg hiB] at hst;rw [hst] at q3;refine hT2 _ _ _ v (gf 13) (by simp) (by simp [u8V]) (by simp) (by simp) (by simp [qaa]) (fun hb fr' k8 k9 k10=>?_) (fun hb fr' k0 k1 k2 k3=>?_)
   ·rw [if_pos hb] at q3;subst q3;simp;refine .done ?_;simp [jd5,k8,k9,k10,qaa]
   ·rw [if_neg hb] at q3;obtain ⟨hx1,hx2⟩:=hnx v hb;have hxe:(qdg S A (v) y.i).1 = (((qdg S A (v) y.i).1.toNat:Nat):Int):=by omega
    simp [k0,k2,k3,u8V];exact ⟨_,_,⟨by omega,by omega,q3⟩,⟨by rw [k1,<- hxe],rfl⟩,⟨rfl,rfl⟩,hx2⟩
end
section
open Go
def qmy (p:Pt):Nat->Nat->Nat
 | 0,i=>i
 | k + 1,i=>if p.bit i = 2 then i else qmy p k (i + 1)
def qcf (S:Sea) (p:Pt) (A M:Nat->Nat):Nat × Nat:=
 match q6h S.c S.f S.ord A M with
 | some x=>if (qj3 S p A x.1 x.2).2.2 = true then ((qj3 S p A x.1 x.2).1,(qj3 S p A x.1 x.2).2.1) else (qmy p p.many 0,0)
 | none=>(qmy p p.many 0,0)
theorem q45 (c:Ci) (hg:c.good) (hk:c.plain) (f:Ft) (hf:f.ok c) (hm:f.m = 0) (p:Pt) (hp:p.fit c) (hc:p.cu) (ca cb:Option Nat) :
  qbo Tryz.prog gl0 37 [c.v,f.w,.agg [.sl (p.i.map u8V) ca,.sl (p.s.map u8V) cb]] (q2s 1 (.tup [.sl (tU c.n.length (qbn c p)) (some c.n.length),.sl (tU c.n.length (f.M c p)) (some c.n.length),.int .i64 0])):=by
 have h:=(jab c hg hk f hf hm p hp hc).mono (K':=q2s 1 (.tup [.sl (tU c.n.length (qbn c p)) (some c.n.length),.sl (tU c.n.length (f.M c p)) (some c.n.length),.int .i64 0])) (by
  rintro v h ⟨g0,g1,rfl,rfl⟩;refine ⟨rfl,fun x k hk=>?_,?_⟩
  ·simp only [lk] at hk;split at hk
   ·cases hk; exact q16 _ _
   ·split at hk
    ·cases hk; exact q16 _ _
    ·cases hk
  ·have e:frz [(0,.row g0 1 (tU c.n.length (qbn c p))),(1,.row g1 1 (tU c.n.length (f.M c p)))] 1 (.tup ([.ref 0 g0 0 c.n.length (some c.n.length),.ref 1 g1 0 c.n.length (some c.n.length)] ++ [.int .i64 0])) = .tup [.sl (tU c.n.length (qbn c p)) (some c.n.length),.sl (tU c.n.length (f.M c p)) (some c.n.length),.int .i64 0]:=by
    rw [qu2];simp only [List.cons_append,List.nil_append,List.map_cons,List.map_nil];rw [qbf (es:=tU c.n.length (qbn c p)) (sz:=1) (by simp) (by simp),qbf (es:=tU c.n.length (f.M c p)) (sz:=1) (by simp) (by simp),List.drop_zero,List.drop_zero,jqw (by simp),jqw (by simp),qbm _ _ (qbh _ _),qbm _ _ (qbh _ _),qcb _ _ rfl]
   rw [e];exact .refl _)
 exact h.wide ⟨.refl _,.refl _,q47 p ca cb,trivial⟩
theorem qja (p:Pt):∀ (k i j:Nat),i≤j->j < i + k->p.bit j = 2->i≤qmy p k i/\qmy p k i < i + k/\p.bit (qmy p k i) = 2/\∀ m,i≤m->m < qmy p k i->p.bit m ≠ 2
 | 0,i,j,h1,h2,_=>by omega
 | k + 1,i,j,h1,h2,h3=>by
  unfold qmy;by_cases e:p.bit i = 2
  ·rw [if_pos e]; exact ⟨jqz _,by omega,e,fun m q1 q2=>by omega⟩
  ·rw [if_neg e];have hij:i ≠ j:=fun h=>e (by rw [h]; exact h3);obtain ⟨q1,q2,q3,q4⟩:=qja p k (i + 1) j (by omega) (by omega) h3;refine ⟨by omega,by omega,q3,fun m r1 r2=>?_⟩;by_cases hm:m = i
   ·rw [hm]; exact e
   ·exact q4 m (by omega) r2
theorem qya (p:Pt) (i:Nat) (hi:i < p.i.length + p.s.length):(∃ h:i < p.i.length,p.bit i = p.i[i])∨(¬ i < p.i.length/\∃ h:i - p.i.length < p.s.length,p.bit i = p.s[i - p.i.length]):=by
 by_cases hl:i < p.i.length
 ·exact .inl ⟨hl,by unfold Pt.bit; rw [if_pos hl,jqu,jqy hl]; rfl⟩
 ·have hl2:i - p.i.length < p.s.length:=by omega
  exact .inr ⟨hl,hl2,by unfold Pt.bit; rw [if_neg hl,jqu,jqy hl2]; rfl⟩
def ja8:XC:=xs2 (xs2 (xs2 q6a))
theorem jbi:q6a = .seq (xs1 q6a) (.seq (xs1 (xs2 q6a)) (.seq (xs1 (xs2 (xs2 q6a))) ja8)):=rfl
def qn9 (S:Sea) (g:SG) (p:Pt) (l u:Nat) (r:Nat × Nat) (v:V) (h':Hp):Prop:=v = .tup [qaa r.1,u8V r.2]/\h' = S.H g p l u
theorem q99 (S:Sea) (g:SG) (p:Pt) (hpb:p.i.length + p.s.length < 1000000) (l u:Nat) (fr:Fr) (h0:lk fr 0 = some (.ptr 9002 g.s 0 0)) (j:Nat) (hj:j < p.many) (hj2:p.bit j = 2) :
  ja8.wpF Tryz.prog gl0 (q1c jhh.rs (qn9 S g p l u (qmy p p.many 0,0))) fr (S.H g p l u):=by
 have hbit:=fun i hi=>qui S g p l u i hi hpb;obtain ⟨-,q2,q3,q4⟩:=qja p p.many 0 j (Nat.zero_le _) (by omega) hj2;have hmany:p.many = p.i.length + p.s.length:=rfl;generalize qmy p p.many 0 = o at q2 q3 q4 ⊢;have hSH:S.H g p l u = [(9002,.row g.s 15 [.agg (S.cells g p)]),(9003,.row g.i 1 (p.i.map u8V)),(9004,.row g.t 1 (p.s.map u8V)),(9001,.map g.w (qi5 S.w)),(9000,.row g.b 2 [.agg [qaa l,qaa u]])]:=rfl;unfold qn9;rw [hSH] at hbit ⊢;generalize S.cells g p = C at hbit ⊢;simp [ja8,xs2,q6a,jhh]
 refine jqn (X:=Nat) (fun i=>[(13,qaa i),(0,.ptr 9002 g.s 0 0)])
  (fun _=>[(9002,.row g.s 15 [.agg C]),(9003,.row g.i 1 (p.i.map u8V)),(9004,.row g.t 1 (p.s.map u8V)),(9001,.map g.w (qi5 S.w)),(9000,.row g.b 2 [.agg [qaa l,qaa u]])]) (fun i=>i≤o) (fun i=>o - i) 0 (Nat.zero_le _) (by simp [qaa,h0]) (by simp) ?_
 intro i hi;have hio:i < p.i.length + p.s.length:=by omega
 have hw:=qaz i (by omega);simp [qaa];refine jpx (hbit i hio) ?_;rintro v h ⟨rfl,rfl⟩;refine ⟨_,.refl _,?_⟩
 have fin:∀ b:Nat,p.bit i = b->(b = 2->i = o)/\(b ≠ 2->i < o):=fun b hb=>⟨fun e=>by
  by_cases h:i = o
  ·exact h
  ·exact absurd (hb.trans e) (q4 i (Nat.zero_le _) (by omega)),fun e=>by
  by_cases h:i = o
  ·exact absurd (hb.symm.trans (h ▸ q3)) e
  ·omega⟩
 rcases qya p i hio with ⟨hl,hb⟩ | ⟨hl,hl2,hb⟩
 ·obtain ⟨f1,f2⟩:=fin _ hb;simp [qwd,hl,u8V,nop];refine jql (fun hb=>?_) (fun hb=>?_)
  ·have:=f1 (jqs hb);subst this;simp;refine .done ?_;simp [qaa]
  ·have:=f2 (jqt hb);simp [hw,qaa];exact ⟨i + 1,this,rfl,by omega⟩
 ·obtain ⟨f1,f2⟩:=fin _ hb;simp [qwd,hl,hl2,u8V,nop];refine jql (fun hb=>?_) (fun hb=>?_)
  ·have:=f1 (jqs hb);subst this;simp;refine .done ?_;simp [qaa]
  ·have:=f2 (jqt hb);simp [hw,qaa];exact ⟨i + 1,this,rfl,by omega⟩
theorem jqf {c:Ci} (hg:c.good) {f:Ft} (hf:f.ok c):f.at c < c.n.length:=by
 unfold Ft.at;split
 ·exact hf.n
 ·have hl:f.q - 1 < (c.nd f.n).i.length:=by have:=hf.q; omega
  rw [jqu,jqy hl];have:=hg.val.i f.n hf.n _ (jqx hl);simp only [Option.getD_some];omega
theorem ja6 (k:Int):q50 k≤1:=by unfold q50; split <;> omega
theorem q7y {c:Ci} (hg:c.good) {f:Ft} {A M:Nat->Nat} {n:Nat} (hn:n < c.n.length) {x:Nat × Nat} (h:qqb c f A M n = some x):x.1 < c.n.length/\x.2≤1:=by
 unfold qqb at h;split at h
 ·cases h
 ·split at h
  ·cases hf:(c.nd n).i.find? fun x=>decide (A x.toNat = 2) with
   | none=>rw [hf] at h; cases h
   | some y=>
    rw [hf] at h;cases h;have:=hg.val.i n hn y (List.mem_of_find?_eq_some hf);exact ⟨by simp only []; omega,ja6 _⟩
  ·cases h
theorem qx6 {c:Ci} (hg:c.good) {f:Ft} (hf:f.ok c) {ord:List Nat} (ho:∀ x ∈ ord,x < c.n.length) {A M:Nat->Nat} {x:Nat × Nat} (h:q6h c f ord A M = some x):x.1 < c.n.length/\x.2≤1:=by
 unfold q6h at h;split at h
 ·cases h; exact ⟨jqf hg hf,by simp only []; omega⟩
 ·obtain ⟨n,h1,h2⟩:=List.exists_of_findSome?_eq_some h;exact q7y hg (ho n h1) h2
theorem q3d (S:Sea) (hS:S.ok) (hW:S.okW) (hk:S.c.plain) (g:SG) (p:Pt) (hp:p.fit S.c) (hc:p.cu) (hpw:S.w.length = p.i.length + p.s.length) (l u:Nat) (j:Nat) (hj:j < p.many) (hj2:p.bit j = 2) :
  qau Tryz.prog gl0 169 [.ptr 9002 g.s 0 0] (S.H g p l u) (qn9 S g p l u (qcf S p (qbn S.c p) (S.f.M S.c p))):=by
 have hwl:=hW.wl;have hpr:=q45 S.c hS.g hk S.f hS.f hS.m p hp hc (some p.i.length) (some p.s.length);have hfv:=hS.f.v;have hA:∀ i,qbn S.c p i≤3:=by rw [qrk]; exact qle (fun _ _ h=>h) _ _ (qu4 hp)
 have hM:∀ i,S.f.M S.c p i≤3:=qle (que S.f _ fun _=>by omega) _ _ (qu4 hp);have haim:=ji8 S hS g p l u (qbn S.c p) (S.f.M S.c p) hA hM (some S.c.n.length) (some S.c.n.length);have hbk:=fun n v hn hv=>jcr S hS hW g p hp hpw l u (qbn S.c p) (some S.c.n.length) n v hn hv;have hop:=fun fr=>q99 S g p (by omega) l u fr;have hAp:jos (tU S.c.n.length (qbn S.c p)) = true:=qbh _ _;have hMp:jos (tU S.c.n.length (S.f.M S.c p)) = true:=qbh _ _;refine jqr jlq rfl ?_;show q6a.wpF _ _ _ _ _;rw [jbi];simp [xs1,xs2,q6a,Sea.H,Sea.cells,nop];intro gm
 have hfz:∀ h:Hp,lk h 9003 = some (.row g.i 1 (p.i.map u8V))->lk h 9004 = some (.row g.t 1 (p.s.map u8V))->[S.c.v,S.f.w,V.agg [.ref 9003 g.i 0 p.i.length (some p.i.length),.ref 9004 g.t 0 p.s.length (some p.s.length)]].map (frz h 2) = [S.c.v,S.f.w,V.agg [.sl (p.i.map u8V) (some p.i.length),.sl (p.s.map u8V) (some p.s.length)]]:=fun h e3 e4=>by
  simp only [List.map_cons,List.map_nil];rw [qcb _ _ (qc5 S.c),qcb _ _ (show S.f.w.pure = true from rfl),qfl];simp only [List.map_cons,List.map_nil];rw [qbf e3 (by simp),qbf e4 (by simp),List.drop_zero,List.drop_zero,jqw (by simp),jqw (by simp),qbm _ _ (qat _),qbm _ _ (qat _)]
 refine ⟨_,_,_,.dat 2 hpr (hfz _ (by simp) (by simp)),?_⟩;simp;refine qau.mono haim ?_;rintro v h ⟨rfl,rfl⟩;have hin:=fun x (hx:q6h S.c S.f S.ord (qbn S.c p) (S.f.M S.c p) = some x)=>qx6 hS.g hS.f hS.o hx;unfold qcf
 cases haP:q6h S.c S.f S.ord (qbn S.c p) (S.f.M S.c p) with
 | none=>
  simp [qtm];exact hop _ (by simp) j hj hj2
 | some x=>
  obtain ⟨n,v⟩:=x;obtain ⟨h1,h2⟩:=hin _ haP;simp [qtm];refine qau.mono (hbk n v h1 h2) ?_;rintro w h ⟨rfl,rfl⟩
  cases hb:(qj3 S p (qbn S.c p) n v).2.2 with
  | true=>
   simp [hb];refine .done ?_;simp [qn9,jhh,Sea.H]
  | false=>
   simp [hb];exact hop _ (by simp) j hj hj2
end
section
open Go
def upT (a:Nat) (n:Tn):Tn:=if 0≤n.i then ⟨n.i,n.z + a,n.o + a⟩ else n
theorem qkj:∀ (d:DT) (a b:Nat),d.fl (b + a) = (d.fl b).map (upT a)
 | .lf,_,_=>by simp [DT.fl,upT,lfN]
 | .nd i z o,a,b=>by
  have h1:=qkj z a (b + 1);have h2:=qkj o a (b + 1 + z.sz);rw [show b + 1 + a = b + a + 1 by omega] at h1;rw [show b + 1 + z.sz + a = b + a + 1 + z.sz by omega] at h2;simp only [DT.fl,List.map_cons,List.map_append,h1,h2];congr 1;simp [upT];omega
theorem jju (i:Nat) (z o:DT):(DT.nd i z o).fl 0 = ⟨i,1,((1 + z.sz:Nat):Int)⟩ :: ((z.fl 0).map (upT 1) ++ (o.fl 0).map (upT (1 + z.sz))):=by
 have h1:=qkj z 1 0;have h2:=qkj o (1 + z.sz) 0;rw [Nat.zero_add] at h1 h2;simp only [DT.fl,Nat.zero_add,h1,h2];rfl
theorem q4d (i:Nat) (zl ol:List Tn) (cz co:Option Nat) (hl:zl.length + ol.length < 10000000) (hz:∀ n ∈ zl,-1000000000 < n.z/\n.z < 1000000000/\-1000000000 < n.o/\n.o < 1000000000) (ho:∀ n ∈ ol,-1000000000 < n.z/\n.z < 1000000000/\-1000000000 < n.o/\n.o < 1000000000) :
  qac Tryz.prog gl0 171 [qaa i,.sl (zl.map Tn.v) cz,.sl (ol.map Tn.v) co] (.sl ((⟨i,1,((1 + zl.length:Nat):Int)⟩ :: (zl.map (upT 1) ++ ol.map (upT (1 + zl.length)))).map Tn.v) none):=by
 refine jpc (K:=fun v h=>∃ g k cap es,v = .ref 0 g 0 k cap/\h = [(0,.row g 3 es)]/\k≤es.length/\es.take k = (⟨i,1,((1 + zl.length:Nat):Int)⟩ :: (zl.map (upT 1) ++ ol.map (upT (1 + zl.length)))).map Tn.v) 1 ?_ ?_
 ·obtain ⟨L0,hL0⟩:∃ L:List Tn,L = [⟨i,1,((1 + zl.length:Nat):Int)⟩]:=⟨_,rfl⟩;have w1:IntKind.i64.wrap (1 + (zl.length:Int)) = ((1 + zl.length:Nat):Int):=by rw [qao] <;> omega
  have w2:IntKind.i64.wrap (1 + (zl.length:Int) + (ol.length:Int)) = ((1 + zl.length + ol.length:Nat):Int):=by rw [qao] <;> omega
  refine jqq jls rfl ?_;simp [i171,x171,qaa];simp [w1,w2];intro gf1;refine ⟨⟨by omega,by omega⟩,fun gf2=>?_⟩;generalize gf1 19 = g19;generalize gf2 29 = g29;obtain ⟨P,hP⟩:∃ P:Nat->List Tn,P = fun j=>if j = 0 then zl else ol:=⟨_,rfl⟩
  obtain ⟨L,hL⟩:∃ L:Nat->List Tn,L = fun j=>L0 ++ ((if 1≤j then zl.map (upT 1) else []) ++ if 2≤j then ol.map (upT (1 + zl.length)) else []):=⟨_,rfl⟩
  have hLs:∀ j,j < 2->L (j + 1) = L j ++ (P j).map (upT (L j).length):=by
   intro j hj;subst hL hP hL0
   match j,hj with
   | 0,_=>simp
   | 1,_=>simp [Nat.add_comm]
  have hPj:∀ j,j < 2->(P j).length < 10000000/\(L j).length + (P j).length < 20000000/\∀ n ∈ P j,-1000000000 < n.z/\n.z < 1000000000/\-1000000000 < n.o/\n.o < 1000000000:=by
   intro j hj;subst hL hP hL0
   match j,hj with
   | 0,_=>exact ⟨by simp; omega,by simp; omega,hz⟩
   | 1,_=>exact ⟨by simp; omega,by simp; omega,ho⟩
  obtain ⟨B29,hB⟩:∃ b:List V,b = [.sl (zl.map Tn.v) cz,.sl (ol.map Tn.v) co]:=⟨_,rfl⟩
  have hBj:∀ j,j < 2->∃ cp,∀ h:j < B29.length,B29[j] = .sl ((P j).map Tn.v) cp:=by
   intro j hj;subst hB hP
   match j,hj with
   | 0,_=>exact ⟨cz,fun _=>rfl⟩
   | 1,_=>exact ⟨co,fun _=>rfl⟩
  have hBl:B29.length = 2:=by rw [hB]; rfl
  rw [<- hB]
  refine jo8 (X:=Nat × Nat × Nat × List V × Option Nat) (fun z=>[(31,qaa z.1),(30,qaa 2),(29,.ref 29 g29 0 2 (some 2)),(7,.ref 2000 z.2.1 0 z.2.2.1 z.2.2.2.2)])
   (fun z=>[(29,.row g29 1 B29),(2000,.row z.2.1 3 z.2.2.2.1)]) (fun z=>z.1≤2/\z.2.2.1≤z.2.2.2.1.length/\z.2.2.2.1.take z.2.2.1 = (L z.1).map Tn.v) (fun z=>2 - z.1) ?_ ?_
  ·refine .move 19 2000 _ (by simp) (by simp; rfl) fun g'=>.done ⟨(0,g',1,[.agg [.int .i64 i,.int .i64 1,.int .i64 (1 + (zl.length:Int))]],some (1 + (zl.length:Int) + (ol.length:Int)).toNat),⟨by simp,by simp,?_⟩,by simp [qaa],by simp [hB,qap _ (qcd _)]⟩;subst hL hL0;simp [Tn.v]
  rintro ⟨j,g,k,es,cap⟩ ⟨p1,p2,p3⟩;dsimp only at p1 p2 p3 ⊢;simp [qaa];refine jql (fun hb=>?_) (fun hb=>?_)
  ·have hj:j < 2:=by have:=jqs hb; omega
   obtain ⟨cp,hcp⟩:=hBj j hj;obtain ⟨b1,b2,b3⟩:=hPj j hj;have hkl:k = (L j).length:=by have:=congrArg List.length p3; simp at this; omega
   have hls:=hLs j hj;have hw:=qaz j (by omega);generalize P j = Q at hcp b1 b2 b3 hls;simp [hj,hBl,hcp]
   refine jo8 (X:=Nat × Nat × Nat × List V × Option Nat) (fun z=>[(39,qaa z.1),(38,qaa Q.length),(37,.sl (Q.map Tn.v) cp),(10,qaa k),(31,qaa j),(30,qaa 2),(29,.ref 29 g29 0 2 (some 2)),(7,.ref 2000 z.2.1 0 z.2.2.1 z.2.2.2.2)])
    (fun z=>[(29,.row g29 1 B29),(2000,.row z.2.1 3 z.2.2.2.1)]) (fun z=>z.1≤Q.length/\z.2.2.1≤z.2.2.2.1.length/\z.2.2.2.1.take z.2.2.1 = (L j ++ (Q.take z.1).map (upT k)).map Tn.v/\z.2.2.1 = k + z.1) (fun z=>Q.length - z.1) (.done ⟨(0,g,k,es,cap),⟨by simp,p2,by simp [p3],rfl⟩,by simp [qaa],by simp⟩) ?_
   rintro ⟨m,g2,k2,es2,cap2⟩ ⟨r1,r2,r3,r4⟩;dsimp only at r1 r2 r3 r4 ⊢;simp [qaa];refine jql (fun hb2=>?_) (fun hb2=>?_)
   ·have hm:m < Q.length:=jqs hb2;have hwm:=qaz m (by omega);obtain ⟨x,hx⟩:∃ x,Q[m] = x:=⟨_,rfl⟩;obtain ⟨c1,c2,c3,c4⟩:=b3 x (by rw [<- hx]; exact jqx hm)
    have hnx:(L j ++ (Q.take (m + 1)).map (upT k)).map Tn.v = es2.take k2 ++ [(upT k x).v]:=by
     rw [r3,List.take_succ_eq_append_getElem hm,hx];simp
    have hz2:IntKind.i64.wrap (x.z + (k:Int)) = x.z + k:=by rw [qao] <;> omega
    have ho2:IntKind.i64.wrap (x.o + (k:Int)) = x.o + k:=by rw [qao] <;> omega
    by_cases hxi:0≤x.i
    ·have hup:(upT k x).v = .agg [.int .i64 x.i,.int .i64 (x.z + k),.int .i64 (x.o + k)]:=by unfold upT; rw [if_pos hxi]; rfl
     simp [hm,hx,Tn.v];intro ga;simp [hxi,hz2,ho2];intro gb gc;refine ⟨⟨r2,by omega⟩,.done ⟨m + 1,gc 2000,k2 + 1,List.take k2 es2 ++ [.agg [.int .i64 x.i,.int .i64 (x.z + k),.int .i64 (x.o + k)]],⟨hm,?_,?_,by omega⟩,by simp [hwm],⟨by simp,by simp⟩,by omega⟩⟩
     ·simp; omega
     ·rw [jqw (by simp; omega)];rw [hup] at hnx;simpa [Tn.v] using hnx.symm
    ·have hup:(upT k x).v = x.v:=by unfold upT; rw [if_neg hxi]
     simp [hm,hx,Tn.v];intro ga;simp [hxi];intro gb gc;refine ⟨⟨r2,by omega⟩,.done ⟨m + 1,gc 2000,k2 + 1,List.take k2 es2 ++ [.agg [.int .i64 x.i,.int .i64 x.z,.int .i64 x.o]],⟨hm,?_,?_,by omega⟩,by simp [hwm],⟨by simp,by simp⟩,by omega⟩⟩
     ·simp; omega
     ·rw [jqw (by simp; omega)];rw [hup] at hnx;simpa [Tn.v] using hnx.symm
   ·have hm:m = Q.length:=by have:=jqt hb2; omega
    subst hm;rw [List.take_length] at r3;simp [hw];refine .done ⟨j + 1,g2,k2,es2,⟨hj,r2,?_⟩,by simp,⟨by simp,by simp⟩,by omega⟩;rw [r3,hls,hkl]
  ·have hj:j = 2:=by have:=jqt hb; omega
   subst hj;simp;refine .move 2000 0 _ (by simp) (by simp; rfl) fun g'=>.done ?_;simp;refine ⟨[(0,.row g' 3 (es.map (V.rn (mvS 2000 g 0 g'))))],by simp,g',k,⟨rfl,rfl⟩,_,rfl,by simpa using p2,?_⟩;rw [<- List.map_take,p3,qaf (qcd _),hL,hL0];simp
 ·rintro v h ⟨g,k,cap,es,rfl,rfl,hk,he⟩;have hp:jos (es.take k) = true:=by rw [he]; exact qcd _
  rw [qbf (es:=es) (sz:=3) (by simp) (by simpa using hk),List.drop_zero,qbm _ _ hp,he];exact VLe.cap _ _
end
section
open Go
theorem jav (c:Ci) (hg:c.good) (hk:c.plain) (f:Ft) (hf:f.ok c) (hm:f.m = 0) (p:Pt) (hp:p.fit c) (hc:p.cu):qac Tryz.prog gl0 30 [c.v,f.w,p.v] (.tup [.bool (f.det c p),.int .i64 0]):=by
 have h1:=qk0 c hg hk f hf hm p hp hc;have h2:=qy1 c hg f hf hm p hp;generalize f.det c p = B at h2 ⊢;simp only [Pt.v,Ft.w] at h1 h2 ⊢;refine jqo 2 ok30 rfl ?_;simp [i30,x30,Ft.w];intro gf1 gf2 gf3;refine jqk h1 (by simp [jos,V.pure,u8V,qaa]) ?_;simp;refine jqk h2 (by simp [jos,V.pure,u8V,qaa]) ?_;simp
theorem q25 (c:Ci) (hg:c.good) (hk:c.plain) (f:Ft) (hf:f.ok c) (hm:f.m = 0) (p:Pt) (hp:p.fit c) (hc:p.cu):qac Tryz.prog gl0 29 [c.v,f.w,p.v] (.tup [.bool (qkc c f p),.int .i64 0]):=by
 have h1:=qk0 c hg hk f hf hm p hp hc;have h2:=quj c hg f hf hm p hp;generalize qkc c f p = B at h2 ⊢;simp only [Pt.v,Ft.w] at h1 h2 ⊢;refine jqo 2 ok29 rfl ?_;simp [i29,x29,Ft.w];intro gf1 gf2 gf3;refine jqk h1 (by simp [jos,V.pure,u8V,qaa]) ?_;simp;refine jqk h2 (by simp [jos,V.pure,u8V,qaa]) ?_;simp
inductive VR where
 | found (q:Pt) (u:Nat)
 | proof (t:DT) (u:Nat)
 | spent (q:Pt)
noncomputable def qa4 (S:Sea) (l:Nat):Nat->Pt->Nat->VR
 | 0,p,_=>.spent p
 | k + 1,p,u=>
  if S.f.det S.c p = true then .found p u
  else if qkc S.c S.f p = true then .proof .lf u
  else if u = l then .spent p
  else match qa4 S l k (p.set (qcf S p (qbn S.c p) (S.f.M S.c p)).1 (qcf S p (qbn S.c p) (S.f.M S.c p)).2) (u + 1) with
   | .found q w=>.found q w
   | .spent q=>.spent q
   | .proof t w=>match qa4 S l k (p.set (qcf S p (qbn S.c p) (S.f.M S.c p)).1 (1 - (qcf S p (qbn S.c p) (S.f.M S.c p)).2)) w with
    | .found q w=>.found q w
    | .spent q=>.spent q
    | .proof t2 w2=>.proof (if (qcf S p (qbn S.c p) (S.f.M S.c p)).2 = 0 then .nd (qcf S p (qbn S.c p) (S.f.M S.c p)).1 t t2 else .nd (qcf S p (qbn S.c p) (S.f.M S.c p)).1 t2 t) w2
def Pt.opens (p:Pt):Nat:=(List.range p.many).countP fun j=>decide (p.bit j = 2)
theorem qm9 {P P':Nat->Bool} {k:Nat} (h0:P k = true) (h1:P' k = false) (h2:∀ j,j ≠ k->P' j = P j):∀ n,(List.range n).countP P = (List.range n).countP P' + if k < n then 1 else 0
 | 0=>rfl
 | n + 1=>by
  rw [List.range_succ,List.countP_append,List.countP_append,qm9 h0 h1 h2 n];simp only [List.countP_singleton];by_cases e:n = k
  ·subst e; simp [h0,h1]
  ·rw [h2 n e]
   have e1:(if k < n + 1 then 1 else 0:Nat) = if k < n then 1 else 0:=by
    by_cases h:k < n
    ·rw [if_pos h,if_pos (by omega)]
    ·rw [if_neg h,if_neg (by omega)]
   rw [e1]; omega
theorem qfc {p:Pt} {k v:Nat} (hk:k < p.many) (h2:p.bit k = 2) (hv:v≤1):p.opens = (p.set k v).opens + 1:=by
 unfold Pt.opens;rw [jpe,qm9 (k:=k) (P':=fun j=>decide ((p.set k v).bit j = 2)) (by simpa using h2) (by rw [jo0 hk,if_pos rfl]; simp; omega) (fun j hj=>by rw [jo0 hk,if_neg hj]) p.many,if_pos hk]
theorem q6p {p:Pt}:p.cu↔∀ j,j < p.many->p.bit j≤2:=by
 constructor
 ·intro h j hj;rcases qya p j hj with ⟨hl,e⟩ | ⟨hl,hl2,e⟩
  ·rw [e]; exact h.1 _ (jqx hl)
  ·rw [e]; exact h.2 _ (jqx hl2)
 ·intro h;refine ⟨fun x hx=>?_,fun x hx=>?_⟩
  ·obtain ⟨j,hj,rfl⟩:=List.mem_iff_getElem.1 hx;have:=h j (by unfold Pt.many; omega);unfold Pt.bit at this
   rwa [if_pos hj,jqu,jqy hj] at this
  ·obtain ⟨j,hj,rfl⟩:=List.mem_iff_getElem.1 hx;have:=h (p.i.length + j) (by unfold Pt.many; omega);unfold Pt.bit at this
   rwa [if_neg (by omega),Nat.add_sub_cancel_left,jqu,jqy hj] at this
theorem qg5 {p:Pt} (h:p.cu) {k v:Nat} (hk:k < p.many) (hv:v≤2):(p.set k v).cu:=by
 rw [q6p] at h ⊢;intro j hj;rw [jpe] at hj;rw [jo0 hk];split
 ·exact hv
 ·exact h j hj
theorem qtl {c:Ci} (hg:c.good) (hk:c.plain) {f:Ft} (hf:f.ok c) {p:Pt} (hp:p.fit c) (hc:p.cu) (h1:¬ f.det c p = true) (h2:¬ qkc c f p = true):∃ j,j < p.many/\p.bit j = 2:=by
 refine Classical.byContradiction fun hn=>?_
 have hkn:p.kn:=by
  have hb:∀ j,j < p.many->p.bit j≤1:=fun j hj=>by
   have q1:=q6p.1 hc j hj;have q2:p.bit j ≠ 2:=fun e=>hn ⟨j,hj,e⟩;omega
  refine ⟨fun x hx=>?_,fun x hx=>?_⟩
  ·obtain ⟨j,hj,rfl⟩:=List.mem_iff_getElem.1 hx;have:=hb j (by unfold Pt.many; omega);unfold Pt.bit at this
   rwa [if_pos hj,jqu,jqy hj] at this
  ·obtain ⟨j,hj,rfl⟩:=List.mem_iff_getElem.1 hx;have:=hb (p.i.length + j) (by unfold Pt.many; omega);unfold Pt.bit at this
   rwa [if_neg (by omega),Nat.add_sub_cancel_left,jqu,jqy hj] at this
 have:=q24 hg hk hf hp hkn;rw [Bool.eq_false_iff.2 h2] at this;exact h1 (by rw [this]; rfl)
theorem quh (S:Sea) (p:Pt) (A:Nat->Nat):∀ (k n v:Nat),v≤1->(qis S p A k n v).2.2 = true->p.bit (qis S p A k n v).1 = 2/\(qis S p A k n v).1 < S.w.length/\(qis S p A k n v).2.1≤1
 | 0,n,v,_,h=>by simp [qis] at h
 | k + 1,n,v,hv,h=>by
  unfold qis at h ⊢
  cases hw:qc3 S.w n 0 with
  | some i=>
   rw [hw] at h;have:=qml _ _ _ _ hw;exact ⟨by simpa using h,by simp only []; omega,hv⟩
  | none=>
   rw [hw] at h;simp only [] at h ⊢;split at h
   ·simp at h
   ·rename_i hb;rw [if_neg hb];have hs:qjg S n v≤1:=by unfold qjg qj8; split <;> (try split) <;> omega
    exact quh S p A k _ _ hs h
theorem qk1 (S:Sea) (hS:S.ok) (p:Pt) (hpw:S.w.length = p.many) (A M:Nat->Nat) {j:Nat} (hj:j < p.many) (hj2:p.bit j = 2):(qcf S p A M).1 < p.many/\p.bit (qcf S p A M).1 = 2/\(qcf S p A M).2≤1:=by
 have ho:=qja p p.many 0 j (Nat.zero_le _) (by omega) hj2;unfold qcf
 cases ha:q6h S.c S.f S.ord A M with
 | none=>exact ⟨by simp only []; omega,ho.2.2.1,by simp⟩
 | some x=>
  have hx:=qx6 hS.g hS.f hS.o ha;simp only [];split
  ·rename_i hb;have:=quh S p A S.c.n.length x.1 x.2 hx.2 hb;exact ⟨by rw [<- hpw]; exact this.2.1,this.1,this.2.2⟩
  ·exact ⟨by simp only []; omega,ho.2.2.1,by simp⟩
end
end Go.Proofs.YtpaopccohkldlaaGreatDoor
