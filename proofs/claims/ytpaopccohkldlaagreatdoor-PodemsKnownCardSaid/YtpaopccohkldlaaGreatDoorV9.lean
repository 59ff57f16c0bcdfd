/- Podems: the walk of the way back. Conditions: none. -/
import Derived.Test.YtpaopccohkldlaaGreatDoorV5
import Derived.Test.YtpaopccohkldlaaGreatDoorA5
import Derived.Test.YtpaopccohkldlaaGreatDoorY3
set_option linter.all false
namespace Go.Proofs.YtpaopccohkldlaaGreatDoor
section
open Go
def qrl:XC:=xbk (xlp (xbk (xs2 q41)))
def q9z:XC:=xs2 (xs2 (xs2 qrl))
theorem q98:q41 = .seq (xs1 q41) (.block 0 (.loop (.block 1 (.seq (xs1 qrl) (.seq (xs1 (xs2 qrl)) (.seq (xs1 (xs2 (xs2 qrl))) q9z)))))):=rfl
set_option maxRecDepth 10000 in
theorem q6l (S:Sea) (hS:S.ok) (hW:S.okW) (g:SG) (p:Pt) (A:Nat->Nat) (ca:Option Nat) (Q:IQ) (fr:Fr) (h:Hp) (B0 B1 B3 B4:Blk) (n v g13:Nat) (hn:n < S.c.n.length)
  (h0:lk fr 0 = some (.ptr 9002 g.s 0 0)) (h2:lk fr 2 = some (u8V v)) (h3:lk fr 3 = some (.sl (tU S.c.n.length A) ca)) (h13:lk fr 13 = some (.ptr 13 g13 0 0))
  (hsb:Sub [(13,.row g13 4 [(S.c.nd n).v]),(9002,.row g.s 15 [.agg (S.cells g p)]),(9003,B3),(9004,B4),(9001,B1),(9000,B0)] h)
  (hf:(qdc S A v (S.c.nd n).i).1 < 0->∀ fr',lk fr' 8 = some (.int .i64 0)->lk fr' 9 = some (.int .u8 0)->lk fr' 10 = some (.bool false)->Q .ret fr' [(13,.row g13 4 [(S.c.nd n).v]),(9002,.row g.s 15 [.agg (S.cells g p)]),(9003,B3),(9004,B4),(9001,B1),(9000,B0)])
  (hq:¬ (qdc S A v (S.c.nd n).i).1 < 0->∀ fr',lk fr' 0 = some (.ptr 9002 g.s 0 0)->lk fr' 1 = some (.int .i64 (qdc S A v (S.c.nd n).i).1)->lk fr' 2 = some (u8V v)->lk fr' 3 = some (.sl (tU S.c.n.length A) ca)->Q .normal fr' [(13,.row g13 4 [(S.c.nd n).v]),(9002,.row g.s 15 [.agg (S.cells g p)]),(9003,B3),(9004,B4),(9001,B1),(9000,B0)]) :
  q9z.wpF Tryz.prog gl0 Q fr h:=by
 have hh:=hsb.spec 13 (.row g13 4 [(S.c.nd n).v]) (by simp);have hyi:=hS.g.val.i n hn;have hyl:=hS.g.val.l n hn;have hcl:=hW.cl;obtain ⟨y,hy⟩:∃ y,S.c.nd n = y:=⟨_,rfl⟩;rw [hy] at hyi hyl hf hq hsb hh;obtain ⟨C,hC⟩:∃ C,S.cells g p = C:=⟨_,rfl⟩;rw [hC] at hf hq hsb;have c1:(∀ h:10 < C.length,C[10] = .sl (S.cst.map qlx) S.cc)/\C.length = 15:=by subst hC; exact ⟨fun _=>rfl,rfl⟩
 obtain ⟨N,hN⟩:∃ N,S.c.n.length = N:=⟨_,rfl⟩;rw [hN] at h3 hyi hcl hq;simp [q9z,qrl,xs1,xs2,xbk,xlp,q41,h13,hh]
 refine jpa (X:=Nat) (fun j=>[(53,qaa j),(52,qaa y.i.length),(51,.sl (qde y.i) none),(14,.int .i64 (qdc S A v (y.i.take j)).1),(15,.int .i64 (qdc S A v (y.i.take j)).2),(0,.ptr 9002 g.s 0 0),(2,u8V v),(3,.sl (tU N A) ca)])
  (fun _=>[(13,.row g13 4 [y.v]),(9002,.row g.s 15 [.agg C]),(9003,B3),(9004,B4),(9001,B1),(9000,B0)]) (fun j=>j≤y.i.length) (fun j=>y.i.length - j) 0 (Nat.zero_le _) (by simp [qaa,h0,h2,h3,qdc]) hsb ?_
 intro j hj;simp [qaa,u8V];refine jo8 (fun hb=>?_) (fun hb=>?_)
 ·have hj2:j < y.i.length:=jpf hb;have hw:=qa1 j (by omega);obtain ⟨x,hx⟩:∃ x,y.i[j] = x:=⟨_,rfl⟩;have hxb:=hyi x (by rw [<- hx]; exact jpk hj2)
  have hsn:qdc S A v (y.i.take (j + 1)) = qrk S A v (qdc S A v (y.i.take j)) x:=by
   unfold qdc;rw [List.take_succ_eq_append_getElem hj2,List.foldl_append,hx];rfl
  obtain ⟨z,rfl⟩:∃ z:Nat,x = z:=⟨x.toNat,(Int.toNat_of_nonneg hxb.1).symm⟩;have hzN:z < N:=by omega
  have hzc:z < S.cst.length:=by omega
  have hcost:S.cost v z = if v = 1 then S.cst[z].2 else S.cst[z].1:=by unfold Sea.cost; rw [jph,jpl hzc]; rfl
  obtain ⟨b,hb2⟩:∃ b,qdc S A v (y.i.take j) = b:=⟨_,rfl⟩;rw [hb2] at hsn ⊢;unfold qrk at hsn;rw [Int.toNat_natCast,hcost] at hsn;by_cases hv:v = 1
  ·subst hv;rw [if_pos rfl] at hsn;by_cases hA2:A z = 2
   ·by_cases hlt:S.cst[z].2 < b.2
    ·rw [if_pos ⟨hA2,hlt⟩] at hsn;simp [hj2,qa0,hx,nop,c1.1,c1.2,hzc,qlx,hzN,qb1,u8V,hA2,hlt];exact ⟨j + 1,hj2,⟨hw,by rw [hsn],by rw [hsn]⟩,by omega⟩
    ·rw [if_neg (by simp [hlt])] at hsn;simp [hj2,qa0,hx,nop,c1.1,c1.2,hzc,qlx,hzN,qb1,u8V,hA2,hlt];exact ⟨j + 1,hj2,⟨hw,by rw [hsn],by rw [hsn]⟩,by omega⟩
   ·rw [if_neg (by simp [hA2])] at hsn;simp [hj2,qa0,hx,nop,c1.1,c1.2,hzc,qlx,hzN,qb1,u8V,hA2];exact ⟨j + 1,hj2,⟨hw,by rw [hsn],by rw [hsn]⟩,by omega⟩
  ·rw [if_neg hv] at hsn;have hv':¬ ((v:Int) = 1):=by omega
   by_cases hA2:A z = 2
   ·by_cases hlt:S.cst[z].1 < b.2
    ·rw [if_pos ⟨hA2,hlt⟩] at hsn;simp [hj2,qa0,hx,nop,c1.1,c1.2,hzc,qlx,hv,hv',hzN,qb1,u8V,hA2,hlt];exact ⟨j + 1,hj2,⟨hw,by rw [hsn],by rw [hsn]⟩,by omega⟩
    ·rw [if_neg (by simp [hlt])] at hsn;simp [hj2,qa0,hx,nop,c1.1,c1.2,hzc,qlx,hv,hv',hzN,qb1,u8V,hA2,hlt];exact ⟨j + 1,hj2,⟨hw,by rw [hsn],by rw [hsn]⟩,by omega⟩
   ·rw [if_neg (by simp [hA2])] at hsn;simp [hj2,qa0,hx,nop,c1.1,c1.2,hzc,qlx,hv,hv',hzN,qb1,u8V,hA2];exact ⟨j + 1,hj2,⟨hw,by rw [hsn],by rw [hsn]⟩,by omega⟩
 ·have hj:j = y.i.length:=by have:=jpg hb; omega
  subst hj;rw [List.take_length];obtain ⟨b,hb2⟩:∃ b,qdc S A v y.i = b:=⟨_,rfl⟩;rw [hb2] at hf hq ⊢;by_cases hneg:b.1 < 0
  ·simp [hneg];exact hf hneg _ (by simp) (by simp) (by simp)
  ·simp [hneg];exact hq hneg _ (by simp) (by simp) (by simp [u8V]) (by simp)
def jbi (S:Sea) (g:SG) (p:Pt) (l u:Nat) (r:Nat × Nat × Bool) (v:V) (h':Hp):Prop:=v = .tup [qaa r.1,u8V r.2.1,.bool r.2.2]/\h' = S.H g p l u
theorem qrm (g:SG) (p:Pt) (i:Nat):V.inB [9002,9003,9004,9001,9000] (qu6 g p i) = true:=by unfold qu6; split <;> rfl
theorem qvd (l:List (Int × Int)):jne (l.map qlx) = true:=pureL_map (fun _=>rfl) l
theorem q77 (D:List Nat) (l:List Nat):((qif l).all fun e=>e.1.inB D && e.2.inB D) = true:=by
 simp [qif,qaa]
theorem qcg (S:Sea) (g:SG) (p:Pt) (l u:Nat):qb4 [9002,9003,9004,9001,9000] (S.H g p l u) = true:=by
 have hm:=q77 [9002,9003,9004,9001,9000] S.w;simp only [Sea.H,Sea.cells,qb4,List.all_cons,List.all_nil,Blk.inB,jni,V.inB,jnf _ _ (qek _),jnf _ _ (qfc _),jnf _ _ (qec _),jnf _ _ (qdp _),jnf _ _ (qar _),jnf _ _ (qbg _),jnf _ _ (qvd _),u8V,qaa,hm];rfl
set_option maxRecDepth 10000 in
theorem jbj (S:Sea) (hS:S.ok) (hW:S.okW) (g:SG) (p:Pt) (hp:p.fit S.c) (hpw:S.w.length = p.i.length + p.s.length) (l u:Nat) (A:Nat->Nat) (ca:Option Nat) (n v:Nat) (hn:n < S.c.n.length) (hv:v≤1) :
  qat Tryz.prog gl0 195 [.ptr 9002 g.s 0 0,qaa n,u8V v,.sl (tU S.c.n.length A) ca] (S.H g p l u) (jbi S g p l u (qi6 S p A n v)):=by
 have hbit:=fun i hi=>qtc S g p l u i hi (by have:=hW.wl; omega);have hT:=fun Q fr h=>q6l S hS hW g p A ca Q fr h;have hn1:=hS.g.n1;refine jpe jkn rfl ?_;generalize hR:qi6 S p A n v = R;show q41.wpF _ _ _ _ _;rw [q98];have hSH:S.H g p l u = [(9002,.row g.s 15 [.agg (S.cells g p)]),(9003,.row g.i 1 (p.i.map u8V)),(9004,.row g.t 1 (p.s.map u8V)),(9001,.map g.w (qif S.w)),(9000,.row g.b 2 [.agg [qaa l,qaa u]])]:=rfl;obtain ⟨C,hC⟩:∃ C,S.cells g p = C:=⟨_,rfl⟩;obtain ⟨N,hN⟩:∃ N,S.c.n.length = N:=⟨_,rfl⟩;unfold jbi;rw [hC] at hT hSH;rw [hN] at hT hn ⊢;rw [hSH] at hbit ⊢;have c1:(∀ h:1 < C.length,C[1] = .sl (S.c.n.map Nd.v) none)/\(∀ h:11 < C.length,C[11] = .own 9001 g.w)/\C.length = 15:=by subst hC; exact ⟨fun _=>rfl,fun _=>rfl,rfl⟩
 simp [xs1,q41]
 refine jpa (X:=Nat × Nat) (fun z=>[(0,.ptr 9002 g.s 0 0),(1,qaa z.1),(2,u8V z.2),(3,.sl (tU N A) ca)])
  (fun _=>[(9002,.row g.s 15 [.agg C]),(9003,.row g.i 1 (p.i.map u8V)),(9004,.row g.t 1 (p.s.map u8V)),(9001,.map g.w (qif S.w)),(9000,.row g.b 2 [.agg [qaa l,qaa u]])]) (fun z=>z.1 < N/\z.2≤1/\qi6 S p A z.1 z.2 = R) (fun z=>qhy S.c z.1) (n,v) ⟨hn,hv,hR⟩ (by simp) (by simp) ?_
 rintro ⟨n,v⟩ ⟨q1,q2,q3⟩;dsimp only at q1 q2 q3 ⊢;obtain ⟨m,hm⟩:=qgq n S.w 0 0;have hm2:qf7 (.int .i64 (n:Int)) (qif S.w) 0 = some ((qcy S.w n 0).map fun r=>(m,qaa r)):=hm
 cases hw:qcy S.w n 0 with
 | some i=>
  rw [hw] at hm2;have hi:=qlp _ _ _ _ hw;rw [qu5 S hS p A n v i hw] at q3;subst q3;simp [qrl,xs1,xs2,xbk,xlp,q41,nop,c1.1,c1.2.1,c1.2.2,qaa,u8V,hm2,qdg];intro gm;refine ⟨_,_,_,.lend [9002,9003,9004,9001,9000] (hbit i (by omega)) (by simp [jni,V.inB,qaa]) (by simp [qaa]) (by rw [<- hSH]; exact qcg S g p l u) (fun v hh k=>k) (qrm g p i) (by rw [<- hSH]; exact qcg S g p l u) (by simp [qvh,Blk.gen]) (by simp),?_⟩;by_cases hl:i < p.i.length
  ·have hbt:p.bit i = p.i[i]:=by unfold Pt.bit; rw [if_pos hl,jph,jpl hl]; rfl
   rw [hbt];simp [qu6,hl,u8V];refine .done ?_;simp [jcu,qaa]
  ·have hl2:i - p.i.length < p.s.length:=by omega
   have hbt:p.bit i = p.s[i - p.i.length]:=by unfold Pt.bit; rw [if_neg hl,jph,jpl hl2]; rfl
   rw [hbt];simp [qu6,hl,hl2,u8V];refine .done ?_;simp [jcu,qaa]
 | none=>
  rw [hw] at hm2;have hnc:n < S.c.n.length:=by omega
  have hnd:=S.c.nd_get hnc;rw [qu4 S hS hW p A n v hnc hw] at q3;have hT2:=fun Q fr h v g13=>hT Q fr h (.row g.b 2 [.agg [qaa l,qaa u]]) (.map g.w (qif S.w)) (.row g.i 1 (p.i.map u8V)) (.row g.t 1 (p.s.map u8V)) n v g13 q1;have hnx:=fun v hb=>qj1 S hS hW A n v hnc hw hb;have hst:qin S n v = if jcz (S.c.nd n).k = true then qjb v else v:=rfl
  obtain ⟨y,hy⟩:∃ y,S.c.nd n = y:=⟨_,rfl⟩;rw [hy] at q3 hT2 hnd hnx hst;have hiv:=jc0 y.k;simp [qrl,xs1,xs2,xbk,xlp,q41,nop,c1.1,c1.2.1,c1.2.2,qaa,u8V,hm2,qdg,hnc,<- hnd];intro gf;refine jo7 hiv (by simp) ?_;by_cases hiB:jcz y.k = true
  ·simp [hiB];refine jo7 (qp9 v) (by simp [u8V]) ?_;simp;rw [if_pos hiB] at hst;rw [hst] at q3;refine hT2 _ _ _ (qjb v) (gf 13) (by simp) (by simp [u8V]) (by simp) (by simp) (by simp [qaa]) (fun hb fr' k8 k9 k10=>?_) (fun hb fr' k0 k1 k2 k3=>?_)
   ·rw [if_pos hb] at q3;subst q3;simp;refine .done ?_;simp [jcu,k8,k9,k10,qaa]
   ·rw [if_neg hb] at q3;obtain ⟨hx1,hx2⟩:=hnx (qjb v) hb;have hxe:(qdc S A ((qjb v)) y.i).1 = (((qdc S A ((qjb v)) y.i).1.toNat:Nat):Int):=by omega
    simp [k0,k2,k3,u8V];exact ⟨_,_,⟨by omega,by unfold qjb; split <;> omega,q3⟩,⟨by rw [k1,<- hxe],rfl⟩,⟨rfl,rfl⟩,hx2⟩
  ·simp [hiB];rw [if_neg hiB] at hst;rw [hst] at q3;refine hT2 _ _ _ v (gf 13) (by simp) (by simp [u8V]) (by simp) (by simp) (by simp [qaa]) (fun hb fr' k8 k9 k10=>?_) (fun hb fr' k0 k1 k2 k3=>?_)
   ·rw [if_pos hb] at q3;subst q3;simp;refine .done ?_;simp [jcu,k8,k9,k10,qaa]
   ·rw [if_neg hb] at q3;obtain ⟨hx1,hx2⟩:=hnx v hb;have hxe:(qdc S A (v) y.i).1 = (((qdc S A (v) y.i).1.toNat:Nat):Int):=by omega
    simp [k0,k2,k3,u8V];exact ⟨_,_,⟨by omega,by omega,q3⟩,⟨by rw [k1,<- hxe],rfl⟩,⟨rfl,rfl⟩,hx2⟩
end
section
open Go
def ql3 (p:Pt):Nat->Nat->Nat
 | 0,i=>i
 | k + 1,i=>if p.bit i = 2 then i else ql3 p k (i + 1)
def qb9 (S:Sea) (p:Pt) (A M:Nat->Nat):Nat × Nat:=
 match q46 S.c S.f S.ord A M with
 | some x=>if (qi6 S p A x.1 x.2).2.2 = true then ((qi6 S p A x.1 x.2).1,(qi6 S p A x.1 x.2).2.1) else (ql3 p p.many 0,0)
 | none=>(ql3 p p.many 0,0)
theorem q3u (c:Ci) (hg:c.good) (hk:c.plain) (f:Ft) (hf:f.ok c) (hm:f.m = 0) (p:Pt) (hp:p.fit c) (hc:p.cu) (ca cb:Option Nat) :
  qbi Tryz.prog gl0 37 [c.v,f.w,.agg [.sl (p.i.map u8V) ca,.sl (p.s.map u8V) cb]] (qwh 1 (.tup [.sl (tU c.n.length (qbj c p)) (some c.n.length),.sl (tU c.n.length (f.M c p)) (some c.n.length),.int .i64 0])):=by
 have h:=(q8u c hg hk f hf hm p hp hc).mono (K':=qwh 1 (.tup [.sl (tU c.n.length (qbj c p)) (some c.n.length),.sl (tU c.n.length (f.M c p)) (some c.n.length),.int .i64 0])) (by
  rintro v h ⟨g0,g1,rfl,rfl⟩;refine ⟨rfl,fun x k hk=>?_,?_⟩
  ·simp only [lk] at hk;split at hk
   ·cases hk; exact q0u _ _
   ·split at hk
    ·cases hk; exact q0u _ _
    ·cases hk
  ·have e:frz [(0,.row g0 1 (tU c.n.length (qbj c p))),(1,.row g1 1 (tU c.n.length (f.M c p)))] 1 (.tup ([.ref 0 g0 0 c.n.length (some c.n.length),.ref 1 g1 0 c.n.length (some c.n.length)] ++ [.int .i64 0])) = .tup [.sl (tU c.n.length (qbj c p)) (some c.n.length),.sl (tU c.n.length (f.M c p)) (some c.n.length),.int .i64 0]:=by
    rw [qtu];simp only [List.cons_append,List.nil_append,List.map_cons,List.map_nil];rw [qbx (es:=tU c.n.length (qbj c p)) (sz:=1) (by simp) (by simp),qbx (es:=tU c.n.length (f.M c p)) (sz:=1) (by simp) (by simp),List.drop_zero,List.drop_zero,jpj (by simp),jpj (by simp),qbw _ _ (qbd _ _),qbw _ _ (qbd _ _),qcs _ _ rfl]
   rw [e];exact .refl _)
 exact h.wide ⟨.refl _,.refl _,q3x p ca cb,trivial⟩
theorem qii (p:Pt):∀ (k i j:Nat),i≤j->j < i + k->p.bit j = 2->i≤ql3 p k i/\ql3 p k i < i + k/\p.bit (ql3 p k i) = 2/\∀ m,i≤m->m < ql3 p k i->p.bit m ≠ 2
 | 0,i,j,h1,h2,_=>by omega
 | k + 1,i,j,h1,h2,h3=>by
  unfold ql3;by_cases e:p.bit i = 2
  ·rw [if_pos e]; exact ⟨jpm _,by omega,e,fun m q1 q2=>by omega⟩
  ·rw [if_neg e];have hij:i ≠ j:=fun h=>e (by rw [h]; exact h3);obtain ⟨q1,q2,q3,q4⟩:=qii p k (i + 1) j (by omega) (by omega) h3;refine ⟨by omega,by omega,q3,fun m r1 r2=>?_⟩;by_cases hm:m = i
   ·rw [hm]; exact e
   ·exact q4 m (by omega) r2
theorem qxb (p:Pt) (i:Nat) (hi:i < p.i.length + p.s.length):(∃ h:i < p.i.length,p.bit i = p.i[i])∨(¬ i < p.i.length/\∃ h:i - p.i.length < p.s.length,p.bit i = p.s[i - p.i.length]):=by
 by_cases hl:i < p.i.length
 ·exact .inl ⟨hl,by unfold Pt.bit; rw [if_pos hl,jph,jpl hl]; rfl⟩
 ·have hl2:i - p.i.length < p.s.length:=by omega
  exact .inr ⟨hl,hl2,by unfold Pt.bit; rw [if_neg hl,jph,jpl hl2]; rfl⟩
def q9x:XC:=xs2 (xs2 (xs2 q40))
theorem q96:q40 = .seq (xs1 q40) (.seq (xs1 (xs2 q40)) (.seq (xs1 (xs2 (xs2 q40))) q9x)):=rfl
def qne (S:Sea) (g:SG) (p:Pt) (l u:Nat) (r:Nat × Nat) (v:V) (h':Hp):Prop:=v = .tup [qaa r.1,u8V r.2]/\h' = S.H g p l u
theorem q8s (S:Sea) (g:SG) (p:Pt) (hpb:p.i.length + p.s.length < 1000000) (l u:Nat) (fr:Fr) (h0:lk fr 0 = some (.ptr 9002 g.s 0 0)) (j:Nat) (hj:j < p.many) (hj2:p.bit j = 2) :
  q9x.wpF Tryz.prog gl0 (qz4 jf5.rs (qne S g p l u (ql3 p p.many 0,0))) fr (S.H g p l u):=by
 have hbit:=fun i hi=>qtc S g p l u i hi hpb;obtain ⟨-,q2,q3,q4⟩:=qii p p.many 0 j (Nat.zero_le _) (by omega) hj2;have hmany:p.many = p.i.length + p.s.length:=rfl;generalize ql3 p p.many 0 = o at q2 q3 q4 ⊢;have hSH:S.H g p l u = [(9002,.row g.s 15 [.agg (S.cells g p)]),(9003,.row g.i 1 (p.i.map u8V)),(9004,.row g.t 1 (p.s.map u8V)),(9001,.map g.w (qif S.w)),(9000,.row g.b 2 [.agg [qaa l,qaa u]])]:=rfl;unfold qne;rw [hSH] at hbit ⊢;generalize S.cells g p = C at hbit ⊢;simp [q9x,xs2,q40,jf5]
 refine jpa (X:=Nat) (fun i=>[(13,qaa i),(0,.ptr 9002 g.s 0 0)])
  (fun _=>[(9002,.row g.s 15 [.agg C]),(9003,.row g.i 1 (p.i.map u8V)),(9004,.row g.t 1 (p.s.map u8V)),(9001,.map g.w (qif S.w)),(9000,.row g.b 2 [.agg [qaa l,qaa u]])]) (fun i=>i≤o) (fun i=>o - i) 0 (Nat.zero_le _) (by simp [qaa,h0]) (by simp) ?_
 intro i hi;have hio:i < p.i.length + p.s.length:=by omega
 have hw:=qa1 i (by omega);simp [qaa];refine joj (hbit i hio) ?_;rintro v h ⟨rfl,rfl⟩;refine ⟨_,.refl _,?_⟩
 have fin:∀ b:Nat,p.bit i = b->(b = 2->i = o)/\(b ≠ 2->i < o):=fun b hb=>⟨fun e=>by
  by_cases h:i = o
  ·exact h
  ·exact absurd (hb.trans e) (q4 i (Nat.zero_le _) (by omega)),fun e=>by
  by_cases h:i = o
  ·exact absurd (hb.symm.trans (h ▸ q3)) e
  ·omega⟩
 rcases qxb p i hio with ⟨hl,hb⟩ | ⟨hl,hl2,hb⟩
 ·obtain ⟨f1,f2⟩:=fin _ hb;simp [qu6,hl,u8V,nop];refine jo8 (fun hb=>?_) (fun hb=>?_)
  ·have:=f1 (jpf hb);subst this;simp;refine .done ?_;simp [qaa]
  ·have:=f2 (jpg hb);simp [hw,qaa];exact ⟨i + 1,this,rfl,by omega⟩
 ·obtain ⟨f1,f2⟩:=fin _ hb;simp [qu6,hl,hl2,u8V,nop];refine jo8 (fun hb=>?_) (fun hb=>?_)
  ·have:=f1 (jpf hb);subst this;simp;refine .done ?_;simp [qaa]
  ·have:=f2 (jpg hb);simp [hw,qaa];exact ⟨i + 1,this,rfl,by omega⟩
theorem jo2 {c:Ci} (hg:c.good) {f:Ft} (hf:f.ok c):f.at c < c.n.length:=by
 unfold Ft.at;split
 ·exact hf.n
 ·have hl:f.q - 1 < (c.nd f.n).i.length:=by have:=hf.q; omega
  rw [jph,jpl hl];have:=hg.val.i f.n hf.n _ (jpk hl);simp only [Option.getD_some];omega
theorem q9v (k:Int):q4t k≤1:=by unfold q4t; split <;> omega
theorem q6h {c:Ci} (hg:c.good) {f:Ft} {A M:Nat->Nat} {n:Nat} (hn:n < c.n.length) {x:Nat × Nat} (h:qo6 c f A M n = some x):x.1 < c.n.length/\x.2≤1:=by
 unfold qo6 at h;split at h
 ·cases h
 ·split at h
  ·cases hf:(c.nd n).i.find? fun x=>decide (A x.toNat = 2) with
   | none=>rw [hf] at h; cases h
   | some y=>
    rw [hf] at h;cases h;have:=hg.val.i n hn y (List.mem_of_find?_eq_some hf);exact ⟨by simp only []; omega,q9v _⟩
  ·cases h
theorem qw7 {c:Ci} (hg:c.good) {f:Ft} (hf:f.ok c) {ord:List Nat} (ho:∀ x ∈ ord,x < c.n.length) {A M:Nat->Nat} {x:Nat × Nat} (h:q46 c f ord A M = some x):x.1 < c.n.length/\x.2≤1:=by
 unfold q46 at h;split at h
 ·cases h; exact ⟨jo2 hg hf,by simp only []; omega⟩
 ·obtain ⟨n,h1,h2⟩:=List.exists_of_findSome?_eq_some h;exact q6h hg (ho n h1) h2
theorem q14 (S:Sea) (hS:S.ok) (hW:S.okW) (hk:S.c.plain) (g:SG) (p:Pt) (hp:p.fit S.c) (hc:p.cu) (hpw:S.w.length = p.i.length + p.s.length) (l u:Nat) (j:Nat) (hj:j < p.many) (hj2:p.bit j = 2) :
  qat Tryz.prog gl0 169 [.ptr 9002 g.s 0 0] (S.H g p l u) (qne S g p l u (qb9 S p (qbj S.c p) (S.f.M S.c p))):=by
 have hwl:=hW.wl;have hpr:=q3u S.c hS.g hk S.f hS.f hS.m p hp hc (some p.i.length) (some p.s.length);have hfv:=hS.f.v;have hA:∀ i,qbj S.c p i≤3:=by rw [qqg]; exact qkh (fun _ _ h=>h) _ _ (qtw hp)
 have hM:∀ i,S.f.M S.c p i≤3:=qkh (qs8 S.f _ fun _=>by omega) _ _ (qtw hp);have haim:=jhv S hS g p l u (qbj S.c p) (S.f.M S.c p) hA hM (some S.c.n.length) (some S.c.n.length);have hbk:=fun n v hn hv=>jbj S hS hW g p hp hpw l u (qbj S.c p) (some S.c.n.length) n v hn hv;have hop:=fun fr=>q8s S g p (by omega) l u fr;have hAp:jne (tU S.c.n.length (qbj S.c p)) = true:=qbd _ _;have hMp:jne (tU S.c.n.length (S.f.M S.c p)) = true:=qbd _ _;refine jpe jj9 rfl ?_;show q40.wpF _ _ _ _ _;rw [q96];simp [xs1,xs2,q40,Sea.H,Sea.cells,nop];intro gm
 have hfz:∀ h:Hp,lk h 9003 = some (.row g.i 1 (p.i.map u8V))->lk h 9004 = some (.row g.t 1 (p.s.map u8V))->[S.c.v,S.f.w,V.agg [.ref 9003 g.i 0 p.i.length (some p.i.length),.ref 9004 g.t 0 p.s.length (some p.s.length)]].map (frz h 2) = [S.c.v,S.f.w,V.agg [.sl (p.i.map u8V) (some p.i.length),.sl (p.s.map u8V) (some p.s.length)]]:=fun h e3 e4=>by
  simp only [List.map_cons,List.map_nil];rw [qcs _ _ (qcr S.c),qcs _ _ (show S.f.w.pure = true from rfl),qib];simp only [List.map_cons,List.map_nil];rw [qbx e3 (by simp),qbx e4 (by simp),List.drop_zero,List.drop_zero,jpj (by simp),jpj (by simp),qbw _ _ (qar _),qbw _ _ (qar _)]
 refine ⟨_,_,_,.dat 2 hpr (hfz _ (by simp) (by simp)),?_⟩;simp;refine qat.mono haim ?_;rintro v h ⟨rfl,rfl⟩;have hin:=fun x (hx:q46 S.c S.f S.ord (qbj S.c p) (S.f.M S.c p) = some x)=>qw7 hS.g hS.f hS.o hx;unfold qb9
 cases haP:q46 S.c S.f S.ord (qbj S.c p) (S.f.M S.c p) with
 | none=>
  simp [qsh];exact hop _ (by simp) j hj hj2
 | some x=>
  obtain ⟨n,v⟩:=x;obtain ⟨h1,h2⟩:=hin _ haP;simp [qsh];refine qat.mono (hbk n v h1 h2) ?_;rintro w h ⟨rfl,rfl⟩
  cases hb:(qi6 S p (qbj S.c p) n v).2.2 with
  | true=>
   simp [hb];refine .done ?_;simp [qne,jf5,Sea.H]
  | false=>
   simp [hb];exact hop _ (by simp) j hj hj2
end
section
open Go
def upT (a:Nat) (n:Tn):Tn:=if 0≤n.i then ⟨n.i,n.z + a,n.o + a⟩ else n
theorem qjm:∀ (d:DT) (a b:Nat),d.fl (b + a) = (d.fl b).map (upT a)
 | .lf,_,_=>by simp [DT.fl,upT,lfN]
 | .nd i z o,a,b=>by
  have h1:=qjm z a (b + 1);have h2:=qjm o a (b + 1 + z.sz);rw [show b + 1 + a = b + a + 1 by omega] at h1;rw [show b + 1 + z.sz + a = b + a + 1 + z.sz by omega] at h2;simp only [DT.fl,List.map_cons,List.map_append,h1,h2];congr 1;simp [upT];omega
theorem jig (i:Nat) (z o:DT):(DT.nd i z o).fl 0 = ⟨i,1,((1 + z.sz:Nat):Int)⟩ :: ((z.fl 0).map (upT 1) ++ (o.fl 0).map (upT (1 + z.sz))):=by
 have h1:=qjm z 1 0;have h2:=qjm o (1 + z.sz) 0;rw [Nat.zero_add] at h1 h2;simp only [DT.fl,Nat.zero_add,h1,h2];rfl
theorem q21 (i:Nat) (zl ol:List Tn) (cz co:Option Nat) (hl:zl.length + ol.length < 10000000) (hz:∀ n ∈ zl,-1000000000 < n.z/\n.z < 1000000000/\-1000000000 < n.o/\n.o < 1000000000) (ho:∀ n ∈ ol,-1000000000 < n.z/\n.z < 1000000000/\-1000000000 < n.o/\n.o < 1000000000) :
  qab Tryz.prog gl0 171 [qaa i,.sl (zl.map Tn.v) cz,.sl (ol.map Tn.v) co] (.sl ((⟨i,1,((1 + zl.length:Nat):Int)⟩ :: (zl.map (upT 1) ++ ol.map (upT (1 + zl.length)))).map Tn.v) none):=by
 refine jn2 (K:=fun v h=>∃ g k cap es,v = .ref 0 g 0 k cap/\h = [(0,.row g 3 es)]/\k≤es.length/\es.take k = (⟨i,1,((1 + zl.length:Nat):Int)⟩ :: (zl.map (upT 1) ++ ol.map (upT (1 + zl.length)))).map Tn.v) 1 ?_ ?_
 ·obtain ⟨L0,hL0⟩:∃ L:List Tn,L = [⟨i,1,((1 + zl.length:Nat):Int)⟩]:=⟨_,rfl⟩;have w1:IntKind.i64.wrap (1 + (zl.length:Int)) = ((1 + zl.length:Nat):Int):=by rw [qas] <;> omega
  have w2:IntKind.i64.wrap (1 + (zl.length:Int) + (ol.length:Int)) = ((1 + zl.length + ol.length:Nat):Int):=by rw [qas] <;> omega
  refine jpd jkb rfl ?_;simp [i171,x171,qaa];simp [w1,w2];intro gf1;refine ⟨⟨by omega,by omega⟩,fun gf2=>?_⟩;generalize gf1 19 = g19;generalize gf2 29 = g29;obtain ⟨P,hP⟩:∃ P:Nat->List Tn,P = fun j=>if j = 0 then zl else ol:=⟨_,rfl⟩
  obtain ⟨L,hL⟩:∃ L:Nat->List Tn,L = fun j=>L0 ++ ((if 1≤j then zl.map (upT 1) else []) ++ if 2≤j then ol.map (upT (1 + zl.length)) else []):=⟨_,rfl⟩
  have hLs:∀ j,j < 2->L (j + 1) = L j ++ (P j).map (upT (L j).length):=by
   intro j hj;subst hL hP hL0
   match j,hj with
   | 0,_=>simp
   | 1,_=>simp [Nat.add_comm]
  have hPj:∀ j,j < 2->(P j).length < 10000000/\(L j).length + (P j).length < 20000000/\∀ n ∈ P j,-1000000000 < n.z/\n.z < 1000000000/\-1000000000 < n.o/\n.o < 1000000000:=by
   intro j hj;subst hL hP hL0
   match j,hj with
   | 0,_=>exact ⟨by simp; omega,by simp; omega,hz⟩
   | 1,_=>exact ⟨by simp; omega,by simp; omega,ho⟩
  obtain ⟨B29,hB⟩:∃ b:List V,b = [.sl (zl.map Tn.v) cz,.sl (ol.map Tn.v) co]:=⟨_,rfl⟩
  have hBj:∀ j,j < 2->∃ cp,∀ h:j < B29.length,B29[j] = .sl ((P j).map Tn.v) cp:=by
   intro j hj;subst hB hP
   match j,hj with
   | 0,_=>exact ⟨cz,fun _=>rfl⟩
   | 1,_=>exact ⟨co,fun _=>rfl⟩
  have hBl:B29.length = 2:=by rw [hB]; rfl
  rw [<- hB]
  refine jn5 (X:=Nat × Nat × Nat × List V × Option Nat) (fun z=>[(31,qaa z.1),(30,qaa 2),(29,.ref 29 g29 0 2 (some 2)),(7,.ref 2000 z.2.1 0 z.2.2.1 z.2.2.2.2)])
   (fun z=>[(29,.row g29 1 B29),(2000,.row z.2.1 3 z.2.2.2.1)]) (fun z=>z.1≤2/\z.2.2.1≤z.2.2.2.1.length/\z.2.2.2.1.take z.2.2.1 = (L z.1).map Tn.v) (fun z=>2 - z.1) ?_ ?_
  ·refine .move 19 2000 _ (by simp) (by simp; rfl) fun g'=>.done ⟨(0,g',1,[.agg [.int .i64 i,.int .i64 1,.int .i64 (1 + (zl.length:Int))]],some (1 + (zl.length:Int) + (ol.length:Int)).toNat),⟨by simp,by simp,?_⟩,by simp [qaa],by simp [hB,qan _ (qck _)]⟩;subst hL hL0;simp [Tn.v]
  rintro ⟨j,g,k,es,cap⟩ ⟨p1,p2,p3⟩;dsimp only at p1 p2 p3 ⊢;simp [qaa];refine jo8 (fun hb=>?_) (fun hb=>?_)
  ·have hj:j < 2:=by have:=jpf hb; omega
   obtain ⟨cp,hcp⟩:=hBj j hj;obtain ⟨b1,b2,b3⟩:=hPj j hj;have hkl:k = (L j).length:=by have:=congrArg List.length p3; simp at this; omega
   have hls:=hLs j hj;have hw:=qa1 j (by omega);generalize P j = Q at hcp b1 b2 b3 hls;simp [hj,hBl,hcp]
   refine jn5 (X:=Nat × Nat × Nat × List V × Option Nat) (fun z=>[(39,qaa z.1),(38,qaa Q.length),(37,.sl (Q.map Tn.v) cp),(10,qaa k),(31,qaa j),(30,qaa 2),(29,.ref 29 g29 0 2 (some 2)),(7,.ref 2000 z.2.1 0 z.2.2.1 z.2.2.2.2)])
    (fun z=>[(29,.row g29 1 B29),(2000,.row z.2.1 3 z.2.2.2.1)]) (fun z=>z.1≤Q.length/\z.2.2.1≤z.2.2.2.1.length/\z.2.2.2.1.take z.2.2.1 = (L j ++ (Q.take z.1).map (upT k)).map Tn.v/\z.2.2.1 = k + z.1) (fun z=>Q.length - z.1) (.done ⟨(0,g,k,es,cap),⟨by simp,p2,by simp [p3],rfl⟩,by simp [qaa],by simp⟩) ?_
   rintro ⟨m,g2,k2,es2,cap2⟩ ⟨r1,r2,r3,r4⟩;dsimp only at r1 r2 r3 r4 ⊢;simp [qaa];refine jo8 (fun hb2=>?_) (fun hb2=>?_)
   ·have hm:m < Q.length:=jpf hb2;have hwm:=qa1 m (by omega);obtain ⟨x,hx⟩:∃ x,Q[m] = x:=⟨_,rfl⟩;obtain ⟨c1,c2,c3,c4⟩:=b3 x (by rw [<- hx]; exact jpk hm)
    have hnx:(L j ++ (Q.take (m + 1)).map (upT k)).map Tn.v = es2.take k2 ++ [(upT k x).v]:=by
     rw [r3,List.take_succ_eq_append_getElem hm,hx];simp
    have hz2:IntKind.i64.wrap (x.z + (k:Int)) = x.z + k:=by rw [qas] <;> omega
    have ho2:IntKind.i64.wrap (x.o + (k:Int)) = x.o + k:=by rw [qas] <;> omega
    by_cases hxi:0≤x.i
    ·have hup:(upT k x).v = .agg [.int .i64 x.i,.int .i64 (x.z + k),.int .i64 (x.o + k)]:=by unfold upT; rw [if_pos hxi]; rfl
     simp [hm,hx,Tn.v];intro ga;simp [hxi,hz2,ho2];intro gb gc;refine ⟨⟨r2,by omega⟩,.done ⟨m + 1,gc 2000,k2 + 1,List.take k2 es2 ++ [.agg [.int .i64 x.i,.int .i64 (x.z + k),.int .i64 (x.o + k)]],⟨hm,?_,?_,by omega⟩,by simp [hwm],⟨by simp,by simp⟩,by omega⟩⟩
     ·simp; omega
     ·rw [jpj (by simp; omega)];rw [hup] at hnx;simpa [Tn.v] using hnx.symm
    ·have hup:(upT k x).v = x.v:=by unfold upT; rw [if_neg hxi]
     simp [hm,hx,Tn.v];intro ga;simp [hxi];intro gb gc;refine ⟨⟨r2,by omega⟩,.done ⟨m + 1,gc 2000,k2 + 1,List.take k2 es2 ++ [.agg [.int .i64 x.i,.int .i64 x.z,.int .i64 x.o]],⟨hm,?_,?_,by omega⟩,by simp [hwm],⟨by simp,by simp⟩,by omega⟩⟩
     ·simp; omega
     ·rw [jpj (by simp; omega)];rw [hup] at hnx;simpa [Tn.v] using hnx.symm
   ·have hm:m = Q.length:=by have:=jpg hb2; omega
    subst hm;rw [List.take_length] at r3;simp [hw];refine .done ⟨j + 1,g2,k2,es2,⟨hj,r2,?_⟩,by simp,⟨by simp,by simp⟩,by omega⟩;rw [r3,hls,hkl]
  ·have hj:j = 2:=by have:=jpg hb; omega
   subst hj;simp;refine .move 2000 0 _ (by simp) (by simp; rfl) fun g'=>.done ?_;simp;refine ⟨[(0,.row g' 3 (es.map (V.rn (mvS 2000 g 0 g'))))],by simp,g',k,⟨rfl,rfl⟩,_,rfl,by simpa using p2,?_⟩;rw [<- List.map_take,p3,qaf (qck _),hL,hL0];simp
 ·rintro v h ⟨g,k,cap,es,rfl,rfl,hk,he⟩;have hp:jne (es.take k) = true:=by rw [he]; exact qck _
  rw [qbx (es:=es) (sz:=3) (by simp) (by simpa using hk),List.drop_zero,qbw _ _ hp,he];exact VLe.cap _ _
end
section
open Go
theorem q9j (c:Ci) (hg:c.good) (hk:c.plain) (f:Ft) (hf:f.ok c) (hm:f.m = 0) (p:Pt) (hp:p.fit c) (hc:p.cu):qab Tryz.prog gl0 30 [c.v,f.w,p.v] (.tup [.bool (f.det c p),.int .i64 0]):=by
 have h1:=qj6 c hg hk f hf hm p hp hc;have h2:=qx0 c hg f hf hm p hp;generalize f.det c p = B at h2 ⊢;simp only [Pt.v,Ft.w] at h1 h2 ⊢;refine jpb 2 ok30 rfl ?_;simp [i30,x30,Ft.w];intro gf1 gf2 gf3;refine jo7 h1 (by simp [jne,V.pure,u8V,qaa]) ?_;simp;refine jo7 h2 (by simp [jne,V.pure,u8V,qaa]) ?_;simp
theorem q1u (c:Ci) (hg:c.good) (hk:c.plain) (f:Ft) (hf:f.ok c) (hm:f.m = 0) (p:Pt) (hp:p.fit c) (hc:p.cu):qab Tryz.prog gl0 29 [c.v,f.w,p.v] (.tup [.bool (qlr c f p),.int .i64 0]):=by
 have h1:=qj6 c hg hk f hf hm p hp hc;have h2:=qtd c hg f hf hm p hp;generalize qlr c f p = B at h2 ⊢;simp only [Pt.v,Ft.w] at h1 h2 ⊢;refine jpb 2 ok29 rfl ?_;simp [i29,x29,Ft.w];intro gf1 gf2 gf3;refine jo7 h1 (by simp [jne,V.pure,u8V,qaa]) ?_;simp;refine jo7 h2 (by simp [jne,V.pure,u8V,qaa]) ?_;simp
inductive VR where
 | found (q:Pt) (u:Nat)
 | proof (t:DT) (u:Nat)
 | spent (q:Pt)
noncomputable def qbh (S:Sea) (l:Nat):Nat->Pt->Nat->VR
 | 0,p,_=>.spent p
 | k + 1,p,u=>
  if S.f.det S.c p = true then .found p u
  else if qlr S.c S.f p = true then .proof .lf u
  else if u = l then .spent p
  else match qbh S l k (p.set (qb9 S p (qbj S.c p) (S.f.M S.c p)).1 (qb9 S p (qbj S.c p) (S.f.M S.c p)).2) (u + 1) with
   | .found q w=>.found q w
   | .spent q=>.spent q
   | .proof t w=>match qbh S l k (p.set (qb9 S p (qbj S.c p) (S.f.M S.c p)).1 (1 - (qb9 S p (qbj S.c p) (S.f.M S.c p)).2)) w with
    | .found q w=>.found q w
    | .spent q=>.spent q
    | .proof t2 w2=>.proof (if (qb9 S p (qbj S.c p) (S.f.M S.c p)).2 = 0 then .nd (qb9 S p (qbj S.c p) (S.f.M S.c p)).1 t t2 else .nd (qb9 S p (qbj S.c p) (S.f.M S.c p)).1 t2 t) w2
def Pt.opens (p:Pt):Nat:=(List.range p.many).countP fun j=>decide (p.bit j = 2)
theorem qme {P P':Nat->Bool} {k:Nat} (h0:P k = true) (h1:P' k = false) (h2:∀ j,j ≠ k->P' j = P j):∀ n,(List.range n).countP P = (List.range n).countP P' + if k < n then 1 else 0
 | 0=>rfl
 | n + 1=>by
  rw [List.range_succ,List.countP_append,List.countP_append,qme h0 h1 h2 n];simp only [List.countP_singleton];by_cases e:n = k
  ·subst e; simp [h0,h1]
  ·rw [h2 n e]
   have e1:(if k < n + 1 then 1 else 0:Nat) = if k < n then 1 else 0:=by
    by_cases h:k < n
    ·rw [if_pos h,if_pos (by omega)]
    ·rw [if_neg h,if_neg (by omega)]
   rw [e1]; omega
theorem qez {p:Pt} {k v:Nat} (hk:k < p.many) (h2:p.bit k = 2) (hv:v≤1):p.opens = (p.set k v).opens + 1:=by
 unfold Pt.opens;rw [jnx,qme (k:=k) (P':=fun j=>decide ((p.set k v).bit j = 2)) (by simpa using h2) (by rw [jnm hk,if_pos rfl]; simp; omega) (fun j hj=>by rw [jnm hk,if_neg hj]) p.many,if_pos hk]
theorem q5f {p:Pt}:p.cu↔∀ j,j < p.many->p.bit j≤2:=by
 constructor
 ·intro h j hj;rcases qxb p j hj with ⟨hl,e⟩ | ⟨hl,hl2,e⟩
  ·rw [e]; exact h.1 _ (jpk hl)
  ·rw [e]; exact h.2 _ (jpk hl2)
 ·intro h;refine ⟨fun x hx=>?_,fun x hx=>?_⟩
  ·obtain ⟨j,hj,rfl⟩:=List.mem_iff_getElem.1 hx;have:=h j (by unfold Pt.many; omega);unfold Pt.bit at this
   rwa [if_pos hj,jph,jpl hj] at this
  ·obtain ⟨j,hj,rfl⟩:=List.mem_iff_getElem.1 hx;have:=h (p.i.length + j) (by unfold Pt.many; omega);unfold Pt.bit at this
   rwa [if_neg (by omega),Nat.add_sub_cancel_left,jph,jpl hj] at this
theorem qgg {p:Pt} (h:p.cu) {k v:Nat} (hk:k < p.many) (hv:v≤2):(p.set k v).cu:=by
 rw [q5f] at h ⊢;intro j hj;rw [jnx] at hj;rw [jnm hk];split
 ·exact hv
 ·exact h j hj
theorem qsg {c:Ci} (hg:c.good) (hk:c.plain) {f:Ft} (hf:f.ok c) {p:Pt} (hp:p.fit c) (hc:p.cu) (h1:¬ f.det c p = true) (h2:¬ qlr c f p = true):∃ j,j < p.many/\p.bit j = 2:=by
 refine Classical.byContradiction fun hn=>?_
 have hkn:p.kn:=by
  have hb:∀ j,j < p.many->p.bit j≤1:=fun j hj=>by
   have q1:=q5f.1 hc j hj;have q2:p.bit j ≠ 2:=fun e=>hn ⟨j,hj,e⟩;omega
  refine ⟨fun x hx=>?_,fun x hx=>?_⟩
  ·obtain ⟨j,hj,rfl⟩:=List.mem_iff_getElem.1 hx;have:=hb j (by unfold Pt.many; omega);unfold Pt.bit at this
   rwa [if_pos hj,jph,jpl hj] at this
  ·obtain ⟨j,hj,rfl⟩:=List.mem_iff_getElem.1 hx;have:=hb (p.i.length + j) (by unfold Pt.many; omega);unfold Pt.bit at this
   rwa [if_neg (by omega),Nat.add_sub_cancel_left,jph,jpl hj] at this
 have:=q1t hg hk hf hp hkn;rw [Bool.eq_false_iff.2 h2] at this;exact h1 (by rw [this]; rfl)
theorem qtb (S:Sea) (p:Pt) (A:Nat->Nat):∀ (k n v:Nat),v≤1->(qh3 S p A k n v).2.2 = true->p.bit (qh3 S p A k n v).1 = 2/\(qh3 S p A k n v).1 < S.w.length/\(qh3 S p A k n v).2.1≤1
 | 0,n,v,_,h=>by simp [qh3] at h
 | k + 1,n,v,hv,h=>by
  unfold qh3 at h ⊢
  cases hw:qcy S.w n 0 with
  | some i=>
   rw [hw] at h;have:=qlp _ _ _ _ hw;exact ⟨by simpa using h,by simp only []; omega,hv⟩
  | none=>
   rw [hw] at h;simp only [] at h ⊢;split at h
   ·simp at h
   ·rename_i hb;rw [if_neg hb];have hs:qin S n v≤1:=by unfold qin qjb; split <;> (try split) <;> omega
    exact qtb S p A k _ _ hs h
theorem qj7 (S:Sea) (hS:S.ok) (p:Pt) (hpw:S.w.length = p.many) (A M:Nat->Nat) {j:Nat} (hj:j < p.many) (hj2:p.bit j = 2):(qb9 S p A M).1 < p.many/\p.bit (qb9 S p A M).1 = 2/\(qb9 S p A M).2≤1:=by
 have ho:=qii p p.many 0 j (Nat.zero_le _) (by omega) hj2;unfold qb9
 cases ha:q46 S.c S.f S.ord A M with
 | none=>exact ⟨by simp only []; omega,ho.2.2.1,by simp⟩
 | some x=>
  have hx:=qw7 hS.g hS.f hS.o ha;simp only [];split
  ·rename_i hb;have:=qtb S p A S.c.n.length x.1 x.2 hx.2 hb;exact ⟨by rw [<- hpw]; exact this.2.1,this.1,this.2.2⟩
  ·exact ⟨by simp only []; omega,ho.2.2.1,by simp⟩
end
end Go.Proofs.YtpaopccohkldlaaGreatDoor
