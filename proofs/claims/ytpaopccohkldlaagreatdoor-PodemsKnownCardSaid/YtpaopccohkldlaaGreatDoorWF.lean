/- Lemmas. Conditions: none. -/
import Derived.Test.YtpaopccohkldlaaGreatDoorWC
import Derived.Test.YtpaopccohkldlaaGreatDoorA5
set_option linter.all false
namespace Go.Proofs.YtpaopccohkldlaaGreatDoor
section
open Go
def exV:V:=.agg [.sl [.agg [.int .u8 0,.nil,.int .i64 0,.int .i64 0],.agg [.int .u8 0,.nil,.int .i64 0,.int .i64 0],.agg [.int .u8 5,.sl [.int .i64 0,.int .i64 1] (some 2),.int .i64 0,.int .i64 0],.agg [.int .u8 7,.sl [.int .i64 0,.int .i64 2] (some 2),.int .i64 0,.int .i64 0]] (some 4),.sl [.str [97],.str [98],.str [100],.str [101]] (some 4),.nil,.sl [.int .i64 3] (some 1)]
theorem ex_c:qab Tryz.prog gl0 53 [] exV:=by
 refine jpb 4 ok53 rfl ?_;simp [i53,x53,nop];intros;simp [frz,V.mapR,jnh,exV]
def exC:Ci:=⟨[⟨0,[],0,0⟩,⟨0,[],0,0⟩,⟨5,[0,1],0,0⟩,⟨7,[0,2],0,0⟩],[[97],[98],[100],[101]],[],[3]⟩
theorem qly:VLe exV exC.v:=by
 unfold exV Ci.v exC;refine VLe.agg ⟨VLe.trans (.cap _ _) (jon rfl fun i=>?_),.cap _ _,.nil',.cap _ _,trivial⟩
 match i with
 | 0=>exact ⟨.refl _,.nil',.refl _,.refl _,trivial⟩
 | 1=>exact ⟨.refl _,.nil',.refl _,.refl _,trivial⟩
 | 2=>exact ⟨.refl _,.cap _ _,.refl _,.refl _,trivial⟩
 | 3=>exact ⟨.refl _,.cap _ _,.refl _,.refl _,trivial⟩
 | i + 4=>exact qf6.refl _
theorem jcj:shE exC = 0:=by decide
theorem ex_g:exC.g 0 = []/\exC.g 1 = []/\exC.g 2 = [0,1]/\exC.g 3 = [0,2]:=by decide
theorem q7f:qu2 exC:=qh1 fun i hi x hx=>by
 obtain ⟨g0,g1,g2,g3⟩:=ex_g
 match i,hi with
 | 0,_=>rw [g0] at hx; simp at hx
 | 1,_=>rw [g1] at hx; simp at hx
 | 2,_=>rw [g2] at hx; simp at hx; omega
 | 3,_=>rw [g3] at hx; simp at hx; omega
 | i + 4,h=>have e:exC.n.length = 4:=rfl; omega
theorem qc1:exC.good where
 wf:=⟨by intro x hx; simp [exC] at hx; rcases hx with rfl | rfl | rfl <;> simp,by intro s hs; simp [exC] at hs; rcases hs with rfl | rfl | rfl | rfl <;> simp⟩
 chk:=by unfold qlv; rw [if_neg (by rw [jcj]; simp),if_pos q7f]
 sh:=jcj
 ac:=q7f
 m:=rfl
 k:=by intro y hy; simp [exC] at hy; rcases hy with rfl | rfl | rfl <;> simp
 n0:=by decide
 n1:=by decide
theorem qc2:exC.plain:=fun n hn=>by
 match n,hn with
 | 0,_=>decide
 | 1,_=>decide
 | 2,_=>decide
 | 3,_=>decide
 | i + 4,h=>have e:exC.n.length = 4:=rfl; omega
def xoV:V:=.agg [.sl [.agg [.int .u8 0,.nil,.int .i64 0,.int .i64 0],.agg [.int .u8 0,.nil,.int .i64 0,.int .i64 0],.agg [.int .u8 9,.sl [.int .i64 0,.int .i64 1] (some 2),.int .i64 0,.int .i64 0]] (some 3),.sl [.str [97],.str [98],.str [120]] (some 3),.nil,.sl [.int .i64 2] (some 1)]
def xoC:Ci:=⟨[⟨0,[],0,0⟩,⟨0,[],0,0⟩,⟨9,[0,1],0,0⟩],[[97],[98],[120]],[],[2]⟩
theorem jfd:VLe xoV xoC.v:=by
 unfold xoV Ci.v xoC;refine VLe.agg ⟨VLe.trans (.cap _ _) (jon rfl fun i=>?_),.cap _ _,.nil',.cap _ _,trivial⟩
 match i with
 | 0=>exact ⟨.refl _,.nil',.refl _,.refl _,trivial⟩
 | 1=>exact ⟨.refl _,.nil',.refl _,.refl _,trivial⟩
 | 2=>exact ⟨.refl _,.cap _ _,.refl _,.refl _,trivial⟩
 | i + 3=>exact qf6.refl _
theorem jfe:shE xoC = 0:=by decide
theorem xo_g:xoC.g 0 = []/\xoC.g 1 = []/\xoC.g 2 = [0,1]:=by decide
theorem jaa:qu2 xoC:=qh1 fun i hi x hx=>by
 obtain ⟨g0,g1,g2⟩:=xo_g
 match i,hi with
 | 0,_=>rw [g0] at hx; simp at hx
 | 1,_=>rw [g1] at hx; simp at hx
 | 2,_=>rw [g2] at hx; simp at hx; omega
 | i + 3,h=>have e:xoC.n.length = 3:=rfl; omega
theorem q1f:xoC.good where
 wf:=⟨by intro x hx; simp [xoC] at hx; rcases hx with rfl | rfl <;> simp,by intro s hs; simp [xoC] at hs; rcases hs with rfl | rfl | rfl <;> simp⟩
 chk:=by unfold qlv; rw [if_neg (by rw [jfe]; simp),if_pos jaa]
 sh:=jfe
 ac:=jaa
 m:=rfl
 k:=by intro y hy; simp [xoC] at hy; rcases hy with rfl | rfl <;> simp
 n0:=by decide
 n1:=by decide
theorem quy:xoC.plain:=fun n hn=>by
 match n,hn with
 | 0,_=>decide
 | 1,_=>decide
 | 2,_=>decide
 | i + 3,h=>have e:xoC.n.length = 3:=rfl; omega
theorem q52 {c:Ci} (hac:qu2 c) {L:List Nat} (lv:Nat->Nat) (hlv:qhz c.n.length c.g lv) (hr:InR c.n.length L) (hb:∀ n,n < c.n.length->∀ x ∈ c.g n,x < c.n.length) (hp:L.Pairwise (qdh lv)):qij c = L:=by
 have hu:=qhz.unique hb hlv hac.lv;refine Ord.eq ⟨hr,hp.imp_of_mem fun {a b} ha hb' h=>?_⟩;unfold qdh at h ⊢;rw [<- hu a (hr.lt a ha),<- hu b (hr.lt b hb')];exact h
theorem q5j:qij exC = [0,1,2,3]:=by
 refine q52 q7f (fun n=>if n = 2 then 1 else if n = 3 then 2 else 0) (fun i hi=>?_) ⟨rfl,by decide⟩ (fun n hn=>?_) (by simp [qdh])
 ·match i,hi with
  | 0,_=>decide
  | 1,_=>decide
  | 2,_=>decide
  | 3,_=>decide
  | i + 4,h=>have e:exC.n.length = 4:=rfl; omega
 ·match n,hn with
  | 0,_=>decide
  | 1,_=>decide
  | 2,_=>decide
  | 3,_=>decide
  | i + 4,h=>have e:exC.n.length = 4:=rfl; omega
theorem q6d:qij xoC = [0,1,2]:=by
 refine q52 jaa (fun n=>if n = 2 then 1 else 0) (fun i hi=>?_) ⟨rfl,by decide⟩ (fun n hn=>?_) (by simp [qdh])
 ·match i,hi with
  | 0,_=>decide
  | 1,_=>decide
  | 2,_=>decide
  | i + 3,h=>have e:xoC.n.length = 3:=rfl; omega
 ·match n,hn with
  | 0,_=>decide
  | 1,_=>decide
  | 2,_=>decide
  | i + 3,h=>have e:xoC.n.length = 3:=rfl; omega
def q51 (L:List Nat) (c:Ci) (p:Pt):Nat->Nat:=evl (q1j c) (qb3 c) L (ini c p)
def qsf (L:List Nat) (c:Ci) (f:Ft) (p:Pt):Nat->Nat:=evl (evM c f.sW f.sQ) (fun _=>true) L (ini c p)
def jfv (L:List Nat) (c:Ci) (f:Ft) (p:Pt):Bool:=qim (qms c (q51 L c p)) (qmt c (q51 L c p)) (qf8 c (qsf L c f p)) (qf9 c f.sQ (qsf L c f p))
def jiw (L:List Nat) (c:Ci) (f:Ft) (p:Pt):Nat->Bool:=evl (qn6 c f (q51 L c p) (qsf L c f p)) (fun _=>true) L (fun _=>false)
def jfo (L:List Nat) (c:Ci) (f:Ft) (p:Pt):Bool:=
 !(c.o.any fun k=>jiw L c f p k.toNat) && (ids 14 c.n 0).all fun n=>if f.n = n/\f.q = 1 then decide (q51 L c p (inD c n) = f.v) else !jiw L c f p (inD c n)
def jg6 (L:List Nat) (c:Ci) (f:Ft):Sea:=⟨c,f,tab c.n.length fun i=>(((ctL c (fun _=>none) L i).1:Int),((ctL c (fun _=>none) L i).2:Int)),some c.n.length,L,some c.n.length,ids 0 c.n 0 ++ ids 14 c.n 0⟩
def chL (L:List Nat) (c:Ci) (f:Ft) (p:Pt):Nat × Nat:=qb9 (jg6 L c f) p (q51 L c p) (qsf L c f p)
def qm7 (L:List Nat) (c:Ci) (f:Ft) (l:Nat):Nat->Pt->Nat->VR
 | 0,p,_=>.spent p
 | k + 1,p,u=>
  match jfv L c f p with
  | true=>.found p u
  | false=>match jfo L c f p with
   | true=>.proof .lf u
   | false=>match Nat.beq u l with
    | true=>.spent p
    | false=>match qm7 L c f l k (p.set (chL L c f p).1 (chL L c f p).2) (u + 1) with
     | .found q w=>.found q w
     | .spent q=>.spent q
     | .proof t w=>match qm7 L c f l k (p.set (chL L c f p).1 (1 - (chL L c f p).2)) w with
      | .found q w=>.found q w
      | .spent q=>.spent q
      | .proof t2 w2=>.proof (match (chL L c f p).2 with | 0=>.nd (chL L c f p).1 t t2 | _ + 1=>.nd (chL L c f p).1 t2 t) w2
theorem qlo {L:List Nat} {c:Ci} (hL:qij c = L) (f:Ft) (l:Nat):∀ (k:Nat) (p:Pt) (u:Nat),qbh (sea c f) l k p u = qm7 L c f l k p u
 | 0,p,u=>rfl
 | k + 1,p,u=>by
  have e1:f.det c p = jfv L c f p:=by unfold Ft.det jay qbj qi3 jfv q51 qsf; rw [hL]
  have e2:qlr c f p = jfo L c f p:=by unfold qlr qqe Ft.M qbj qi3 jfo jiw q51 qsf; rw [hL]
  have e3:chS (sea c f) p = chL L c f p:=by
   unfold chS chL;have:sea c f = jg6 L c f:=by unfold sea jg6 ctl; rw [hL]
   rw [this];show qb9 (jg6 L c f) p (qbj c p) (f.M c p) = _;unfold Ft.M qbj qi3 q51 qsf; rw [hL]
  have ih:=qlo hL f l k;rw [quw,qm7];show (if f.det c p = true then _ else if qlr c f p = true then _ else _) = _;rw [e1,e2,e3]
  cases jfv L c f p with
  | true=>rfl
  | false=>
   cases jfo L c f p with
   | true=>rfl
   | false=>
    rw [if_neg (by simp),if_neg (by simp)];by_cases h:u = l
    ·subst h;rw [if_pos rfl,Nat.beq_refl]
    ·rw [if_neg h,ih]
     have hb:Nat.beq u l = false:=by
      cases hq:Nat.beq u l with
      | false=>rfl
      | true=>exact absurd (Nat.eq_of_beq_eq_true hq) h
     simp only [hb]
     cases qm7 L c f l k (p.set (chL L c f p).1 (chL L c f p).2) (u + 1) with
     | found q w=>rfl
     | spent q=>rfl
     | proof t w=>
      simp only [];rw [ih]
      cases qm7 L c f l k (p.set (chL L c f p).1 (1 - (chL L c f p).2)) w with
      | found q w=>rfl
      | spent q=>rfl
      | proof t2 w2=>
       simp only [qp3]
       cases (chL L c f p).2 with
       | zero=>rfl
       | succ v=>rw [if_neg (by omega)]
end
section
open Go
def qr6 (c:Ci) (n p:Int):Bool:=decide (0≤n) && decide (n < c.n.length) && decide (-1≤p) && decide (p < ((c.nd n.toNat).i.length:Int))
theorem qy2 (c:Ci) (n p:Int):qab Tryz.prog gl0 90 [c.v,.agg [.int .i64 n,.int .i64 p]] (.bool (qr6 c n p)):=by
 unfold qr6;refine jpb 2 ok90 rfl ?_;simp [i90,x90,qaa];intro gf1 gf2 gm;by_cases h1:0≤n
 ·obtain ⟨k,rfl⟩:∃ k:Nat,n = (k:Int):=⟨n.toNat,by omega⟩;by_cases h2:k < c.n.length
  ·obtain ⟨y,hy⟩:∃ y,c.n[k] = y:=⟨_,rfl⟩;have hnd:=c.nd_get h2;rw [hy] at hnd;by_cases h3:-1≤p
   ·simp [h2,h3,hy,hnd,qaa]
    try rfl
   ·simp [h2,h3,hy,hnd,qaa]
    try rfl
  ·have h2':¬ (k:Int) < (c.n.length:Int):=by omega
   simp [h2,qaa]
   try rfl
 ·simp [h1,qaa]
  try rfl
def jcl (c:Ci) (f:Fw) (B:Int):Int:=if 3 < f.m then 1 else if 1 < f.v then 1 else if qr6 c f.n f.p = false then 1 else if 2≤f.m then B else if f.o ≠ 0 then 1 else 0
theorem qyc (c:Ci) (hg:c.good) (f:Fw) (B:Int) (hB:¬ 3 < f.m->¬ 1 < f.v->qr6 c f.n f.p = true->2≤f.m->qab Tryz.prog gl0 91 [c.v,f.w] (.int .i64 B)):qab Tryz.prog gl0 43 [c.v,f.w] (.int .i64 (jcl c f B)):=by
 have h1:=qs0 c hg;have h2:=qy2 c f.n f.p;unfold jcl;simp only [Fw.w] at hB ⊢;generalize qr6 c f.n f.p = L at h2 hB ⊢;refine jpb 2 jle rfl ?_;simp [i43,x43,qaa];intro gf1 gf2;refine jo7 h1 (by simp) ?_;by_cases e1:3 < f.m
 ·simp [e1]
 by_cases e2:1 < f.v
 ·simp [e1,e2]
 simp [e1,e2];refine jo7 h2 (by simp) ?_
 cases L with
 | false=>simp
 | true=>
  by_cases e3:2≤f.m
  ·simp [e3];refine jo7 (hB e1 e2 rfl e3) (by simp) ?_;simp
  ·by_cases e4:f.o = 0
   ·simp [e3,e4]
   ·simp [e3,e4]
def q8v (c:Ci) (f:Fw) (B l:Int):Int:=if jcl c f B ≠ 0 then jcl c f B else if f.m ≠ 0 then 7 else jap l
theorem qk3 (c:Ci) (hg:c.good) (hk:c.plain) (f:Fw) (B l:Int) (hB:¬ 3 < f.m->¬ 1 < f.v->qr6 c f.n f.p = true->2≤f.m->qab Tryz.prog gl0 91 [c.v,f.w] (.int .i64 B)):qab Tryz.prog gl0 92 [c.v,f.w,.int .i64 l] (.int .i64 (q8v c f B l)):=by
 have h1:=qjs c hg hk;have h2:=qyc c hg f B hB;unfold q8v;simp only [Fw.w] at h2 ⊢;generalize jcl c f B = E at h2 ⊢;refine jpb 2 jlg rfl ?_;simp [i92,x92];intro gf1 gf2;refine jo7 h1 (by simp) ?_;simp;refine jo7 h2 (by simp) ?_;by_cases e0:E = 0
 ·by_cases hm:f.m = 0
  ·unfold jap;by_cases h3:l < 0
   ·simp [e0,hm,h3]
   ·by_cases h4:1000000 < l
    ·simp [e0,hm,h3,h4]
    ·simp [e0,hm,h3,h4]
  ·simp [e0,hm]
 ·simp [e0]
theorem qyi (c:Ci) (f:Fw) (l e:Int) (he:e ≠ 0) (h:qab Tryz.prog gl0 92 [c.v,f.w,.int .i64 l] (.int .i64 e)):qab Tryz.prog gl0 46 [c.v,f.w,.int .i64 l] (.tup [.agg [.int .u8 0,.nil,.nil,.nil,.int .i64 0],.int .i64 e]):=by
 simp only [Fw.w] at h ⊢;refine jpb 2 ok46 rfl ?_;simp [i46,x46,nop];intro gf1 gf2 gf3;refine jo7 h (by simp) ?_;simp [he,frz,V.mapR,jnh]
end
section
open Go
def fD:Ft:=⟨0,2,0,0,0⟩
def fA:Ft:=⟨0,0,0,0,0⟩
def fO:Ft:=⟨0,2,0,1,0⟩
theorem q7g:fD.ok exC:=⟨by decide,by decide,by decide,by decide,rfl⟩
theorem jif:fA.ok exC:=⟨by decide,by decide,by decide,by decide,rfl⟩
theorem jck:fO.ok xoC:=⟨by decide,by decide,by decide,by decide,rfl⟩
set_option maxRecDepth 100000 in
theorem gen1:qkn exC fD 10 = .proof (.nd 0 .lf .lf) 1:=by
 unfold qkn;rw [qlo q5j];kernel_rfl
set_option maxRecDepth 100000 in
theorem gen2:qkn exC fA 10 = .found ⟨[1,2],[]⟩ 1:=by
 unfold qkn;rw [qlo q5j];kernel_rfl
set_option maxRecDepth 100000 in
theorem gen3:qkn xoC fO 10 = .found ⟨[0,0],[]⟩ 2:=by
 unfold qkn;rw [qlo q6d];kernel_rfl
set_option maxRecDepth 100000 in
theorem gen4:qkn xoC fO 1 = .spent ⟨[0,2],[]⟩:=by
 unfold qkn;rw [qlo q6d];kernel_rfl
def tD:V:=.sl [.agg [.int .i64 0,.int .i64 1,.int .i64 2],.agg [.int .i64 (-1),.int .i64 0,.int .i64 0],.agg [.int .i64 (-1),.int .i64 0,.int .i64 0]] none
theorem g1_c:qab Tryz.prog gl0 46 [exV,.agg [.int .u8 0,.int .i64 2,.int .i64 (-1),.int .u8 0,.int .i64 0],.int .i64 10] (.tup [.agg [.int .u8 2,.nil,.nil,tD,.int .i64 1],.int .i64 0]):=by
 have h:=qyj exC qc1 qc2 fD q7g rfl 10 (by decide);rw [gen1] at h;exact qab.wide h ⟨qly,.refl _,.refl _,trivial⟩ (.refl _)
theorem g2_c:qab Tryz.prog gl0 46 [exV,.agg [.int .u8 0,.int .i64 0,.int .i64 (-1),.int .u8 0,.int .i64 0],.int .i64 10] (.tup [.agg [.int .u8 1,.sl [.int .u8 1,.int .u8 2] (some 2),.sl [] (some 0),.nil,.int .i64 1],.int .i64 0]):=by
 have h:=qyj exC qc1 qc2 fA jif rfl 10 (by decide);rw [gen2] at h;exact qab.wide h ⟨qly,.refl _,.refl _,trivial⟩ (.refl _)
theorem g3_c:qab Tryz.prog gl0 46 [xoV,.agg [.int .u8 0,.int .i64 2,.int .i64 (-1),.int .u8 1,.int .i64 0],.int .i64 10] (.tup [.agg [.int .u8 1,.sl [.int .u8 0,.int .u8 0] (some 2),.sl [] (some 0),.nil,.int .i64 2],.int .i64 0]):=by
 have h:=qyj xoC q1f quy fO jck rfl 10 (by decide);rw [gen3] at h;exact qab.wide h ⟨jfd,.refl _,.refl _,trivial⟩ (.refl _)
theorem g4_c:qab Tryz.prog gl0 46 [xoV,.agg [.int .u8 0,.int .i64 2,.int .i64 (-1),.int .u8 1,.int .i64 0],.int .i64 1] (.tup [.agg [.int .u8 3,.nil,.nil,.nil,.int .i64 1],.int .i64 0]):=by
 have h:=qyj xoC q1f quy fO jck rfl 1 (by decide);rw [gen4] at h;exact qab.wide h ⟨jfd,.refl _,.refl _,trivial⟩ (.refl _)
theorem jh7:qab Tryz.prog gl0 18 [exV,.agg [.int .u8 0,.int .i64 2,.int .i64 (-1),.int .u8 0,.int .i64 0],tD] (.int .i64 0):=by
 have h:=qtg exC qc1 qc2 fD q7g rfl (.nd 0 .lf .lf) ⟨by decide,by decide,trivial,trivial⟩ (by decide);have hg:=qpv exC qc1 qc2 fD q7g rfl 10;rw [gen1] at hg;have e:prB exC fD (.nd 0 .lf .lf) (qd3 exC) = true:=hg.1;rw [if_pos e] at h;exact qab.wide h ⟨qly,.refl _,.refl _,trivial⟩ (.refl _)
theorem g5_c:qab Tryz.prog gl0 46 [exV,.agg [.int .u8 0,.int .i64 2,.int .i64 (-1),.int .u8 0,.int .i64 0],.int .i64 (-1)] (.tup [.agg [.int .u8 0,.nil,.nil,.nil,.int .i64 0],.int .i64 1]):=by
 have h1:=qk3 exC qc1 qc2 ⟨0,2,-1,0,0⟩ 0 (-1) (fun _ _ _ h=>absurd h (by decide));have e:q8v exC ⟨0,2,-1,0,0⟩ 0 (-1) = 1:=by decide
 rw [e] at h1;exact qab.wide (qyi exC _ (-1) 1 (by decide) h1) ⟨qly,.refl _,.refl _,trivial⟩ (.refl _)
theorem g6_c:qab Tryz.prog gl0 46 [exV,.agg [.int .u8 0,.int .i64 9,.int .i64 (-1),.int .u8 0,.int .i64 0],.int .i64 (-1)] (.tup [.agg [.int .u8 0,.nil,.nil,.nil,.int .i64 0],.int .i64 1]):=by
 have h1:=qk3 exC qc1 qc2 ⟨0,9,-1,0,0⟩ 0 (-1) (fun _ _ _ h=>absurd h (by decide));have e:q8v exC ⟨0,9,-1,0,0⟩ 0 (-1) = 1:=by decide
 rw [e] at h1;exact qab.wide (qyi exC _ (-1) 1 (by decide) h1) ⟨qly,.refl _,.refl _,trivial⟩ (.refl _)
set_option maxRecDepth 100000 in
theorem q29:qab Tryz.prog gl0 49 [] (.bool true):=by
 have hex:=ex_c;have h1:=g1_c;have h2:=g2_c;have h3:=g3_c;have h4:=g4_c;have h5:=g5_c;have h6:=g6_c;have h7:=jh7;simp only [exV,xoV,tD] at *;refine jn3 4 2 ok49 rfl ?_;simp [i49,x49,nop];refine KM.mk (.done ?_);simp;refine jo7 hex rfl ?_;simp;intro gf1;refine KM.mk (.done ?_);simp;intro a21 a23 a24 a25 a2;refine KM.mk (.frz (g:=a21 21) (sz:=1) (es:=[.int .i64 0,.int .i64 1]) 21 (by simp) (by simp [jne,V.pure]) ?_);simp [fzF,fzH,fzV,Blk.fz,V.mapR,jnh,fzp,fzf];refine .frz (g:=a23 23) (sz:=4) (es:=[.agg [.int .u8 0,.nil,.int .i64 0,.int .i64 0],.agg [.int .u8 0,.nil,.int .i64 0,.int .i64 0],.agg [.int .u8 9,.sl [.int .i64 0,.int .i64 1] (some 2),.int .i64 0,.int .i64 0]]) 23 (by simp) (by simp [jne,V.pure]) ?_;simp [fzF,fzH,fzV,Blk.fz,V.mapR,jnh,fzp,fzf];refine .frz (g:=a24 24) (sz:=1) (es:=[.str [97],.str [98],.str [120]]) 24 (by simp) (by simp [jne,V.pure]) ?_;simp [fzF,fzH,fzV,Blk.fz,V.mapR,jnh,fzp,fzf];refine .frz (g:=a25 25) (sz:=1) (es:=[.int .i64 2]) 25 (by simp) (by simp [jne,V.pure]) ?_;simp [fzF,fzH,fzV,Blk.fz,V.mapR,jnh,fzp,fzf];refine .done ?_;simp;intro gf3 gf4;refine KM.mk (.done ?_);simp;refine jo7 h1 (by simp [jne,V.pure]) ?_;simp;intro gf5;refine jo7 h2 (by simp [jne,V.pure]) ?_;simp;intro gf7 gf9;refine jo7 h3 (by simp [jne,V.pure]) ?_;simp;intro gf10;refine jo7 h4 (by simp [jne,V.pure]) ?_;simp;intro gf12 gm
 first | refine ⟨_,_,_,.pure h7 (by simp [jne,V.pure]),?_⟩ | refine ⟨_,⟨_,_,.pure h7 (by simp [jne,V.pure])⟩,?_⟩ | refine ⟨_,_,⟨_,.pure h7 (by simp [jne,V.pure])⟩,?_⟩
 simp;refine jo7 h5 (by simp [jne,V.pure]) ?_;simp;intro gf15;refine jo7 h6 (by simp [jne,V.pure]) ?_;simp
 done
end
end Go.Proofs.YtpaopccohkldlaaGreatDoor
