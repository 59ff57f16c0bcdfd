/- Lemmas. Conditions: none. -/
import Derived.Test.YtpaopccohkldlaaGreatDoorWC
import Derived.Test.YtpaopccohkldlaaGreatDoorA5
set_option linter.all false
namespace Go.Proofs.YtpaopccohkldlaaGreatDoor
section
open Go
def exV:V:=.agg [.sl [.agg [.int .u8 0,.nil,.int .i64 0,.int .i64 0],.agg [.int .u8 0,.nil,.int .i64 0,.int .i64 0],.agg [.int .u8 5,.sl [.int .i64 0,.int .i64 1] (some 2),.int .i64 0,.int .i64 0],.agg [.int .u8 7,.sl [.int .i64 0,.int .i64 2] (some 2),.int .i64 0,.int .i64 0]] (some 4),.sl [.str [97],.str [98],.str [100],.str [101]] (some 4),.nil,.sl [.int .i64 3] (some 1)]
theorem ex_c:qac Tryz.prog gl0 53 [] exV:=by
 refine jo3 4 ok53 rfl ?_;simp [i53,x53,nop];intros;simp [frz,V.mapR,jnc,exV]
def exC:Ci:=⟨[⟨0,[],0,0⟩,⟨0,[],0,0⟩,⟨5,[0,1],0,0⟩,⟨7,[0,2],0,0⟩],[[97],[98],[100],[101]],[],[3]⟩
theorem qye:VLe exV exC.v:=by
 unfold exV Ci.v exC;refine VLe.agg ⟨VLe.trans (.cap _ _) (jn6 rfl fun i=>?_),.cap _ _,.nil',.cap _ _,trivial⟩
 match i with
 | 0=>exact ⟨.refl _,.nil',.refl _,.refl _,trivial⟩
 | 1=>exact ⟨.refl _,.nil',.refl _,.refl _,trivial⟩
 | 2=>exact ⟨.refl _,.cap _ _,.refl _,.refl _,trivial⟩
 | 3=>exact ⟨.refl _,.cap _ _,.refl _,.refl _,trivial⟩
 | i + 4=>exact qf1.refl _
theorem jci:shE exC = 0:=by decide
theorem ex_g:exC.g 0 = []/\exC.g 1 = []/\exC.g 2 = [0,1]/\exC.g 3 = [0,2]:=by decide
theorem q7n:qvk exC:=qgi fun i hi x hx=>by
 obtain ⟨g0,g1,g2,g3⟩:=ex_g
 match i,hi with
 | 0,_=>rw [g0] at hx; simp at hx
 | 1,_=>rw [g1] at hx; simp at hx
 | 2,_=>rw [g2] at hx; simp at hx; omega
 | 3,_=>rw [g3] at hx; simp at hx; omega
 | i + 4,h=>have e:exC.n.length = 4:=rfl; omega
theorem qit:exC.good where
 wf:=⟨by intro x hx; simp [exC] at hx; rcases hx with rfl | rfl | rfl <;> simp,by intro s hs; simp [exC] at hs; rcases hs with rfl | rfl | rfl | rfl <;> simp⟩
 chk:=by unfold qme; rw [if_neg (by rw [jci]; simp),if_pos q7n]
 sh:=jci
 ac:=q7n
 m:=rfl
 k:=by intro y hy; simp [exC] at hy; rcases hy with rfl | rfl | rfl <;> simp
 n0:=by decide
 n1:=by decide
theorem qgm:exC.plain:=fun n hn=>by
 match n,hn with
 | 0,_=>decide
 | 1,_=>decide
 | 2,_=>decide
 | 3,_=>decide
 | i + 4,h=>have e:exC.n.length = 4:=rfl; omega
def xoV:V:=.agg [.sl [.agg [.int .u8 0,.nil,.int .i64 0,.int .i64 0],.agg [.int .u8 0,.nil,.int .i64 0,.int .i64 0],.agg [.int .u8 9,.sl [.int .i64 0,.int .i64 1] (some 2),.int .i64 0,.int .i64 0]] (some 3),.sl [.str [97],.str [98],.str [120]] (some 3),.nil,.sl [.int .i64 2] (some 1)]
def xoC:Ci:=⟨[⟨0,[],0,0⟩,⟨0,[],0,0⟩,⟨9,[0,1],0,0⟩],[[97],[98],[120]],[],[2]⟩
theorem je4:VLe xoV xoC.v:=by
 unfold xoV Ci.v xoC;refine VLe.agg ⟨VLe.trans (.cap _ _) (jn6 rfl fun i=>?_),.cap _ _,.nil',.cap _ _,trivial⟩
 match i with
 | 0=>exact ⟨.refl _,.nil',.refl _,.refl _,trivial⟩
 | 1=>exact ⟨.refl _,.nil',.refl _,.refl _,trivial⟩
 | 2=>exact ⟨.refl _,.cap _ _,.refl _,.refl _,trivial⟩
 | i + 3=>exact qf1.refl _
theorem je5:shE xoC = 0:=by decide
theorem xo_g:xoC.g 0 = []/\xoC.g 1 = []/\xoC.g 2 = [0,1]:=by decide
theorem jaf:qvk xoC:=qgi fun i hi x hx=>by
 obtain ⟨g0,g1,g2⟩:=xo_g
 match i,hi with
 | 0,_=>rw [g0] at hx; simp at hx
 | 1,_=>rw [g1] at hx; simp at hx
 | 2,_=>rw [g2] at hx; simp at hx; omega
 | i + 3,h=>have e:xoC.n.length = 3:=rfl; omega
theorem q1j:xoC.good where
 wf:=⟨by intro x hx; simp [xoC] at hx; rcases hx with rfl | rfl <;> simp,by intro s hs; simp [xoC] at hs; rcases hs with rfl | rfl | rfl <;> simp⟩
 chk:=by unfold qme; rw [if_neg (by rw [je5]; simp),if_pos jaf]
 sh:=je5
 ac:=jaf
 m:=rfl
 k:=by intro y hy; simp [xoC] at hy; rcases hy with rfl | rfl <;> simp
 n0:=by decide
 n1:=by decide
theorem qvg:xoC.plain:=fun n hn=>by
 match n,hn with
 | 0,_=>decide
 | 1,_=>decide
 | 2,_=>decide
 | i + 3,h=>have e:xoC.n.length = 3:=rfl; omega
theorem q58 {c:Ci} (hac:qvk c) {L:List Nat} (lv:Nat->Nat) (hlv:qij c.n.length c.g lv) (hr:InR c.n.length L) (hb:∀ n,n < c.n.length->∀ x ∈ c.g n,x < c.n.length) (hp:L.Pairwise (qdk lv)):qi5 c = L:=by
 have hu:=qij.unique hb hlv hac.lv;refine Ord.eq ⟨hr,hp.imp_of_mem fun {a b} ha hb' h=>?_⟩;unfold qdk at h ⊢;rw [<- hu a (hr.lt a ha),<- hu b (hr.lt b hb')];exact h
theorem q5q:qi5 exC = [0,1,2,3]:=by
 refine q58 q7n (fun n=>if n = 2 then 1 else if n = 3 then 2 else 0) (fun i hi=>?_) ⟨rfl,by decide⟩ (fun n hn=>?_) (by simp [qdk])
 ·match i,hi with
  | 0,_=>decide
  | 1,_=>decide
  | 2,_=>decide
  | 3,_=>decide
  | i + 4,h=>have e:exC.n.length = 4:=rfl; omega
 ·match n,hn with
  | 0,_=>decide
  | 1,_=>decide
  | 2,_=>decide
  | 3,_=>decide
  | i + 4,h=>have e:exC.n.length = 4:=rfl; omega
theorem q6m:qi5 xoC = [0,1,2]:=by
 refine q58 jaf (fun n=>if n = 2 then 1 else 0) (fun i hi=>?_) ⟨rfl,by decide⟩ (fun n hn=>?_) (by simp [qdk])
 ·match i,hi with
  | 0,_=>decide
  | 1,_=>decide
  | 2,_=>decide
  | i + 3,h=>have e:xoC.n.length = 3:=rfl; omega
 ·match n,hn with
  | 0,_=>decide
  | 1,_=>decide
  | 2,_=>decide
  | i + 3,h=>have e:xoC.n.length = 3:=rfl; omega
def q55 (L:List Nat) (c:Ci) (p:Pt):Nat->Nat:=evl (q1p c) (qb2 c) L (ini c p)
def qsz (L:List Nat) (c:Ci) (f:Ft) (p:Pt):Nat->Nat:=evl (evM c f.sW f.sQ) (fun _=>true) L (ini c p)
def jfl (L:List Nat) (c:Ci) (f:Ft) (p:Pt):Bool:=qmp (qnf c (q55 L c p)) (qng c (q55 L c p)) (qgt c (qsz L c f p)) (qgu c f.sQ (qsz L c f p))
def jis (L:List Nat) (c:Ci) (f:Ft) (p:Pt):Nat->Bool:=evl (qop c f (q55 L c p) (qsz L c f p)) (fun _=>true) L (fun _=>false)
def jfe (L:List Nat) (c:Ci) (f:Ft) (p:Pt):Bool:=
 !(c.o.any fun k=>jis L c f p k.toNat) && (ids 14 c.n 0).all fun n=>if f.n = n/\f.q = 1 then decide (q55 L c p (inD c n) = f.v) else !jis L c f p (inD c n)
def jgw (L:List Nat) (c:Ci) (f:Ft):Sea:=⟨c,f,tab c.n.length fun i=>(((ctL c (fun _=>none) L i).1:Int),((ctL c (fun _=>none) L i).2:Int)),some c.n.length,L,some c.n.length,ids 0 c.n 0 ++ ids 14 c.n 0⟩
def chL (L:List Nat) (c:Ci) (f:Ft) (p:Pt):Nat × Nat:=qce (jgw L c f) p (q55 L c p) (qsz L c f p)
def qnt (L:List Nat) (c:Ci) (f:Ft) (l:Nat):Nat->Pt->Nat->VR
 | 0,p,_=>.spent p
 | k + 1,p,u=>
  match jfl L c f p with
  | true=>.found p u
  | false=>match jfe L c f p with
   | true=>.proof .lf u
   | false=>match Nat.beq u l with
    | true=>.spent p
    | false=>match qnt L c f l k (p.set (chL L c f p).1 (chL L c f p).2) (u + 1) with
     | .found q w=>.found q w
     | .spent q=>.spent q
     | .proof t w=>match qnt L c f l k (p.set (chL L c f p).1 (1 - (chL L c f p).2)) w with
      | .found q w=>.found q w
      | .spent q=>.spent q
      | .proof t2 w2=>.proof (match (chL L c f p).2 with | 0=>.nd (chL L c f p).1 t t2 | _ + 1=>.nd (chL L c f p).1 t2 t) w2
theorem ql7 {L:List Nat} {c:Ci} (hL:qi5 c = L) (f:Ft) (l:Nat):∀ (k:Nat) (p:Pt) (u:Nat),qbk (sea c f) l k p u = qnt L c f l k p u
 | 0,p,u=>rfl
 | k + 1,p,u=>by
  have e1:f.det c p = jfl L c f p:=by unfold Ft.det jgz qbm qjo jfl q55 qsz; rw [hL]
  have e2:qma c f p = jfe L c f p:=by unfold qma qq0 Ft.M qbm qjo jfe jis q55 qsz; rw [hL]
  have e3:chS (sea c f) p = chL L c f p:=by
   unfold chS chL;have:sea c f = jgw L c f:=by unfold sea jgw ctl; rw [hL]
   rw [this];show qce (jgw L c f) p (qbm c p) (f.M c p) = _;unfold Ft.M qbm qjo q55 qsz; rw [hL]
  have ih:=ql7 hL f l k;rw [qve,qnt];show (if f.det c p = true then _ else if qma c f p = true then _ else _) = _;rw [e1,e2,e3]
  cases jfl L c f p with
  | true=>rfl
  | false=>
   cases jfe L c f p with
   | true=>rfl
   | false=>
    rw [if_neg (by simp),if_neg (by simp)];by_cases h:u = l
    ·subst h;rw [if_pos rfl,Nat.beq_refl]
    ·rw [if_neg h,ih]
     have hb:Nat.beq u l = false:=by
      cases hq:Nat.beq u l with
      | false=>rfl
      | true=>exact absurd (Nat.eq_of_beq_eq_true hq) h
     simp only [hb]
     cases qnt L c f l k (p.set (chL L c f p).1 (chL L c f p).2) (u + 1) with
     | found q w=>rfl
     | spent q=>rfl
     | proof t w=>
      simp only [];rw [ih]
      cases qnt L c f l k (p.set (chL L c f p).1 (1 - (chL L c f p).2)) w with
      | found q w=>rfl
      | spent q=>rfl
      | proof t2 w2=>
       simp only [qqr]
       cases (chL L c f p).2 with
       | zero=>rfl
       | succ v=>rw [if_neg (by omega)]
end
section
open Go
def qh1 (c:Ci) (n p:Int):Bool:=decide (0≤n) && decide (n < c.n.length) && decide (-1≤p) && decide (p < ((c.nd n.toNat).i.length:Int))
theorem q8b (c:Ci) (n p:Int):qac Tryz.prog gl0 90 [c.v,.agg [.int .i64 n,.int .i64 p]] (.bool (qh1 c n p)):=by
 unfold qh1;refine jo3 2 ok90 rfl ?_;simp [i90,x90,qaa];intro gf1 gf2 gm;by_cases h1:0≤n
 ·obtain ⟨k,rfl⟩:∃ k:Nat,n = (k:Int):=⟨n.toNat,by omega⟩;by_cases h2:k < c.n.length
  ·obtain ⟨y,hy⟩:∃ y,c.n[k] = y:=⟨_,rfl⟩;have hnd:=c.nd_get h2;rw [hy] at hnd;by_cases h3:-1≤p
   ·simp [h2,h3,hy,hnd,qaa]
    try rfl
   ·simp [h2,h3,hy,hnd,qaa]
    try rfl
  ·have h2':¬ (k:Int) < (c.n.length:Int):=by omega
   simp [h2,qaa]
   try rfl
 ·simp [h1,qaa]
  try rfl
def qyj (c:Ci) (f:Fw) (B:Int):Int:=if 3 < f.m then 1 else if 1 < f.v then 1 else if qh1 c f.n f.p = false then 1 else if 2≤f.m then B else if f.o ≠ 0 then 1 else 0
theorem qqe (c:Ci) (hg:c.good) (f:Fw) (B:Int) (hB:¬ 3 < f.m->¬ 1 < f.v->qh1 c f.n f.p = true->2≤f.m->qac Tryz.prog gl0 91 [c.v,f.w] (.int .i64 B)):qac Tryz.prog gl0 43 [c.v,f.w] (.int .i64 (qyj c f B)):=by
 have h1:=q09 c hg;have h2:=q8b c f.n f.p;unfold qyj;simp only [Fw.w] at hB ⊢;generalize qh1 c f.n f.p = L at h2 hB ⊢;refine jo3 2 ok43 rfl ?_;simp [i43,x43,qaa];intro gf1 gf2;refine joz h1 (by simp) ?_;by_cases e1:3 < f.m
 ·simp [e1]
 by_cases e2:1 < f.v
 ·simp [e1,e2]
 simp [e1,e2];refine joz h2 (by simp) ?_
 cases L with
 | false=>simp
 | true=>
  by_cases e3:2≤f.m
  ·simp [e3];refine joz (hB e1 e2 rfl e3) (by simp) ?_;simp
  ·by_cases e4:f.o = 0
   ·simp [e3,e4]
   ·simp [e3,e4]
def qrz (c:Ci) (f:Fw) (B l:Int):Int:=if qyj c f B ≠ 0 then qyj c f B else if f.m ≠ 0 then 7 else q1o l
theorem qlm (c:Ci) (hg:c.good) (hk:c.plain) (f:Fw) (B l:Int) (hB:¬ 3 < f.m->¬ 1 < f.v->qh1 c f.n f.p = true->2≤f.m->qac Tryz.prog gl0 91 [c.v,f.w] (.int .i64 B)):qac Tryz.prog gl0 92 [c.v,f.w,.int .i64 l] (.int .i64 (qrz c f B l)):=by
 have h1:=qo1 c hg hk;have h2:=qqe c hg f B hB;unfold qrz;simp only [Fw.w] at h2 ⊢;generalize qyj c f B = E at h2 ⊢;refine jo3 2 jlb rfl ?_;simp [i92,x92];intro gf1 gf2;refine joz h1 (by simp) ?_;simp;refine joz h2 (by simp) ?_;by_cases e0:E = 0
 ·by_cases hm:f.m = 0
  ·unfold q1o;by_cases h3:l < 0
   ·simp [e0,hm,h3]
   ·by_cases h4:1000000 < l
    ·simp [e0,hm,h3,h4]
    ·simp [e0,hm,h3,h4]
  ·simp [e0,hm]
 ·simp [e0]
theorem qud (c:Ci) (f:Fw) (l e:Int) (he:e ≠ 0) (h:qac Tryz.prog gl0 92 [c.v,f.w,.int .i64 l] (.int .i64 e)):qac Tryz.prog gl0 46 [c.v,f.w,.int .i64 l] (.tup [.agg [.int .u8 0,.nil,.nil,.nil,.int .i64 0],.int .i64 e]):=by
 simp only [Fw.w] at h ⊢;refine jo3 2 ok46 rfl ?_;simp [i46,x46,nop];intro gf1 gf2 gf3;refine joz h (by simp) ?_;simp [he,frz,V.mapR,jnc]
end
section
open Go
def fD:Ft:=⟨0,2,0,0,0⟩
def fA:Ft:=⟨0,0,0,0,0⟩
def fO:Ft:=⟨0,2,0,1,0⟩
theorem q7o:fD.ok exC:=⟨by decide,by decide,by decide,by decide,rfl⟩
theorem jh8:fA.ok exC:=⟨by decide,by decide,by decide,by decide,rfl⟩
theorem jcj:fO.ok xoC:=⟨by decide,by decide,by decide,by decide,rfl⟩
set_option maxRecDepth 100000 in
theorem gen1:qmk exC fD 10 = .proof (.nd 0 .lf .lf) 1:=by
 unfold qmk;rw [ql7 q5q];kernel_rfl
set_option maxRecDepth 100000 in
theorem gen2:qmk exC fA 10 = .found ⟨[1,2],[]⟩ 1:=by
 unfold qmk;rw [ql7 q5q];kernel_rfl
set_option maxRecDepth 100000 in
theorem gen3:qmk xoC fO 10 = .found ⟨[0,0],[]⟩ 2:=by
 unfold qmk;rw [ql7 q6m];kernel_rfl
set_option maxRecDepth 100000 in
theorem gen4:qmk xoC fO 1 = .spent ⟨[0,2],[]⟩:=by
 unfold qmk;rw [ql7 q6m];kernel_rfl
def tD:V:=.sl [.agg [.int .i64 0,.int .i64 1,.int .i64 2],.agg [.int .i64 (-1),.int .i64 0,.int .i64 0],.agg [.int .i64 (-1),.int .i64 0,.int .i64 0]] none
theorem g1_c:qac Tryz.prog gl0 46 [exV,.agg [.int .u8 0,.int .i64 2,.int .i64 (-1),.int .u8 0,.int .i64 0],.int .i64 10] (.tup [.agg [.int .u8 2,.nil,.nil,tD,.int .i64 1],.int .i64 0]):=by
 have h:=qyq exC qit qgm fD q7o rfl 10 (by decide);rw [gen1] at h;exact qac.wide h ⟨qye,.refl _,.refl _,trivial⟩ (.refl _)
theorem g2_c:qac Tryz.prog gl0 46 [exV,.agg [.int .u8 0,.int .i64 0,.int .i64 (-1),.int .u8 0,.int .i64 0],.int .i64 10] (.tup [.agg [.int .u8 1,.sl [.int .u8 1,.int .u8 2] (some 2),.sl [] (some 0),.nil,.int .i64 1],.int .i64 0]):=by
 have h:=qyq exC qit qgm fA jh8 rfl 10 (by decide);rw [gen2] at h;exact qac.wide h ⟨qye,.refl _,.refl _,trivial⟩ (.refl _)
theorem g3_c:qac Tryz.prog gl0 46 [xoV,.agg [.int .u8 0,.int .i64 2,.int .i64 (-1),.int .u8 1,.int .i64 0],.int .i64 10] (.tup [.agg [.int .u8 1,.sl [.int .u8 0,.int .u8 0] (some 2),.sl [] (some 0),.nil,.int .i64 2],.int .i64 0]):=by
 have h:=qyq xoC q1j qvg fO jcj rfl 10 (by decide);rw [gen3] at h;exact qac.wide h ⟨je4,.refl _,.refl _,trivial⟩ (.refl _)
theorem g4_c:qac Tryz.prog gl0 46 [xoV,.agg [.int .u8 0,.int .i64 2,.int .i64 (-1),.int .u8 1,.int .i64 0],.int .i64 1] (.tup [.agg [.int .u8 3,.nil,.nil,.nil,.int .i64 1],.int .i64 0]):=by
 have h:=qyq xoC q1j qvg fO jcj rfl 1 (by decide);rw [gen4] at h;exact qac.wide h ⟨je4,.refl _,.refl _,trivial⟩ (.refl _)
theorem jhz:qac Tryz.prog gl0 18 [exV,.agg [.int .u8 0,.int .i64 2,.int .i64 (-1),.int .u8 0,.int .i64 0],tD] (.int .i64 0):=by
 have h:=q19 exC qit qgm fD q7o rfl (.nd 0 .lf .lf) ⟨by decide,by decide,trivial,trivial⟩ (by decide);have hg:=q5v exC qit qgm fD q7o rfl 10;rw [gen1] at hg;have e:prB exC fD (.nd 0 .lf .lf) (qgj exC) = true:=hg.1;rw [if_pos e] at h;exact qac.wide h ⟨qye,.refl _,.refl _,trivial⟩ (.refl _)
theorem g5_c:qac Tryz.prog gl0 46 [exV,.agg [.int .u8 0,.int .i64 2,.int .i64 (-1),.int .u8 0,.int .i64 0],.int .i64 (-1)] (.tup [.agg [.int .u8 0,.nil,.nil,.nil,.int .i64 0],.int .i64 1]):=by
 have h1:=qlm exC qit qgm ⟨0,2,-1,0,0⟩ 0 (-1) (fun _ _ _ h=>absurd h (by decide));have e:qrz exC ⟨0,2,-1,0,0⟩ 0 (-1) = 1:=by decide
 rw [e] at h1;exact qac.wide (qud exC _ (-1) 1 (by decide) h1) ⟨qye,.refl _,.refl _,trivial⟩ (.refl _)
theorem g6_c:qac Tryz.prog gl0 46 [exV,.agg [.int .u8 0,.int .i64 9,.int .i64 (-1),.int .u8 0,.int .i64 0],.int .i64 (-1)] (.tup [.agg [.int .u8 0,.nil,.nil,.nil,.int .i64 0],.int .i64 1]):=by
 have h1:=qlm exC qit qgm ⟨0,9,-1,0,0⟩ 0 (-1) (fun _ _ _ h=>absurd h (by decide));have e:qrz exC ⟨0,9,-1,0,0⟩ 0 (-1) = 1:=by decide
 rw [e] at h1;exact qac.wide (qud exC _ (-1) 1 (by decide) h1) ⟨qye,.refl _,.refl _,trivial⟩ (.refl _)
set_option maxRecDepth 100000 in
theorem q3f:qac Tryz.prog gl0 49 [] (.bool true):=by
 have hex:=ex_c;have h1:=g1_c;have h2:=g2_c;have h3:=g3_c;have h4:=g4_c;have h5:=g5_c;have h6:=g6_c;have h7:=jhz;simp only [exV,xoV,tD] at *;refine jnx 4 2 ok49 rfl ?_;simp [i49,x49,nop];refine KM.mk (.done ?_);simp;refine joz hex rfl ?_;simp;intro gf1;refine KM.mk (.done ?_);simp;intro a21 a23 a24 a25 a2;refine KM.mk (.frz (g:=a21 21) (sz:=1) (es:=[.int .i64 0,.int .i64 1]) 21 (by simp) (by simp [jm8,V.pure]) ?_);simp [fzF,fzH,fzV,Blk.fz,V.mapR,jnc,fzp,fzf];refine .frz (g:=a23 23) (sz:=4) (es:=[.agg [.int .u8 0,.nil,.int .i64 0,.int .i64 0],.agg [.int .u8 0,.nil,.int .i64 0,.int .i64 0],.agg [.int .u8 9,.sl [.int .i64 0,.int .i64 1] (some 2),.int .i64 0,.int .i64 0]]) 23 (by simp) (by simp [jm8,V.pure]) ?_;simp [fzF,fzH,fzV,Blk.fz,V.mapR,jnc,fzp,fzf];refine .frz (g:=a24 24) (sz:=1) (es:=[.str [97],.str [98],.str [120]]) 24 (by simp) (by simp [jm8,V.pure]) ?_;simp [fzF,fzH,fzV,Blk.fz,V.mapR,jnc,fzp,fzf];refine .frz (g:=a25 25) (sz:=1) (es:=[.int .i64 2]) 25 (by simp) (by simp [jm8,V.pure]) ?_;simp [fzF,fzH,fzV,Blk.fz,V.mapR,jnc,fzp,fzf];refine .done ?_;simp;intro gf3 gf4;refine KM.mk (.done ?_);simp;refine joz h1 (by simp [jm8,V.pure]) ?_;simp;intro gf5;refine joz h2 (by simp [jm8,V.pure]) ?_;simp;intro gf7 gf9;refine joz h3 (by simp [jm8,V.pure]) ?_;simp;intro gf10;refine joz h4 (by simp [jm8,V.pure]) ?_;simp;intro gf12 gm
 first | refine ⟨_,_,_,.pure h7 (by simp [jm8,V.pure]),?_⟩ | refine ⟨_,⟨_,_,.pure h7 (by simp [jm8,V.pure])⟩,?_⟩ | refine ⟨_,_,⟨_,.pure h7 (by simp [jm8,V.pure])⟩,?_⟩
 simp;refine joz h5 (by simp [jm8,V.pure]) ?_;simp;intro gf15;refine joz h6 (by simp [jm8,V.pure]) ?_;simp
 done
end
end Go.Proofs.YtpaopccohkldlaaGreatDoor
