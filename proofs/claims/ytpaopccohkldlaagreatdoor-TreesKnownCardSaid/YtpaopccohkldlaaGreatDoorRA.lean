/- Lemmas. Conditions: none. -/
import Derived.Test.YtpaopccohkldlaaGreatDoorR4
import Derived.Test.YtpaopccohkldlaaGreatDoorR5
import Derived.Test.YtpaopccohkldlaaGreatDoorR7
set_option linter.all false
namespace Go.Proofs.YtpaopccohkldlaaGreatDoor
section
open Go
def exV:V:=.agg [.sl [.agg [.int .u8 0,.nil,.int .i64 0,.int .i64 0],.agg [.int .u8 0,.nil,.int .i64 0,.int .i64 0],.agg [.int .u8 5,.sl [.int .i64 0,.int .i64 1] (some 2),.int .i64 0,.int .i64 0],.agg [.int .u8 7,.sl [.int .i64 0,.int .i64 2] (some 2),.int .i64 0,.int .i64 0]] (some 4),.sl [.str [97],.str [98],.str [100],.str [101]] (some 4),.nil,.sl [.int .i64 3] (some 1)]
theorem ex_c:qac Tryz.prog gl0 54 [] exV:=by
 refine jfu 4 ok54 rfl ?_;simp [i54,x54,nop];intros;simp [frz,V.mapR,jd8,exV]
def exC:Ci:=⟨[⟨0,[],0,0⟩,⟨0,[],0,0⟩,⟨5,[0,1],0,0⟩,⟨7,[0,2],0,0⟩],[[97],[98],[100],[101]],[],[3]⟩
theorem qxb:VLe exV exC.v:=by
 unfold exV Ci.v exC;refine VLe.agg ⟨VLe.trans (.cap _ _) (jfo rfl fun i=>?_),.cap _ _,.nil',.cap _ _,trivial⟩
 match i with
 | 0=>exact ⟨.refl _,.nil',.refl _,.refl _,trivial⟩
 | 1=>exact ⟨.refl _,.nil',.refl _,.refl _,trivial⟩
 | 2=>exact ⟨.refl _,.cap _ _,.refl _,.refl _,trivial⟩
 | 3=>exact ⟨.refl _,.cap _ _,.refl _,.refl _,trivial⟩
 | i + 4=>exact qjt.refl _
theorem q41:shE exC = 0:=by decide
theorem ex_g:exC.g 0 = []/\exC.g 1 = []/\exC.g 2 = [0,1]/\exC.g 3 = [0,2]:=by decide
theorem q0z:qwl exC:=qq8 fun i hi x hx=>by
 obtain ⟨g0,g1,g2,g3⟩:=ex_g
 match i,hi with
 | 0,_=>rw [g0] at hx; simp at hx
 | 1,_=>rw [g1] at hx; simp at hx
 | 2,_=>rw [g2] at hx; simp at hx; omega
 | 3,_=>rw [g3] at hx; simp at hx; omega
 | i + 4,h=>have e:exC.n.length = 4:=rfl; omega
theorem qlg:exC.good where
 wf:=⟨by intro x hx; simp [exC] at hx; rcases hx with rfl | rfl | rfl <;> simp,by intro s hs; simp [exC] at hs; rcases hs with rfl | rfl | rfl | rfl <;> simp⟩
 chk:=by unfold qsn; rw [if_neg (by rw [q41]; simp),if_pos q0z]
 sh:=q41
 ac:=q0z
 m:=rfl
 k:=by intro y hy; simp [exC] at hy; rcases hy with rfl | rfl | rfl <;> simp
 n0:=by decide
 n1:=by decide
theorem qh2:exC.plain:=fun n hn=>by
 match n,hn with
 | 0,_=>decide
 | 1,_=>decide
 | 2,_=>decide
 | 3,_=>decide
 | i + 4,h=>have e:exC.n.length = 4:=rfl; omega
theorem q6f {c:Ci} (hac:qwl c) {L:List Nat} (lv:Nat->Nat) (hlv:qhy c.n.length c.g lv) (hr:InR c.n.length L) (hb:∀ n,n < c.n.length->∀ x ∈ c.g n,x < c.n.length) (hp:L.Pairwise (qc4 lv)):qqv c = L:=by
 have hu:=qhy.unique hb hlv hac.lv;refine Ord.eq ⟨hr,hp.imp_of_mem fun {a b} ha hb' h=>?_⟩;unfold qc4 at h ⊢;rw [<- hu a (hr.lt a ha),<- hu b (hr.lt b hb')];exact h
theorem qtn:qqv exC = [0,1,2,3]:=by
 refine q6f q0z (fun n=>if n = 2 then 1 else if n = 3 then 2 else 0) (fun i hi=>?_) ⟨rfl,by decide⟩ (fun n hn=>?_) (by simp [qc4])
 ·match i,hi with
  | 0,_=>decide
  | 1,_=>decide
  | 2,_=>decide
  | 3,_=>decide
  | i + 4,h=>have e:exC.n.length = 4:=rfl; omega
 ·match n,hn with
  | 0,_=>decide
  | 1,_=>decide
  | 2,_=>decide
  | 3,_=>decide
  | i + 4,h=>have e:exC.n.length = 4:=rfl; omega
def q25 (L:List Nat) (c:Ci) (p:Pt):Nat->Nat:=evl (qxv c) (qdc c) L (ini c p)
def qun (L:List Nat) (c:Ci) (f:Ft) (p:Pt):Nat->Nat:=evl (evM c f.sW f.sQ) (fun _=>true) L (ini c p)
def detL (L:List Nat) (c:Ci) (f:Ft) (p:Pt):Bool:=qpk (qqs c (q25 L c p)) (qqt c (q25 L c p)) (qj4 c (qun L c f p)) (qj5 c f.sQ (qun L c f p))
def jah (L:List Nat) (c:Ci) (f:Ft) (p:Pt):Nat->Bool:=evl (quk c f (q25 L c p) (qun L c f p)) (fun _=>true) L (fun _=>false)
def blkL (L:List Nat) (c:Ci) (f:Ft) (p:Pt):Bool:=
 !(c.o.any fun k=>jah L c f p k.toNat) && (ids 14 c.n 0).all fun n=>if f.n = n/\f.q = 1 then decide (q25 L c p (inD c n) = f.v) else !jah L c f p (inD c n)
theorem q90 {L:List Nat} {c:Ci} (hL:qqv c = L) (f:Ft) (p:Pt):f.det c p = detL L c f p:=by unfold Ft.det visB qgz qmg detL q25 qun; rw [hL]
theorem q30 {L:List Nat} {c:Ci} (hL:qqv c = L) (f:Ft) (p:Pt):qht c f p = blkL L c f p:=by unfold qht qzn Ft.M qgz qmg blkL jah q25 qun; rw [hL]
def fD:Ft:=⟨0,2,0,0,0⟩
def fG:Ft:=⟨0,0,0,1,0⟩
theorem qto:fD.ok exC:=⟨by decide,by decide,by decide,by decide,rfl⟩
theorem q42:fG.ok exC:=⟨by decide,by decide,by decide,by decide,rfl⟩
def exQ (a b:Nat):Pt:=⟨[a,b],[]⟩
theorem qlf (a b:Nat) (ha:a≤2) (hb:b≤2):(exQ a b).fit exC/\(exQ a b).cu:=
 ⟨⟨rfl,rfl,by simp [exQ]; omega,by simp [exQ]⟩,⟨by simp [exQ]; omega,by simp [exQ]⟩⟩
theorem bD:qht exC fD (exQ 2 2) = false/\qht exC fD (exQ 0 2) = true/\qht exC fD (exQ 1 2) = true/\qht exC fD (exQ 2 0) = true:=by
 simp only [q30 qtn];exact ⟨by kernel_rfl,by kernel_rfl,by kernel_rfl,by kernel_rfl⟩
theorem sG:fG.det exC (exQ 0 2) = true:=by
 rw [q90 qtn];kernel_rfl
theorem qrc (c:Ci) (hg:c.good) (hk:c.plain) (f:Ft) (hf:f.ok c) (hm:f.m = 0) (p:Pt) (hp:p.fit c) (hc:p.cu):qac Tryz.prog gl0 29 [c.v,f.w,p.v] (.tup [.bool (qht c f p),.int .i64 0]):=by
 have h1:=qmy c hg hk f hf hm p hp hc;have h2:=qp5 c hg f hf hm p hp;generalize qht c f p = B at h2 ⊢;simp only [Pt.v,Ft.w,u8V,qab] at h1 h2 ⊢;refine jfu 2 ok29 rfl ?_;simp [i29,x29];intro gf1 gf2 gf3;refine jfq h1 (by simp) ?_;simp;refine jfq h2 (by simp) ?_;simp
theorem q13 (c:Ci) (hg:c.good) (hk:c.plain) (f:Ft) (hf:f.ok c) (hm:f.m = 0) (p:Pt) (hp:p.fit c) (hc:p.cu):qac Tryz.prog gl0 30 [c.v,f.w,p.v] (.tup [.bool (f.det c p),.int .i64 0]):=by
 have h1:=qmy c hg hk f hf hm p hp hc;have h2:=q4k c hg f hf hm p hp;generalize f.det c p = B at h2 ⊢;simp only [Pt.v,Ft.w,u8V,qab] at h1 h2 ⊢;refine jfu 2 ok30 rfl ?_;simp [i30,x30];intro gf1 gf2 gf3;refine jfq h1 (by simp) ?_;simp;refine jfq h2 (by simp) ?_;simp
theorem jao (s:List UInt8) (hs:s.length≤1048576):qac Tryz.prog gl0 55 [.str s] (match qcc s with
  | some d=>.sl ((d.fl 0).map Tn.v) (some d.sz)
  | none=>.nil):=by
 have h:=qfb s hs;unfold qj7 at h;refine jfu 2 ok55 rfl ?_;simp [i55,x55];refine jfq h (by simp) ?_
 cases qcc s with
 | none=>simp
 | some d=>
  simp;exact qae _ (qa6 _)
end
section
open Go
theorem dd0:Lib.decDigits 0 = [48]:=by rw [Lib.decDigits]; rfl
theorem dd1:Lib.decDigits 1 = [49]:=by rw [Lib.decDigits]; rfl
theorem qfl (d:DT) (hl:d.lim) (hv:qbn (d.fl 0) 16384 = true):qcc d.tx = some d:=by
 unfold qcc;have h:=qu2 d (d.tx.length + 1) [] hl (by have:=d.sz_tx; omega);rw [List.append_nil] at h;rw [h];simp only [];rw [if_pos hv]
def d0:DT:=.nd 0 .lf .lf
def d1:DT:=.nd 1 .lf d0
def d2:DT:=.nd 0 (.nd 1 .lf .lf) (.nd 1 .lf .lf)
theorem tx0:d0.tx = [40,48,32,46,32,46,41]:=by simp [d0,DT.tx,dd0]
theorem tx1:d1.tx = [40,49,32,46,32,40,48,32,46,32,46,41,41]:=by simp [d1,d0,DT.tx,dd0,dd1]
theorem tx2:d2.tx = [40,48,32,40,49,32,46,32,46,41,32,40,49,32,46,32,46,41,41]:=by simp [d2,DT.tx,dd0,dd1]
theorem p0:qcc [40,48,32,46,32,46,41] = some d0:=by rw [<- tx0]; exact qfl _ ⟨by decide,trivial,trivial⟩ (by decide)
theorem p1:qcc [40,49,32,46,32,40,48,32,46,32,46,41,41] = some d1:=by rw [<- tx1]; exact qfl _ ⟨by decide,trivial,by decide,trivial,trivial⟩ (by decide)
theorem p2:qcc [40,48,32,40,49,32,46,32,46,41,32,40,49,32,46,32,46,41,41] = some d2:=by rw [<- tx2]; exact qfl _ ⟨by decide,⟨by decide,trivial,trivial⟩,⟨by decide,trivial,trivial⟩⟩ (by decide)
theorem pl:qcc [46] = some .lf:=qfl .lf trivial (by decide)
theorem n1:qcc [40,48,48,32,46,32,46,41] = none:=by
 simp [qcc,prs,qi6,dgt,dgB,Lib.decNat,Lib.decFrom,Lib.digitVal,dd0]
theorem n2:qcc [40,48,32,46,46,41] = none:=by
 simp [qcc,prs,qi6,dgt,dgB,Lib.decNat,Lib.decFrom,Lib.digitVal,dd0]
theorem n3:qcc [46,46] = none:=by simp [qcc,prs]
theorem qz8:qc6 exC = exQ 2 2:=rfl
theorem pr0:prB exC fD d0 (qc6 exC) = true/\prB exC fD .lf (qc6 exC) = false/\prB exC fD d1 (qc6 exC) = true/\prB exC fG d0 (qc6 exC) = false/\prB exC fD d2 (qc6 exC) = true/\qb1 exC fD d2 (qc6 exC) = d0:=by
 rw [qz8];obtain ⟨b1,b2,b3,b4⟩:=bD;have s0:(exQ 2 2).set 0 0 = exQ 0 2:=rfl;have s1:(exQ 2 2).set 0 1 = exQ 1 2:=rfl;have s2:(exQ 2 2).set 1 0 = exQ 2 0:=rfl;have s3:(exQ 2 2).set 1 1 = exQ 2 1:=rfl;have s4:(exQ 2 1).set 0 0 = exQ 0 1:=rfl;have s5:(exQ 2 1).set 0 1 = exQ 1 1:=rfl;have s6:(exQ 0 2).set 1 0 = exQ 0 0/\(exQ 0 2).set 1 1 = exQ 0 1/\(exQ 1 2).set 1 0 = exQ 1 0/\(exQ 1 2).set 1 1 = exQ 1 1:=⟨rfl,rfl,rfl,rfl⟩
 have c1:qht exC fD (exQ 0 1) = true/\qht exC fD (exQ 1 1) = true/\qht exC fD (exQ 0 0) = true/\qht exC fD (exQ 1 0) = true/\qht exC fG (exQ 0 2) = false:=by
  simp only [q30 qtn];exact ⟨by kernel_rfl,by kernel_rfl,by kernel_rfl,by kernel_rfl,by kernel_rfl⟩
 obtain ⟨c1,c2,c3,c4,c5⟩:=c1;obtain ⟨s6,s7,s8,s9⟩:=s6;refine ⟨?_,?_,?_,?_,?_,?_⟩
 ·simp only [d0,prB,s0,s1,b2,b3,Bool.and_self]
 ·exact b1
 ·simp only [d1,d0,prB,s2,s3,s4,s5,b4,c1,c2,Bool.and_self]
 ·simp only [d0,prB,s0,c5,Bool.false_and]
 ·simp only [d2,prB,s0,s1,s6,s7,s8,s9,c1,c2,c3,c4,Bool.and_self]
 ·simp only [d2,d0,qb1,b1,s0,s1,b2,b3,if_true,Bool.false_eq_true,if_false]
def qV (a b:Nat):V:=.agg [.sl [.int .u8 a,.int .u8 b] (some 2),.nil]
theorem q_le (a b:Nat):VLe (qV a b) (exQ a b).v:=VLe.agg ⟨VLe.cap _ _,VLe.nil',trivial⟩
def fDV:V:=.agg [.int .u8 0,.int .i64 2,.int .i64 (-1),.int .u8 0,.int .i64 0]
def fGV:V:=.agg [.int .u8 0,.int .i64 0,.int .i64 (-1),.int .u8 1,.int .i64 0]
theorem lb (a b:Nat) (ha:a≤2) (hb:b≤2):qac Tryz.prog gl0 29 [exV,fDV,qV a b] (.tup [.bool (qht exC fD (exQ a b)),.int .i64 0]):=
 qac.wide (qrc exC qlg qh2 fD qto rfl (exQ a b) (qlf a b ha hb).1 (qlf a b ha hb).2) ⟨qxb,.refl _,q_le a b,trivial⟩ (.refl _)
theorem lsn:qac Tryz.prog gl0 30 [exV,fGV,qV 0 2] (.tup [.bool true,.int .i64 0]):=by
 have h:=q13 exC qlg qh2 fG q42 rfl (exQ 0 2) (qlf 0 2 (by omega) (by omega)).1 (qlf 0 2 (by omega) (by omega)).2;rw [sG] at h;exact qac.wide h ⟨qxb,.refl _,q_le 0 2,trivial⟩ (.refl _)
def tnV (d:DT):V:=.sl ((d.fl 0).map Tn.v) (some d.sz)
theorem lck (f:Ft) (hf:f.ok exC) (hm:f.m = 0) (d:DT) (hd:d.ok 2 []) (hs:d.sz < 1000000000) (R:Bool) (hR:prB exC f d (qc6 exC) = R):qac Tryz.prog gl0 18 [exV,f.w,tnV d] (.int .i64 (if R = true then 0 else 10)):=by
 have h:=qp6 exC qlg qh2 f hf hm d hd hs;rw [hR] at h;exact qac.wide h ⟨qxb,.refl _,VLe.cap _ _,trivial⟩ (.refl _)
theorem ltr:qac Tryz.prog gl0 19 [exV,fDV,tnV d2] (.tup [tnV d0,.int .i64 0]):=by
 have h:=q66 exC qlg qh2 fD qto rfl d2 (by decide) ⟨by decide,by decide,⟨by decide,by decide,trivial,trivial⟩,by decide,by decide,trivial,trivial⟩ pr0.2.2.2.2.1;rw [pr0.2.2.2.2.2] at h;exact qac.wide h ⟨qxb,.refl _,VLe.cap _ _,trivial⟩ (.refl _)
theorem Rp.fl {t:List Tn}:∀ (d:DT) (a:Nat),At t d a->Rp t d a
 | .lf,_,h=>h.lf
 | .nd i z o,a,h=>⟨a + 1,a + 1 + z.sz,h.nd,Rp.fl z _ h.z,Rp.fl o _ h.o⟩
theorem ql8 (d:DT) (hs:d.sz < 1000000000) (hlim:d.lim) (hl:d.tx.length≤70368744177664) (cap:Option Nat):qac Tryz.prog gl0 23 [.sl ((d.fl 0).map Tn.v) cap] (.str (if qbn (d.fl 0) 16384 = true then d.tx else [])):=
 qac.wide (qvy (d.fl 0) (by simpa using hs) d (fun _=>⟨Rp.fl d 0 (At.fl d),hlim⟩) hl) ⟨VLe.cap _ _,trivial⟩ (.refl _)
theorem ltx:qac Tryz.prog gl0 23 [tnV d0] (.str [40,48,32,46,32,46,41]):=by
 have h:=ql8 d0 (by decide) ⟨by decide,trivial,trivial⟩ (by rw [tx0]; decide) (some d0.sz);rw [if_pos (by decide),tx0] at h;exact h
theorem lof {s:List UInt8} {d:DT} (h:qcc s = some d) (hs:s.length≤1048576):qac Tryz.prog gl0 55 [.str s] (tnV d):=by
 have:=jao s hs;rw [h] at this;exact this
theorem lno {s:List UInt8} (h:qcc s = none) (hs:s.length≤1048576):qac Tryz.prog gl0 24 [.str s] (.tup [.nil,.int .i64 4]):=by
 have:=qfb s hs;unfold qj7 at this;rw [h] at this;exact this
theorem lva:qac Tryz.prog gl0 26 [.sl [.agg [.int .i64 0,.int .i64 1,.int .i64 2],.agg [.int .i64 (-1),.int .i64 0,.int .i64 0],.agg [.int .i64 0,.int .i64 3,.int .i64 4],.agg [.int .i64 (-1),.int .i64 0,.int .i64 0],.agg [.int .i64 (-1),.int .i64 0,.int .i64 0]] (some 5),.int .i64 2] (.bool false):=by
 have h:=qd1 [⟨0,1,2⟩,lfN,⟨0,3,4⟩,lfN,lfN] 2 (some 5) (by decide);have e:qbn [⟨0,1,2⟩,lfN,⟨0,3,4⟩,lfN,lfN] 2 = false:=by decide
 rw [e] at h;exact h
end
section
open Go
set_option maxRecDepth 100000 in
theorem qg8:qac Tryz.prog gl0 13 [] (.bool true):=by
 have hex:=ex_c;have b0:qac Tryz.prog gl0 29 [exV,fDV,.agg [.sl [.int .u8 2,.int .u8 2] (some 2),.nil]] (.tup [.bool false,.int .i64 0]):=by have h:=lb 2 2 (by omega) (by omega); rw [bD.1] at h; exact h
 have b1:qac Tryz.prog gl0 29 [exV,fDV,.agg [.sl [.int .u8 0,.int .u8 2] (some 2),.nil]] (.tup [.bool true,.int .i64 0]):=by have h:=lb 0 2 (by omega) (by omega); rw [bD.2.1] at h; exact h
 have b2:qac Tryz.prog gl0 29 [exV,fDV,.agg [.sl [.int .u8 1,.int .u8 2] (some 2),.nil]] (.tup [.bool true,.int .i64 0]):=by have h:=lb 1 2 (by omega) (by omega); rw [bD.2.2.1] at h; exact h
 have b3:qac Tryz.prog gl0 29 [exV,fDV,.agg [.sl [.int .u8 2,.int .u8 0] (some 2),.nil]] (.tup [.bool true,.int .i64 0]):=by have h:=lb 2 0 (by omega) (by omega); rw [bD.2.2.2] at h; exact h
 have hs:qac Tryz.prog gl0 30 [exV,fGV,.agg [.sl [.int .u8 0,.int .u8 2] (some 2),.nil]] (.tup [.bool true,.int .i64 0]):=lsn;have k1:=lck fD qto rfl d0 ⟨by decide,by decide,trivial,trivial⟩ (by decide) true pr0.1;have k2:=lck fD qto rfl .lf trivial (by decide) false pr0.2.1;have k3:=lck fD qto rfl d1 ⟨by decide,by decide,trivial,by decide,by decide,trivial,trivial⟩ (by decide) true pr0.2.2.1;have k4:=lck fG q42 rfl d0 ⟨by decide,by decide,trivial,trivial⟩ (by decide) false pr0.2.2.2.1;rw [if_pos rfl] at k1 k3;rw [if_neg (by decide)] at k2 k4;have htr:=ltr;have htx:=ltx;have o0:=lof p0 (by decide);have o1:=lof p1 (by decide);have o2:=lof p2 (by decide);have ol:=lof pl (by decide);have e1:=lno n1 (by decide);have e2:=lno n2 (by decide);have e3:=lno n3 (by decide);have hva:=lva;change qac Tryz.prog gl0 18 [exV,fDV,_] _ at k1;change qac Tryz.prog gl0 18 [exV,fDV,_] _ at k2;change qac Tryz.prog gl0 18 [exV,fDV,_] _ at k3;change qac Tryz.prog gl0 18 [exV,fGV,_] _ at k4;have hT0:(tnV d0).pure = true:=by decide
 have hT1:(tnV d1).pure = true:=by decide
 have hT2:(tnV d2).pure = true:=by decide
 have hTl:(tnV .lf).pure = true:=by decide
 have cT0:(tnV d0).isCell = true:=rfl;generalize tnV d0 = T0 at *;generalize tnV d1 = T1 at *;generalize tnV d2 = T2 at *;generalize tnV .lf = Tl at *;have hx1:exV.pure = true:=by decide
 have hx3:fDV.pure = true:=by decide
 have hx5:fGV.pure = true:=by decide
 refine qac.of_WM 5 2 ok13 rfl ?_;simp [i13,x13,nop];refine KM.mk (.done ?_);simp;have hex':=hex;simp only [exV] at hex';refine jfq hex' rfl ?_;simp;intro gf1;refine KM.mk (.done ?_);simp;intro gf2 gf3;refine KM.mk (.done ?_);simp;intro gf4;refine KM.mk (.done ?_);simp;intro ga gb gc gd ge
 refine jft (X:=Nat) (fun j=>[(31,qab j),(30,.int .i64 4),(29,.ref 29 (ge 29) 0 4 (some 4)),(4,.ref 24 (gf4 24) 0 4 (some 4)),(3,.ptr 3 (gf3 3) 0 0),(2,.ptr 2 (gf2 2) 0 0),(1,.ptr 1 (gf1 1) 0 0)])
  (fun _=>[(29,.row (ge 29) 1 [.ref 25 (ga 25) 0 2 (some 2),.ref 26 (gb 26) 0 2 (some 2),.ref 27 (gc 27) 0 2 (some 2),.ref 28 (gd 28) 0 2 (some 2)]),(28,.row (gd 28) 1 [.int .u8 2,.int .u8 0]),(27,.row (gc 27) 1 [.int .u8 1,.int .u8 2]),(26,.row (gb 26) 1 [.int .u8 0,.int .u8 2]),(25,.row (ga 25) 1 [.int .u8 2,.int .u8 2]),(24,.row (gf4 24) 1 [.bool false,.bool true,.bool true,.bool true]),(3,.row (gf3 3) 5 [fGV]),(2,.row (gf2 2) 5 [fDV]),(1,.row (gf1 1) 4 [exV])])
  (fun j=>j≤4) (fun j=>4 - j) 0 (Nat.zero_le _) (by simp [qab]) (by simp [exV,fDV,fGV]) ?_
 clear hex';obtain ⟨xa,xb,xc,hE,ha,hb,hc,ca,cb,cc⟩:∃ a b c,exV = .agg [a,b,.nil,c]/\a.pure = true/\b.pure = true/\c.pure = true/\a.isCell = true/\b.isCell = true/\c.isCell = true:=⟨_,_,_,rfl,by decide,by decide,by decide,rfl,rfl,rfl⟩;rw [hE] at hs b0 b1 b2 b3 k1 k2 k3 k4 htr;simp only [fDV,fGV] at *;clear hex hx1 hx3 hx5;simp only [hE];clear hE;intro j hj;rcases (by omega:j = 0∨j = 1∨j = 2∨j = 3∨j = 4) with rfl | rfl | rfl | rfl | rfl
 ·simp [qab];refine CallO.borrow 2 b0 (by simp [frz,V.mapR,jd8,lk,qap _ ha,qap _ hb,qap _ hc]) rfl ?_;simp;exact ⟨1,by omega,by simp,by omega⟩
 ·simp [qab];refine CallO.borrow 2 b1 (by simp [frz,V.mapR,jd8,lk,qap _ ha,qap _ hb,qap _ hc]) rfl ?_;simp;exact ⟨2,by omega,by simp,by omega⟩
 ·simp [qab];refine CallO.borrow 2 b2 (by simp [frz,V.mapR,jd8,lk,qap _ ha,qap _ hb,qap _ hc]) rfl ?_;simp;exact ⟨3,by omega,by simp,by omega⟩
 ·simp [qab];refine CallO.borrow 2 b3 (by simp [frz,V.mapR,jd8,lk,qap _ ha,qap _ hb,qap _ hc]) rfl ?_;simp;exact ⟨4,by omega,by simp,by omega⟩
 simp [qab];clear b0 b1 b2 b3;refine KM.mk (.done ?_);simp;intro gh;refine CallO.borrow 2 hs (by simp [frz,V.mapR,jd8,lk,qap _ ha,qap _ hb,qap _ hc]) rfl ?_;simp;clear hs;intro gm1
 first | refine ⟨_,_,_,.pure o2 (by simp),?_⟩ | refine ⟨_,⟨_,_,.pure o2 (by simp)⟩,?_⟩ | refine ⟨_,_,⟨_,.pure o2 (by simp)⟩,?_⟩
 simp
 first | refine ⟨_,_,_,.pure htr (by simp [jd6,V.pure,ha,hb,hc,hT0,hT1,hT2,hTl]),?_⟩ | refine ⟨_,⟨_,_,.pure htr (by simp [jd6,V.pure,ha,hb,hc,hT0,hT1,hT2,hTl])⟩,?_⟩ | refine ⟨_,_,⟨_,.pure htr (by simp [jd6,V.pure,ha,hb,hc,hT0,hT1,hT2,hTl])⟩,?_⟩
 simp;refine ⟨by decide,?_⟩;intro gm2
 first | refine ⟨_,_,_,.pure o0 (by simp),?_⟩ | refine ⟨_,⟨_,_,.pure o0 (by simp)⟩,?_⟩ | refine ⟨_,_,⟨_,.pure o0 (by simp)⟩,?_⟩
 simp
 first | refine ⟨_,_,_,.pure k1 (by simp [jd6,V.pure,ha,hb,hc,hT0,hT1,hT2,hTl]),?_⟩ | refine ⟨_,⟨_,_,.pure k1 (by simp [jd6,V.pure,ha,hb,hc,hT0,hT1,hT2,hTl])⟩,?_⟩ | refine ⟨_,_,⟨_,.pure k1 (by simp [jd6,V.pure,ha,hb,hc,hT0,hT1,hT2,hTl])⟩,?_⟩
 simp
 first | refine ⟨_,_,_,.pure ol (by simp),?_⟩ | refine ⟨_,⟨_,_,.pure ol (by simp)⟩,?_⟩ | refine ⟨_,_,⟨_,.pure ol (by simp)⟩,?_⟩
 simp
 first | refine ⟨_,_,_,.pure k2 (by simp [jd6,V.pure,ha,hb,hc,hT0,hT1,hT2,hTl]),?_⟩ | refine ⟨_,⟨_,_,.pure k2 (by simp [jd6,V.pure,ha,hb,hc,hT0,hT1,hT2,hTl])⟩,?_⟩ | refine ⟨_,_,⟨_,.pure k2 (by simp [jd6,V.pure,ha,hb,hc,hT0,hT1,hT2,hTl])⟩,?_⟩
 simp
 first | refine ⟨_,_,_,.pure o1 (by simp),?_⟩ | refine ⟨_,⟨_,_,.pure o1 (by simp)⟩,?_⟩ | refine ⟨_,_,⟨_,.pure o1 (by simp)⟩,?_⟩
 simp
 first | refine ⟨_,_,_,.pure k3 (by simp [jd6,V.pure,ha,hb,hc,hT0,hT1,hT2,hTl]),?_⟩ | refine ⟨_,⟨_,_,.pure k3 (by simp [jd6,V.pure,ha,hb,hc,hT0,hT1,hT2,hTl])⟩,?_⟩ | refine ⟨_,_,⟨_,.pure k3 (by simp [jd6,V.pure,ha,hb,hc,hT0,hT1,hT2,hTl])⟩,?_⟩
 simp
 first | refine ⟨_,_,_,.pure o0 (by simp),?_⟩ | refine ⟨_,⟨_,_,.pure o0 (by simp)⟩,?_⟩ | refine ⟨_,_,⟨_,.pure o0 (by simp)⟩,?_⟩
 simp
 first | refine ⟨_,_,_,.pure k4 (by simp [jd6,V.pure,ha,hb,hc,hT0,hT1,hT2,hTl]),?_⟩ | refine ⟨_,⟨_,_,.pure k4 (by simp [jd6,V.pure,ha,hb,hc,hT0,hT1,hT2,hTl])⟩,?_⟩ | refine ⟨_,_,⟨_,.pure k4 (by simp [jd6,V.pure,ha,hb,hc,hT0,hT1,hT2,hTl])⟩,?_⟩
 simp
 first | refine ⟨_,_,_,.pure htx (by simp [jd6,V.pure,ha,hb,hc,hT0,hT1,hT2,hTl]),?_⟩ | refine ⟨_,⟨_,_,.pure htx (by simp [jd6,V.pure,ha,hb,hc,hT0,hT1,hT2,hTl])⟩,?_⟩ | refine ⟨_,_,⟨_,.pure htx (by simp [jd6,V.pure,ha,hb,hc,hT0,hT1,hT2,hTl])⟩,?_⟩
 simp;refine ⟨by decide,?_⟩;refine jfq e1 rfl ?_;simp;refine jfq e2 rfl ?_;simp;refine jfq e3 rfl ?_;simp;intro gl;refine CallO.borrow 2 hva (by simp [frz,V.mapR,jd8,lk]) rfl ?_;simp
end
end Go.Proofs.YtpaopccohkldlaaGreatDoor
