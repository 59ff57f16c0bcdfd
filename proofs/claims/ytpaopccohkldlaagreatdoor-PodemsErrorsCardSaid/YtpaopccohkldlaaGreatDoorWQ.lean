/- Podems: the law Errors. Conditions: none. -/
import Derived.Test.YtpaopccohkldlaaGreatDoorWN
set_option linter.all false
namespace Go.Proofs.YtpaopccohkldlaaGreatDoor
open Go
theorem jhx (x:Cx):x.ci.n.length≤16:=by
 rw [(qku x).2];have:=(qlj x).2.2.2;exact this
noncomputable def r10:XC:=xs2 (xs2 (xs2 (xs2 (xs2 (xs2 x10)))))
def refV:V:=.agg [.int .u8 0,.nil,.nil,.nil,.int .i64 0]
def qwz:Fw:=⟨0,0,-1,0,0⟩
theorem q6a (c:Ci) (f:Fw) (l P e:Int) (he:e ≠ 0) (hlv:qac Tryz.prog gl0 49 [] (.bool true))
  (hG:qac Tryz.prog gl0 46 [c.v,f.w,.int .i64 l] (.tup [refV,.int .i64 e])) (hN:qac Tryz.prog gl0 51 [c.v,.nil,.int .i64 l] (.tup [.sl [] none,.int .i64 P]))
  (hL:qac Tryz.prog gl0 51 [c.v,.sl ([f,qwz].map Fw.w) (some 2),.int .i64 l] (.tup [.sl [] none,.int .i64 e]))
  (g4 g7:Nat) (fr:Fr) (h7:lk fr 7 = some (.ptr 7 g7 0 0)) (h4:lk fr 4 = some (.ptr 4 g4 0 0)) (h2:lk fr 2 = some (.int .i64 l)) (h8:lk fr 8 = some (.int .i64 P)) (h9:lk fr 9 = some (.int .i64 e))
  (hr:Hp):r10.wpF Tryz.prog gl0 (q6d [.tmp 6] 2 (.bool true)) fr ((7,.row g7 4 [c.v]) :: (7,.row g7 4 [.agg [.nil,.nil,.nil,.nil]]) :: (4,.row g4 5 [f.w]) :: hr):=by
 simp only [Fw.w,refV,qwz,List.map_cons,List.map_nil] at hG hL;simp [r10,xs2,x10,h7,h4,h2,h8,h9,Fw.w];refine joz hG (by simp) ?_;simp;intro g10;simp [h7,h2];refine joz hN (by simp) ?_;simp;intro g14;simp [h7,h4,h2];intro g59;refine jn7 59 (by simp; exact ⟨rfl,rfl,rfl⟩) (by simp) ?_;change qau _ _ 51 (List.map _ [c.v,_,_]) _ _;simp [fzV,V.mapR,jnc,fzp,fzf,fzH,Blk.fz,qbe _ (qn0 c),qah,he];refine joz hL (by simp) ?_;simp [h8,h9,he];refine joz hlv (by simp) ?_;simp
set_option maxRecDepth 100000 in
theorem q9a (c:Ci) (f:Fw) (l:Int) (R R1:V) (r0 r1 r2 r3 r4:V) (hR:R = .agg [r0,r1,r2,r3,r4]) (hp:R.pure = true) (hp1:R1.pure = true) (hlv:qac Tryz.prog gl0 49 [] (.bool true))
  (hG:qac Tryz.prog gl0 46 [c.v,f.w,.int .i64 l] (.tup [R,.int .i64 0])) (hN:qac Tryz.prog gl0 51 [c.v,.nil,.int .i64 l] (.tup [.sl [] none,.int .i64 0]))
  (hL:qac Tryz.prog gl0 51 [c.v,.sl ([f,qwz].map Fw.w) (some 2),.int .i64 l] (.tup [.sl [R,R1] none,.int .i64 0])) (hS:qac Tryz.prog gl0 50 [R,R] (.bool true))
  (g4 g7:Nat) (fr:Fr) (h7:lk fr 7 = some (.ptr 7 g7 0 0)) (h4:lk fr 4 = some (.ptr 4 g4 0 0)) (h2:lk fr 2 = some (.int .i64 l)) (h8:lk fr 8 = some (.int .i64 0)) (h9:lk fr 9 = some (.int .i64 0))
  (hr:Hp):r10.wpF Tryz.prog gl0 (q6d [.tmp 6] 2 (.bool true)) fr ((7,.row g7 4 [c.v]) :: (7,.row g7 4 [.agg [.nil,.nil,.nil,.nil]]) :: (4,.row g4 5 [f.w]) :: hr):=by
 subst hR;have hq:=hp;simp only [V.pure,jm8,Bool.and_eq_true] at hp;obtain ⟨p0,p1,p2,p3,p4,-⟩:=hp;simp only [Fw.w,qwz,List.map_cons,List.map_nil] at hG hL;simp [r10,xs2,x10,h7,h4,h2,h8,h9,Fw.w];refine joz hG (by simp) ?_;simp;intro g10;simp [h7,h2];refine joz hN (by simp) ?_;simp;intro g14;simp [h7,h4,h2];intro g59;refine jn7 59 (by simp; exact ⟨rfl,rfl,rfl⟩) (by simp) ?_;change qau _ _ 51 (List.map _ [c.v,_,_]) _ _;have e59:∀ es:List V,es.length = 2->fzV 59 (g59 59) es (.ref 59 (g59 59) 0 2 (some 2)) = .sl es (some 2):=fun es h=>by simp [fzV,V.mapR,fzp,fzf,<- h]
 simp only [List.map_cons,List.map_nil,qgn (qn0 c),e59,List.length_cons,List.length_nil,qgn (v:=V.int _ _) rfl]
 have eB:∀ (g:Nat) (es:List V),(Blk.row (g10 10) 5 [.agg [r0,r1,r2,r3,r4]]).fz 59 g es = .row (g10 10) 5 [.agg [r0,r1,r2,r3,r4]]:=fun g es=>by
  simp only [Blk.fz,List.map_cons,List.map_nil,qgn hq]
 simp [fzH,eB];refine joz hL (by simp) ?_;simp [h8,h9];intro gm
 first | refine ⟨_,_,_,.pure hS (by simp [jm8,V.pure,p0,p1,p2,p3,p4]),?_⟩ | refine ⟨_,⟨_,_,.pure hS (by simp [jm8,V.pure,p0,p1,p2,p3,p4])⟩,?_⟩ | refine ⟨_,_,⟨_,.pure hS (by simp [jm8,V.pure,p0,p1,p2,p3,p4])⟩,?_⟩
 simp
 first | refine ⟨_,_,_,.pure hlv rfl,?_⟩ | refine ⟨_,⟨_,_,.pure hlv rfl⟩,?_⟩ | refine ⟨_,_,⟨_,.pure hlv rfl⟩,?_⟩
 simp
 try decide
def Fw.tt (w:Fw):Ft:=⟨w.m.toNat,w.n.toNat,(w.p + 1).toNat,w.v.toNat,w.o.toNat⟩
theorem q4c (l:Nat) (R:VR):∃ a b c d e,quz l R = .agg [a,b,c,d,e]:=by
 cases R <;> exact ⟨_,_,_,_,_,rfl⟩
theorem qzx (c:Ci) (w:Fw) (B l:Int) (hm:0≤w.m) (hv:0≤w.v) (h:qrz c w B l = 0):w.tt.ok c/\w.tt.m = 0/\w.tt.w = w.w/\0≤l/\l≤1000000:=by
 obtain ⟨m,n,p,v,o⟩:=w;unfold qrz at h;split at h
 ·rename_i h1; exact absurd h h1
 rename_i h1;have h1:qyj c ⟨m,n,p,v,o⟩ B = 0:=by omega
 split at h
 ·cases h
 rename_i h2;unfold qyj at h1;dsimp only at h1 h2 hm hv;have hm0:m = 0:=by omega
 subst hm0;rw [if_neg (by omega)] at h1;split at h1
 ·cases h1
 split at h1
 ·cases h1
 rename_i h4 h5;rw [if_neg (by omega)] at h1;split at h1
 ·cases h1
 rename_i h6;have ho:o = 0:=by omega
 subst ho;unfold q1o at h;split at h
 ·cases h
 split at h
 ·cases h
 simp only [Bool.not_eq_false] at h5;unfold qh1 at h5;simp only [Bool.and_eq_true,decide_eq_true_eq] at h5;obtain ⟨⟨⟨l1,l2⟩,l3⟩,l4⟩:=h5;refine ⟨⟨by simp [Fw.tt],by simp only [Fw.tt]; omega,?_,by simp only [Fw.tt]; omega,by simp [Fw.tt]⟩,by simp [Fw.tt],?_,by omega,by omega⟩
 ·simp only [Fw.tt]; omega
 ·simp only [Fw.tt,Ft.w,Fw.w,u8V,qaa,Ft.pin];rw [Int.toNat_of_nonneg l1,Int.toNat_of_nonneg hv,Int.toNat_of_nonneg (by omega:0≤p + 1)];simp
set_option maxRecDepth 100000 in
theorem q73 (x:Cx) (hx:x.ok) (f:Fw) (hm:0≤f.m) (hv:0≤f.v) (l:Int):qac Tryz.prog gl0 10 [x.v,f.w,.int .i64 l] (.bool true):=by
 have hof:=jh1 x hx;have hcp:=qx3 x;have h16:=jhx x;have hP:=q34 x.ci (jbx x) (q5i x) (by omega);have hpg:=q35 x;generalize x.ci = c at hof h16 hP hpg;have hlv:=q3f;have hR5:∀ w:Fw,∃ a b d e g,quz l.toNat (qmk c w.tt l.toNat) = .agg [a,b,d,e,g]:=fun w=>q4c _ _
 have hN:qac Tryz.prog gl0 51 [c.v,.nil,.int .i64 l] (.tup [.sl [] none,.int .i64 (qut c)]):=by
  have h:=qxg c (qut c) (fun _=>0) (fun w=>quz l.toNat (qmk c w.tt l.toNat)) l hP [] none (fun _ f hf=>by cases hf) (fun _ f hf=>by cases hf) (fun f hf=>by cases hf) (fun f hf=>by cases hf)
  have e:qpv (qut c) (fun _=>0) [] = qut c:=by
   unfold qpv;by_cases h0:qut c = 0
   ·rw [if_neg (by omega),if_neg (by simp),h0]; rfl
   ·rw [if_pos h0]
  rw [e] at h;simp only [List.map_nil,ite_self] at h;exact qac.wide h ⟨.refl _,VLe.nil',.refl _,trivial⟩ (.refl _)
 simp only [Cx.v] at hof hcp;by_cases h0:qut c = 0
 ·obtain ⟨hg,hpl⟩:=hpg h0;rw [h0] at hP hN
  have hB:∀ w:Fw,∃ B:Int,¬ 3 < w.m->¬ 1 < w.v->qh1 c w.n w.p = true->2≤w.m->qac Tryz.prog gl0 91 [c.v,w.w] (.int .i64 B):=fun w=>by
   by_cases h:qh1 c w.n w.p = true/\(w.m = 2∨w.m = 3)
   ·obtain ⟨B,hB⟩:=qxn c hg w h.2 h.1;exact ⟨B,fun _ _ _ _=>hB⟩
   ·exact ⟨0,fun h1 _ h3 h4=>absurd ⟨h3,by omega⟩ h⟩
  obtain ⟨bv,hbv⟩:∃ bv:Fw->Int,∀ w:Fw,¬ 3 < w.m->¬ 1 < w.v->qh1 c w.n w.p = true->2≤w.m->qac Tryz.prog gl0 91 [c.v,w.w] (.int .i64 (bv w)):=⟨fun w=>Classical.choose (hB w),fun w=>Classical.choose_spec (hB w)⟩;have hE:∀ w:Fw,qac Tryz.prog gl0 92 [c.v,w.w,.int .i64 l] (.int .i64 (qrz c w (bv w) l)):=fun w=>qlm c hg hpl w (bv w) l (hbv w)
  have hRr:∀ w:Fw,0≤w.m->0≤w.v->qrz c w (bv w) l = 0->qac Tryz.prog gl0 46 [c.v,w.w,.int .i64 l] (.tup [quz l.toNat (qmk c w.tt l.toNat),.int .i64 0]):=fun w h1 h2 h3=>by
   obtain ⟨k1,k2,k3,k4,k5⟩:=qzx c w _ l h1 h2 h3;have:=qyq c hg hpl w.tt k1 k2 l.toNat (by omega);rw [k3,qaa,Int.toNat_of_nonneg k4] at this;exact this
  have hL:=qxg c 0 (fun w=>qrz c w (bv w) l) (fun w=>quz l.toNat (qmk c w.tt l.toNat)) l hP [f,qwz] (some 2) (fun _ w _=>hE w)
   (fun _ w hw h=>hRr w (by rcases List.mem_cons.1 hw with rfl | hw; exact hm; obtain rfl:=List.mem_singleton.1 hw; decide) (by rcases List.mem_cons.1 hw with rfl | hw; exact hv; obtain rfl:=List.mem_singleton.1 hw; decide) h) (fun w _=>qo6 _ _) (fun w _=>hR5 w)
  have hC:=qqe c hg f (bv f) (hbv f)
  have no:∀ e,e ≠ 0->qrz c f (bv f) l = e->∀ (g4 g7:Nat) (fr:Fr),lk fr 7 = some (.ptr 7 g7 0 0)->lk fr 4 = some (.ptr 4 g4 0 0)->lk fr 2 = some (.int .i64 l)->lk fr 8 = some (.int .i64 0)->lk fr 9 = some (.int .i64 e)->∀ hr (W:V),W = f.w->
    r10.wpF Tryz.prog gl0 (q6d [.tmp 6] 2 (.bool true)) fr ((7,.row g7 4 [c.v]) :: (7,.row g7 4 [.agg [.nil,.nil,.nil,.nil]]) :: (4,.row g4 5 [W]) :: hr):=fun e he hpe g4 g7 fr h7 h4 h2 h8 h9 hr W hW=>by
   subst hW
   have ea:qpv 0 (fun w=>qrz c w (bv w) l) [f,qwz] = e:=by
    unfold qpv;rw [if_neg (by simp),if_neg (by simp)];unfold qvz;rw [if_pos (by omega)];exact hpe
   rw [ea,if_pos he] at hL;exact q6a c f l 0 e he hlv (qud c f l e he (hpe ▸ hE f)) hN hL g4 g7 fr h7 h4 h2 h8 h9 hr
  have yes:qrz c f (bv f) l = 0->∀ (g4 g7:Nat) (fr:Fr),lk fr 7 = some (.ptr 7 g7 0 0)->lk fr 4 = some (.ptr 4 g4 0 0)->lk fr 2 = some (.int .i64 l)->lk fr 8 = some (.int .i64 0)->lk fr 9 = some (.int .i64 0)->∀ hr (W:V),W = f.w->
    r10.wpF Tryz.prog gl0 (q6d [.tmp 6] 2 (.bool true)) fr ((7,.row g7 4 [c.v]) :: (7,.row g7 4 [.agg [.nil,.nil,.nil,.nil]]) :: (4,.row g4 5 [W]) :: hr):=fun hpe g4 g7 fr h7 h4 h2 h8 h9 hr W hW=>by
   subst hW;obtain ⟨k1,k2,k3,k4,k5⟩:=qzx c f _ l hm hv hpe
   have e1:qrz c qwz (bv qwz) l = 0:=by
    have hn:=hg.n0
    have hlb:qh1 c 0 (-1) = true:=by
     unfold qh1;simp only [Bool.and_eq_true,decide_eq_true_eq];omega
    unfold qrz qyj qwz;dsimp only;rw [hlb];unfold q1o;simp;omega
   have ea:qpv 0 (fun w=>qrz c w (bv w) l) [f,qwz] = 0:=by
    unfold qpv;rw [if_neg (by simp),if_neg (by simp)];unfold qvz;rw [if_neg (by omega)];unfold qvz;rw [if_neg (by omega)];rfl
   rw [ea,if_neg (by simp)] at hL;obtain ⟨r0,r1,r2,r3,r4,hr5⟩:=hR5 f;exact q9a c f l _ _ r0 r1 r2 r3 r4 hr5 (qo6 _ _) (qo6 _ _) hlv (hRr f hm hv hpe) hN hL (jet _ _ (q7u c hg hpl f.tt k1 k2 l.toNat (by omega))) g4 g7 fr h7 h4 h2 h8 h9 hr
  have hpe:qrz c f (bv f) l = if qyj c f (bv f) ≠ 0 then qyj c f (bv f) else if f.m ≠ 0 then 7 else q1o l:=rfl
  generalize qyj c f (bv f) = E1 at hC hpe;simp only [Fw.w] at hC ⊢;refine jnx 6 2 ok10 rfl ?_;simp [i10,x10,nop,Cx.v];intro gf3 gf4;refine KM.mk (.done ?_);simp;refine joz hof (by simp only [jm8,Bool.and_true]; exact hcp) ?_;simp;intro gf7;refine KM.mk (.done ?_);simp;refine joz hP (by simp) ?_;simp;refine KM.mk (.done ?_);simp;refine KM.mk (.done ?_);simp;refine joz hC (by simp) ?_;simp;refine KM.mk (.done ?_);by_cases e1:E1 = 0
  ·by_cases m0:f.m = 0
   ·unfold q1o at hpe;by_cases l1:l < 0
    ·simp [e1,m0,l1] at hpe;simp [e1,m0,l1];refine KM.mk (.done ?_);exact no 1 (by decide) hpe (gf4 4) (gf7 7) _ (by simp) (by simp) (by simp) (by simp) (by simp) _ _ (by simp [Fw.w, *])
    ·by_cases l2:1000000 < l
     ·simp [e1,m0,l1,l2] at hpe;simp [e1,m0,l1,l2];refine KM.mk (.done ?_);exact no 3 (by decide) hpe (gf4 4) (gf7 7) _ (by simp) (by simp) (by simp) (by simp) (by simp) _ _ (by simp [Fw.w, *])
     ·simp [e1,m0,l1,l2] at hpe;simp [e1,m0,l1,l2];refine KM.mk (.done ?_);exact yes hpe (gf4 4) (gf7 7) _ (by simp) (by simp) (by simp) (by simp) (by simp) _ _ (by simp [Fw.w, *])
   ·simp [e1,m0] at hpe;simp [e1,m0];refine KM.mk (.done ?_);exact no 7 (by decide) hpe (gf4 4) (gf7 7) _ (by simp) (by simp) (by simp) (by simp) (by simp) _ _ (by simp [Fw.w, *])
  ·simp [e1] at hpe;simp [e1];refine KM.mk (.done ?_);exact no E1 e1 hpe (gf4 4) (gf7 7) _ (by simp) (by simp) (by simp) (by simp) (by simp) _ _ (by simp [Fw.w, *])
 ·have hG:=qud c f l _ h0 (q2s c f l _ h0 hP);have hL:=qxg c (qut c) (fun _=>0) (fun w=>quz l.toNat (qmk c w.tt l.toNat)) l hP [f,qwz] (some 2) (fun h=>absurd h h0) (fun h=>absurd h h0) (fun w _=>qo6 _ _) (fun w _=>hR5 w)
  have e:qpv (qut c) (fun _=>0) [f,qwz] = qut c:=by
   unfold qpv;rw [if_pos h0]
  rw [e,if_pos h0] at hL;clear hpg;generalize qut c = P at h0 hP hG hL hN;simp only [Fw.w];refine jnx 6 2 ok10 rfl ?_;simp [i10,x10,nop,Cx.v];intro gf3 gf4;refine KM.mk (.done ?_);simp;refine joz hof (by simp only [jm8,Bool.and_true]; exact hcp) ?_;simp;intro gf7;refine KM.mk (.done ?_);simp;refine joz hP (by simp) ?_;simp;refine KM.mk (.done ?_);simp;refine KM.mk (.done ?_);simp [h0];refine KM.mk (.done ?_);simp [h0];refine KM.mk (.done ?_);exact q6a c f l P P h0 hlv hG hN hL (gf4 4) (gf7 7) _ (by simp) (by simp) (by simp) (by simp) (by simp) _
end Go.Proofs.YtpaopccohkldlaaGreatDoor
