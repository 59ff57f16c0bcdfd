/- Trees: the law Errors. Conditions: none. -/
import Derived.Test.YtpaopccohkldlaaGreatDoorRJ
import Derived.Test.YtpaopccohkldlaaGreatDoorR7
set_option linter.unusedSimpArgs false
set_option linter.unusedVariables false
namespace Go.Proofs.YtpaopccohkldlaaGreatDoor
open Go
theorem bad_no (B : Nat) : validB [⟨(B : Int),1,2⟩,lfN,lfN] ((B : Nat) : Int) = false:=by
 have h : vNode 3 (B : Int) 0 ⟨(B : Int),1,2⟩ (fun _=>0) = none:=by
  unfold vNode
  rw [if_neg (by simp [lfN]),if_pos (by dsimp only; omega)]
 unfold validB
 simp only [List.length_cons,List.length_nil,vRun,h]
theorem nil_no (B : Int) : validB [] B = false:=rfl
theorem lv_le (a : List Nat) : VLe (lv a) (.sl (a.map u8V) none):=listV_le _
theorem q_le7 (c : Ci) (F : V) (a b : List Nat) : AllLe [c.v,F,.agg [lv a,lv b]] [c.v,F,Pt.v ⟨a,b⟩]:=⟨.refl _,.refl _,VLe.agg ⟨lv_le a,lv_le b,trivial⟩,trivial⟩
set_option maxRecDepth 100000 in
theorem law7_c (x : Cx) (hx : x.ok) (f : Fw) (hm : 0 ≤ f.m) (hv : 0 ≤ f.v) (a b : List Nat) (hla : a.length ≤ 400000000000000000) (hlb : b.length ≤ 400000000000000000) : PureC Tryz.prog gl0 7 [x.v,f.w,.agg [.sl (a.map u8V) none,.sl (b.map u8V) none]] (.bool true):=by
 have hlv:=lives_c
 by_cases hab : a.length + b.length ≤ 20
 ·have hof:=cof_c x hx
  have hcp:=cx_pure x
  have h16:=ci_16 x
  have hP:=plainR_c x.ci (ci_wf x) (chk_ok x) (by omega)
  have hpg:=pln_good x
  generalize x.ci = c at hof h16 hP hpg
  obtain ⟨q,hq⟩ : ∃ q : Pt,q = ⟨a,b⟩:=⟨_,rfl⟩
  have fin : ∀ (E : Int),E ≠ 0→PureC Tryz.prog gl0 60 [c.v,f.w] (.int .i64 E)→∀ (g4 g5 g7 : Nat) (fr : Fr) (h : Hp),lk fr 4 = some (.ptr 4 g4 0 0)→lk fr 5 = some (.ptr 5 g5 0 0)→lk fr 7 = some (.ptr 7 g7 0 0)→lk fr 8 = some (.int .i64 E)→
    lk h 4 = some (.row g4 5 [f.w])→lk h 5 = some (.row g5 2 [.agg [.sl (a.map u8V) none,.sl (b.map u8V) none]])→lk h 7 = some (.row g7 4 [c.v])→r7.wpF Tryz.prog gl0 (retQ [.tmp 6] 2 (.bool true)) fr h:=by
   intro E hE h60 g4 g5 g7 fr h f4 f5 f7 f8 b4 b5 b7
   have h75:=checkedE_c c f ⟨a,b⟩ E hE h60
   have h37:=PureC.wide (pairsE_c c f ⟨a,b⟩ E hE h75) (q_le7 c f.w a b) (.refl _)
   have h29:=PureC.wide (blockedE_c c f ⟨a,b⟩ E hE h75) (q_le7 c f.w a b) (.refl _)
   have h30:=PureC.wide (seenE_c c f ⟨a,b⟩ E hE h75) (q_le7 c f.w a b) (.refl _)
   have h18:=checkE_c c f [leafV] (some 1) rfl E hE h60
   have h19:=trimE_c c (.int .u8 f.m) (.int .i64 f.n) (.int .i64 f.p) (.int .u8 f.v) (.int .i64 f.o) rfl [leafV] (some 1) rfl E hE h18
   refine loops7 c f.w a b hab E _ g4 g5 g7 fr h f4 f5 f7 f8 b4 b5 b7 f.pure fun g9=>?_
   rw [KC_fun]
   exact no7 c f.m f.n f.p f.v f.o a b E hE _ g4 g7 g9 h37 h29 h30 h18 h19
  have yes : plnE c = 0→∀ B,fchE c f B = 0→f.m = 0→PureC Tryz.prog gl0 60 [c.v,f.w] (.int .i64 0)→∀ (g4 g5 g7 : Nat) (fr : Fr) (h : Hp),lk fr 4 = some (.ptr 4 g4 0 0)→lk fr 5 = some (.ptr 5 g5 0 0)→lk fr 7 = some (.ptr 7 g7 0 0)→lk fr 8 = some (.int .i64 0)→
    lk h 4 = some (.row g4 5 [f.w])→lk h 5 = some (.row g5 2 [.agg [.sl (a.map u8V) none,.sl (b.map u8V) none]])→lk h 7 = some (.row g7 4 [c.v])→r7.wpF Tryz.prog gl0 (retQ [.tmp 6] 2 (.bool true)) fr h:=by
   intro h0 B hF hm0 h60 g4 g5 g7 fr h f4 f5 f7 f8 b4 b5 b7
   obtain ⟨hg,hpl⟩:=hpg h0
   obtain ⟨k1,k2,k3⟩:=tchE_ok c f B hm hv hF hm0
   have h75:=checkedR_c c hg f ⟨a,b⟩ (by dsimp only; omega) (by dsimp only; omega) h60
   have hbits:=bits_c c (by omega)
   have hck:=checkT_c c hg hpl f.tt k1 k2 .lf trivial (by decide)
   have hn:=checkN_c c hg hpl f.tt k1 k2 [] (by decide) (nil_no _)
   have h3:=checkN_c c hg hpl f.tt k1 k2 [⟨((cnt 0 c.n + cnt 14 c.n : Nat) : Int),1,2⟩,lfN,lfN] (by simp) (bad_no _)
   rw [k3] at hck hn h3
   have hn' : PureC Tryz.prog gl0 18 [c.v,f.w,.nil] (.int .i64 10):=PureC.wide hn ⟨.refl _,.refl _,VLe.nil',trivial⟩ (.refl _)
   have h3' : PureC Tryz.prog gl0 18 [c.v,f.w,badT (cnt 0 c.n + cnt 14 c.n)] (.int .i64 10):=PureC.wide h3 ⟨.refl _,.refl _,VLe.cap _ _,trivial⟩ (.refl _)
   have h18 : PureC Tryz.prog gl0 18 [c.v,f.w,.sl [leafV] (some 1)] (.int .i64 (if prB c f.tt .lf (blkP c) = true then 0 else 10)):=PureC.wide hck ⟨.refl _,.refl _,VLe.cap _ _,trivial⟩ (.refl _)
   obtain ⟨tt,p3,c3,h19⟩ : ∃ tt : V,tt.pure = true∧tt.isCell = true∧PureC Tryz.prog gl0 19 [c.v,f.w,.sl [leafV] (some 1)] (.tup [tt,.int .i64 (if prB c f.tt .lf (blkP c) = true then 0 else 10)]):=by
    by_cases hp : prB c f.tt .lf (blkP c) = true
    ·have ht:=trim_c c hg hpl f.tt k1 k2 .lf (by decide) trivial hp
     rw [k3] at ht
     rw [if_pos hp]
     have e : trimD c f.tt .lf (blkP c) = .lf:=by simp [trimD]
     rw [e] at ht
     exact ⟨_,by decide,rfl,PureC.wide ht ⟨.refl _,.refl _,VLe.cap _ _,trivial⟩ (.refl _)⟩
    ·rw [if_neg hp] at h18 ⊢
     exact ⟨.nil,rfl,rfl,trimE_c c (.int .u8 f.m) (.int .i64 f.n) (.int .i64 f.p) (.int .u8 f.v) (.int .i64 f.o) rfl [leafV] (some 1) rfl 10 (by decide) h18⟩
   refine loops7 c f.w a b hab 0 _ g4 g5 g7 fr h f4 f5 f7 f8 b4 b5 b7 f.pure fun g9=>?_
   rw [KC_fun]
   refine yes7 c (by omega) f.w (lv a) (lv b) f.pure a b _ g4 g7 g9 _ fun fr C hC f13 f9 f8 f7 f4=>?_
   have hCe : C = cubE c ⟨a,b⟩:=by rw [hC]; rfl
   by_cases hC0 : C = 0
   ·subst hC0
    rw [← hCe] at h75
    obtain ⟨e1,e2,e3⟩ : a.length = cnt 0 c.n∧b.length = cnt 14 c.n∧(gt2 a || gt2 b) = false:=by
     split at hC
     ·cases hC
     ·rename_i hh
      split at hC
      ·cases hC
      ·rename_i hw
       exact ⟨by omega,by omega,by simpa using hw⟩
    rw [Bool.or_eq_false_iff] at e3
    have hle : ∀ (l : List Nat),gt2 l = false→∀ y ∈ l,y ≤ 2:=fun l h y hy=>by
     have:=List.any_eq_false.1 h y hy
     simpa using this
    have hcu : Pt.cu ⟨a,b⟩:=⟨hle a e3.1,hle b e3.2⟩
    have hfit : Pt.fit ⟨a,b⟩ c:=⟨e1,e2,fun y hy=>by have:=hle a e3.1 y hy; omega,fun y hy=>by have:=hle b e3.2 y hy; omega⟩
    have h37:=pairsT_c c hg hpl f.tt k1 k2 ⟨a,b⟩ hfit hcu
    have h29:=blockedF_c c hg hpl f.tt k1 k2 ⟨a,b⟩ hfit hcu
    have h30:=seenF_c c hg hpl f.tt k1 k2 ⟨a,b⟩ hfit hcu
    rw [k3] at h37 h29 h30
    exact end7 c f.m f.n f.p f.v f.o a b 0 _ (.sl (tU c.n.length (netN c ⟨a,b⟩)) (some c.n.length)) (.sl (tU c.n.length (f.tt.M c ⟨a,b⟩)) (some c.n.length)) tt _ _ _ g4 g7 g9 fr f13 f9 f8 f7 f4 (fun h=>absurd rfl h) (by simp [V.pure]) (by simp [V.pure]) rfl rfl p3 c3
     (PureC.wide h37 (q_le7 c f.w a b) (.refl _)) (PureC.wide h29 (q_le7 c f.w a b) (.refl _)) (PureC.wide h30 (q_le7 c f.w a b) (.refl _)) h18 h19 hn' hbits h3'
   ·rw [← hCe] at h75
    have h37:=PureC.wide (pairsE_c c f ⟨a,b⟩ C hC0 h75) (q_le7 c f.w a b) (.refl _)
    have h29:=PureC.wide (blockedE_c c f ⟨a,b⟩ C hC0 h75) (q_le7 c f.w a b) (.refl _)
    have h30:=PureC.wide (seenE_c c f ⟨a,b⟩ C hC0 h75) (q_le7 c f.w a b) (.refl _)
    exact end7 c f.m f.n f.p f.v f.o a b C _ .nil .nil tt false false _ g4 g7 g9 fr f13 f9 f8 f7 f4 (fun _=>⟨rfl,rfl,rfl,rfl⟩) rfl rfl rfl rfl p3 c3 h37 h29 h30 h18 h19 hn' hbits h3'
  have hB : ∃ B : Int,¬ 3 < f.m→¬ 1 < f.v→lineB c f.n f.p = true→2 ≤ f.m→plnE c = 0→PureC Tryz.prog gl0 91 [c.v,f.w] (.int .i64 B):=by
   by_cases h : plnE c = 0∧lineB c f.n f.p = true∧(f.m = 2∨f.m = 3)
   ·obtain ⟨B,hB⟩:=bridgeR_c c (hpg h.1).1 f h.2.2 h.2.1
    exact ⟨B,fun _ _ _ _ _=>hB⟩
   ·exact ⟨0,fun h1 _ h3 h4 h5=>absurd ⟨h5,h3,by omega⟩ h⟩
  obtain ⟨B,hB⟩:=hB
  have hF : plnE c = 0→PureC Tryz.prog gl0 43 [c.v,f.w] (.int .i64 (fchE c f B)):=fun h0=>fcheckR_c c (hpg h0).1 f B fun h1 h2 h3 h4=>hB h1 h2 h3 h4 h0
  have h60:=tcheckR_c c f _ _ hP hF
  unfold tchE at h60
  simp only [Cx.v] at hof hcp
  simp only [Fw.w] at hF fin yes h60 ⊢
  refine PureC.of_WM 6 2 ok7 rfl ?_
  simp [i7,x7,nop,Cx.v]
  intro gf3 gf4 gf5
  have hsum : IntKind.i64.wrap ((a.length : Int) + (b.length : Int)) = ((a.length + b.length : Nat) : Int):=addN rfl (by omega)
  have hno : ¬ (20 : Int) < ((a.length + b.length : Nat) : Int):=by omega
  generalize a.length + b.length = Z at hsum hno
  refine KM.mk (.done ?_)
  simp [hsum,hno]
  refine KM.mk (.done ?_)
  simp
  refine CallO.pure hof (by simp only [V.pureL,Bool.and_true]; exact hcp) ?_
  simp
  intro gf7
  refine KM.mk (.done ?_)
  simp
  refine CallO.pure hP (by simp) ?_
  simp
  refine KM.mk (.done ?_)
  generalize hPe : plnE c = P at *
  by_cases h0 : P = 0
  ·have hF:=hF h0
   simp [h0]
   refine CallO.pure hF (by simp) ?_
   simp
   refine KM.mk (.done ?_)
   generalize hFe : fchE c f B = F1 at *
   by_cases h1 : F1 = 0
   ·by_cases h2 : f.m = 0
    ·rw [if_neg (by omega),if_neg (by omega),if_neg (by omega)] at h60
     simp [h1,h2]
     refine KM.mk (.done ?_)
     exact yes h0 B (by omega) h2 h60 (gf4 4) (gf5 5) (gf7 7) _ _ (by simp) (by simp) (by simp) (by simp) (by simp [h2]) (by simp) (by simp [ci_v])
    ·rw [if_neg (by omega),if_neg (by omega),if_pos h2] at h60
     simp [h1,h2]
     refine KM.mk (.done ?_)
     exact fin 7 (by decide) h60 (gf4 4) (gf5 5) (gf7 7) _ _ (by simp) (by simp) (by simp) (by simp) (by simp) (by simp) (by simp [ci_v])
   ·rw [if_neg (by omega),if_pos h1] at h60
    simp [h1]
    refine KM.mk (.done ?_)
    exact fin F1 h1 h60 (gf4 4) (gf5 5) (gf7 7) _ _ (by simp) (by simp) (by simp) (by simp) (by simp) (by simp) (by simp [ci_v])
  ·rw [if_pos h0] at h60
   simp [h0]
   refine KM.mk (.done ?_)
   simp [h0]
   refine KM.mk (.done ?_)
   exact fin P h0 h60 (gf4 4) (gf5 5) (gf7 7) _ _ (by simp) (by simp) (by simp) (by simp) (by simp) (by simp) (by simp [ci_v])
 ·have hsum : IntKind.i64.wrap ((a.length : Int) + (b.length : Int)) = ((a.length + b.length : Nat) : Int):=addN rfl (by omega)
  have hyes : (20 : Int) < ((a.length + b.length : Nat) : Int):=by omega
  generalize a.length + b.length = Z at hsum hyes
  simp only [Fw.w]
  refine PureC.of_WM 6 2 ok7 rfl ?_
  simp [i7,x7,nop,Cx.v]
  intro gf3 gf4 gf5
  refine KM.mk (.done ?_)
  simp [hsum,hyes]
  refine CallO.pure hlv rfl ?_
  simp
end Go.Proofs.YtpaopccohkldlaaGreatDoor
