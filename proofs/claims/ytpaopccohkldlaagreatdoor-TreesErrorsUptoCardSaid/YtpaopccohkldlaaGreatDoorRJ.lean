/- Trees: the law Errors, its loops. Conditions: none. -/
import Derived.Test.YtpaopccohkldlaaGreatDoorRH
import Derived.Test.YtpaopccohkldlaaGreatDoorRF
import Derived.Test.YtpaopccohkldlaaGreatDoorXL7
set_option linter.unusedSimpArgs false
set_option linter.unusedVariables false
namespace Go.Proofs.YtpaopccohkldlaaGreatDoor
open Go
noncomputable def r7 : XC:=xs2 (xs2 (xs2 (xs2 (xs2 (xs2 x7)))))
noncomputable def t7 : XC:=xs2 (xs2 (xs2 (xs2 r7)))
theorem r7_eq : r7 = .seq (xs1 r7) (.seq (xs1 (xs2 r7)) (.seq (xs1 (xs2 (xs2 r7))) (.seq (xs1 (xs2 (xs2 (xs2 r7)))) t7))):=rfl
def lv (l : List Nat) : V:=listV (l.map u8V)
theorem gt2_s (a : List Nat) (j : Nat) (hj : j < a.length) : gt2 (a.take (j + 1)) = (gt2 (a.take j) || decide (2 < a[j])):=by
 unfold gt2; rw [List.take_succ_eq_append_getElem hj,List.any_append]; simp
noncomputable def s7 : XC:=xs2 (xs2 (xs2 r7))
theorem s7_eq : s7 = .seq (xs1 s7) t7:=rfl
theorem lv_some {a : List Nat} (h : a ≠ []) : lv a = .sl (a.map u8V) none:=by
 unfold lv listV
 cases a with
 | nil=>exact absurd rfl h
 | cons x l=>rfl
set_option maxRecDepth 100000 in
theorem loopB7 (c : Ci) (F xa : V) (a b : List Nat) (hab : a.length + b.length ≤ 20) (w : Bool) (E : Int) (Q : IQ) (g4 g5 g7 g9 : Nat) (hF : F.pure = true) (hxa : xa.pure = true)
  (tail : KC Tryz.prog gl0 t7 Q [(10,.bool (w || gt2 b)),(9,.ptr 9 g9 0 0),(8,.int .i64 E),(7,.ptr 7 g7 0 0),(4,.ptr 4 g4 0 0)] [(9,.row g9 2 [.agg [xa,lv b]]),(7,.row g7 4 [c.v]),(4,.row g4 5 [F])]) :
  s7.wpF Tryz.prog gl0 Q [(10,.bool w),(9,.ptr 9 g9 0 0),(8,.int .i64 E),(7,.ptr 7 g7 0 0),(5,.ptr 5 g5 0 0),(4,.ptr 4 g4 0 0)] [(9,.row g9 2 [.agg [xa,.nil]]),(7,.row g7 4 [c.v]),(5,.row g5 2 [.agg [.sl (a.map u8V) none,.sl (b.map u8V) none]]),(4,.row g4 5 [F])]:=by
 rw [s7_eq]
 simp [s7,r7,xs2,xs1,x7]
 refine LoopP.ofF (X:=Nat × Option (Nat × List V)) (fun z=>[(12,natV z.1),(10,.bool (w || gt2 (b.take z.1))),(9,.ptr 9 g9 0 0),(8,.int .i64 E),(7,.ptr 7 g7 0 0),(5,.ptr 5 g5 0 0),(4,.ptr 4 g4 0 0)])
  (fun z=>(9,.row g9 2 [.agg [xa,accV 1000 z.2]]) :: (7,.row g7 4 [c.v]) :: (5,.row g5 2 [.agg [.sl (a.map u8V) none,.sl (b.map u8V) none]]) :: (4,.row g4 5 [F]) :: accH 1000 1 z.2)
  (fun z=>z.1 ≤ b.length∧(z.2 = none↔z.1 = 0)∧accL z.2 = (b.take z.1).map u8V) (fun z=>b.length - z.1) (.done ⟨(0,none),⟨by simp,by simp,by simp [accL]⟩,by simp [natV,accV,gt2],by simp [accH,accV]⟩) ?_
 rintro ⟨j,acc⟩ ⟨q1,q2,q3⟩
 dsimp only at q1 q2 q3 ⊢
 have hpa:=u8s_pure a
 have hpb:=u8s_pure b
 simp [natV]
 refine BrB.of (fun hb=>?_) (fun hb=>?_)
 ·have hj : j < b.length:=of_decide_eq_true hb
  have hw:=wrapN j (by omega)
  obtain ⟨x,hx⟩ : ∃ x,b[j] = x:=⟨_,rfl⟩
  have hs:=gt2_s b j hj
  rw [hx] at hs
  have hnx : (b.take (j + 1)).map u8V = (b.take j).map u8V ++ [.int .u8 (x : Int)]:=by
   rw [List.take_succ_eq_append_getElem hj,List.map_append,hx]; rfl
  have hjl : ((b.take j).map u8V).length = j:=by simp; omega
  rw [← q3] at hnx hjl
  cases hg : (w || gt2 (b.take j)) with
  | true=>
   have hs : (w || gt2 (b.take (j + 1))) = true:=by rw [hs,← Bool.or_assoc,hg,Bool.true_or]
   cases acc with
   | none=>
    have hj0 : j = 0:=q2.1 rfl
    simp [accV,accH,hw,hj,hx,u8V]
    intro gm
    refine ⟨by decide,.move 91 1000 _ (by simp) (by simp; rfl) fun g'=>.done ⟨j + 1,some (g',[.int .u8 (x : Int)]),⟨hj,by simp,by simpa [accL] using hnx.symm⟩,?_⟩⟩
    simp [rnL_pure _ hpa,rnL_pure _ hpb,rn_pure _ hF,rn_pure _ (ci_pure2 c),rn_pure _ hxa,hs]
    omega
   | some gl=>
    obtain ⟨g,r⟩:=gl
    simp only [accL] at hnx hjl
    simp [accV,accH,hw,hj,hx,u8V]
    intro gm
    exact ⟨by omega,by decide,.done ⟨j + 1,some (g + 1,r ++ [.int .u8 (x : Int)]),⟨hj,by simp,by simpa [accL] using hnx.symm⟩,by simp [hs],by simp,by omega⟩⟩
  | false=>
   have hs : (w || gt2 (b.take (j + 1))) = decide (2 < x):=by rw [hs,← Bool.or_assoc,hg,Bool.false_or]
   by_cases hx2 : 2 < x
   ·rw [decide_eq_true hx2] at hs
    cases acc with
    | none=>
     have hj0 : j = 0:=q2.1 rfl
     simp [accV,accH,hw,hj,hx,u8V,hx2]
     intro gm
     refine ⟨by decide,.move 91 1000 _ (by simp) (by simp; rfl) fun g'=>.done ⟨j + 1,some (g',[.int .u8 (x : Int)]),⟨hj,by simp,by simpa [accL] using hnx.symm⟩,?_⟩⟩
     simp [rnL_pure _ hpa,rnL_pure _ hpb,rn_pure _ hF,rn_pure _ (ci_pure2 c),rn_pure _ hxa,hs]
     omega
    | some gl=>
     obtain ⟨g,r⟩:=gl
     simp only [accL] at hnx hjl
     simp [accV,accH,hw,hj,hx,u8V,hx2]
     intro gm
     exact ⟨by omega,by decide,.done ⟨j + 1,some (g + 1,r ++ [.int .u8 (x : Int)]),⟨hj,by simp,by simpa [accL] using hnx.symm⟩,by simp [hs],by simp,by omega⟩⟩
   ·rw [decide_eq_false hx2] at hs
    cases acc with
    | none=>
     have hj0 : j = 0:=q2.1 rfl
     simp [accV,accH,hw,hj,hx,u8V,hx2]
     intro gm
     refine ⟨by decide,.move 91 1000 _ (by simp) (by simp; rfl) fun g'=>.done ⟨j + 1,some (g',[.int .u8 (x : Int)]),⟨hj,by simp,by simpa [accL] using hnx.symm⟩,?_⟩⟩
     simp [rnL_pure _ hpa,rnL_pure _ hpb,rn_pure _ hF,rn_pure _ (ci_pure2 c),rn_pure _ hxa,hs]
     omega
    | some gl=>
     obtain ⟨g,r⟩:=gl
     simp only [accL] at hnx hjl
     simp [accV,accH,hw,hj,hx,u8V,hx2]
     intro gm
     exact ⟨by omega,by decide,.done ⟨j + 1,some (g + 1,r ++ [.int .u8 (x : Int)]),⟨hj,by simp,by simpa [accL] using hnx.symm⟩,by simp [hs],by simp,by omega⟩⟩
 ·have hj : j = b.length:=by have:=of_decide_eq_false hb; omega
  subst hj
  rw [List.take_length] at q3
  cases acc with
  | none=>
   have hb0 : b = []:=List.length_eq_zero_iff.1 (q2.1 rfl)
   subst hb0
   simp [accV,accH]
   refine .mk [(10,.bool (w || gt2 [])),(9,.ptr 9 g9 0 0),(8,.int .i64 E),(7,.ptr 7 g7 0 0),(4,.ptr 4 g4 0 0)] [(9,.row g9 2 [.agg [xa,.nil]]),(7,.row g7 4 [c.v]),(4,.row g4 5 [F])] (by simp [gt2]) (by simp) (.done ?_)
   exact tail
  | some gl=>
   obtain ⟨g,r⟩:=gl
   simp only [accL] at q3
   subst q3
   have hb0 : b ≠ []:=fun e=>by have:=q2.2 (by rw [e]; rfl); cases this
   simp [accV,accH]
   refine .mk [(10,.bool (w || gt2 b)),(9,.ptr 9 g9 0 0),(8,.int .i64 E),(7,.ptr 7 g7 0 0),(4,.ptr 4 g4 0 0)] [(9,.row g9 2 [.agg [xa,.ref 1000 g 0 b.length none]]),(1000,.row g 1 (b.map u8V)),(7,.row g7 4 [c.v]),(4,.row g4 5 [F])] (by simp) (by simp) (.frz (g:=g) (sz:=1) (es:=b.map u8V) 1000 (by simp) hpb (.done ?_))
   rw [lv_some hb0] at tail
   have hbt : List.take b.length (b.map u8V) = b.map u8V:=List.take_of_length_le (by simp)
   simp [fzF,fzH,fzV,fzf,fzp,Blk.fz,hbt,mapR_pure _ hF,mapR_pure _ hxa,mapR_pure _ (ci_pure2 c)]
   rw [KC_fun] at tail
   exact tail
set_option maxRecDepth 100000 in
theorem loops7 (c : Ci) (F : V) (a b : List Nat) (hab : a.length + b.length ≤ 20) (E : Int) (Q : IQ) (g4 g5 g7 : Nat) (fr : Fr) (h : Hp)
  (f4 : lk fr 4 = some (.ptr 4 g4 0 0)) (f5 : lk fr 5 = some (.ptr 5 g5 0 0)) (f7 : lk fr 7 = some (.ptr 7 g7 0 0)) (f8 : lk fr 8 = some (.int .i64 E))
  (b4 : lk h 4 = some (.row g4 5 [F])) (b5 : lk h 5 = some (.row g5 2 [.agg [.sl (a.map u8V) none,.sl (b.map u8V) none]])) (b7 : lk h 7 = some (.row g7 4 [c.v])) (hF : F.pure = true)
  (tail : ∀ g9,KC Tryz.prog gl0 t7 Q [(10,.bool (gt2 a || gt2 b)),(9,.ptr 9 g9 0 0),(8,.int .i64 E),(7,.ptr 7 g7 0 0),(4,.ptr 4 g4 0 0)] [(9,.row g9 2 [.agg [lv a,lv b]]),(7,.row g7 4 [c.v]),(4,.row g4 5 [F])]) :
  r7.wpF Tryz.prog gl0 Q fr h:=by
 rw [r7_eq]
 simp [r7,xs2,xs1,x7]
 intro gf9
 generalize gf9 9 = g9
 refine LoopP.ofF (X:=Nat × Option (Nat × List V)) (fun z=>[(11,natV z.1),(10,.bool (gt2 (a.take z.1))),(9,.ptr 9 g9 0 0),(8,.int .i64 E),(7,.ptr 7 g7 0 0),(5,.ptr 5 g5 0 0),(4,.ptr 4 g4 0 0)])
  (fun z=>(9,.row g9 2 [.agg [accV 1000 z.2,.nil]]) :: (7,.row g7 4 [c.v]) :: (5,.row g5 2 [.agg [.sl (a.map u8V) none,.sl (b.map u8V) none]]) :: (4,.row g4 5 [F]) :: accH 1000 1 z.2)
  (fun z=>z.1 ≤ a.length∧(z.2 = none↔z.1 = 0)∧accL z.2 = (a.take z.1).map u8V) (fun z=>a.length - z.1) (.done ⟨(0,none),⟨by simp,by simp,by simp [accL]⟩,by simp [natV,accV,gt2,f4,f5,f7,f8],by simp [accH,accV,b4,b5,b7]⟩) ?_
 rintro ⟨j,acc⟩ ⟨q1,q2,q3⟩
 dsimp only at q1 q2 q3 ⊢
 have hpa:=u8s_pure a
 have hpb:=u8s_pure b
 simp [natV]
 refine BrB.of (fun hb=>?_) (fun hb=>?_)
 ·have hj : j < a.length:=of_decide_eq_true hb
  have hw:=wrapN j (by omega)
  obtain ⟨x,hx⟩ : ∃ x,a[j] = x:=⟨_,rfl⟩
  have hs:=gt2_s a j hj
  rw [hx] at hs
  have hnx : (a.take (j + 1)).map u8V = (a.take j).map u8V ++ [.int .u8 (x : Int)]:=by
   rw [List.take_succ_eq_append_getElem hj,List.map_append,hx]; rfl
  have hjl : ((a.take j).map u8V).length = j:=by simp; omega
  rw [← q3] at hnx hjl
  cases hg : gt2 (a.take j) with
  | true=>
   rw [hg,Bool.true_or] at hs
   cases acc with
   | none=>
    have hj0 : j = 0:=q2.1 rfl
    simp [accV,accH,hw,hj,hx,u8V]
    intro gm
    refine ⟨by decide,.move 65 1000 _ (by simp) (by simp; rfl) fun g'=>.done ⟨j + 1,some (g',[.int .u8 (x : Int)]),⟨hj,by simp,by simpa [accL] using hnx.symm⟩,?_⟩⟩
    simp [rnL_pure _ hpa,rnL_pure _ hpb,rn_pure _ hF,rn_pure _ (ci_pure2 c),hs]
    omega
   | some gl=>
    obtain ⟨g,r⟩:=gl
    simp only [accL] at hnx hjl
    simp [accV,accH,hw,hj,hx,u8V]
    intro gm
    exact ⟨by omega,by decide,.done ⟨j + 1,some (g + 1,r ++ [.int .u8 (x : Int)]),⟨hj,by simp,by simpa [accL] using hnx.symm⟩,by simp [hs],by simp,by omega⟩⟩
  | false=>
   rw [hg,Bool.false_or] at hs
   by_cases hx2 : 2 < x
   ·rw [decide_eq_true hx2] at hs
    cases acc with
    | none=>
     have hj0 : j = 0:=q2.1 rfl
     simp [accV,accH,hw,hj,hx,u8V,hx2]
     intro gm
     refine ⟨by decide,.move 65 1000 _ (by simp) (by simp; rfl) fun g'=>.done ⟨j + 1,some (g',[.int .u8 (x : Int)]),⟨hj,by simp,by simpa [accL] using hnx.symm⟩,?_⟩⟩
     simp [rnL_pure _ hpa,rnL_pure _ hpb,rn_pure _ hF,rn_pure _ (ci_pure2 c),hs]
     omega
    | some gl=>
     obtain ⟨g,r⟩:=gl
     simp only [accL] at hnx hjl
     simp [accV,accH,hw,hj,hx,u8V,hx2]
     intro gm
     exact ⟨by omega,by decide,.done ⟨j + 1,some (g + 1,r ++ [.int .u8 (x : Int)]),⟨hj,by simp,by simpa [accL] using hnx.symm⟩,by simp [hs],by simp,by omega⟩⟩
   ·rw [decide_eq_false hx2] at hs
    cases acc with
    | none=>
     have hj0 : j = 0:=q2.1 rfl
     simp [accV,accH,hw,hj,hx,u8V,hx2]
     intro gm
     refine ⟨by decide,.move 65 1000 _ (by simp) (by simp; rfl) fun g'=>.done ⟨j + 1,some (g',[.int .u8 (x : Int)]),⟨hj,by simp,by simpa [accL] using hnx.symm⟩,?_⟩⟩
     simp [rnL_pure _ hpa,rnL_pure _ hpb,rn_pure _ hF,rn_pure _ (ci_pure2 c),hs]
     omega
    | some gl=>
     obtain ⟨g,r⟩:=gl
     simp only [accL] at hnx hjl
     simp [accV,accH,hw,hj,hx,u8V,hx2]
     intro gm
     exact ⟨by omega,by decide,.done ⟨j + 1,some (g + 1,r ++ [.int .u8 (x : Int)]),⟨hj,by simp,by simpa [accL] using hnx.symm⟩,by simp [hs],by simp,by omega⟩⟩
 ·have hj : j = a.length:=by have:=of_decide_eq_false hb; omega
  subst hj
  rw [List.take_length] at q3
  cases acc with
  | none=>
   have ha0 : a = []:=List.length_eq_zero_iff.1 (q2.1 rfl)
   subst ha0
   simp [accV,accH]
   refine .mk [(10,.bool (gt2 [])),(9,.ptr 9 g9 0 0),(8,.int .i64 E),(7,.ptr 7 g7 0 0),(5,.ptr 5 g5 0 0),(4,.ptr 4 g4 0 0)] [(9,.row g9 2 [.agg [.nil,.nil]]),(7,.row g7 4 [c.v]),(5,.row g5 2 [.agg [.sl (([] : List Nat).map u8V) none,.sl (b.map u8V) none]]),(4,.row g4 5 [F])] (by simp [gt2]) (by simp) (.done ?_)
   change KC Tryz.prog gl0 s7 Q _ _
   rw [KC_fun]
   exact loopB7 c F .nil [] b hab (gt2 []) E Q g4 g5 g7 g9 hF rfl (tail g9)
  | some gl=>
   obtain ⟨g,r⟩:=gl
   simp only [accL] at q3
   subst q3
   have ha0 : a ≠ []:=fun e=>by have:=q2.2 (by rw [e]; rfl); cases this
   simp [accV,accH]
   refine .mk [(10,.bool (gt2 a)),(9,.ptr 9 g9 0 0),(8,.int .i64 E),(7,.ptr 7 g7 0 0),(5,.ptr 5 g5 0 0),(4,.ptr 4 g4 0 0)] [(9,.row g9 2 [.agg [.ref 1000 g 0 a.length none,.nil]]),(1000,.row g 1 (a.map u8V)),(7,.row g7 4 [c.v]),(5,.row g5 2 [.agg [.sl (a.map u8V) none,.sl (b.map u8V) none]]),(4,.row g4 5 [F])] (by simp) (by simp) (.frz (g:=g) (sz:=1) (es:=a.map u8V) 1000 (by simp) hpa (.done ?_))
   have hat : List.take a.length (a.map u8V) = a.map u8V:=List.take_of_length_le (by simp)
   change KC Tryz.prog gl0 s7 Q _ _
   rw [KC_fun]
   simp [fzF,fzH,fzV,fzf,fzp,Blk.fz,hat,mapR_pure _ hF,mapR_pure _ (ci_pure2 c),V.mapR,V.mapRL,mapRL_pure _ hpa,mapRL_pure _ hpb]
   have:=loopB7 c F (lv a) a b hab (gt2 a) E Q g4 g5 g7 g9 hF (by rw [lv_some ha0]; exact hpa) (tail g9)
   rw [lv_some ha0] at this
   exact this
end Go.Proofs.YtpaopccohkldlaaGreatDoor
namespace Go.Proofs.YtpaopccohkldlaaGreatDoor
open Go
theorem lv_cell (a : List Nat) : (lv a).isCell = true:=by cases a <;> rfl
theorem lv_pure (a : List Nat) : (lv a).pure = true:=by
 cases a with
 | nil=>rfl
 | cons x l=>exact u8s_pure (x :: l)
def leafV : V:=.agg [.int .i64 (-1),.int .i64 0,.int .i64 0]
set_option maxRecDepth 100000 in
theorem no7 (c : Ci) (m n p v o : Int) (a b : List Nat) (E : Int) (hE : E ≠ 0) (w : Bool) (g4 g7 g9 : Nat)
  (h37 : PureC Tryz.prog gl0 37 [c.v,.agg [.int .u8 m,.int .i64 n,.int .i64 p,.int .u8 v,.int .i64 o],.agg [lv a,lv b]] (.tup [.nil,.nil,.int .i64 E]))
  (h29 : PureC Tryz.prog gl0 29 [c.v,.agg [.int .u8 m,.int .i64 n,.int .i64 p,.int .u8 v,.int .i64 o],.agg [lv a,lv b]] (.tup [.bool false,.int .i64 E]))
  (h30 : PureC Tryz.prog gl0 30 [c.v,.agg [.int .u8 m,.int .i64 n,.int .i64 p,.int .u8 v,.int .i64 o],.agg [lv a,lv b]] (.tup [.bool false,.int .i64 E]))
  (h18 : PureC Tryz.prog gl0 18 [c.v,.agg [.int .u8 m,.int .i64 n,.int .i64 p,.int .u8 v,.int .i64 o],.sl [leafV] (some 1)] (.int .i64 E))
  (h19 : PureC Tryz.prog gl0 19 [c.v,.agg [.int .u8 m,.int .i64 n,.int .i64 p,.int .u8 v,.int .i64 o],.sl [leafV] (some 1)] (.tup [.nil,.int .i64 E])) :
  t7.wpF Tryz.prog gl0 (retQ [.tmp 6] 2 (.bool true)) [(10,.bool w),(9,.ptr 9 g9 0 0),(8,.int .i64 E),(7,.ptr 7 g7 0 0),(4,.ptr 4 g4 0 0)]
   [(9,.row g9 2 [.agg [lv a,lv b]]),(7,.row g7 4 [c.v]),(4,.row g4 5 [.agg [.int .u8 m,.int .i64 n,.int .i64 p,.int .u8 v,.int .i64 o]])]:=by
 have hlv:=lives_c
 have ca:=lv_cell a
 have cb:=lv_cell b
 have pa:=lv_pure a
 have pb:=lv_pure b
 generalize lv a = la at *
 generalize lv b = lb at *
 simp only [leafV] at h18 h19
 simp [t7,r7,xs2,x7,hE]
 refine ⟨by decide,?_⟩
 refine CallO.pure h37 (by simp [pa,pb]) ?_
 simp
 refine CallO.pure h29 (by simp [pa,pb]) ?_
 simp
 refine CallO.pure h30 (by simp [pa,pb]) ?_
 simp [hE]
 intro g182
 refine CallO.borrow 2 h18 (by simp [frz,V.mapR,V.mapRL,lk,mapR_pure _ (ci_pure c)]) rfl ?_
 simp
 refine CallO.frzB 182 (by simp; exact ⟨rfl,rfl,rfl⟩) (by simp) ?_
 change ICallO _ _ 19 (List.map _ [c.v,_,_]) _ _
 simp [fzV,V.mapR,V.mapRL,fzp,fzf,fzH,Blk.fz,mapR_pure _ (ci_pure c),mapR_pure _ pa,mapR_pure _ pb]
 refine CallO.pure h19 (by simp) ?_
 simp [hE]
 refine CallO.pure hlv rfl ?_
 simp
noncomputable def u7 : XC:=xs2 (xs2 (xs2 t7))
theorem t7_eq : t7 = .seq (xs1 t7) (.seq (xs1 (xs2 t7)) (.seq (xs1 (xs2 (xs2 t7))) u7)):=rfl
def badT (nB : Nat) : V:=.sl [.agg [natV nB,.int .i64 1,.int .i64 2],leafV,leafV] (some 3)
set_option maxRecDepth 100000 in
theorem end7 (c : Ci) (m n p v o : Int) (a b : List Nat) (C k : Int) (x1 x2 tt : V) (bb ss : Bool) (nB : Nat) (g4 g7 g9 : Nat) (fr : Fr) (f13 : lk fr 13 = some (.int .i64 C)) (f9 : lk fr 9 = some (.ptr 9 g9 0 0)) (f8 : lk fr 8 = some (.int .i64 0)) (f7 : lk fr 7 = some (.ptr 7 g7 0 0)) (f4 : lk fr 4 = some (.ptr 4 g4 0 0))
  (hC0 : C ≠ 0→x1 = .nil∧x2 = .nil∧bb = false∧ss = false) (p1 : x1.pure = true) (p2 : x2.pure = true) (c1 : x1.isCell = true) (c2 : x2.isCell = true) (p3 : tt.pure = true) (c3 : tt.isCell = true)
  (h37 : PureC Tryz.prog gl0 37 [c.v,.agg [.int .u8 m,.int .i64 n,.int .i64 p,.int .u8 v,.int .i64 o],.agg [lv a,lv b]] (.tup [x1,x2,.int .i64 C]))
  (h29 : PureC Tryz.prog gl0 29 [c.v,.agg [.int .u8 m,.int .i64 n,.int .i64 p,.int .u8 v,.int .i64 o],.agg [lv a,lv b]] (.tup [.bool bb,.int .i64 C]))
  (h30 : PureC Tryz.prog gl0 30 [c.v,.agg [.int .u8 m,.int .i64 n,.int .i64 p,.int .u8 v,.int .i64 o],.agg [lv a,lv b]] (.tup [.bool ss,.int .i64 C]))
  (h18 : PureC Tryz.prog gl0 18 [c.v,.agg [.int .u8 m,.int .i64 n,.int .i64 p,.int .u8 v,.int .i64 o],.sl [leafV] (some 1)] (.int .i64 k))
  (h19 : PureC Tryz.prog gl0 19 [c.v,.agg [.int .u8 m,.int .i64 n,.int .i64 p,.int .u8 v,.int .i64 o],.sl [leafV] (some 1)] (.tup [tt,.int .i64 k]))
  (hn : PureC Tryz.prog gl0 18 [c.v,.agg [.int .u8 m,.int .i64 n,.int .i64 p,.int .u8 v,.int .i64 o],.nil] (.int .i64 10))
  (hb : PureC Tryz.prog gl0 17 [c.v] (natV nB))
  (h3 : PureC Tryz.prog gl0 18 [c.v,.agg [.int .u8 m,.int .i64 n,.int .i64 p,.int .u8 v,.int .i64 o],badT nB] (.int .i64 10)) :
  u7.wpF Tryz.prog gl0 (retQ [.tmp 6] 2 (.bool true)) fr
   [(9,.row g9 2 [.agg [lv a,lv b]]),(7,.row g7 4 [c.v]),(4,.row g4 5 [.agg [.int .u8 m,.int .i64 n,.int .i64 p,.int .u8 v,.int .i64 o]])]:=by
 have hlv:=lives_c
 have ca:=lv_cell a
 have cb:=lv_cell b
 have pa:=lv_pure a
 have pb:=lv_pure b
 generalize lv a = la at *
 generalize lv b = lb at *
 simp only [leafV,badT,natV] at h18 h19 h3 hb
 by_cases hC : C = 0
 ·subst hC
  simp [u7,t7,r7,xs2,x7,f13,f9,f8,f7,f4]
  refine CallO.pure h37 (by simp [pa,pb]) ?_
  simp [f13,f9,f8,f7,f4]
  refine CallO.pure h29 (by simp [pa,pb]) ?_
  simp [f13,f9,f8,f7,f4]
  refine CallO.pure h30 (by simp [pa,pb]) ?_
  simp [f13,f9,f8,f7,f4]
  intro g182
  refine CallO.borrow 2 h18 (by simp [frz,V.mapR,V.mapRL,lk,mapR_pure _ (ci_pure c)]) rfl ?_
  simp [f13,f9,f8,f7,f4]
  refine CallO.frzB 182 (by simp; exact ⟨rfl,rfl,rfl⟩) (by simp) ?_
  change ICallO _ _ 19 (List.map _ [c.v,_,_]) _ _
  simp [fzV,V.mapR,V.mapRL,fzp,fzf,fzH,Blk.fz,mapR_pure _ (ci_pure c),mapR_pure _ pa,mapR_pure _ pb]
  refine CallO.pure h19 (by simp) ?_
  simp [f13,f9,f8,f7,f4]
  intro gm
  first | refine ⟨_,_,_,.pure hn (by simp),?_⟩ | refine ⟨_,⟨_,_,.pure hn (by simp)⟩,?_⟩ | refine ⟨_,_,⟨_,.pure hn (by simp)⟩,?_⟩
  simp [f13,f9,f8,f7,f4]
  first | refine ⟨_,_,_,.pure hb (by simp),?_⟩ | refine ⟨_,⟨_,_,.pure hb (by simp)⟩,?_⟩ | refine ⟨_,_,⟨_,.pure hb (by simp)⟩,?_⟩
  simp [f13,f9,f8,f7,f4]
  first | refine ⟨_,_,_,.borrow 2 h3 (by simp [frz,V.mapR,V.mapRL,lk,mapR_pure _ (ci_pure c)]) rfl,?_⟩ | refine ⟨_,⟨_,_,.borrow 2 h3 (by simp [frz,V.mapR,V.mapRL,lk,mapR_pure _ (ci_pure c)]) rfl⟩,?_⟩ | refine ⟨_,_,⟨_,.borrow 2 h3 (by simp [frz,V.mapR,V.mapRL,lk,mapR_pure _ (ci_pure c)]) rfl⟩,?_⟩
  simp [f13,f9,f8,f7,f4]
  first | refine ⟨_,_,_,.pure hlv rfl,?_⟩ | refine ⟨_,⟨_,_,.pure hlv rfl⟩,?_⟩ | refine ⟨_,_,⟨_,.pure hlv rfl⟩,?_⟩
  simp [f13,f9,f8,f7,f4]
  decide
 ·obtain ⟨rfl,rfl,rfl,rfl⟩:=hC0 hC
  simp [u7,t7,r7,xs2,x7,hC,f13,f9,f8,f7,f4]
  refine CallO.pure h37 (by simp [pa,pb]) ?_
  simp [f13,f9,f8,f7,f4]
  refine CallO.pure h29 (by simp [pa,pb]) ?_
  simp [f13,f9,f8,f7,f4]
  refine CallO.pure h30 (by simp [pa,pb]) ?_
  simp [hC,f13,f9,f8,f7,f4]
  intro g182
  refine CallO.borrow 2 h18 (by simp [frz,V.mapR,V.mapRL,lk,mapR_pure _ (ci_pure c)]) rfl ?_
  simp [f13,f9,f8,f7,f4]
  refine CallO.frzB 182 (by simp; exact ⟨rfl,rfl,rfl⟩) (by simp) ?_
  change ICallO _ _ 19 (List.map _ [c.v,_,_]) _ _
  simp [fzV,V.mapR,V.mapRL,fzp,fzf,fzH,Blk.fz,mapR_pure _ (ci_pure c),mapR_pure _ pa,mapR_pure _ pb]
  refine CallO.pure h19 (by simp) ?_
  simp [f13,f9,f8,f7,f4]
  intro gm
  first | refine ⟨_,_,_,.pure hn (by simp),?_⟩ | refine ⟨_,⟨_,_,.pure hn (by simp)⟩,?_⟩ | refine ⟨_,_,⟨_,.pure hn (by simp)⟩,?_⟩
  simp [f13,f9,f8,f7,f4]
  first | refine ⟨_,_,_,.pure hb (by simp),?_⟩ | refine ⟨_,⟨_,_,.pure hb (by simp)⟩,?_⟩ | refine ⟨_,_,⟨_,.pure hb (by simp)⟩,?_⟩
  simp [f13,f9,f8,f7,f4]
  first | refine ⟨_,_,_,.borrow 2 h3 (by simp [frz,V.mapR,V.mapRL,lk,mapR_pure _ (ci_pure c)]) rfl,?_⟩ | refine ⟨_,⟨_,_,.borrow 2 h3 (by simp [frz,V.mapR,V.mapRL,lk,mapR_pure _ (ci_pure c)]) rfl⟩,?_⟩ | refine ⟨_,_,⟨_,.borrow 2 h3 (by simp [frz,V.mapR,V.mapRL,lk,mapR_pure _ (ci_pure c)]) rfl⟩,?_⟩
  simp [f13,f9,f8,f7,f4]
  first | refine ⟨_,_,_,.pure hlv rfl,?_⟩ | refine ⟨_,⟨_,_,.pure hlv rfl⟩,?_⟩ | refine ⟨_,_,⟨_,.pure hlv rfl⟩,?_⟩
  simp [f13,f9,f8,f7,f4]
  decide
set_option maxRecDepth 100000 in
theorem yes7 (c : Ci) (hl : c.n.length < 1000000) (F xa xb : V) (hF : F.pure = true) (a b : List Nat) (w : Bool) (g4 g7 g9 : Nat) (Q : IQ)
  (tail : ∀ fr C,C = (if a.length ≠ cnt 0 c.n∨b.length ≠ cnt 14 c.n then 8 else if w = true then 1 else 0 : Int)→lk fr 13 = some (.int .i64 C)→lk fr 9 = some (.ptr 9 g9 0 0)→lk fr 8 = some (.int .i64 0)→lk fr 7 = some (.ptr 7 g7 0 0)→lk fr 4 = some (.ptr 4 g4 0 0)→
   u7.wpF Tryz.prog gl0 Q fr [(9,.row g9 2 [.agg [lv a,lv b]]),(7,.row g7 4 [c.v]),(4,.row g4 5 [F])]) :
  t7.wpF Tryz.prog gl0 Q [(10,.bool w),(9,.ptr 9 g9 0 0),(8,.int .i64 0),(7,.ptr 7 g7 0 0),(4,.ptr 4 g4 0 0)] [(9,.row g9 2 [.agg [lv a,lv b]]),(7,.row g7 4 [c.v]),(4,.row g4 5 [F])]:=by
 have ci:=inputsN_c c hl
 have cs:=statesN_c c hl
 have hIl : (ids 0 c.n 0).length = cnt 0 c.n:=rfl
 have hSl : (ids 14 c.n 0).length = cnt 14 c.n:=rfl
 generalize ids 0 c.n 0 = I at ci hIl
 generalize ids 14 c.n 0 = S at cs hSl
 have ca:=lv_cell a
 have cb:=lv_cell b
 have la : (lv a = .nil∧a.length = 0)∨∃ T,lv a = .sl T none∧T.length = a.length:=by
  cases a with
  | nil=>exact .inl ⟨rfl,rfl⟩
  | cons x l=>exact .inr ⟨_,rfl,by simp⟩
 have lb : (lv b = .nil∧b.length = 0)∨∃ T,lv b = .sl T none∧T.length = b.length:=by
  cases b with
  | nil=>exact .inl ⟨rfl,rfl⟩
  | cons x l=>exact .inr ⟨_,rfl,by simp⟩
 generalize lv a = xa at *
 generalize lv b = xb at *
 generalize cnt 0 c.n = A at *
 generalize cnt 14 c.n = B at *
 generalize a.length = na at *
 generalize b.length = nb at *
 rw [t7_eq]
 generalize hu : u7 = U at *
 have key : ∀ (fr : Fr) (C : Int),C = (if na ≠ A∨nb ≠ B then 8 else if w = true then 1 else 0 : Int)→lk fr 13 = some (.int .i64 C)→lk fr 9 = some (.ptr 9 g9 0 0)→lk fr 8 = some (.int .i64 0)→lk fr 7 = some (.ptr 7 g7 0 0)→lk fr 4 = some (.ptr 4 g4 0 0)→
   U.wpF Tryz.prog gl0 Q fr [(9,.row g9 2 [.agg [xa,xb]]),(7,.row g7 4 [c.v]),(4,.row g4 5 [F])]:=tail
 rcases la with ⟨rfl,rfl⟩ | ⟨Ta,rfl,hTa⟩ <;> rcases lb with ⟨rfl,rfl⟩ | ⟨Tb,rfl,hTb⟩
 ·by_cases h1 : 0 = A
  ·subst h1
   by_cases h2 : 0 = B
   ·subst h2
    cases w with
    | true=>
     simp [t7,r7,xs2,xs1,x7]
     intro gm
     first | refine ⟨_,_,_,.pure ci (by simp),?_⟩ | refine ⟨_,⟨_,_,.pure ci (by simp)⟩,?_⟩ | refine ⟨_,_,⟨_,.pure ci (by simp)⟩,?_⟩
     simp [hIl]
     first | refine ⟨_,_,_,.pure cs (by simp),?_⟩ | refine ⟨_,⟨_,_,.pure cs (by simp)⟩,?_⟩ | refine ⟨_,_,⟨_,.pure cs (by simp)⟩,?_⟩
     simp [hSl]
     refine ⟨by decide,key _ 1 (by simp) (by simp) (by simp) (by simp) (by simp) (by simp)⟩
    | false=>
     simp [t7,r7,xs2,xs1,x7]
     intro gm
     first | refine ⟨_,_,_,.pure ci (by simp),?_⟩ | refine ⟨_,⟨_,_,.pure ci (by simp)⟩,?_⟩ | refine ⟨_,_,⟨_,.pure ci (by simp)⟩,?_⟩
     simp [hIl]
     first | refine ⟨_,_,_,.pure cs (by simp),?_⟩ | refine ⟨_,⟨_,_,.pure cs (by simp)⟩,?_⟩ | refine ⟨_,_,⟨_,.pure cs (by simp)⟩,?_⟩
     simp [hSl]
     refine ⟨by decide,key _ 0 (by simp) (by simp) (by simp) (by simp) (by simp) (by simp)⟩
   ·have h2i : ¬ (0 : Int) = (B : Int):=by omega
    simp [t7,r7,xs2,xs1,x7]
    intro gm
    first | refine ⟨_,_,_,.pure ci (by simp),?_⟩ | refine ⟨_,⟨_,_,.pure ci (by simp)⟩,?_⟩ | refine ⟨_,_,⟨_,.pure ci (by simp)⟩,?_⟩
    simp [hIl]
    first | refine ⟨_,_,_,.pure cs (by simp),?_⟩ | refine ⟨_,⟨_,_,.pure cs (by simp)⟩,?_⟩ | refine ⟨_,_,⟨_,.pure cs (by simp)⟩,?_⟩
    simp [hSl,h2,h2i]
    refine ⟨by decide,key _ 8 (by simp [h2]) (by simp) (by simp) (by simp) (by simp) (by simp)⟩
  ·have h1i : ¬ (0 : Int) = (A : Int):=by omega
   simp [t7,r7,xs2,xs1,x7]
   intro gm
   first | refine ⟨_,_,_,.pure ci (by simp),?_⟩ | refine ⟨_,⟨_,_,.pure ci (by simp)⟩,?_⟩ | refine ⟨_,_,⟨_,.pure ci (by simp)⟩,?_⟩
   simp [hIl,h1,h1i]
   refine ⟨by decide,key _ 8 (by simp [h1]) (by simp) (by simp) (by simp) (by simp) (by simp)⟩
 ·by_cases h1 : 0 = A
  ·subst h1
   by_cases h2 : nb = B
   ·subst h2
    cases w with
    | true=>
     simp [t7,r7,xs2,xs1,x7]
     intro gm
     first | refine ⟨_,_,_,.pure ci (by simp),?_⟩ | refine ⟨_,⟨_,_,.pure ci (by simp)⟩,?_⟩ | refine ⟨_,_,⟨_,.pure ci (by simp)⟩,?_⟩
     simp [hIl,hTb]
     first | refine ⟨_,_,_,.pure cs (by simp),?_⟩ | refine ⟨_,⟨_,_,.pure cs (by simp)⟩,?_⟩ | refine ⟨_,_,⟨_,.pure cs (by simp)⟩,?_⟩
     simp [hSl,hTb]
     refine ⟨by decide,key _ 1 (by simp) (by simp) (by simp) (by simp) (by simp) (by simp)⟩
    | false=>
     simp [t7,r7,xs2,xs1,x7]
     intro gm
     first | refine ⟨_,_,_,.pure ci (by simp),?_⟩ | refine ⟨_,⟨_,_,.pure ci (by simp)⟩,?_⟩ | refine ⟨_,_,⟨_,.pure ci (by simp)⟩,?_⟩
     simp [hIl,hTb]
     first | refine ⟨_,_,_,.pure cs (by simp),?_⟩ | refine ⟨_,⟨_,_,.pure cs (by simp)⟩,?_⟩ | refine ⟨_,_,⟨_,.pure cs (by simp)⟩,?_⟩
     simp [hSl,hTb]
     refine ⟨by decide,key _ 0 (by simp) (by simp) (by simp) (by simp) (by simp) (by simp)⟩
   ·have h2i : ¬ (nb : Int) = (B : Int):=by omega
    simp [t7,r7,xs2,xs1,x7]
    intro gm
    first | refine ⟨_,_,_,.pure ci (by simp),?_⟩ | refine ⟨_,⟨_,_,.pure ci (by simp)⟩,?_⟩ | refine ⟨_,_,⟨_,.pure ci (by simp)⟩,?_⟩
    simp [hIl,hTb]
    first | refine ⟨_,_,_,.pure cs (by simp),?_⟩ | refine ⟨_,⟨_,_,.pure cs (by simp)⟩,?_⟩ | refine ⟨_,_,⟨_,.pure cs (by simp)⟩,?_⟩
    simp [hSl,h2,h2i,hTb]
    refine ⟨by decide,key _ 8 (by simp [h2]) (by simp) (by simp) (by simp) (by simp) (by simp)⟩
  ·have h1i : ¬ (0 : Int) = (A : Int):=by omega
   simp [t7,r7,xs2,xs1,x7]
   intro gm
   first | refine ⟨_,_,_,.pure ci (by simp),?_⟩ | refine ⟨_,⟨_,_,.pure ci (by simp)⟩,?_⟩ | refine ⟨_,_,⟨_,.pure ci (by simp)⟩,?_⟩
   simp [hIl,h1,h1i,hTb]
   refine ⟨by decide,key _ 8 (by simp [h1]) (by simp) (by simp) (by simp) (by simp) (by simp)⟩
 ·by_cases h1 : na = A
  ·subst h1
   by_cases h2 : 0 = B
   ·subst h2
    cases w with
    | true=>
     simp [t7,r7,xs2,xs1,x7]
     intro gm
     first | refine ⟨_,_,_,.pure ci (by simp),?_⟩ | refine ⟨_,⟨_,_,.pure ci (by simp)⟩,?_⟩ | refine ⟨_,_,⟨_,.pure ci (by simp)⟩,?_⟩
     simp [hIl,hTa]
     first | refine ⟨_,_,_,.pure cs (by simp),?_⟩ | refine ⟨_,⟨_,_,.pure cs (by simp)⟩,?_⟩ | refine ⟨_,_,⟨_,.pure cs (by simp)⟩,?_⟩
     simp [hSl,hTa]
     refine ⟨by decide,key _ 1 (by simp) (by simp) (by simp) (by simp) (by simp) (by simp)⟩
    | false=>
     simp [t7,r7,xs2,xs1,x7]
     intro gm
     first | refine ⟨_,_,_,.pure ci (by simp),?_⟩ | refine ⟨_,⟨_,_,.pure ci (by simp)⟩,?_⟩ | refine ⟨_,_,⟨_,.pure ci (by simp)⟩,?_⟩
     simp [hIl,hTa]
     first | refine ⟨_,_,_,.pure cs (by simp),?_⟩ | refine ⟨_,⟨_,_,.pure cs (by simp)⟩,?_⟩ | refine ⟨_,_,⟨_,.pure cs (by simp)⟩,?_⟩
     simp [hSl,hTa]
     refine ⟨by decide,key _ 0 (by simp) (by simp) (by simp) (by simp) (by simp) (by simp)⟩
   ·have h2i : ¬ (0 : Int) = (B : Int):=by omega
    simp [t7,r7,xs2,xs1,x7]
    intro gm
    first | refine ⟨_,_,_,.pure ci (by simp),?_⟩ | refine ⟨_,⟨_,_,.pure ci (by simp)⟩,?_⟩ | refine ⟨_,_,⟨_,.pure ci (by simp)⟩,?_⟩
    simp [hIl,hTa]
    first | refine ⟨_,_,_,.pure cs (by simp),?_⟩ | refine ⟨_,⟨_,_,.pure cs (by simp)⟩,?_⟩ | refine ⟨_,_,⟨_,.pure cs (by simp)⟩,?_⟩
    simp [hSl,h2,h2i,hTa]
    refine ⟨by decide,key _ 8 (by simp [h2]) (by simp) (by simp) (by simp) (by simp) (by simp)⟩
  ·have h1i : ¬ (na : Int) = (A : Int):=by omega
   simp [t7,r7,xs2,xs1,x7]
   intro gm
   first | refine ⟨_,_,_,.pure ci (by simp),?_⟩ | refine ⟨_,⟨_,_,.pure ci (by simp)⟩,?_⟩ | refine ⟨_,_,⟨_,.pure ci (by simp)⟩,?_⟩
   simp [hIl,h1,h1i,hTa]
   refine ⟨by decide,key _ 8 (by simp [h1]) (by simp) (by simp) (by simp) (by simp) (by simp)⟩
 ·by_cases h1 : na = A
  ·subst h1
   by_cases h2 : nb = B
   ·subst h2
    cases w with
    | true=>
     simp [t7,r7,xs2,xs1,x7]
     intro gm
     first | refine ⟨_,_,_,.pure ci (by simp),?_⟩ | refine ⟨_,⟨_,_,.pure ci (by simp)⟩,?_⟩ | refine ⟨_,_,⟨_,.pure ci (by simp)⟩,?_⟩
     simp [hIl,hTa,hTb]
     first | refine ⟨_,_,_,.pure cs (by simp),?_⟩ | refine ⟨_,⟨_,_,.pure cs (by simp)⟩,?_⟩ | refine ⟨_,_,⟨_,.pure cs (by simp)⟩,?_⟩
     simp [hSl,hTa,hTb]
     refine ⟨by decide,key _ 1 (by simp) (by simp) (by simp) (by simp) (by simp) (by simp)⟩
    | false=>
     simp [t7,r7,xs2,xs1,x7]
     intro gm
     first | refine ⟨_,_,_,.pure ci (by simp),?_⟩ | refine ⟨_,⟨_,_,.pure ci (by simp)⟩,?_⟩ | refine ⟨_,_,⟨_,.pure ci (by simp)⟩,?_⟩
     simp [hIl,hTa,hTb]
     first | refine ⟨_,_,_,.pure cs (by simp),?_⟩ | refine ⟨_,⟨_,_,.pure cs (by simp)⟩,?_⟩ | refine ⟨_,_,⟨_,.pure cs (by simp)⟩,?_⟩
     simp [hSl,hTa,hTb]
     refine ⟨by decide,key _ 0 (by simp) (by simp) (by simp) (by simp) (by simp) (by simp)⟩
   ·have h2i : ¬ (nb : Int) = (B : Int):=by omega
    simp [t7,r7,xs2,xs1,x7]
    intro gm
    first | refine ⟨_,_,_,.pure ci (by simp),?_⟩ | refine ⟨_,⟨_,_,.pure ci (by simp)⟩,?_⟩ | refine ⟨_,_,⟨_,.pure ci (by simp)⟩,?_⟩
    simp [hIl,hTa,hTb]
    first | refine ⟨_,_,_,.pure cs (by simp),?_⟩ | refine ⟨_,⟨_,_,.pure cs (by simp)⟩,?_⟩ | refine ⟨_,_,⟨_,.pure cs (by simp)⟩,?_⟩
    simp [hSl,h2,h2i,hTa,hTb]
    refine ⟨by decide,key _ 8 (by simp [h2]) (by simp) (by simp) (by simp) (by simp) (by simp)⟩
  ·have h1i : ¬ (na : Int) = (A : Int):=by omega
   simp [t7,r7,xs2,xs1,x7]
   intro gm
   first | refine ⟨_,_,_,.pure ci (by simp),?_⟩ | refine ⟨_,⟨_,_,.pure ci (by simp)⟩,?_⟩ | refine ⟨_,_,⟨_,.pure ci (by simp)⟩,?_⟩
   simp [hIl,h1,h1i,hTa,hTb]
   refine ⟨by decide,key _ 8 (by simp [h1]) (by simp) (by simp) (by simp) (by simp) (by simp)⟩
end Go.Proofs.YtpaopccohkldlaaGreatDoor
