/- Paths: patterns between two others; the law Steady of layer 20. Conditions: none. -/
import Derived.Test.YtlmniacemoohpaaGreatDoorP12
import Derived.Test.YtlmniacemoohpaaGreatDoorXL11
set_option linter.unusedSimpArgs false
set_option linter.unusedVariables false
namespace Go.Proofs.YtlmniacemoohpaaGreatDoor
open Go
def mixB (x y : Nat) : Bool:=decide (1 < x) || !decide (y = x)
def mixL : List (Nat × Nat)→Nat→List Nat × Nat
  | [],k=>([],k)
  | (x,y) :: r,k=>bif mixB x y then (k % 2 :: (mixL r (k / 2)).1,(mixL r (k / 2)).2) else (x :: (mixL r k).1,(mixL r k).2)
theorem mixL_len : ∀ (l : List (Nat × Nat)) (k : Nat),(mixL l k).1.length = l.length
  | [],_=>rfl
  | (x,y) :: r,k=>by rw [mixL]; cases mixB x y <;> simp [mixL_len r]
theorem mixL_le3 : ∀ (l : List (Nat × Nat)) (k : Nat),∀ v ∈ (mixL l k).1,v ≤ 3
  | [],_,v,h=>by simp [mixL] at h
  | (x,y) :: r,k,v,h=>by
    rw [mixL] at h
    cases hb : mixB x y with
    | true=>
      rw [hb] at h
      rcases List.mem_cons.1 h with rfl | h
      · omega
      · exact mixL_le3 r _ v h
    | false=>
      rw [hb] at h
      simp only [mixB,Bool.or_eq_false_iff,decide_eq_false_iff_not] at hb
      rcases List.mem_cons.1 h with rfl | h
      · omega
      · exact mixL_le3 r _ v h
theorem mixL_mid : ∀ (l r : List Nat) (k : Nat),l.length = r.length→∀ (i v : Nat),l[i]? = some v→r[i]? = some v→v ≤ 1→(mixL (l.zip r) k).1[i]? = some v
  | [],_,_,_,i,v,h,_,_=>by simp at h
  | _ :: _,[],_,h,_,_,_,_,_=>by simp at h
  | a :: l,b :: r,k,hl,i,v,h1,h2,hv=>by
    rw [List.zip_cons_cons,mixL]
    cases i with
    | zero=>
      simp only [List.getElem?_cons_zero,Option.some.injEq] at h1 h2
      have : mixB a b = false:=by simp [mixB,h1,h2]; omega
      rw [this,← h1]; rfl
    | succ i=>
      simp only [List.getElem?_cons_succ] at h1 h2
      have hl' : l.length = r.length:=by simpa using hl
      cases mixB a b
      · exact mixL_mid l r k hl' i v h1 h2 hv
      · exact mixL_mid l r (k / 2) hl' i v h1 h2 hv
def mixP (p q : Pt) (k : Nat) : Pt:=⟨(mixL (p.i.zip q.i) k).1,(mixL (p.s.zip q.s) (mixL (p.i.zip q.i) k).2).1⟩
theorem mixP_fit {c : Ci} {p q : Pt} (hp : p.fit c) (hq : q.fit c) (k : Nat) : (mixP p q k).fit c:=
  ⟨by rw [mixP,mixL_len]; simp [hp.i,hq.i],by rw [mixP,mixL_len]; simp [hp.s,hq.s],mixL_le3 _ _,mixL_le3 _ _⟩
theorem mixP_mid {c : Ci} {p q : Pt} (hp : p.fit c) (hq : q.fit c) (k : Nat) : p.mid q (mixP p q k):=
  ⟨fun i v h1 h2 hv=>mixL_mid _ _ _ (by rw [hp.i,hq.i]) i v h1 h2 hv,fun i v h1 h2 hv=>mixL_mid _ _ _ (by rw [hp.s,hq.s]) i v h1 h2 hv⟩
theorem mixL_lt : ∀ (l : List (Nat × Nat)) (k : Nat),(mixL l k).2 ≤ k
  | [],k=>Nat.le_refl _
  | (x,y) :: r,k=>by
    rw [mixL]
    cases mixB x y
    · exact mixL_lt r k
    · exact Nat.le_trans (mixL_lt r (k / 2)) (Nat.div_le_self _ _)
theorem and1_u64 : ∀ k : Fin 64,bitsI .and .u64 (k : Nat) 1 = ((k.val % 2 : Nat) : Int):=by decide
theorem shr1_u64 (k : Nat) : ((k : Int)).fdiv (2 ^ min 1 IntKind.u64.bits) = ((k / 2 : Nat) : Int):=by
  have e : (2 ^ min 1 IntKind.u64.bits : Int) = 2:=by decide
  rw [e,Int.fdiv_eq_ediv_of_nonneg _ (by omega)]; rfl
theorem listV_ne {l : List V} (h : l ≠ []) : listV l = .sl l none:=by
  cases l with
  | nil=>exact absurd rfl h
  | cons a r=>rfl
theorem listV_nil : listV [] = .nil:=rfl
structure MxSt where
  i : Nat
  k : Nat
  z : Option (Nat × List V)
set_option maxRecDepth 100000 in
set_option maxHeartbeats 4000000 in
theorem mixed_c (p q : Pt) (k : Nat) (hk : k < 64) (hi : p.i.length = q.i.length) (hs : p.s.length = q.s.length) (hil : p.i.length < 1000000) (hsl : p.s.length < 1000000) : PureC Tryz.prog gl0 38 [prV p q,.int .u64 (k : Int)] (mixP p q k).v:=by
  obtain ⟨zi,hzi⟩ : ∃ z,p.i.zip q.i = z:=⟨_,rfl⟩
  obtain ⟨zs,hzs⟩ : ∃ z,p.s.zip q.s = z:=⟨_,rfl⟩
  have hzil : zi.length = p.i.length:=by rw [← hzi]; simp [hi]
  have hzsl : zs.length = p.s.length:=by rw [← hzs]; simp [hs]
  obtain ⟨RI,hRI⟩ : ∃ R,mixL zi k = R:=⟨_,rfl⟩
  obtain ⟨RS,hRS⟩ : ∃ R,mixL zs RI.2 = R:=⟨_,rfl⟩
  have hRk : RI.2 < 64:=by rw [← hRI]; exact Nat.lt_of_le_of_lt (mixL_lt _ _) hk
  have hres : (mixP p q k).v = .agg [.sl (RI.1.map u8V) none,.sl (RS.1.map u8V) none]:=by unfold mixP Pt.v; rw [hzi,hzs,hRI,hRS]
  rw [hres]
  refine PureC.wide (res:=.agg [listV (RI.1.map u8V),listV (RS.1.map u8V)]) ?_ (AllLe.refl _) (VLe.agg ⟨listV_le _,listV_le _,trivial⟩)
  have pI:=u8s_pure p.i
  have pS:=u8s_pure p.s
  have qI:=u8s_pure q.i
  have qS:=u8s_pure q.s
  refine PureC.of_W 3 ok38 rfl ?_
  simp [i38,x38,prV]
  intro gf1 gf2 gf3
  generalize gf1 2 = g2
  generalize gf2 4 = g4
  generalize gf3 5 = g5
  refine LoopP.of (X:=MxSt) (fun z=>[(6,natV z.i),(1,.int .u64 (z.k : Int)),(2,.ptr 2 g2 0 0),(4,.ptr 4 g4 0 0),(5,.ptr 5 g5 0 0)])
    (fun z=>(2,.row g2 4 [.agg [.sl (p.i.map u8V) none,.sl (p.s.map u8V) none,.sl (q.i.map u8V) none,.sl (q.s.map u8V) none]]) :: (4,.row g4 2 [.agg [.nil,.nil]]) :: (5,.row g5 2 [.agg [accV 45 z.z,.nil]]) :: accH 45 1 z.z)
    (fun z=>z.i ≤ p.i.length∧z.k < 64∧(z.z = none↔z.i = 0)∧accL z.z ++ (mixL (zi.drop z.i) z.k).1.map u8V = RI.1.map u8V∧(mixL (zi.drop z.i) z.k).2 = RI.2∧(accL z.z).length = z.i∧V.pureL (accL z.z) = true) (fun z=>p.i.length - z.i) ⟨0,k,none⟩
    ⟨by simp,hk,by simp,by simp [accL,hRI],by simp [hRI],by simp [accL],rfl⟩ (by simp [natV]) (by simp [accV,accH]) ?_
  rintro ⟨i,kk,z⟩ ⟨q1,q2,q3,q4,q5,q6,q7⟩
  dsimp only at q1 q2 q3 q4 q5 q6 q7 ⊢
  simp [natV]
  refine BrB.of (fun hb1=>?_) (fun hb1=>?_)
  · have hj:=of_decide_eq_true hb1
    have hw:=wrapN i (by omega)
    have hiz : i < zi.length:=by omega
    have hiq : i < q.i.length:=by omega
    obtain ⟨x,hx⟩ : ∃ x,p.i[i] = x:=⟨_,rfl⟩
    obtain ⟨y,hy⟩ : ∃ y,q.i[i] = y:=⟨_,rfl⟩
    have hzd : zi.drop i = (x,y) :: zi.drop (i + 1):=by
      rw [List.drop_eq_getElem_cons hiz]
      congr 1
      simp only [← hzi,List.getElem_zip,hx,hy]
    rw [hzd,mixL] at q4 q5
    have hand:=and1_u64 ⟨kk,q2⟩
    simp only at hand
    have hshr:=shr1_u64 kk
    have hc8 : IntKind.u8.wrap ((kk % 2 : Nat) : Int) = ((kk % 2 : Nat) : Int):=by simp [IntKind.wrap,IntKind.bits,IntKind.signed]; omega
    obtain ⟨b1,hb1'⟩ : ∃ b,kk % 2 = b:=⟨_,rfl⟩
    obtain ⟨b2,hb2'⟩ : ∃ b,kk / 2 = b:=⟨_,rfl⟩
    have hb2l : b2 < 64:=by omega
    rw [hb1',hb2'] at q4 q5
    rw [hb1'] at hand hc8
    rw [hb2'] at hshr
    have key : ∀ (v k' : Nat),(mixB x y = true→v = b1∧k' = b2)→(mixB x y = false→v = x∧k' = kk)→k' < 64∧(accL z ++ [.int .u8 (v : Int)]) ++ (mixL (zi.drop (i + 1)) k').1.map u8V = RI.1.map u8V∧(mixL (zi.drop (i + 1)) k').2 = RI.2:=by
      intro v k' h1 h2
      cases hm : mixB x y with
      | true=>
        obtain ⟨rfl,rfl⟩:=h1 hm
        rw [hm] at q4 q5
        exact ⟨hb2l,by rw [← q4]; simp [u8V],q5⟩
      | false=>
        obtain ⟨rfl,rfl⟩:=h2 hm
        rw [hm] at q4 q5
        exact ⟨q2,by rw [← q4]; simp [u8V],q5⟩
    clear q4 q5
    have hzl : (accL z).length ≤ 274877906944 - 1:=by omega
    by_cases h1 : 1 < x
    · have hm : mixB x y = true:=by simp [mixB,h1]
      obtain ⟨r1,r2,r3⟩:=key b1 b2 (fun _=>⟨rfl,rfl⟩) (fun h=>by rw [hm] at h; cases h)
      rcases z with _ | ⟨gz,L⟩
      · simp only [accV,accH,accL] at *
        simp [hj,hx,u8V,h1,hand,hshr,hc8]
        intro ga gb
        exact ⟨⟨i + 1,b2,some (gb 45,[.int .u8 (b1 : Int)])⟩,⟨hj,r1,by simp,by simpa using r2,r3,by simpa using q6.symm,rfl⟩,⟨by simp [hw],by first | exact hshr | rfl⟩,⟨rfl,by simp⟩,by dsimp only; omega⟩
      · simp only [accV,accH,accL] at *
        simp [hj,hx,u8V,h1,hand,hshr,hc8]
        intro ga gb
        exact ⟨by omega,⟨i + 1,b2,some (gb 45,L ++ [.int .u8 (b1 : Int)])⟩,⟨hj,r1,by simp,by simpa using r2,r3,by simp; omega,pureL_append q7 rfl⟩,⟨by simp [hw],by first | exact hshr | rfl⟩,⟨by simp,by simp⟩,by dsimp only; omega⟩
    · by_cases h2 : y = x
      · have hm : mixB x y = false:=by simp [mixB,h1,h2]
        obtain ⟨r1,r2,r3⟩:=key x kk (fun h=>by rw [hm] at h; cases h) (fun _=>⟨rfl,rfl⟩)
        rcases z with _ | ⟨gz,L⟩
        · simp only [accV,accH,accL] at *
          simp [hj,hx,u8V,h1,hiq,hy,h2]
          intro ga gb
          exact ⟨⟨i + 1,kk,some (gb 45,[.int .u8 (x : Int)])⟩,⟨hj,r1,by simp,by simpa using r2,r3,by simpa using q6.symm,rfl⟩,⟨by simp [hw],by first | exact hshr | rfl⟩,⟨rfl,by simp⟩,by dsimp only; omega⟩
        · simp only [accV,accH,accL] at *
          simp [hj,hx,u8V,h1,hiq,hy,h2]
          intro ga gb
          exact ⟨by omega,⟨i + 1,kk,some (gb 45,L ++ [.int .u8 (x : Int)])⟩,⟨hj,r1,by simp,by simpa using r2,r3,by simp; omega,pureL_append q7 rfl⟩,⟨by simp [hw],by first | exact hshr | rfl⟩,⟨by simp,by simp⟩,by dsimp only; omega⟩
      · have hm : mixB x y = true:=by simp [mixB,h2]
        obtain ⟨r1,r2,r3⟩:=key b1 b2 (fun _=>⟨rfl,rfl⟩) (fun h=>by rw [hm] at h; cases h)
        rcases z with _ | ⟨gz,L⟩
        · simp only [accV,accH,accL] at *
          simp [hj,hx,u8V,h1,hiq,hy,h2,hand,hshr,hc8]
          intro ga gb
          exact ⟨⟨i + 1,b2,some (gb 45,[.int .u8 (b1 : Int)])⟩,⟨hj,r1,by simp,by simpa using r2,r3,by simpa using q6.symm,rfl⟩,⟨by simp [hw],by first | exact hshr | rfl⟩,⟨rfl,by simp⟩,by dsimp only; omega⟩
        · simp only [accV,accH,accL] at *
          simp [hj,hx,u8V,h1,hiq,hy,h2,hand,hshr,hc8]
          intro ga gb
          exact ⟨by omega,⟨i + 1,b2,some (gb 45,L ++ [.int .u8 (b1 : Int)])⟩,⟨hj,r1,by simp,by simpa using r2,r3,by simp; omega,pureL_append q7 rfl⟩,⟨by simp [hw],by first | exact hshr | rfl⟩,⟨by simp,by simp⟩,by dsimp only; omega⟩
  · have hj : i = p.i.length:=by have:=of_decide_eq_false hb1; omega
    have hzd : zi.drop i = []:=List.drop_of_length_le (by omega)
    rw [hzd] at q4 q5
    simp only [mixL,List.map_nil,List.append_nil] at q4 q5
    subst q5
    have q7I:=q7
    · rcases z with _ | ⟨gI,LI⟩
      · have hI0 : RI.1.map u8V = []:=by simpa [accL] using q4.symm
        simp only [accV,accH]
        simp
        refine LoopP.of (X:=MxSt) (fun z=>[(8,natV z.i),(1,.int .u64 (z.k : Int)),(2,.ptr 2 g2 0 0),(4,.ptr 4 g4 0 0),(5,.ptr 5 g5 0 0)])
          (fun z=>(2,.row g2 4 [.agg [.sl (p.i.map u8V) none,.sl (p.s.map u8V) none,.sl (q.i.map u8V) none,.sl (q.s.map u8V) none]]) :: (4,.row g4 2 [.agg [.nil,.nil]]) ::  (5,.row g5 2 [.agg [.nil,accV 82 z.z]]) :: accH 82 1 z.z)
          (fun z=>z.i ≤ p.s.length∧z.k < 64∧(z.z = none↔z.i = 0)∧accL z.z ++ (mixL (zs.drop z.i) z.k).1.map u8V = RS.1.map u8V∧(mixL (zs.drop z.i) z.k).2 = RS.2∧(accL z.z).length = z.i∧V.pureL (accL z.z) = true) (fun z=>p.s.length - z.i) ⟨0,RI.2,none⟩
          ⟨by simp,hRk,by simp,by simp [accL,hRS],by simp [hRS],by simp [accL],rfl⟩ (by simp [natV]) (by simp [accV,accH]) ?_
        clear q2 q3 q4 q6 q7
        rintro ⟨i,kk,z⟩ ⟨q1,q2,q3,q4,q5,q6,q7⟩
        dsimp only at q1 q2 q3 q4 q5 q6 q7 ⊢
        simp [natV]
        refine BrB.of (fun hb1=>?_) (fun hb1=>?_)
        · have hj:=of_decide_eq_true hb1
          have hw:=wrapN i (by omega)
          have hiz : i < zs.length:=by omega
          have hiq : i < q.s.length:=by omega
          obtain ⟨x,hx⟩ : ∃ x,p.s[i] = x:=⟨_,rfl⟩
          obtain ⟨y,hy⟩ : ∃ y,q.s[i] = y:=⟨_,rfl⟩
          have hzd : zs.drop i = (x,y) :: zs.drop (i + 1):=by
            rw [List.drop_eq_getElem_cons hiz]
            congr 1
            simp only [← hzs,List.getElem_zip,hx,hy]
          rw [hzd,mixL] at q4 q5
          have hand:=and1_u64 ⟨kk,q2⟩
          simp only at hand
          have hshr:=shr1_u64 kk
          have hc8 : IntKind.u8.wrap ((kk % 2 : Nat) : Int) = ((kk % 2 : Nat) : Int):=by simp [IntKind.wrap,IntKind.bits,IntKind.signed]; omega
          obtain ⟨b1,hb1'⟩ : ∃ b,kk % 2 = b:=⟨_,rfl⟩
          obtain ⟨b2,hb2'⟩ : ∃ b,kk / 2 = b:=⟨_,rfl⟩
          have hb2l : b2 < 64:=by omega
          rw [hb1',hb2'] at q4 q5
          rw [hb1'] at hand hc8
          rw [hb2'] at hshr
          have key : ∀ (v k' : Nat),(mixB x y = true→v = b1∧k' = b2)→(mixB x y = false→v = x∧k' = kk)→k' < 64∧(accL z ++ [.int .u8 (v : Int)]) ++ (mixL (zs.drop (i + 1)) k').1.map u8V = RS.1.map u8V∧(mixL (zs.drop (i + 1)) k').2 = RS.2:=by
            intro v k' h1 h2
            cases hm : mixB x y with
            | true=>
              obtain ⟨rfl,rfl⟩:=h1 hm
              rw [hm] at q4 q5
              exact ⟨hb2l,by rw [← q4]; simp [u8V],q5⟩
            | false=>
              obtain ⟨rfl,rfl⟩:=h2 hm
              rw [hm] at q4 q5
              exact ⟨q2,by rw [← q4]; simp [u8V],q5⟩
          clear q4 q5
          have hzl : (accL z).length ≤ 274877906944 - 1:=by omega
          by_cases h1 : 1 < x
          · have hm : mixB x y = true:=by simp [mixB,h1]
            obtain ⟨r1,r2,r3⟩:=key b1 b2 (fun _=>⟨rfl,rfl⟩) (fun h=>by rw [hm] at h; cases h)
            rcases z with _ | ⟨gz,L⟩
            · simp only [accV,accH,accL] at *
              simp [hj,hx,u8V,h1,hand,hshr,hc8]
              intro ga gb
              exact ⟨⟨i + 1,b2,some (gb 82,[.int .u8 (b1 : Int)])⟩,⟨hj,r1,by simp,by simpa using r2,r3,by simpa using q6.symm,rfl⟩,⟨by simp [hw],by first | exact hshr | rfl⟩,⟨rfl,by simp⟩,by dsimp only; omega⟩
            · simp only [accV,accH,accL] at *
              simp [hj,hx,u8V,h1,hand,hshr,hc8]
              intro ga gb
              exact ⟨by omega,⟨i + 1,b2,some (gb 82,L ++ [.int .u8 (b1 : Int)])⟩,⟨hj,r1,by simp,by simpa using r2,r3,by simp; omega,pureL_append q7 rfl⟩,⟨by simp [hw],by first | exact hshr | rfl⟩,⟨by simp,by simp⟩,by dsimp only; omega⟩
          · by_cases h2 : y = x
            · have hm : mixB x y = false:=by simp [mixB,h1,h2]
              obtain ⟨r1,r2,r3⟩:=key x kk (fun h=>by rw [hm] at h; cases h) (fun _=>⟨rfl,rfl⟩)
              rcases z with _ | ⟨gz,L⟩
              · simp only [accV,accH,accL] at *
                simp [hj,hx,u8V,h1,hiq,hy,h2]
                intro ga gb
                exact ⟨⟨i + 1,kk,some (gb 82,[.int .u8 (x : Int)])⟩,⟨hj,r1,by simp,by simpa using r2,r3,by simpa using q6.symm,rfl⟩,⟨by simp [hw],by first | exact hshr | rfl⟩,⟨rfl,by simp⟩,by dsimp only; omega⟩
              · simp only [accV,accH,accL] at *
                simp [hj,hx,u8V,h1,hiq,hy,h2]
                intro ga gb
                exact ⟨by omega,⟨i + 1,kk,some (gb 82,L ++ [.int .u8 (x : Int)])⟩,⟨hj,r1,by simp,by simpa using r2,r3,by simp; omega,pureL_append q7 rfl⟩,⟨by simp [hw],by first | exact hshr | rfl⟩,⟨by simp,by simp⟩,by dsimp only; omega⟩
            · have hm : mixB x y = true:=by simp [mixB,h2]
              obtain ⟨r1,r2,r3⟩:=key b1 b2 (fun _=>⟨rfl,rfl⟩) (fun h=>by rw [hm] at h; cases h)
              rcases z with _ | ⟨gz,L⟩
              · simp only [accV,accH,accL] at *
                simp [hj,hx,u8V,h1,hiq,hy,h2,hand,hshr,hc8]
                intro ga gb
                exact ⟨⟨i + 1,b2,some (gb 82,[.int .u8 (b1 : Int)])⟩,⟨hj,r1,by simp,by simpa using r2,r3,by simpa using q6.symm,rfl⟩,⟨by simp [hw],by first | exact hshr | rfl⟩,⟨rfl,by simp⟩,by dsimp only; omega⟩
              · simp only [accV,accH,accL] at *
                simp [hj,hx,u8V,h1,hiq,hy,h2,hand,hshr,hc8]
                intro ga gb
                exact ⟨by omega,⟨i + 1,b2,some (gb 82,L ++ [.int .u8 (b1 : Int)])⟩,⟨hj,r1,by simp,by simpa using r2,r3,by simp; omega,pureL_append q7 rfl⟩,⟨by simp [hw],by first | exact hshr | rfl⟩,⟨by simp,by simp⟩,by dsimp only; omega⟩
        · have hj : i = p.s.length:=by have:=of_decide_eq_false hb1; omega
          have hzd : zs.drop i = []:=List.drop_of_length_le (by omega)
          rw [hzd] at q4 q5
          simp only [mixL,List.map_nil,List.append_nil] at q4 q5
          rw [← q4]
          rcases z with _ | ⟨gz,L⟩
          · simp only [accV,accH,accL] at *
            simp [listV_nil,hI0]
          · simp only [accV,accH,accL] at *
            have hL1 : L ≠ []:=fun e=>by subst e; have:=q3.2 (by simpa using q6.symm); cases this
            simp [listV_nil,hI0,map_frz_pure q7,listV_ne hL1]
      · have hI0 : RI.1.map u8V = LI:=by simpa [accL] using q4.symm
        have hI1 : LI ≠ []:=fun e=>by subst e; have:=q6; simp [accL] at this; have:=q3.2 this.symm; cases this
        simp only [accV,accH]
        simp
        refine LoopP.of (X:=MxSt) (fun z=>[(8,natV z.i),(1,.int .u64 (z.k : Int)),(2,.ptr 2 g2 0 0),(4,.ptr 4 g4 0 0),(5,.ptr 5 g5 0 0)])
          (fun z=>(2,.row g2 4 [.agg [.sl (p.i.map u8V) none,.sl (p.s.map u8V) none,.sl (q.i.map u8V) none,.sl (q.s.map u8V) none]]) :: (4,.row g4 2 [.agg [.nil,.nil]]) :: (45,.row gI 1 LI) :: (5,.row g5 2 [.agg [.ref 45 gI 0 LI.length none,accV 82 z.z]]) :: accH 82 1 z.z)
          (fun z=>z.i ≤ p.s.length∧z.k < 64∧(z.z = none↔z.i = 0)∧accL z.z ++ (mixL (zs.drop z.i) z.k).1.map u8V = RS.1.map u8V∧(mixL (zs.drop z.i) z.k).2 = RS.2∧(accL z.z).length = z.i∧V.pureL (accL z.z) = true) (fun z=>p.s.length - z.i) ⟨0,RI.2,none⟩
          ⟨by simp,hRk,by simp,by simp [accL,hRS],by simp [hRS],by simp [accL],rfl⟩ (by simp [natV]) (by simp [accV,accH]) ?_
        clear q2 q3 q4 q6 q7
        rintro ⟨i,kk,z⟩ ⟨q1,q2,q3,q4,q5,q6,q7⟩
        dsimp only at q1 q2 q3 q4 q5 q6 q7 ⊢
        simp [natV]
        refine BrB.of (fun hb1=>?_) (fun hb1=>?_)
        · have hj:=of_decide_eq_true hb1
          have hw:=wrapN i (by omega)
          have hiz : i < zs.length:=by omega
          have hiq : i < q.s.length:=by omega
          obtain ⟨x,hx⟩ : ∃ x,p.s[i] = x:=⟨_,rfl⟩
          obtain ⟨y,hy⟩ : ∃ y,q.s[i] = y:=⟨_,rfl⟩
          have hzd : zs.drop i = (x,y) :: zs.drop (i + 1):=by
            rw [List.drop_eq_getElem_cons hiz]
            congr 1
            simp only [← hzs,List.getElem_zip,hx,hy]
          rw [hzd,mixL] at q4 q5
          have hand:=and1_u64 ⟨kk,q2⟩
          simp only at hand
          have hshr:=shr1_u64 kk
          have hc8 : IntKind.u8.wrap ((kk % 2 : Nat) : Int) = ((kk % 2 : Nat) : Int):=by simp [IntKind.wrap,IntKind.bits,IntKind.signed]; omega
          obtain ⟨b1,hb1'⟩ : ∃ b,kk % 2 = b:=⟨_,rfl⟩
          obtain ⟨b2,hb2'⟩ : ∃ b,kk / 2 = b:=⟨_,rfl⟩
          have hb2l : b2 < 64:=by omega
          rw [hb1',hb2'] at q4 q5
          rw [hb1'] at hand hc8
          rw [hb2'] at hshr
          have key : ∀ (v k' : Nat),(mixB x y = true→v = b1∧k' = b2)→(mixB x y = false→v = x∧k' = kk)→k' < 64∧(accL z ++ [.int .u8 (v : Int)]) ++ (mixL (zs.drop (i + 1)) k').1.map u8V = RS.1.map u8V∧(mixL (zs.drop (i + 1)) k').2 = RS.2:=by
            intro v k' h1 h2
            cases hm : mixB x y with
            | true=>
              obtain ⟨rfl,rfl⟩:=h1 hm
              rw [hm] at q4 q5
              exact ⟨hb2l,by rw [← q4]; simp [u8V],q5⟩
            | false=>
              obtain ⟨rfl,rfl⟩:=h2 hm
              rw [hm] at q4 q5
              exact ⟨q2,by rw [← q4]; simp [u8V],q5⟩
          clear q4 q5
          have hzl : (accL z).length ≤ 274877906944 - 1:=by omega
          by_cases h1 : 1 < x
          · have hm : mixB x y = true:=by simp [mixB,h1]
            obtain ⟨r1,r2,r3⟩:=key b1 b2 (fun _=>⟨rfl,rfl⟩) (fun h=>by rw [hm] at h; cases h)
            rcases z with _ | ⟨gz,L⟩
            · simp only [accV,accH,accL] at *
              simp [hj,hx,u8V,h1,hand,hshr,hc8]
              intro ga gb
              exact ⟨⟨i + 1,b2,some (gb 82,[.int .u8 (b1 : Int)])⟩,⟨hj,r1,by simp,by simpa using r2,r3,by simpa using q6.symm,rfl⟩,⟨by simp [hw],by first | exact hshr | rfl⟩,⟨rfl,by simp⟩,by dsimp only; omega⟩
            · simp only [accV,accH,accL] at *
              simp [hj,hx,u8V,h1,hand,hshr,hc8]
              intro ga gb
              exact ⟨by omega,⟨i + 1,b2,some (gb 82,L ++ [.int .u8 (b1 : Int)])⟩,⟨hj,r1,by simp,by simpa using r2,r3,by simp; omega,pureL_append q7 rfl⟩,⟨by simp [hw],by first | exact hshr | rfl⟩,⟨by simp,by simp⟩,by dsimp only; omega⟩
          · by_cases h2 : y = x
            · have hm : mixB x y = false:=by simp [mixB,h1,h2]
              obtain ⟨r1,r2,r3⟩:=key x kk (fun h=>by rw [hm] at h; cases h) (fun _=>⟨rfl,rfl⟩)
              rcases z with _ | ⟨gz,L⟩
              · simp only [accV,accH,accL] at *
                simp [hj,hx,u8V,h1,hiq,hy,h2]
                intro ga gb
                exact ⟨⟨i + 1,kk,some (gb 82,[.int .u8 (x : Int)])⟩,⟨hj,r1,by simp,by simpa using r2,r3,by simpa using q6.symm,rfl⟩,⟨by simp [hw],by first | exact hshr | rfl⟩,⟨rfl,by simp⟩,by dsimp only; omega⟩
              · simp only [accV,accH,accL] at *
                simp [hj,hx,u8V,h1,hiq,hy,h2]
                intro ga gb
                exact ⟨by omega,⟨i + 1,kk,some (gb 82,L ++ [.int .u8 (x : Int)])⟩,⟨hj,r1,by simp,by simpa using r2,r3,by simp; omega,pureL_append q7 rfl⟩,⟨by simp [hw],by first | exact hshr | rfl⟩,⟨by simp,by simp⟩,by dsimp only; omega⟩
            · have hm : mixB x y = true:=by simp [mixB,h2]
              obtain ⟨r1,r2,r3⟩:=key b1 b2 (fun _=>⟨rfl,rfl⟩) (fun h=>by rw [hm] at h; cases h)
              rcases z with _ | ⟨gz,L⟩
              · simp only [accV,accH,accL] at *
                simp [hj,hx,u8V,h1,hiq,hy,h2,hand,hshr,hc8]
                intro ga gb
                exact ⟨⟨i + 1,b2,some (gb 82,[.int .u8 (b1 : Int)])⟩,⟨hj,r1,by simp,by simpa using r2,r3,by simpa using q6.symm,rfl⟩,⟨by simp [hw],by first | exact hshr | rfl⟩,⟨rfl,by simp⟩,by dsimp only; omega⟩
              · simp only [accV,accH,accL] at *
                simp [hj,hx,u8V,h1,hiq,hy,h2,hand,hshr,hc8]
                intro ga gb
                exact ⟨by omega,⟨i + 1,b2,some (gb 82,L ++ [.int .u8 (b1 : Int)])⟩,⟨hj,r1,by simp,by simpa using r2,r3,by simp; omega,pureL_append q7 rfl⟩,⟨by simp [hw],by first | exact hshr | rfl⟩,⟨by simp,by simp⟩,by dsimp only; omega⟩
        · have hj : i = p.s.length:=by have:=of_decide_eq_false hb1; omega
          have hzd : zs.drop i = []:=List.drop_of_length_le (by omega)
          rw [hzd] at q4 q5
          simp only [mixL,List.map_nil,List.append_nil] at q4 q5
          rw [← q4]
          rcases z with _ | ⟨gz,L⟩
          · simp only [accV,accH,accL] at *
            simp [listV_nil,hI0,map_frz_pure q7I,listV_ne hI1]
          · simp only [accV,accH,accL] at *
            have hL1 : L ≠ []:=fun e=>by subst e; have:=q3.2 (by simpa using q6.symm); cases this
            simp [hI0,map_frz_pure q7I,listV_ne hI1,map_frz_pure q7,listV_ne hL1]
set_option maxRecDepth 100000 in
set_option maxHeartbeats 8000000 in
theorem law11_c (x : Cx) (hx : x.ok) (p q : Pt) : PureC Tryz.prog gl0 11 [caseV x p q] (.bool true):=by
  have hg:=nm_good x
  have hcs:=caseP_c x hx p q
  have hcp:=case_pure x p q
  generalize x.nm.ci = c at hcs hg
  have ha:=pof_fit c p
  have hb:=pof_fit c q
  generalize pof c p = p1 at hcs ha
  generalize pof c q = q1 at hcs hb
  have hn1:=hg.n1
  have hn0:=hg.n0
  have hst:=steadyS_c c hg p1 q1 ha hb
  have r1:=run_c c hg p1 ha
  have r2:=run_c c hg q1 hb
  have l0:=cnt_le 0 c.n
  have l1:=cnt_le 14 c.n
  have hmx:=fun k (hk : k < 64)=>mixed_c p1 q1 k hk (by rw [ha.i,hb.i]) (by rw [ha.s,hb.s]) (by rw [ha.i]; omega) (by rw [ha.s]; omega)
  have r3:=fun k=>run_c c hg (mixP p1 q1 k) (mixP_fit ha hb k)
  have hK:=fun k n (hn : n < c.n.length)=>firm_keep hg ha hb (mixP_fit ha hb k) (mixP_mid ha hb k) (lvOf c n + 1) n (Nat.lt_succ_self _) hn
  generalize obsO c (netN c p1) = O1 at r1
  generalize obsS c (netN c p1) = S1 at r1
  generalize obsO c (netN c q1) = O2 at r2
  generalize obsS c (netN c q1) = S2 at r2
  generalize firmN c (netN c p1) (netN c q1) = F at hst hK
  generalize netN c p1 = A at r1 hK
  generalize netN c q1 = B at r2 hK
  obtain ⟨O3,hO3⟩ : ∃ O3 : Nat→List Nat,∀ k,obsO c (netN c (mixP p1 q1 k)) = O3 k:=⟨_,fun _=>rfl⟩
  obtain ⟨S3,hS3⟩ : ∃ S3 : Nat→List Nat,∀ k,obsS c (netN c (mixP p1 q1 k)) = S3 k:=⟨_,fun _=>rfl⟩
  obtain ⟨D,hD⟩ : ∃ D : Nat→Nat→Nat,∀ k,netN c (mixP p1 q1 k) = D k:=⟨_,fun _=>rfl⟩
  obtain ⟨MP,hMP⟩ : ∃ MP : Nat→Pt,∀ k,mixP p1 q1 k = MP k:=⟨_,fun _=>rfl⟩
  simp only [hO3,hS3,hD] at r3
  simp only [hD] at hK
  simp only [hMP] at r3 hmx
  have pA:=tabU_pure c.n.length A
  have pB:=tabU_pure c.n.length B
  have pF:=boolsV_pure c.n.length F
  have hcl : c.v.cells = [.sl (c.n.map Nd.v) none,.sl (c.s.map .str) none,.sl (c.m.map Md.v) none,.sl (ints c.o) none]:=rfl
  simp only [caseV,prV,rspV,Pt.v,u8V] at hcs hcp hst r1 r2 r3 hmx pA pB
  refine PureC.of_W 2 ok11 rfl ?_
  simp [i11,x11,caseV,u8V]
  intro gf1
  generalize gf1 1 = g1
  refine CallO.pure hcs (by simpa [u8V] using hcp) ?_
  simp
  intro gf3 gf4
  generalize gf3 3 = g3
  generalize gf4 4 = g4
  refine CallO.pure hst (by simp) ?_
  simp
  refine CallO.pure r1 (by simp) ?_
  simp
  intro gf5
  refine CallO.pure r2 (by simp) ?_
  simp
  intro gf6
  refine LoopP.of (X:=Nat) (fun i=>[(13,natV i),(5,.sl (boolsV c.n.length F) (some c.n.length)),(8,.sl (tab c.n.length fun j=>.int .u8 (A j : Int)) (some c.n.length)),(11,.sl (tab c.n.length fun j=>.int .u8 (B j : Int)) (some c.n.length)),(3,.ptr 3 g3 0 0),(4,.ptr 4 g4 0 0)]) (fun _=>[(3,.row g3 4 [c.v]),(4,.row g4 4 [prV p1 q1])])
    (fun i=>i ≤ c.n.length) (fun i=>c.n.length - i) 0 (by simp) (by simp [natV]) (by simp [prV]; rfl) ?_
  rintro n u1
  simp [natV]
  refine BrB.of (fun hb1=>?_) (fun hb1=>?_)
  · have hn:=of_decide_eq_true hb1
    have hw:=wrapN n (by omega)
    have hk:=hK 0 n hn
    obtain ⟨xa,hxa⟩ : ∃ v,A n = v:=⟨_,rfl⟩
    obtain ⟨xb,hxb⟩ : ∃ v,B n = v:=⟨_,rfl⟩
    obtain ⟨fn,hfn2⟩ : ∃ v,F n = v:=⟨_,rfl⟩
    rw [hxa,hxb,hfn2] at hk
    cases fn with
    | false=>
      simp [hn,boolsV_get,hfn2,hw]
      exact ⟨n + 1,hn,by simp,by omega⟩
    | true=>
      obtain ⟨k1,k2,-⟩:=hk rfl
      have k3 : ¬ 1 < xa:=by omega
      simp [hn,boolsV_get,hfn2,hw,tab_get,hxa,hxb,k3,k2]
      exact ⟨n + 1,hn,by simp,by omega⟩
  · have hn : n = c.n.length:=by have:=of_decide_eq_false hb1; omega
    subst hn
    simp
    refine LoopP.of (X:=Nat) (fun i=>[(14,.int .u64 (i : Int)),(5,.sl (boolsV c.n.length F) (some c.n.length)),(8,.sl (tab c.n.length fun j=>.int .u8 (A j : Int)) (some c.n.length)),(11,.sl (tab c.n.length fun j=>.int .u8 (B j : Int)) (some c.n.length)),(3,.ptr 3 g3 0 0),(4,.ptr 4 g4 0 0)]) (fun _=>[(3,.row g3 4 [c.v]),(4,.row g4 4 [prV p1 q1])])
      (fun i=>i ≤ 64) (fun i=>64 - i) 0 (by simp) (by simp [natV]) (by simp) ?_
    rintro k u2
    simp
    refine BrB.of (fun hb2=>?_) (fun hb2=>?_)
    · have hk : k < 64:=of_decide_eq_true hb2
      have hm:=hmx k hk
      have hr:=r3 k
      have hwk : IntKind.u64.wrap ((k : Int) + 1) = ((k + 1 : Nat) : Int):=by simp [IntKind.wrap,IntKind.bits,IntKind.signed]; omega
      have pD:=tabU_pure c.n.length (D k)
      simp only [u8V] at pD
      simp [prV]
      intro gm
      refine ⟨_,_,_,.pure hm (by simp),?_⟩
      simp
      first | refine ⟨_,_,_,.pure hr (by simp),?_⟩ | refine ⟨_,⟨_,_,.pure hr (by simp)⟩,?_⟩ | refine ⟨_,_,⟨_,.pure hr (by simp)⟩,?_⟩
      simp
      refine ⟨rfl,?_⟩
      refine LoopP.of (X:=Nat) (fun i=>[(18,natV i),(14,.int .u64 (k : Int)),(16,.sl (tab c.n.length fun j=>.int .u8 (D k j : Int)) (some c.n.length)),(5,.sl (boolsV c.n.length F) (some c.n.length)),(8,.sl (tab c.n.length fun j=>.int .u8 (A j : Int)) (some c.n.length)),(11,.sl (tab c.n.length fun j=>.int .u8 (B j : Int)) (some c.n.length)),(3,.ptr 3 g3 0 0),(4,.ptr 4 g4 0 0)]) (fun _=>[(3,.row g3 4 [c.v]),(4,.row g4 4 [prV p1 q1])])
        (fun i=>i ≤ c.n.length) (fun i=>c.n.length - i) 0 (by simp) (by simp [natV]) (by simp [prV]) ?_
      rintro n u3
      simp [natV]
      refine BrB.of (fun hb3=>?_) (fun hb3=>?_)
      · have hn:=of_decide_eq_true hb3
        have hw:=wrapN n (by omega)
        have hkn:=hK k n hn
        obtain ⟨xa,hxa⟩ : ∃ v,A n = v:=⟨_,rfl⟩
        obtain ⟨xd,hxd⟩ : ∃ v,D k n = v:=⟨_,rfl⟩
        obtain ⟨fn,hfn2⟩ : ∃ v,F n = v:=⟨_,rfl⟩
        rw [hxa,hxd,hfn2] at hkn
        cases fn with
        | false=>
          simp [hn,boolsV_get,hfn2,hw]
          exact ⟨n + 1,hn,by simp,by omega⟩
        | true=>
          obtain ⟨-,-,k3⟩:=hkn rfl
          simp [hn,boolsV_get,hfn2,hw,tab_get,hxa,hxd,k3]
          exact ⟨n + 1,hn,by simp,by omega⟩
      · have hn : n = c.n.length:=by have:=of_decide_eq_false hb3; omega
        subst hn
        simp [hwk]
        exact ⟨k + 1,hk,by simp,rfl,by omega⟩
    · simp
      refine CallO.pure livesP_c rfl ?_
      simp
end Go.Proofs.YtlmniacemoohpaaGreatDoor
