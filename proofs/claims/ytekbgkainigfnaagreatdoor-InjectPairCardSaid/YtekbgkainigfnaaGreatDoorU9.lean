/- Faults: the machine's contracts. Conditions: none. -/
import Derived.Test.YtekbgkainigfnaaGreatDoorU8
set_option linter.unusedSimpArgs false
set_option linter.unusedVariables false
namespace Go.Proofs.YtekbgkainigfnaaGreatDoor
open Go
def MEq (c : Ci) (p : Pt) (f : Ft) (A M : Nat→Nat) : Prop:=∀ n,n < c.n.length→M n = f.mW c A n (if combC c n = true then logE (c.nd n).k.toNat (rdsM c (f.mQ c A) n M) else ini c p n)
theorem frz_mV (c : Ci) (p : Pt) (f : Ft) (A M : Nat→Nat) (g gd gn : Nat) (D : Nat→Bool) (r : Hp) : frz (mH c p f A M g gd gn D ++ r) 2 (.ptr 30 g 0 0) = .iptr (mV c p f A (.sl (boolsV c.n.length D) (some c.n.length)) (.sl (tU c.n.length (mS M D)) (some c.n.length))) 0:=by
  have h1 : frz (mH c p f A M g gd gn D ++ r) 1 (mV c p f A (.ref 24 gd 0 c.n.length (some c.n.length)) (.ref 28 gn 0 c.n.length (some c.n.length))) = mV c p f A (.sl (boolsV c.n.length D) (some c.n.length)) (.sl (tU c.n.length (mS M D)) (some c.n.length)):=by
    unfold mV
    rw [frz_agg]
    simp only [List.map_cons,List.map_nil]
    rw [frz_ref (es:=boolsV c.n.length D) (sz:=1) (by simp [mH]) (by simp),frz_ref (es:=tU c.n.length (mS M D)) (sz:=1) (by simp [mH]) (by simp),List.drop_zero,List.drop_zero,
      List.take_of_length_le (by simp),List.take_of_length_le (by simp),frz_all _ _ (boolsV_pure _ _),frz_all _ _ (tU_pure _ _)]
    simp [frz,V.mapR,mapRL_pure,nds_pure,strs_pure,mds_pure,ints_pure,u8s_pure,tU_pure,u8V,natV]
  have : frz (mH c p f A M g gd gn D ++ r) 2 (.ptr 30 g 0 0) = .iptr (frz (mH c p f A M g gd gn D ++ r) 1 (mV c p f A (.ref 24 gd 0 c.n.length (some c.n.length)) (.ref 28 gn 0 c.n.length (some c.n.length)))) 0:=by
    simp [frz,mH,V.mapR]
  rw [this,h1]
theorem call_to {P : Program} {gl : Fr} {f : FuncId} {args : List V} {h : Hp} {K K' : V→Hp→Prop} (hc : ICallO P gl f args h K) (hk : ∀ v h',K v h'→K' v h') : ICallO P gl f args h K':=
  ⟨hc.1,fun G M w r h1 h2 h3 h4=>Calls.mono (hc.2 G M w r h1 h2 h3 h4) fun _ _ ⟨rv,v,h',G',M',q1,q2,q3,q4,q5⟩=>⟨rv,v,h',G',M',q1,hk v h' q2,q3,q4,q5⟩⟩
theorem read_mc (c : Ci) (hg : c.good) (p : Pt) (f : Ft) (hf : f.okM c) (A M : Nat→Nat) (g gd gn : Nat) {n k x : Nat} (hn : n < c.n.length) (hk : k < (c.nd n).i.length) (hx : (c.nd n).i[k] = (x : Int)) (D : Nat→Bool)
    (hnet : ICallO Tryz.prog gl0 70 [.ptr 30 g 0 0,natV x] (mH c p f A M g gd gn D) (fun v h=>v = u8V (M x)∧h = mH c p f A M g gd gn (exD c D x))) :
    ICallO Tryz.prog gl0 71 [.ptr 30 g 0 0,natV n,natV k] (mH c p f A M g gd gn D) (fun v h=>v = u8V (f.mQ c A n k (M x))∧h = mH c p f A M g gd gn (exD c D x)):=by
  have hn1:=hg.n1
  obtain ⟨y,hy⟩ : ∃ y,c.n[n] = y:=⟨_,rfl⟩
  have hnd : c.nd n = y:=by rw [c.nd_get hn,hy]
  simp only [hnd] at hk hx
  refine CallO.of_W ok71 rfl ?_
  simp [i71,x71,mH,nop,natV,hn,hy,hk,hx,ints_getE]
  refine call_to hnet ?_
  rintro v h ⟨rfl,rfl⟩
  generalize exD c D x = D2
  obtain ⟨xm,hxm⟩ : ∃ xm,M x = xm:=⟨_,rfl⟩
  rw [hxm]
  unfold Ft.mQ
  by_cases hm : f.m < 2
  · rw [if_pos hm]
    by_cases hnf : n = f.n
    · have hpin : ((f.pin : Int) = (k : Int))↔k + 1 = f.q:=by unfold Ft.pin; omega
      by_cases hkq : k + 1 = f.q
      · have hxf : x = f.net c:=by
          unfold Ft.net
          rw [if_neg (by omega),← hkq,Nat.add_sub_cancel,← hnf,hnd,List.getD_eq_getElem?_getD,List.getElem?_eq_getElem hk,hx]; rfl
        have hl:=line_mc c hg p f hf hm A (.sl (boolsV c.n.length D2) (some c.n.length)) (.sl (tU c.n.length (mS M D2)) (some c.n.length)) (by simp [V.pure,boolsV_pure]) (by simp [V.pure]) x hxf xm
        have hq : atQ f (f.mG c A) n k xm = f.mG c A xm:=by unfold atQ; rw [if_pos ⟨by omega,hnf,hkq⟩]
        rw [hq]
        generalize f.mG c A xm = E at hl
        simp only [natV,u8V] at hl
        simp [mH,nop,u8V,natV,hm,hnf,hpin,hkq]
        refine CallO.borrow 2 hl ?_ rfl ?_
        · have:=frz_mV c p f A M g gd gn D2 []
          rw [List.append_nil] at this
          simp only [mH] at this
          simp only [List.map_cons,List.map_nil,this,frz_pure _ _ (show (V.int IntKind.i64 (x : Int)).pure = true from rfl),frz_pure _ _ (show (V.int IntKind.u8 (xm : Int)).pure = true from rfl)]
        simp
        exact .done (by simp)
      · have hq : atQ f (f.mG c A) n k xm = xm:=by unfold atQ; rw [if_neg (fun h=>hkq h.2.2)]
        rw [hq]
        simp [mH,nop,u8V,natV,hm,hnf,hpin,hkq]
        exact .done (by simp)
    · have hq : atQ f (f.mG c A) n k xm = xm:=by unfold atQ; rw [if_neg (fun h=>hnf h.2.1)]
      have hnf2 : ¬ f.n = n:=fun e=>hnf e.symm
      rw [hq]
      simp [mH,nop,u8V,natV,hm,hnf2]
      exact .done (by simp)
  · rw [if_neg hm]
    simp [mH,nop,u8V,natV,hm,idQ]
    exact .done (by simp)
theorem heapIn_mH (c : Ci) (p : Pt) (f : Ft) (A M : Nat→Nat) (g gd gn : Nat) (D : Nat→Bool) : heapIn [30,24,28] (mH c p f A M g gd gn D) = true:=by
  have h1 : V.inB [30,24,28] (mV c p f A (.ref 24 gd 0 c.n.length (some c.n.length)) (.ref 28 gn 0 c.n.length (some c.n.length))) = true:=by
    simp [mV,V.inBL_pure _ _ (nds_pure _),V.inBL_pure _ _ (strs_pure _),V.inBL_pure _ _ (mds_pure _),V.inBL_pure _ _ (ints_pure _),V.inBL_pure _ _ (u8s_pure _),V.inBL_pure _ _ (tU_pure _ _),u8V,natV]
  simp [mH,h1,V.inBL_pure _ _ (boolsV_pure _ _),V.inBL_pure _ _ (tU_pure _ _)]
structure NeSt where
  k : Nat
  acc : Option (Nat × List V)
set_option maxRecDepth 100000 in
set_option maxHeartbeats 8000000 in
theorem net_mc (c : Ci) (hg : c.good) (p : Pt) (hp : p.fit c) (f : Ft) (hf : f.okM c) (A M : Nat→Nat) (hM : MEq c p f A M) (g gd gn : Nat) : ∀ (k n : Nat) (D : Nat→Bool),lvOf c n < k→n < c.n.length→clD c D→
    ICallO Tryz.prog gl0 70 [.ptr 30 g 0 0,natV n] (mH c p f A M g gd gn D) (fun v h=>v = u8V (M n)∧h = mH c p f A M g gd gn (exD c D n)):=by
  intro k
  induction k with
  | zero=>intro n D h; omega
  | succ k ih=>
    intro n D hlv hn hD
    have hn1:=hg.n1
    obtain ⟨y,hy⟩ : ∃ y,c.n[n] = y:=⟨_,rfl⟩
    have hnd : c.nd n = y:=by rw [c.nd_get hn,hy]
    have hyi:=hg.val.i n hn
    have hyl:=hg.val.l n hn
    have hMn:=hM n hn
    obtain ⟨xm,hxm⟩ : ∃ xm,M n = xm:=⟨_,rfl⟩
    rw [hxm] at hMn ⊢
    by_cases hDn : D n = true
    · rw [exD_old hg hD hn hDn]
      have hS : mS M D n = xm:=by unfold mS; rw [if_pos hDn,hxm]
      refine CallO.of_W ok70 rfl ?_
      simp [i70,x70,mH,nop,natV,hn,boolsV_get,hDn,tU_get,hS,u8V]
      exact .done (by simp)
    have hDf : D n = false:=by simpa using hDn
    obtain ⟨DE,hDE⟩ : ∃ DE,exD c D n = DE:=⟨_,rfl⟩
    rw [hDE]
    obtain ⟨V0,hV0⟩ : ∃ V0,(if combC c n = true then logE (c.nd n).k.toNat (rdsM c (f.mQ c A) n M) else ini c p n) = V0:=⟨_,rfl⟩
    rw [hV0] at hMn
    refine CallO.of_W ok70 rfl ?_
    by_cases h0 : y.k = 0
    case' pos=>
      have hc : combC c n = false:=by unfold combC; rw [hnd,h0]; decide
      rw [hc,if_neg Bool.false_ne_true] at hV0
      have hnin:=ids_of (k:=0) hn (by rw [hnd]; exact h0)
      obtain ⟨j,hj,ej,eI⟩:=ids_pos hnin
      obtain ⟨hj2,ep⟩:=ini_in hp hj ej
      rw [hV0] at ep
      have c1:=inputsN_c c (by omega)
      have c2:=index_c ((ids 0 c.n 0).map fun x : Nat=>(x : Int)) (some (cnt 0 c.n)) (n : Int) (by have:=cnt_le 0 c.n; have e : (ids 0 c.n 0).length = cnt 0 c.n:=rfl; simp; omega)
      rw [eI,← natsV_ints] at c2
      simp [i70,x70,mH,nop,natV,hn,boolsV_get,hDf,hy,h0]
      intro gm
      first | refine ⟨_,_,_,.pure c1 (by simp [V.pureL,V.pure]),?_⟩ | refine ⟨_,⟨_,_,.pure c1 (by simp [V.pureL,V.pure])⟩,?_⟩ | refine ⟨_,_,⟨_,.pure c1 (by simp [V.pureL,V.pure])⟩,?_⟩
      simp
      first | refine ⟨_,_,_,.pure c2 (by simp [V.pureL,V.pure,natsV_pure]),?_⟩ | refine ⟨_,⟨_,_,.pure c2 (by simp [V.pureL,V.pure,natsV_pure])⟩,?_⟩ | refine ⟨_,_,⟨_,.pure c2 (by simp [V.pureL,V.pure,natsV_pure])⟩,?_⟩
      simp [hj2,ep,u8V]
      refine ⟨rfl,?_⟩
      obtain ⟨D1,hD1⟩ : ∃ D1,D = D1:=⟨_,rfl⟩
      have hend : upd1 D1 n true = DE:=by rw [← hDE,← hD1,← exD_new hg D hn]; unfold Ci.g; rw [if_neg (by have:=hc; unfold combC at this; rw [this]; exact Bool.false_ne_true),exL_nil]
      rw [hD1]
    case' neg=>
      by_cases h14 : y.k = 14
    case' pos=>
      have hc : combC c n = false:=by unfold combC; rw [hnd,h14]; decide
      rw [hc,if_neg Bool.false_ne_true] at hV0
      have hnin:=ids_of (k:=14) hn (by rw [hnd]; exact h14)
      obtain ⟨j,hj,ej,eI⟩:=ids_pos hnin
      obtain ⟨hj2,ep⟩:=ini_st hp hj ej
      rw [hV0] at ep
      have c1:=statesN_c c (by omega)
      have c2:=index_c ((ids 14 c.n 0).map fun x : Nat=>(x : Int)) (some (cnt 14 c.n)) (n : Int) (by have:=cnt_le 14 c.n; have e : (ids 14 c.n 0).length = cnt 14 c.n:=rfl; simp; omega)
      rw [eI,← natsV_ints] at c2
      simp [i70,x70,mH,nop,natV,hn,boolsV_get,hDf,hy,h14]
      intro gm
      first | refine ⟨_,_,_,.pure c1 (by simp [V.pureL,V.pure]),?_⟩ | refine ⟨_,⟨_,_,.pure c1 (by simp [V.pureL,V.pure])⟩,?_⟩ | refine ⟨_,_,⟨_,.pure c1 (by simp [V.pureL,V.pure])⟩,?_⟩
      simp
      first | refine ⟨_,_,_,.pure c2 (by simp [V.pureL,V.pure,natsV_pure]),?_⟩ | refine ⟨_,⟨_,_,.pure c2 (by simp [V.pureL,V.pure,natsV_pure])⟩,?_⟩ | refine ⟨_,_,⟨_,.pure c2 (by simp [V.pureL,V.pure,natsV_pure])⟩,?_⟩
      simp [hj2,ep,u8V]
      refine ⟨rfl,?_⟩
      obtain ⟨D1,hD1⟩ : ∃ D1,D = D1:=⟨_,rfl⟩
      have hend : upd1 D1 n true = DE:=by rw [← hDE,← hD1,← exD_new hg D hn,g_14 (by rw [hnd]; exact h14),exL_nil]
      rw [hD1]
    case' neg=>
      have hcb:=nd_kw hg hn
      rw [hnd] at hcb
      have hc : combC c n = true:=by unfold combC; rw [hnd]; simp [combB]; omega
      have hgn : c.g n = y.i.map Int.toNat:=by rw [g_nd hg hn (by rw [hnd]; exact h14),hnd]
      rw [hc,if_pos rfl,hnd] at hV0
      rw [hnd] at hyi hyl
      have hRl : (rdsM c (f.mQ c A) n M).length = y.i.length:=by rw [rdsM_len,hnd]
      have hRg : ∀ k (hk : k < y.i.length) (x : Nat),y.i[k] = (x : Int)→∀ h,(rdsM c (f.mQ c A) n M)[k]'h = f.mQ c A n k (M x):=fun k hk x hx h=>rdsM_get hnd hk hx h
      generalize hRR : rdsM c (f.mQ c A) n M = R at hV0 hRl hRg
      clear hRR
      have hR3 : V.pureL (R.map u8V) = true:=u8s_pure R
      have hk256 : y.k.toNat < 256:=by omega
      have hku : u8V y.k.toNat = .int .u8 y.k:=by simp [u8V,Int.toNat_of_nonneg hcb.1]
      simp [i70,x70,mH,nop,natV,hn,boolsV_get,hDf,hy,h0,h14]
      refine LoopP.of (X:=NeSt) (fun z=>[(7,natV z.k),(6,accV 52 z.acc),(0,.ptr 30 g 0 0),(1,natV n)]) (fun z=>mH c p f A M g gd gn (exL c D ((y.i.map Int.toNat).take z.k)) ++ accH 52 1 z.acc)
        (fun z=>z.k ≤ y.i.length∧(z.acc = none↔z.k = 0)∧accL z.acc = (R.map u8V).take z.k) (fun z=>y.i.length - z.k) ⟨0,none⟩ ⟨by simp,by simp,by simp [accL]⟩ (by simp [natV,accV]) (by simp [mH,accH,exL_nil]) ?_
      rintro ⟨j,acc⟩ ⟨q1,q2,q3⟩
      dsimp only at q1 q2 q3 ⊢
      simp [mH,nop,natV,hn,hy]
      refine BrB.of (fun hb=>?_) (fun hb=>?_)
      · have hj : j < y.i.length:=of_decide_eq_true hb
        have hw:=wrapN j (by omega)
        have h2:=hyi _ (List.getElem_mem hj)
        obtain ⟨x,hx⟩ : ∃ x : Nat,y.i[j] = (x : Int):=⟨(y.i[j]).toNat,by omega⟩
        have hxN : x < c.n.length:=by omega
        have hxg : x ∈ c.g n:=by
          rw [hgn]
          have:=List.mem_map_of_mem (f:=Int.toNat) (List.getElem_mem hj)
          rw [hx] at this; exact this
        have hxl : lvOf c x < k:=by
          have hl : IsLv c.n.length c.g (lvOf c):=hg.ac.lv
          have h3:=hl n hn
          have h4:=le_mx (f:=lvOf c) hxg
          omega
        have hLj : (y.i.map Int.toNat).take (j + 1) = (y.i.map Int.toNat).take j ++ [x]:=by
          rw [List.take_succ_eq_append_getElem (by simpa using hj),List.getElem_map,hx]; rfl
        have hcl : clD c (exL c D ((y.i.map Int.toNat).take j)):=clD_exL hg hD fun z hz=>by
          have:=List.mem_of_mem_take hz
          rw [← hgn] at this
          exact hg.val.g n hn z this
        have hrd:=read_mc c hg p f hf A M g gd gn hn (k:=j) (x:=x) (by rw [hnd]; exact hj) (by simp only [hnd]; exact hx) _ (ih x _ hxl hxN hcl)
        rw [exL_snoc,← hLj] at hrd
        have hjR : j < R.length:=by omega
        have hgk:=hRg j hj x hx hjR
        have hnx : (R.map u8V).take (j + 1) = (R.map u8V).take j ++ [u8V (f.mQ c A n j (M x))]:=by
          rw [List.take_succ_eq_append_getElem (by simpa using hjR)]
          simp [hgk]
        rw [← q3] at hnx
        generalize f.mQ c A n j (M x) = qv at hrd hnx
        generalize hE1 : exL c D ((y.i.map Int.toNat).take j) = E1 at hrd ⊢
        generalize hE2 : exL c D ((y.i.map Int.toNat).take (j + 1)) = E2 at hrd
        simp only [natV,u8V] at hrd hnx
        rcases acc with _ | ⟨ga,r⟩
        · simp [accV,accH]
          refine CallO.lend [30,24,28] (mH c p f A M g gd gn E1) [] hrd (by simp) (by simp [mH]) (heapIn_mH _ _ _ _ _ _ _ _ _) (by simp) (by simp) ?_
          rintro v h ⟨rfl,rfl⟩
          refine ⟨rfl,heapIn_mH _ _ _ _ _ _ _ _ _,?_⟩
          simp [mH]
          intro ga gb
          exact ⟨⟨j + 1,some (gb 52,[.int .u8 (qv : Int)])⟩,⟨hj,by simp,by simpa [accL] using hnx.symm⟩,by simp [hw,accV],by simp [hE2,accH],by dsimp only; omega⟩
        · simp [accV,accH]
          refine CallO.lend [30,24,28] (mH c p f A M g gd gn E1) [(52,.row ga 1 r)] hrd (by simp) (by simp [mH]) (heapIn_mH _ _ _ _ _ _ _ _ _) (by simp) (by simp) ?_
          rintro v h ⟨rfl,rfl⟩
          refine ⟨rfl,heapIn_mH _ _ _ _ _ _ _ _ _,?_⟩
          simp [mH]
          intro ga1 gb
          have hrl:=congrArg List.length q3
          simp [accL] at hrl
          exact ⟨by omega,⟨⟨j + 1,some (gb 52,r ++ [.int .u8 (qv : Int)])⟩,⟨hj,by simp,by simpa [accL] using hnx.symm⟩,by simp [hw,accV],by simp [hE2,accH],by dsimp only; omega⟩⟩
      have hj : j = y.i.length:=by have:=of_decide_eq_false hb; omega
      subst hj
      rw [List.take_of_length_le (by simp; omega)] at q3
      rw [List.take_of_length_le (by simp)]
      have hlog:=logE_c y.k.toNat hk256 R none (by omega)
      rw [hku,hV0] at hlog
      obtain ⟨D1,hD1⟩ : ∃ D1,exL c D (y.i.map Int.toNat) = D1:=⟨_,rfl⟩
      have hend : upd1 D1 n true = DE:=by rw [← hDE,← hD1,← hgn]; exact exD_new hg D hn
      rw [hD1]
      rcases acc with _ | ⟨ga,r⟩
    case' none=>
      have hR0 : R = []:=by simpa [accL] using q3.symm
      rw [hR0] at hlog
      have hlog2:=PureC.wide hlog (args:=[.int .u8 y.k,.nil]) ⟨.refl _,VLe.nil',trivial⟩ (.refl _)
      simp [nop,hn,hy,accV,accH]
      refine CallO.pure hlog2 (by simp [V.pureL,V.pure]) ?_
      simp [u8V]
    case' some=>
      simp only [accL] at q3
      subst q3
      simp [nop,hn,hy,accV,accH]
      refine CallO.borrow 2 hlog (by
        simp only [List.map_cons,List.map_nil]
        rw [frz_pure _ _ (show (V.int .u8 y.k).pure = true from rfl),frz_ref (es:=R.map u8V) (sz:=1) (by simp) (by simp),List.drop_zero,List.take_of_length_le (by simp),frz_all _ _ hR3]) rfl ?_
      simp [u8V]
    all_goals
      have hs1 : (boolsV c.n.length D1).set n (.bool true) = boolsV c.n.length DE:=by rw [boolsV_set,hend]
      have hs2 : (tU c.n.length (mS M D1)).set n (.int .u8 (xm : Int)) = tU c.n.length (mS M DE):=by rw [tU_set,← hxm,mS_upd,hend]
      clear hend
      have hpN : (f.pin = -1)↔f.q = 0:=by unfold Ft.pin; omega
      unfold Ft.mW at hMn
      by_cases hm : f.m < 2
      · have hm2 : ¬ f.m = 2:=by omega
        have hm3 : ¬ f.m = 3:=by omega
        rw [if_pos hm] at hMn
        by_cases hnf : f.n = n∧f.q = 0
        · obtain ⟨hnf,hq0⟩:=hnf
          have hpp : f.pin = -1:=hpN.2 hq0
          have hxf : n = f.net c:=by unfold Ft.net; rw [if_pos hq0,hnf]
          have hl:=line_mc c hg p f hf hm A (.sl (boolsV c.n.length D1) (some c.n.length)) (.sl (tU c.n.length (mS M D1)) (some c.n.length)) (by simp [V.pure,boolsV_pure]) (by simp [V.pure]) n hxf V0
          have hq : atW f (f.mG c A) n V0 = f.mG c A V0:=by unfold atW; rw [if_pos ⟨hq0,hnf.symm⟩]
          rw [hq] at hMn
          rw [← hMn] at hl
          simp only [natV,u8V] at hl
          simp [nop,hm,hnf,hpp,u8V,natV]
          refine CallO.borrow 2 hl ?_ rfl ?_
          · simp only [List.map_cons,List.map_nil]
            rw [frz_pure _ _ (show (V.int IntKind.i64 (n : Int)).pure = true from rfl),frz_pure _ _ (show (V.int IntKind.u8 (V0 : Int)).pure = true from rfl)]
            first
            | exact congrArg (fun z=>[z,V.int .i64 (n : Int),V.int .u8 (V0 : Int)]) (frz_mV c p f A M g gd gn D1 [])
            | exact congrArg (fun z=>[z,V.int .i64 (n : Int),V.int .u8 (V0 : Int)]) (frz_mV c p f A M g gd gn D1 [(52,.row ga 1 (R.map u8V))])
          simp [nop,hm2,hm3,hn,boolsV_get,tU_get,hs1,hs2,u8V,natV]
          exact .done (by simp)
        · have hq : atW f (f.mG c A) n V0 = V0:=by unfold atW; rw [if_neg (fun h=>hnf ⟨h.2.symm,h.1⟩)]
          rw [hq] at hMn
          subst hMn
          by_cases hnf2 : f.n = n
          · have hpp : ¬ f.pin = -1:=fun e=>hnf ⟨hnf2,hpN.1 e⟩
            simp [nop,hm,hnf2,hpp,hm2,hm3,hn,boolsV_get,tU_get,hs1,hs2,u8V,natV]
            exact .done (by simp)
          · simp [nop,hm,hnf2,hm2,hm3,hn,boolsV_get,tU_get,hs1,hs2,u8V,natV]
            exact .done (by simp)
      · rw [if_neg hm] at hMn
        by_cases hm2 : f.m = 2
        · have hm3 : ¬ f.m = 3:=by omega
          rw [if_pos hm2] at hMn
          by_cases hnf : n = f.n∨n = f.o
          · obtain ⟨xa,hxa⟩ : ∃ xa,A f.n = xa:=⟨_,rfl⟩
            obtain ⟨xb,hxb⟩ : ∃ xb,A f.o = xb:=⟨_,rfl⟩
            have hwi : wiW f A n V0 = logE (resK f.v) [xa,xb]:=by unfold wiW; rw [if_pos hnf,hxa,hxb]
            rw [hwi] at hMn
            have hl:=logE_c (resK f.v) (resK_lt _) [xa,xb] (some 2) (by simp)
            rw [← hMn] at hl
            simp only [u8V,List.map_cons,List.map_nil] at hl
            have hfn:=hf.n
            have hfo:=hf.o
            have hor : (n = f.n)∨(¬ n = f.n∧n = f.o):=by
              rcases hnf with e | e
              · exact .inl e
              · by_cases e2 : n = f.n
                · exact .inl e2
                · exact .inr ⟨e2,e⟩
            have hv01 : f.v = 1∨f.v = 0:=by have:=hf.v; omega
            rcases hor with e1 | ⟨e1,e2⟩ <;> rcases hv01 with hv | hv
            case' inl.inl=>
              obtain rfl:=e1
              simp [nop,hm2,hv,u8V,natV]
            case' inl.inr=>
              obtain rfl:=e1
              simp [nop,hm2,hv,u8V,natV]
            case' inr.inl=>
              obtain rfl:=e2
              simp [nop,hm2,e1,hv,u8V,natV]
            case' inr.inr=>
              obtain rfl:=e2
              simp [nop,hm2,e1,hv,u8V,natV]
            all_goals
              simp only [resK,hv,if_pos rfl,if_neg (show ¬ (0 : Nat) = 1 by omega)] at hl
              intro gm
              simp [hfn,hfo,tU_get,hxa,hxb,u8V]
              first | refine ⟨_,_,_,.borrow 2 hl (by simp [frz,V.mapR,lk]) rfl,?_⟩ | refine ⟨_,⟨_,_,.borrow 2 hl (by simp [frz,V.mapR,lk]) rfl⟩,?_⟩ | refine ⟨_,_,⟨_,.borrow 2 hl (by simp [frz,V.mapR,lk]) rfl⟩,?_⟩
              simp [nop,hm2,hn,boolsV_get,tU_get,hs1,hs2,u8V,natV]
              exact .done (by simp)
          · simp only [not_or] at hnf
            have hwi : wiW f A n V0 = V0:=by unfold wiW; rw [if_neg (by simp only [not_or]; exact hnf)]
            rw [hwi] at hMn
            subst hMn
            obtain ⟨e1,e2⟩:=hnf
            simp [nop,hm2,e1,e2,hn,boolsV_get,tU_get,hs1,hs2,u8V,natV]
            exact .done (by simp)
        · have hm3 : f.m = 3:=by have:=hf.m; omega
          rw [if_neg hm2] at hMn
          have hq0:=hf.b (by omega)
          have hfo:=hf.o
          by_cases hnf : n = f.n
          · obtain rfl:=hnf
            have hq : atW f (fun _=>A f.o) f.n V0 = A f.o:=by unfold atW; rw [if_pos ⟨hq0,rfl⟩]
            rw [hq] at hMn
            have hAo : A f.o = xm:=hMn.symm
            simp [nop,hm3,hn,hfo,boolsV_get,tU_get,hAo,hs1,hs2,u8V,natV]
            exact .done (by simp)
          · have hq : atW f (fun _=>A f.o) n V0 = V0:=by unfold atW; rw [if_neg (fun h=>hnf h.2)]
            rw [hq] at hMn
            subst hMn
            simp [nop,hm3,hnf,hn,boolsV_get,tU_get,hs1,hs2,u8V,natV]
            exact .done (by simp)
end Go.Proofs.YtekbgkainigfnaaGreatDoor
