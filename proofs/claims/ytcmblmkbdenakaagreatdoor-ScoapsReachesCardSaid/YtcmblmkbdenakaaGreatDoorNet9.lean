/- Netlists: contracts, the library's stable sort of nodes by levels: up to 20 nodes stand by level and number. Conditions: none. Netlists: contracts, Order. Conditions: none. -/
import Derived.Test.YtcmblmkbdenakaaGreatDoorNet7
set_option linter.unusedSimpArgs false
set_option linter.unusedVariables false
namespace Go.Proofs.YtcmblmkbdenakaaGreatDoor
open Go
variable {g19 g4 n : Nat} {lv : Nat→Nat} {L : List Nat}
def lexlt (lv : Nat→Nat) (x y : Nat) : Prop:=lv x < lv y∨(lv x = lv y∧x < y)
theorem ins_pw {A B : List Nat} {x : Nat} (h : (A ++ B).Pairwise (lexlt lv)) (hB : ∀ y ∈ B,lv x < lv y) (hA : ∀ y ∈ A,y < x) (hl : A = []∨∃ A' y,A = A' ++ [y]∧¬ lv x < lv y) : (A ++ x :: B).Pairwise (lexlt lv):=by
 rw [List.pairwise_append] at h ⊢
 obtain ⟨h1,h2,h3⟩:=h
 refine ⟨h1,List.pairwise_cons.2 ⟨fun y hy=>.inl (hB y hy),h2⟩,fun a ha b hb=>?_⟩
 rcases List.mem_cons.1 hb with rfl | hb
 ·rcases hl with rfl | ⟨A',y,rfl,hy⟩
  ·simp at ha
  ·have hay : lv a ≤ lv y:=by
    rcases List.mem_append.1 ha with q | q
    ·rw [List.pairwise_append] at h1
     have:=h1.2.2 a q y (by simp)
     unfold lexlt at this
     omega
    ·simp at q; subst q; exact Nat.le_refl _
   have:=hA a ha
   unfold lexlt
   omega
 ·exact h3 a ha b hb
theorem set_swap (A : List Nat) (x y : Nat) (C : List Nat) : ((A ++ y :: x :: C).set (A.length + 1) y).set A.length x = A ++ x :: y :: C:=by
 rw [List.set_append_right _ _ (by omega),List.set_append_right _ _ (by omega)]
 simp
theorem cmpI_lt (a b : Nat) : decide (cmpI a b < 0) = decide (a < b):=by
 unfold cmpI
 by_cases h : a < b
 ·simp [h]
 ·by_cases h2 : b < a <;> simp [h,h2]
theorem insertB_c (hL : InR n L) (hinc : L.Pairwise (· < ·)) (hn : n < 1000000) :
  ICallO Tryz.prog gl0 102 [.ref 19 g19 0 n (some n),natV 0,natV n,cmpF g4] (ordH g19 g4 n lv L) (fun _ h=>∃ L',InR n L'∧L'.Pairwise (lexlt lv)∧h = ordH g19 g4 n lv L'):=by
 by_cases hn0 : n = 0
 ·refine CallO.mono (insertA_c hL hn 0 n (by omega) (Nat.le_refl _)) ?_
  rintro v h ⟨L',h1,h2,rfl⟩
  obtain rfl:=h2 (by omega)
  have : L' = []:=List.length_eq_zero_iff.1 (by rw [h1.len,hn0])
  exact ⟨L',h1,by rw [this]; exact List.Pairwise.nil,rfl⟩
 refine CallO.of_W ok102 rfl ?_
 simp [i102,x102,ordH,natV,cmpF]
 have hLl:=hL.len
 refine LoopP.of (X:=Nat × List Nat) (fun x=>[(8,natV x.1),(0,.ref 19 g19 0 n (some n)),(1,natV 0),(2,natV n),(3,cmpF g4)]) (fun x=>ordH g19 g4 n lv (x.2 ++ L.drop x.1))
  (fun x=>x.1 ≤ n∧x.2.length = x.1∧x.2.Pairwise (lexlt lv)∧(∀ a ∈ x.2,a < n)∧∀ a ∈ x.2,∀ b ∈ L.drop x.1,a < b) (fun x=>n - x.1) (1,L.take 1) ⟨by simp only; omega,by simp; omega,?_,fun a ha=>hL.lt a (List.mem_of_mem_take ha),?_⟩ (by simp [natV,cmpF]) (by simp only [List.take_append_drop]; simp [ordH,natV]) ?_
 ·cases L with
  | nil=>simp
  | cons a l=>simp
 ·cases L with
  | nil=>simp
  | cons a l=>
   intro x hx y hy
   simp at hx hy
   subst hx
   exact (List.pairwise_cons.1 hinc).1 y hy
 rintro ⟨i,P⟩ ⟨q1,q2,q3,q9,q4⟩
 dsimp only at q1 q2 q3 q4 q9
 simp [natV,ordH,cmpF]
 refine BrB.of (fun hb=>?_) (fun hb=>?_)
 ·have hi : i < n:=of_decide_eq_true hb
  have hwi:=wrapN i (by omega)
  have hiL : i < L.length:=by omega
  rw [List.drop_eq_getElem_cons hiL] at q4
  simp
  rw [List.drop_eq_getElem_cons hiL]
  have hxn:=hL.lt L[i] (List.getElem_mem hiL)
  have hRx : ∀ b ∈ L.drop (i + 1),L[i] < b:=fun b hb=>by
   have : L.Pairwise (· < ·):=hinc
   rw [← List.take_append_drop i L,List.drop_eq_getElem_cons hiL,List.pairwise_append] at this
   exact (List.pairwise_cons.1 this.2.1).1 b hb
  have hRn : ∀ b ∈ L.drop (i + 1),b < n:=fun b hb=>hL.lt b (List.mem_of_mem_drop hb)
  have hRl : (L.drop (i + 1)).length = n - (i + 1):=by simp [hLl]
  generalize hx : L[i] = x at *
  generalize hR : L.drop (i + 1) = R at *
  refine LoopP.of (X:=List Nat × List Nat) (fun y=>[(9,natV y.1.length),(8,natV i),(0,.ref 19 g19 0 n (some n)),(1,natV 0),(2,natV n),(3,cmpF g4)]) (fun y=>ordH g19 g4 n lv (y.1 ++ x :: (y.2 ++ R)))
   (fun y=>y.1.length + y.2.length = i∧(y.1 ++ y.2).Pairwise (lexlt lv)∧(∀ a ∈ y.1 ++ y.2,a ∈ P)∧∀ b ∈ y.2,lv x < lv b) (fun y=>y.1.length) (P,[]) ⟨by simpa using q2,by simpa using q3,by simp,by simp⟩ (by simp [natV,cmpF,q2]) (by simp [ordH,natV]) ?_
  rintro ⟨A,B⟩ ⟨q5,q6,q7,q8⟩
  dsimp only at q5 q6 q7 q8
  have hAP : ∀ a ∈ A,a < x:=fun a ha=>q4 a (q7 a (by simp [ha])) x (by simp)
  have hPn : ∀ a ∈ A ++ B,a < n:=fun a ha=>Nat.lt_trans (q4 a (q7 a ha) x (by simp)) hxn
  have hML : (A ++ x :: (B ++ R)).length = n:=by simp [hRl]; omega
  simp [natV,ordH,cmpF]
  intro gm
  have fin : ∀ (hl : A = []∨∃ A' y,A = A' ++ [y]∧¬ lv x < lv y),i + 1 ≤ n∧(A ++ x :: B).length = i + 1∧(A ++ x :: B).Pairwise (lexlt lv)∧(∀ a ∈ A ++ x :: B,a < n)∧∀ a ∈ A ++ x :: B,∀ b ∈ R,a < b:=fun hl=>
   ⟨hi,by simp; omega,ins_pw q6 q8 hAP hl,fun a ha=>by
    rcases List.mem_append.1 ha with h | h
    ·exact hPn a (by simp [h])
    ·rcases List.mem_cons.1 h with rfl | h
     ·exact hxn
     ·exact hPn a (by simp [h]),fun a ha b hb=>by
    rcases List.mem_append.1 ha with h | h
    ·exact q4 a (q7 a (by simp [h])) b (by simp [hb])
    ·rcases List.mem_cons.1 h with rfl | h
     ·exact hRx b hb
     ·exact q4 a (q7 a (by simp [h])) b (by simp [hb])⟩
  rcases List.eq_nil_or_concat A with rfl | ⟨A',y,rfl⟩
  ·have hf:=fin (.inl rfl)
   simp [hwi]
   refine ⟨i + 1,x :: B,⟨hf.1,by simpa using hf.2.1,by simpa using hf.2.2.1,by simpa using hf.2.2.2.1,?_⟩,by simp,?_,by omega⟩
   ·rw [hR]; simpa using hf.2.2.2.2
   ·rw [hR]; simp
  ·simp only [List.concat_eq_append] at *
   obtain ⟨p,hp⟩ : ∃ p,A'.length = p:=⟨_,rfl⟩
   have hj : (A' ++ [y]).length = p + 1:=by simp [hp]
   have hwp : IntKind.i64.wrap (((p : Int) + 1) - 1) = (p : Int):=by
    have : p + 1 ≤ n:=by rw [← hj]; simp at q5 ⊢; omega
    rw [wrap_i64] <;> omega
   have hM : A' ++ [y] ++ x :: (B ++ R) = A' ++ y :: x :: (B ++ R):=by simp
   have hpl : p + 1 < n:=by rw [hM] at hML; simp [hp] at hML; omega
   have g1 : (natsV (A' ++ y :: x :: (B ++ R)))[p + 1]? = some (.int .i64 (x : Int)):=by subst hp; simp [natsV,natV]
   have g2 : (natsV (A' ++ y :: x :: (B ++ R)))[p]? = some (.int .i64 (y : Int)):=by subst hp; simp [natsV,natV]
   have hNl : A'.length + (B.length + (R.length + 1 + 1)) = n:=by rw [hM] at hML; simp at hML; omega
   have l1 : p + 1 < (natsV (A' ++ y :: x :: (B ++ R))).length:=by simp; omega
   have l2 : p < (natsV (A' ++ y :: x :: (B ++ R))).length:=by simp; omega
   have g1' : (natsV (A' ++ y :: x :: (B ++ R)))[p + 1] = .int .i64 (x : Int):=by rw [List.getElem?_eq_getElem l1] at g1; exact Option.some.inj g1
   have g2' : (natsV (A' ++ y :: x :: (B ++ R)))[p] = .int .i64 (y : Int):=by rw [List.getElem?_eq_getElem l2] at g2; exact Option.some.inj g2
   have hyn:=hPn y (by simp)
   rw [hM,hj]
   obtain ⟨j,hj2⟩ : ∃ j,p + 1 = j:=⟨_,rfl⟩
   have hwp2 : IntKind.i64.wrap ((j : Int) - 1) = (p : Int):=by rw [wrap_i64] <;> omega
   have hj0 : 0 < j:=by omega
   have hpn : p < n:=by omega
   simp only [hj2] at g1 g1' hpl ⊢
   rw [natsV_length] at l1 l2
   rw [hj2] at l1
   simp only [List.length_append,List.length_cons] at l1 l2
   simp [hj0,hwp2,hpl,hpn,g1',g2',l1,l2]
   first | refine ⟨_,_,_,cmp_borrow (lv:=lv) hxn hyn (by simp [natV]),?_⟩ | refine ⟨_,⟨_,_,cmp_borrow (lv:=lv) hxn hyn (by simp [natV])⟩,?_⟩ | refine ⟨_,_,⟨_,cmp_borrow (lv:=lv) hxn hyn (by simp [natV])⟩,?_⟩
   simp [cmpI_lt]
   refine BrB.of (fun hc=>?_) (fun hc=>?_)
   ·have hc':=of_decide_eq_true hc
    have g3 : ∀ hh,((natsV (A' ++ y :: x :: (B ++ R))).set j (.int .i64 (y : Int)))[p]'hh = .int .i64 (y : Int):=fun hh=>by rw [List.getElem_set_ne (by omega)]; exact g2'
    simp [hwp2,hpl,hpn,g1',g2',l1,l2,g3]
    have hsw : ((natsV (A' ++ y :: x :: (B ++ R))).set j (.int .i64 (y : Int))).set p (.int .i64 (x : Int)) = natsV (A' ++ x :: y :: (B ++ R)):=by
     rw [natsV_set,natsV_set,← hj2,← hp,set_swap]
    rw [hsw]
    refine ⟨A',y :: B,⟨by simp at q5 ⊢; omega,by simpa using q6,fun a ha=>q7 a (by simpa using ha),fun b hb=>?_⟩,by simp [hp],rfl,by omega⟩
    rcases List.mem_cons.1 hb with rfl | hb
    ·exact hc'
    ·exact q8 b hb
   ·have hc':=of_decide_eq_false hc
    have hf:=fin (.inr ⟨A',y,rfl,hc'⟩)
    simp [hwi]
    refine ⟨i + 1,A' ++ [y] ++ x :: B,⟨hf.1,hf.2.1,hf.2.2.1,hf.2.2.2.1,?_⟩,by simp,?_,by omega⟩
    ·rw [hR]; exact hf.2.2.2.2
    ·rw [hR]; simp
 ·have hi : i = n:=by have:=of_decide_eq_false hb; omega
  simp
  have hM : P ++ L.drop i = P:=by rw [hi,← hLl,List.drop_length,List.append_nil]
  rw [hM]
  exact .done ⟨ordH g19 g4 n lv P,by simp [ordH,natV],P,⟨by omega,q9⟩,q3,rfl⟩
theorem stable_c (hL : InR n L) (hinc : L.Pairwise (· < ·)) (hn : n < 1000000) :
  ICallO Tryz.prog gl0 90 [.ref 19 g19 0 n (some n),natV n,cmpF g4] (ordH g19 g4 n lv L) (fun _ h=>∃ L',InR n L'∧(n ≤ 20→L'.Pairwise (lexlt lv))∧h = ordH g19 g4 n lv L'):=by
 by_cases h20 : n < 20
 ·refine CallO.of_W ok90 rfl ?_
  simp [i90,x90,ordH,natV,cmpF]
  refine LoopP.of (X:=Unit) (fun _=>[(6,natV 20),(7,natV 0),(8,natV 20),(0,.ref 19 g19 0 n (some n)),(1,natV n),(2,cmpF g4)]) (fun _=>ordH g19 g4 n lv L) (fun _=>True) (fun _=>0) () trivial (by simp [natV,cmpF]) (by simp [ordH,natV]) ?_
  intro _ _
  have h1 : ¬ 20 ≤ n:=by omega
  simp [natV,ordH,cmpF,h1]
  refine CallO.mono (insertB_c hL hinc hn) ?_
  rintro v h ⟨L',q1,q2,rfl⟩
  simp
  refine LoopP.of (X:=Unit) (fun _=>[(6,natV 20),(1,natV n)]) (fun _=>ordH g19 g4 n lv L') (fun _=>True) (fun _=>0) () trivial (by simp [natV]) (by simp [ordH,natV]) ?_
  intro _ _
  have h2 : ¬ 20 < n:=by omega
  simp [natV,h2]
  exact .done ⟨ordH g19 g4 n lv L',by simp [ordH,natV],L',q1,fun _=>q2,rfl⟩
 ·refine CallO.of_W ok90 rfl ?_
  simp [i90,x90,ordH,natV,cmpF]
  refine LoopP.of (X:=Nat × Nat × List Nat) (fun x=>[(6,natV 20),(7,natV x.1),(8,natV x.2.1),(0,.ref 19 g19 0 n (some n)),(1,natV n),(2,cmpF g4)]) (fun x=>ordH g19 g4 n lv x.2.2)
   (fun x=>x.2.1 = x.1 + 20∧x.1 ≤ n∧InR n x.2.2∧(x.1 = 0→x.2.2 = L)∧(n = 20→x.1 = 0∨(x.1 = 20∧x.2.2.Pairwise (lexlt lv)))) (fun x=>n + 20 - x.2.1) (0,20,L) ⟨rfl,Nat.zero_le _,hL,fun _=>rfl,fun _=>.inl rfl⟩ (by simp [natV,cmpF]) (by simp [ordH,natV]) ?_
  rintro ⟨a,b,M⟩ ⟨q1,q2,q3,q4,q5⟩
  dsimp only at q1 q2 q3 q4 q5
  simp [natV,ordH,cmpF]
  refine BrB.of (fun hb=>?_) (fun hb=>?_)
  ·have hb' : b ≤ n:=of_decide_eq_true hb
   obtain ⟨b2,hb2⟩ : ∃ b2,b + 20 = b2:=⟨_,rfl⟩
   have hwb : IntKind.i64.wrap ((b : Int) + 20) = (b2 : Int):=by rw [wrap_i64] <;> omega
   simp
   by_cases hs : n = 20
   ·have ha : a = 0:=by omega
    have hbn : b = n:=by omega
    have hM:=q4 ha
    subst hM ha hbn
    refine CallO.mono (insertB_c hL hinc hn) ?_
    rintro v h ⟨L',r1,r2,rfl⟩
    simp [hwb]
    exact ⟨b,b2,L',⟨by omega,by omega,r1,fun h=>by omega,fun _=>.inr ⟨hs,r2⟩⟩,⟨rfl,rfl⟩,by simp [ordH,natV],by omega⟩
   ·refine CallO.mono (insertA_c q3 hn a b (by omega) hb') ?_
    rintro v h ⟨L',r1,r2,rfl⟩
    simp [hwb]
    exact ⟨b,b2,L',⟨by omega,by omega,r1,fun h=>by omega,fun h=>absurd h hs⟩,⟨rfl,rfl⟩,by simp [ordH,natV],by omega⟩
  ·have hb' : ¬ b ≤ n:=of_decide_eq_false hb
   simp
   refine CallO.mono (insertA_c q3 hn a n q2 (Nat.le_refl _)) ?_
   rintro v h ⟨L',r1,r2,rfl⟩
   simp
   have hp : n ≤ 20→L'.Pairwise (lexlt lv):=fun h=>by
    have h20' : n = 20:=by omega
    rcases q5 h20' with h | ⟨h,hp⟩
    ·omega
    ·rw [r2 (by omega)]; exact hp
   refine LoopP.of (X:=Nat × List Nat) (fun x=>[(6,natV x.1),(0,.ref 19 g19 0 n (some n)),(1,natV n),(2,cmpF g4)]) (fun x=>ordH g19 g4 n lv x.2)
    (fun x=>20 ≤ x.1∧x.1 ≤ 2 * n∧InR n x.2∧(n ≤ 20→x.2.Pairwise (lexlt lv))) (fun x=>2 * n - x.1) (20,L') ⟨Nat.le_refl _,by simp only; omega,r1,hp⟩ (by simp [natV,cmpF]) (by simp [ordH,natV]) ?_
   clear hp r1 r2 q3 q4 q5 L' hb
   rintro ⟨bs,M⟩ ⟨q3,q6,q4,q5⟩
   dsimp only at q3 q4 q5 q6
   simp [natV,ordH,cmpF]
   refine BrB.of (fun hc=>?_) (fun hc=>?_)
   ·have hc' : bs < n:=of_decide_eq_true hc
    obtain ⟨b2,hb2⟩ : ∃ b2,2 * bs = b2:=⟨_,rfl⟩
    have hwb : IntKind.i64.wrap (2 * (bs : Int)) = (b2 : Int):=by rw [wrap_i64] <;> omega
    simp [hwb]
    refine LoopP.of (X:=Nat × List Nat) (fun x=>[(7,natV x.1),(8,natV (x.1 + b2)),(6,natV bs),(0,.ref 19 g19 0 n (some n)),(1,natV n),(2,cmpF g4)]) (fun x=>ordH g19 g4 n lv x.2)
     (fun x=>x.1 ≤ n∧InR n x.2) (fun x=>n - x.1) (0,M) ⟨Nat.zero_le _,q4⟩ (by simp [natV,cmpF]) (by simp [ordH,natV]) ?_
    clear q4 q5 M
    rintro ⟨a',M⟩ ⟨q7,q4⟩
    dsimp only at q4 q7
    obtain ⟨e1,he1⟩ : ∃ e1,a' + b2 = e1:=⟨_,rfl⟩
    obtain ⟨e2,he2⟩ : ∃ e2,a' + bs = e2:=⟨_,rfl⟩
    obtain ⟨e3,he3⟩ : ∃ e3,e1 + b2 = e3:=⟨_,rfl⟩
    rw [he1]
    simp [natV,ordH,cmpF]
    refine BrB.of (fun hd=>?_) (fun hd=>?_)
    ·have hd' : e1 ≤ n:=of_decide_eq_true hd
     simp [addN he2 (by omega)]
     refine CallO.mono (symMergeA_c hn (e1 - a') a' e2 e1 (Nat.le_refl _) (by omega) (by omega) hd' M q4) ?_
     rintro v h ⟨L',r1,rfl⟩
     simp [hwb,addN he3 (by omega)]
     exact ⟨e1,L',⟨hd',r1⟩,by omega,by simp [ordH,natV],by omega⟩
    ·have hd' : ¬ e1 ≤ n:=of_decide_eq_false hd
     have hwb2 : IntKind.i64.wrap ((bs : Int) * 2) = (b2 : Int):=by rw [wrap_i64] <;> omega
     simp [addN he2 (by omega)]
     refine BrB.of (fun hf=>?_) (fun hf=>?_)
     ·have hf' : e2 < n:=of_decide_eq_true hf
      simp
      refine CallO.mono (symMergeA_c hn (n - a') a' e2 n (Nat.le_refl _) (by omega) hf' (Nat.le_refl _) M q4) ?_
      rintro v h ⟨L',r1,rfl⟩
      simp [hwb2]
      exact ⟨b2,L',⟨by omega,by omega,r1,fun h=>by omega⟩,by simp,by simp [ordH,natV],by omega⟩
     ·simp [hwb2]
      exact ⟨b2,M,⟨by omega,by omega,q4,fun h=>by omega⟩,by simp,by simp,by omega⟩
   ·have hc' : ¬ bs < n:=of_decide_eq_false hc
    simp
    exact .done ⟨ordH g19 g4 n lv M,by simp [ordH,natV],M,q4,q5,rfl⟩
end Go.Proofs.YtcmblmkbdenakaaGreatDoor
namespace Go.Proofs.YtcmblmkbdenakaaGreatDoor
open Go
theorem CallO.weaken {P : Program} {gl : Fr} {f : FuncId} {args : List V} {h h2 : Hp} {K : V→Hp→Prop} (hs : Sub h2 h) (hc : ICallO P gl f args h2 K) : ICallO P gl f args h K:=
 ⟨hc.1,fun G M w rargs h1 h2' h3 h4=>hc.2 G M w rargs ⟨h1.gw,fun b k hb=>h1.hb b k (hs.spec b k hb),h1.inj,h1.mlt⟩ h2' h3 h4⟩
variable {g19 g4 n : Nat} {lv : Nat→Nat} {L : List Nat}
theorem sortFunc_c (hL : InR n L) (hinc : L.Pairwise (· < ·)) (hn : n < 1000000) :
  ICallO Tryz.prog gl0 70 [.ref 19 g19 0 n (some n),cmpF g4] (ordH g19 g4 n lv L) (fun _ h=>∃ L',InR n L'∧(n ≤ 20→L'.Pairwise (lexlt lv))∧h = ordH g19 g4 n lv L'):=by
 refine CallO.of_W ok70 rfl ?_
 simp [i70,x70,ordH,natV,cmpF]
 refine CallO.mono (stable_c hL hinc hn) ?_
 rintro v h ⟨L',q1,q2,rfl⟩
 simp
 exact .done ⟨ordH g19 g4 n lv L',by simp [ordH,natV],L',q1,q2,rfl⟩
def OrdK (c : Ci) (v : V) (h : Hp) : Prop:=(chkE c ≠ 0∧v = .tup [.nil,.int .i64 (chkE c)]∧h = [])∨
 (chkE c = 0∧∃ g L,v = .tup [.ref 0 g 0 c.n.length (some c.n.length),.int .i64 0]∧h = [(0,.row g 1 (natsV L))]∧InR c.n.length L∧(c.n.length ≤ 20→L.Pairwise (lexlt (lvOf c))))
theorem chk_len {c : Ci} (h : chkE c = 0) : c.n.length ≤ 16384:=by
 unfold chkE at h
 split at h
 ·rename_i h1; exact absurd h h1
 ·rename_i h1; exact (sh_len (Classical.not_not.1 h1)).1
theorem order_c (c : Ci) (hwf : c.wf) : OwnC Tryz.prog gl0 41 [c.v] (OrdK c):=by
 refine OwnC.of_W ok41 rfl ?_
 have hlv:=levelsW_c c hwf
 rw [lvRes_eq] at hlv
 simp [i41,x41]
 intro gf
 refine CallO.pure hlv (by simp) ?_
 by_cases he : chkE c = 0
 ·have hl:=chk_len he
  have hle : c.n.length ≤ 549755813888:=by omega
  simp [he,hle]
  intro gf2 gf3
  generalize gf 1 = g1
  generalize gf2 4 = g4
  generalize gf3 19 = g19
  refine LoopP.of (X:=Nat) (fun x=>[(22,natV x),(21,natV c.n.length),(6,.ref 19 g19 0 c.n.length (some c.n.length)),(4,.ptr 4 g4 0 0)]) (fun x=>ordH g19 g4 c.n.length (lvOf c) (tab c.n.length fun j=>if j < x then j else 0))
   (fun x=>x ≤ c.n.length) (fun x=>c.n.length - x) 0 (Nat.zero_le _) (by simp [natV]) (by simp [ordH,natV,natsV,tab_map,tab_const]) ?_
  intro i hi
  simp [natV,ordH]
  refine BrB.of (fun hb=>?_) (fun hb=>?_)
  ·have hi' : i < c.n.length:=of_decide_eq_true hb
   have hw:=wrapN i (by omega)
   simp [hi',hw,natsV_set,tab_set,natsV_get]
   refine ⟨i + 1,hi',by simp,?_,by omega⟩
   congr 1
   refine tab_congr fun j _=>?_
   by_cases e : j = i
   ·subst e; simp
   ·rw [upd1_ne _ _ e]
    by_cases h : j < i
    ·rw [if_pos h,if_pos (by omega)]
    ·rw [if_neg h,if_neg (by omega)]
  ·have hi' : i = c.n.length:=by have:=of_decide_eq_false hb; omega
   subst hi'
   simp
   have hR : InR c.n.length (List.range c.n.length):=⟨by simp,by simp⟩
   have hT : (tab c.n.length fun j=>if j < c.n.length then j else 0) = List.range c.n.length:=by
    have : (tab c.n.length fun j=>if j < c.n.length then j else 0) = tab c.n.length fun j=>j:=tab_congr fun j hj=>by rw [if_pos hj]
    rw [this]; simp [tab]
   rw [hT]
   refine CallO.weaken (h2:=ordH g19 g4 c.n.length (lvOf c) (List.range c.n.length)) (by simp [ordH,natV]) (CallO.mono (sortFunc_c hR List.pairwise_lt_range (by omega)) ?_)
   rintro v h ⟨L',q1,q2,rfl⟩
   simp
   refine .move 19 0 _ (by simp) (by simp [ordH]; rfl) fun g2=>.done ⟨[(0,.row g2 1 (natsV L'))],?_,.inr ⟨he,g2,L',?_,rfl,q1,q2⟩⟩
   ·simp [ordH,map_rn_pure (natsV_pure L')]
   ·simp
 ·simp [he]
  refine fun gf2=>.done ⟨[],trivial,.inl ⟨he,rfl,rfl⟩⟩
end Go.Proofs.YtcmblmkbdenakaaGreatDoor
namespace Go.Proofs.YtcmblmkbdenakaaGreatDoor
open Go
theorem strs_pure (l : List (List UInt8)) : V.pureL (l.map V.str) = true:=V.pureL_map _ l fun _=>rfl
end Go.Proofs.YtcmblmkbdenakaaGreatDoor
namespace Go.Proofs.YtcmblmkbdenakaaGreatDoor
open Go
@[simp] theorem ci_cells (c : Ci) : c.v.cells = [.sl (c.n.map Nd.v) none,.sl (c.s.map .str) none,.sl (c.m.map Md.v) none,.sl (ints c.o) none]:=rfl
@[simp] theorem nd_cells (c : Nd) : c.v.cells = [.int .u8 c.k,.sl (ints c.i) none,.int .i64 c.a,.int .i64 c.b]:=rfl
@[simp] theorem md_cells (c : Md) : c.v.cells = [.sl (ints c.a) none,.sl (ints c.d) none,.int .i64 c.w]:=rfl
end Go.Proofs.YtcmblmkbdenakaaGreatDoor
