/- Costs: the law Known. Conditions: none. -/
import Derived.Test.YtcmblmkbdenakaaGreatDoorC9
import Derived.Test.YtcmblmkbdenakaaGreatDoorF2
import Derived.Test.YtcmblmkbdenakaaGreatDoorXL3
set_option linter.unusedSimpArgs false
set_option linter.unusedVariables false
namespace Go.Proofs.YtcmblmkbdenakaaGreatDoor
open Go
def wideT (i : Nat) : List V:=tab 16 fun j=>if j < i then V.agg [.int .i64 ((j + 1 : Nat) : Int),.int .i64 67108864] else .agg [.int .i64 0,.int .i64 0]
theorem wideT_set (i : Nat) : (wideT i).set i (V.agg [.int .i64 ((i + 1 : Nat) : Int),.int .i64 67108864]) = wideT (i + 1):=by
 unfold wideT
 rw [tab_set]
 congr 1
 funext j
 by_cases h : j = i
 ·subst h; rw [upd1_same,if_pos (by omega)]
 ·rw [upd1_ne _ _ h]
  by_cases h2 : j < i
  ·rw [if_pos h2,if_pos (by omega)]
  ·rw [if_neg h2,if_neg (by omega)]
theorem wideT_at (i : Nat) (h : i < (wideT i).length) : (wideT i)[i] = .agg [.int .i64 0,.int .i64 0]:=by simp only [wideT]; rw [tab_get,if_neg (Nat.lt_irrefl i)]
theorem wideT_len (i : Nat) : (wideT i).length = 16:=by simp [wideT]
def wideC : List (Int × Int):=(List.range 16).map fun j=>(((j + 1 : Nat) : Int),67108864)
theorem wideT_all : wideT 16 = wideC.map cV:=by rfl
def exC : Ci:=⟨[⟨0,[],0,0⟩,⟨0,[],0,0⟩,⟨0,[],0,0⟩,⟨5,[0,1],0,0⟩,⟨7,[3,2],0,0⟩],[[97],[98],[99],[100],[101]],[],[4]⟩
theorem exV_le : VLe exV exC.v:=by
 refine VLe.agg ⟨.trans (.slc (b:=exC.n.map Nd.v) rfl fun i=>?_) (.cap _ _),.cap _ _,VLe.nil',.cap _ _,trivial⟩
 match i with
 | 0 | 1 | 2=>exact ⟨.refl _,VLe.nil',.refl _,.refl _,trivial⟩
 | 3 | 4=>exact ⟨.refl _,.cap _ _,.refl _,.refl _,trivial⟩
 | n + 5=>exact AllLe.refl _
structure KnO where
 n : Nat
 k : Nat
structure KnI where
 i : Nat
 k : Nat
 z : Option (Nat × List V)
 l : List Nat
set_option maxRecDepth 100000 in
theorem knownL_c : PureC Tryz.prog gl0 3 [] (.bool true):=by
 have hcu : ∀ k : Nat,IntKind.u8.wrap (k : Int) = ((k % 256 : Nat) : Int):=fun k=>rfl
 refine PureC.of_W 2 ok3 rfl ?_
 simp [i3,x3]
 refine LoopP.of (X:=KnO) (fun z=>[(2,natV z.n),(1,natV z.k),(0,.bool false)]) (fun _=>[]) (fun z=>z.n ≤ 48∧z.k < 100003) (fun z=>48 - z.n) ⟨0,1⟩ (by simp) (by simp [natV]) (by simp) ?_
 rintro ⟨n,k⟩ ⟨hn,hk⟩
 dsimp only at hn hk ⊢
 simp [natV]
 refine BrB.of (fun hb=>?_) (fun hb=>?_)
 ·have hn' : n < 48:=by have:=of_decide_eq_true hb; omega
  have hw:=wrapN n (by omega)
  simp
  refine LoopP.of (X:=KnI) (fun z=>[(4,natV z.i),(3,accV 21 z.z),(2,natV n),(1,natV z.k),(0,.bool false)]) (fun z=>accH 21 1 z.z) (fun z=>z.i ≤ 8∧z.k < 100003∧accL z.z = z.l.map u8V∧z.l.length = z.i∧(∀ x ∈ z.l,x < 256)∧(z.i = 0→z.z = none)) (fun z=>8 - z.i)
   ⟨0,k,none,[]⟩ ⟨by simp,hk,rfl,rfl,by simp,fun _=>rfl⟩ (by simp [natV,accV_n]) (by simp [accH_n]) ?_
  rintro ⟨i,k2,z,l⟩ ⟨q1,q2,q3,q4,q5,q6⟩
  dsimp only at q1 q2 q3 q4 q5 q6 ⊢
  simp [natV]
  refine BrB.of (fun hb2=>?_) (fun hb2=>?_)
  ·have hi : i < 8:=by have:=of_decide_eq_true hb2; omega
   have hwi:=wrapN i (by omega)
   obtain ⟨x,hx⟩ : ∃ x,k2 % 256 = x:=⟨_,rfl⟩
   have hx256 : x < 256:=by omega
   have w0 : IntKind.u8.wrap (k2 : Int) = (x : Int):=by rw [hcu,hx]
   obtain ⟨m1,hm1⟩ : ∃ m,k2 * 31 = m:=⟨_,rfl⟩
   have w1 : IntKind.i64.wrap ((k2 : Int) * 31) = (m1 : Int):=by rw [← hm1,wrap_i64] <;> omega
   obtain ⟨m2,hm2⟩ : ∃ m,7 * i = m:=⟨_,rfl⟩
   have w2 : IntKind.i64.wrap (7 * (i : Int)) = (m2 : Int):=by rw [← hm2,wrap_i64] <;> omega
   obtain ⟨m3,hm3⟩ : ∃ m,m1 + m2 = m:=⟨_,rfl⟩
   have w3 : IntKind.i64.wrap ((m1 : Int) + (m2 : Int)) = (m3 : Int):=addN hm3 (by omega)
   obtain ⟨m4,hm4⟩ : ∃ m,m3 + 11 = m:=⟨_,rfl⟩
   have w4 : IntKind.i64.wrap ((m3 : Int) + 11) = (m4 : Int):=by rw [← hm4,wrap_i64] <;> omega
   obtain ⟨m5,hm5⟩ : ∃ m,m4 % 100003 = m:=⟨_,rfl⟩
   have w5 : ((m4 : Int)).tmod 100003 = (m5 : Int):=by rw [← hm5]; rfl
   have w6 : IntKind.i64.wrap (m5 : Int) = (m5 : Int):=by rw [wrap_i64] <;> omega
   have fin : ∀ g : Nat,(i + 1 ≤ 8∧m5 < 100003∧accL (some (g,accL z ++ [u8V x])) = (l ++ [x]).map u8V∧(l ++ [x]).length = i + 1∧(∀ y ∈ l ++ [x],y < 256)∧(i + 1 = 0→some (g,accL z ++ [u8V x]) = none)):=fun g=>
    ⟨by omega,by omega,by rw [accL_s,q3]; simp,by simp [q4],fun y hy=>by
     rcases List.mem_append.1 hy with h | h
     ·exact q5 y h
     ·simp at h; omega,fun h=>by omega⟩
   rcases z with _ | ⟨gz,r⟩
   ·simp [accV_n,accH_n,w0]
    intro gx gy
    simp [w1,w2,w3,w4,w5,w6,hwi]
    exact ⟨⟨i + 1,m5,some (gy 21,[] ++ [u8V x]),l ++ [x]⟩,fin _,⟨by simp,by simp [accV_s],rfl⟩,by simp [accH_s,u8V],by dsimp only; omega⟩
   ·have hrl : r.length = i:=by have:=congrArg List.length q3; simp [accL_s] at this; omega
    simp [accV_s,accH_s,w0]
    intro gx gy
    simp [w1,w2,w3,w4,w5,w6,hwi]
    exact ⟨by omega,⟨i + 1,m5,some (gy 21,r ++ [u8V x]),l ++ [x]⟩,fin _,⟨by simp,by simp [accV_s],rfl⟩,by simp [accH_s,u8V],by dsimp only; omega⟩
  ·have hi : i = 8:=by have:=of_decide_eq_false hb2; omega
   subst hi
   rcases z with _ | ⟨gz,r⟩
   ·have:=congrArg List.length q3
    simp [accL_n,q4] at this
   have q3 : r = l.map u8V:=q3
   subst q3
   have hc1 : IntKind.u8.wrap (n : Int) = (n : Int):=by rw [hcu]; congr 1; omega
   obtain ⟨n3,hn3⟩ : ∃ m,n / 3 = m:=⟨_,rfl⟩
   have hc2 : ((n : Int)).tdiv 3 = (n3 : Int):=by rw [← hn3]; rfl
   have hc2b : (n : Int) / 3 = (n3 : Int):=by rw [← hn3]; rfl
   have hc3 : IntKind.u8.wrap (n3 : Int) = (n3 : Int):=by rw [hcu]; congr 1; omega
   have hc3b : IntKind.i64.wrap (n3 : Int) = (n3 : Int):=by rw [wrap_i64] <;> omega
   have hlaw:=fun (bs : List Nat) (h : ∀ x ∈ bs,x < 256)=>law3_c n n3 (by omega) (by omega) bs none h
   have hfr : ∀ (h : Hp) (g : Nat) (bs : List Nat),lk h 21 = some (.row g 1 (bs.map u8V))→bs.length = 8→frz h 1 (.ref 21 g 0 8 none) = .sl (bs.map u8V) none:=fun h g bs hh hl=>frz_rowP (sz:=1) 0 hh (u8s_pure bs) (by rw [List.length_map,hl])
   obtain ⟨r5,hr5⟩ : ∃ m,n % 5 = m:=⟨_,rfl⟩
   have hm5 : ((n : Int)).tmod 5 = (r5 : Int):=by rw [← hr5]; rfl
   have hm5w : IntKind.i64.wrap (r5 : Int) = (r5 : Int):=by rw [wrap_i64] <;> omega
   obtain ⟨r8,hr8⟩ : ∃ m,n % 8 = m:=⟨_,rfl⟩
   have hm8 : ((n : Int)).tmod 8 = (r8 : Int):=by rw [← hr8]; rfl
   have hm8w : IntKind.i64.wrap (r8 : Int) = (r8 : Int):=by rw [wrap_i64] <;> omega
   obtain ⟨r6,hr6⟩ : ∃ m,n % 6 = m:=⟨_,rfl⟩
   have hm6 : ((n : Int)).tmod 6 = (r6 : Int):=by rw [← hr6]; rfl
   have hm6w : IntKind.i64.wrap (r6 : Int) = (r6 : Int):=by rw [wrap_i64] <;> omega
   obtain ⟨p6,hp6⟩ : ∃ m,250 + r6 = m:=⟨_,rfl⟩
   have hp6w : IntKind.i64.wrap (250 + (r6 : Int)) = (p6 : Int):=by rw [← hp6,wrap_i64] <;> omega
   have hp6u : IntKind.u8.wrap (p6 : Int) = (p6 : Int):=by rw [hcu]; congr 1; omega
   have hr8l : r8 < 8:=by omega
   simp [accV_s,accH_s,hm5,hm5w,q4]
   refine BrB.of (fun hb3=>?_) (fun hb3=>?_)
   ·have hs2 : (l.map u8V).set r8 (V.int .u8 (p6 : Int)) = (l.set r8 p6).map u8V:=by rw [List.map_set]; rfl
    have hb6 : ∀ x ∈ l.set r8 p6,x < 256:=fun x hx=>by
     rcases List.mem_or_eq_of_mem_set hx with h | h
     ·exact q5 x h
     ·omega
    simp [hm8,hm8w,hm6,hm6w,hp6w,hp6u,hr8l,q4,hc1,hc2,hc2b,hc3,hc3b]
    have e0 : u8V l[r8] = V.int .u8 (l[r8] : Int):=rfl
    rw [e0]
    simp [hs2]
    refine CallO.borrow 1 (hlaw (l.set r8 p6) hb6) (by
     rw [List.map_cons,List.map_cons,List.map_cons,List.map_nil,hfr _ _ (l.set r8 p6) (by simp) (by simp [q4])]; rfl) rfl ?_
    simp [hw]
    exact ⟨⟨n + 1,k2⟩,⟨hn',q2⟩,⟨by simp,rfl⟩,by dsimp only; omega⟩
   ·simp [hc1,hc2,hc2b,hc3,hc3b]
    refine CallO.borrow 1 (hlaw l q5) (by
     rw [List.map_cons,List.map_cons,List.map_cons,List.map_nil,hfr _ _ l (by simp) q4]; rfl) rfl ?_
    simp [hw]
    exact ⟨⟨n + 1,k2⟩,⟨hn',q2⟩,⟨by simp,rfl⟩,by dsimp only; omega⟩
 ·simp
  intro gf
  generalize gf 48 = g48
  refine LoopP.of (X:=Nat) (fun i=>[(6,natV i),(5,.ref 48 g48 0 16 (some 16)),(0,.bool false)]) (fun i=>[(48,.row g48 2 (wideT i))]) (fun i=>i ≤ 16) (fun i=>16 - i) 0 (by simp) (by simp [natV]) (by simp [wideT]; rfl) ?_
  intro i hi
  simp [natV]
  refine BrB.of (fun hb2=>?_) (fun hb2=>?_)
  ·have hi' : i < 16:=by have:=of_decide_eq_true hb2; omega
   have hwi:=wrapN i (by omega)
   have hset:=wideT_set i
   rw [show ((i + 1 : Nat) : Int) = (i : Int) + 1 by omega] at hset
   have hat:=wideT_at i (by rw [wideT_len]; exact hi')
   simp [hwi,hi',wideT_len,hat,hset]
   exact ⟨i + 1,hi',by simp,rfl,by omega⟩
  ·have hi' : i = 16:=by have:=of_decide_eq_false hb2; omega
   subst hi'
   rw [wideT_all]
   have e8:=sgate_c 8 (by omega) wideC (some 16) (by decide)
   rw [show gateP 8 (wideC.map capC) = (67108865,137) by decide +kernel] at e8
   have e9:=sgate_c 9 (by omega) wideC (some 16) (by decide)
   rw [show gateP 9 (wideC.map capC) = (137,67108985) by decide +kernel] at e9
   obtain ⟨z5,hz5⟩ : ∃ z,(gateP 5 (wideC.map capC)).1 = z:=⟨_,rfl⟩
   have e5:=sgate_c 5 (by omega) wideC (some 16) (by decide)
   rw [show gateP 5 (wideC.map capC) = (z5,1073741824) from Prod.ext hz5 (show (gateP 5 (wideC.map capC)).2 = 1073741824 by decide +kernel)] at e5
   have ep:=spin_c 5 (by omega) 3 wideC (some 16) (by decide)
   rw [show pnP 5 3 (wideC.map capC) = 1006632961 by decide +kernel] at ep
   have hWp:=cVs_pure wideC
   have hWl : (wideC.map cV).length = 16:=by decide
   have l1:=PureC.wide (law6_c ⟨[],[],[],[]⟩ ⟨by simp,by simp,by simp⟩ ⟨by simp,by simp,by simp,by simp,by simp,by simp,by simp,by simp⟩ 0 0 99 2 0 (by omega) (by omega) (by omega)) (args:=[.agg [.nil,.nil,.nil,.nil],.agg [.int .i64 0,.int .i64 0],.agg [u8V 99,u8V 2,u8V 0]]) ⟨.agg ⟨VLe.nil',VLe.nil',VLe.nil',VLe.nil',trivial⟩,.refl _,.refl _,trivial⟩ (.refl _)
   have hxo : exC.ok:=⟨by intro x hx; simp [exC] at hx; rcases hx with rfl | rfl | rfl <;> exact ⟨by decide,by simp <;> decide,by decide,by decide⟩,by simp [exC],by intro x hx; simp [exC] at hx; subst hx; decide⟩
   have hxs : exC.small:=⟨by decide,by simp [exC],by decide,by simp [exC],by decide,by simp [exC],by simp [exC],by decide⟩
   have l2:=fun (n p : Int) (a b d : Nat) (ha : a < 256) (hb : b < 256) (hd : d < 256)=>PureC.wide (law6_c exC hxo hxs n p a b d ha hb hd) (args:=[exV,.agg [.int .i64 n,.int .i64 p],.agg [u8V a,u8V b,u8V d]]) ⟨exV_le,.refl _,.refl _,trivial⟩ (.refl _)
   have hfr : ∀ (h : Hp) (g : Nat),lk h 48 = some (.row g 2 (wideC.map cV))→frz h 1 (.ref 48 g 0 16 (some 16)) = .sl (wideC.map cV) (some 16):=fun h g hh=>frz_rowP (sz:=2) 0 hh hWp hWl.symm
   generalize wideC.map cV = Z at *
   simp only [nC,natV,u8V] at e8 e9 e5 ep l1 l2
   simp
   refine CallO.borrow 1 e8 (by rw [List.map_cons,List.map_cons,List.map_nil,hfr _ _ (by simp)]; rfl) rfl ?_
   simp
   refine CallO.borrow 1 e9 (by rw [List.map_cons,List.map_cons,List.map_nil,hfr _ _ (by simp)]; rfl) rfl ?_
   simp
   intro ga gb
   refine CallO.borrow 1 e5 (by rw [List.map_cons,List.map_cons,List.map_nil,hfr _ _ (by simp)]; rfl) rfl ?_
   simp
   refine CallO.borrow 1 ep (by rw [List.map_cons,List.map_cons,List.map_cons,List.map_nil,hfr _ _ (by simp)]; rfl) rfl ?_
   simp
   refine CallO.pure l1 (by simp) ?_
   simp
   refine CallO.dat 0 ex_d rfl ?_
   simp
   refine CallO.pure (l2 4 2 5 1 0 (by omega) (by omega) (by omega)) (by simp [exV,ndV]) ?_
   simp
   refine CallO.dat 0 ex_d rfl ?_
   simp
   refine CallO.pure (l2 (-9223372036854775808) (-1) 5 2 0 (by omega) (by omega) (by omega)) (by simp [exV,ndV]) ?_
   simp
   refine CallO.dat 0 ex_d rfl ?_
   simp
   refine CallO.pure (l2 0 0 14 1 0 (by omega) (by omega) (by omega)) (by simp [exV,ndV]) ?_
   simp
   refine CallO.pure lives_c rfl ?_
   simp
end Go.Proofs.YtcmblmkbdenakaaGreatDoor
