/- Paths: the circuit of the closed check of layer 20, as data. Conditions: none. -/
import Derived.Test.YtlmniacemoohpaaGreatDoorP7
import Derived.Test.YtlmniacemoohpaaGreatDoorBase18
set_option linter.unusedSimpArgs false
set_option linter.unusedVariables false
namespace Go.Proofs.YtlmniacemoohpaaGreatDoor
open Go
def gtC : Ci:=⟨[⟨0,[],0,0⟩,⟨0,[],0,0⟩,⟨5,[0,1],0,0⟩],[[97],[98],[121]],[],[2]⟩
theorem gate_le : VLe gateV gtC.v:=by
 unfold gateV Ci.v gtC
 refine VLe.agg ⟨VLe.trans (.cap _ _) (VLe.slc rfl fun i=>?_),.cap _ _,.nil',.cap _ _,trivial⟩
 match i with
 | 0=>exact ⟨.refl _,.nil',.refl _,.refl _,trivial⟩
 | 1=>exact ⟨.refl _,.nil',.refl _,.refl _,trivial⟩
 | 2=>exact ⟨.refl _,.cap _ _,.refl _,.refl _,trivial⟩
 | i + 3=>exact AllLe.refl _
theorem gate_sh : shE gtC = 0:=by decide
theorem gate_g : gtC.g 0 = []∧gtC.g 1 = []∧gtC.g 2 = [0,1]:=by decide
theorem gate_good : gtC.good where
 wf:=⟨by intro x hx; simp [gtC] at hx; rcases hx with rfl | rfl <;> simp,by intro s hs; simp [gtC] at hs; rcases hs with rfl | rfl | rfl <;> simp⟩
 chk:=by
  have ha : acyc gtC:=acyc_below fun i hi x hx=>by
   obtain ⟨g0,g1,g2⟩:=gate_g
   match i,hi with
   | 0,_=>rw [g0] at hx; simp at hx
   | 1,_=>rw [g1] at hx; simp at hx
   | 2,_=>rw [g2] at hx; simp at hx; omega
   | i + 3,h=>have e : gtC.n.length = 3:=rfl; omega
  unfold chkE; rw [if_neg (by rw [gate_sh]; simp),if_pos ha]
 sh:=gate_sh
 ac:=acyc_below fun i hi x hx=>by
   obtain ⟨g0,g1,g2⟩:=gate_g
   match i,hi with
   | 0,_=>rw [g0] at hx; simp at hx
   | 1,_=>rw [g1] at hx; simp at hx
   | 2,_=>rw [g2] at hx; simp at hx; omega
   | i + 3,h=>have e : gtC.n.length = 3:=rfl; omega
 m:=rfl
 k:=by intro y hy; simp [gtC] at hy; rcases hy with rfl | rfl <;> simp
 n0:=by decide
 n1:=by decide
def g2P (a b : Nat) : Pt:=⟨[a,b],[]⟩
theorem g2_fit {a b : Nat} (ha : a ≤ 1) (hb : b ≤ 1) : (g2P a b).fit gtC:=⟨rfl,rfl,by intro x hx; simp [g2P] at hx; omega,by intro x hx; simp [g2P] at hx⟩
theorem g2_net {a b : Nat} : netN gtC (g2P a b) 0 = a∧netN gtC (g2P a b) 1 = b:=by
 have h0:=netN_ini gate_good gate_good.ord (p:=g2P a b) (n:=0) (by decide) (by decide)
 have h1:=netN_ini gate_good gate_good.ord (p:=g2P a b) (n:=1) (by decide) (by decide)
 have e0 : ids 14 gtC.n 0 = []:=by decide
 have e1 : ids 0 gtC.n 0 = [0,1]:=by decide
 unfold ini at h0 h1
 rw [e0,e1] at h0 h1
 simp [g2P,put,upd1] at h0 h1
 exact ⟨h0,h1⟩
def gPath : List Ln:=[(0,-1),(2,0)]
theorem gPath_ok : isPB gtC gPath = true:=by decide
theorem gtst (a b d e : Nat) (h1 : d ≤ 1) (h2 : d = notN a) (h0 : a ≤ 1) : tstP gtC (netN gtC (g2P a b)) (netN gtC (g2P d e)) (firmN gtC (netN gtC (g2P a b)) (netN gtC (g2P d e))) gPath =
  if e = 1 then (if (decide (b ≤ 1) && decide (b = e) || !decide (d = 0)) = true then 2 else 1) else 0:=by
 obtain ⟨a0,a1⟩:=g2_net (a:=a) (b:=b)
 obtain ⟨b0,b1⟩:=g2_net (a:=d) (b:=e)
 have hf:=firm_eq gate_good gate_good.ord (netN gtC (g2P a b)) (netN gtC (g2P d e)) (n:=1) (by decide)
 have hs : stE gtC (netN gtC (g2P a b)) (netN gtC (g2P d e)) 1 (firmN gtC (netN gtC (g2P a b)) (netN gtC (g2P d e))) = (decide (b ≤ 1) && decide (b = e)):=by
  have : combC gtC 1 = false:=by decide
  unfold stE; rw [this,a1,b1]; rfl
 rw [hs] at hf
 generalize firmN gtC (netN gtC (g2P a b)) (netN gtC (g2P d e)) = F at hf ⊢
 have hg2 : gtC.g 2 = [0,1]:=by decide
 have hk2 : (gtC.nd 2).k.toNat = 5:=by decide
 have hn1 : notN 0 = 1:=rfl
 have hc5 : ctlV 5 = 0:=rfl
 unfold tstP
 simp only [gPath,List.getD_cons_zero,Int.toNat_zero,a0,b0]
 rw [if_pos ⟨h0,h2⟩]
 simp only [List.drop_succ_cons,List.drop_zero,howT]
 have ht2 : (2 : Int).toNat = 2:=rfl
 simp only [ht2,Int.toNat_zero,hg2,hk2,sideN,List.take_zero,List.drop_succ_cons,List.drop_zero,List.nil_append,List.getD_cons_zero,b0]
 unfold lnT
 have hok : okT (netN gtC (g2P d e)) 5 0 [1] = decide (e = 1):=by simp [okT,b1,hc5,hn1]
 have hqu : quT F 5 0 [1] d = (decide (b ≤ 1) && decide (b = e) || !decide (d = 0)):=by simp [quT,hf,hc5]
 rw [hok,hqu]
 by_cases he : e = 1
 ·simp only [he,decide_true,if_true]
  split <;> rfl
 ·simp [he]
end Go.Proofs.YtlmniacemoohpaaGreatDoor
namespace Go.Proofs.YtlmniacemoohpaaGreatDoor
open Go
def canB (c : Ci) (X : Nat→List Ln) : Nat→Nat→Bool
 | 0,n=>obsF c n
 | k + 1,n=>(X n).any fun l=>canB c X k l.1.toNat
theorem back_c (L : List Nat) (cap : Option Nat) : PureC Tryz.prog gl0 113 [.sl (natsV L) cap] (.fn 145 [] [.iptr (.sl (natsV L) cap) 0]):=by
 refine PureC.of_W 3 ok113 rfl ?_
 simp [i113,x113,natsV_pure,mapRL_pure]
noncomputable def lp72 (g g8 g7 g3 : Nat) : Blk:=.loop g 82 [(8,.ptr 8 g8 0 0),(7,.ptr 7 g7 0 0),(3,.ptr 3 g3 0 0)] [27,28] ra72_0 rb72_0 false
def canRow (c : Ci) (X : Nat→List Ln) (n : Nat) : V:=.sl (tab 256 fun k=>.bool (canB c X k n)) (some 256)
def canR (c : Ci) (X : Nat→List Ln) (S : Nat→Bool) : List V:=tab c.n.length fun n=>bif S n then canRow c X n else .nil
noncomputable def hp72 (c : Ci) (X : Nat→List Ln) (cx : Option Nat) (g g8 g7 g3 g24 : Nat) (S : Nat→Bool) : Hp:=
 [(2000027,lp72 g g8 g7 g3),(8,.row g8 1 [.ref 24 g24 0 c.n.length (some c.n.length)]),(7,.row g7 1 [.sl (boolsV c.n.length (obsF c)) (some c.n.length)]),(3,.row g3 1 [.sl (tab c.n.length fun n=>.sl ((X n).map lnI) none) cx]),(24,.row g24 1 (canR c X S))]
theorem rep256 : List.replicate 256 (V.bool false) = boolsV 256 fun _=>false:=by unfold boolsV; rw [tab_const]
set_option maxRecDepth 100000 in
set_option maxHeartbeats 4000000 in
theorem yld72 (c : Ci) (hg : c.good) (X : Nat→List Ln) (cx : Option Nat) {g g8 g7 g3 g24 : Nat} {S : Nat→Bool} {i n : Nat} (hn : n < c.n.length) (hSn : S n = false) (hXl : (X n).length < 1000000) (hX : ∀ l ∈ X n,∃ m : Nat,l.1 = (m : Int)∧m < c.n.length∧m ≠ n∧S m = true) {K : V→Hp→Prop}
  (hk : ∀ h',Sub (hp72 c X cx g g8 g7 g3 g24 (upd1 S n true)) h'→K (.bool true) h') :
  IYield Tryz.prog gl0 2000027 g [natV i,natV n] (hp72 c X cx g g8 g7 g3 g24 S) K:=by
 have hn1:=hg.n1
 unfold hp72 canR at *
 obtain ⟨r,hr⟩ : ∃ r : Nat→V,∀ m,r m = bif S m then canRow c X m else .nil:=⟨_,fun _=>rfl⟩
 have hrf : (fun n=>bif S n then canRow c X n else V.nil) = r:=by funext m; rw [hr]
 have hrn : r n = .nil:=by rw [hr,hSn]; rfl
 have hr2 : (fun m=>bif upd1 S n true m then canRow c X m else V.nil) = upd1 r n (canRow c X n):=by
  funext m
  by_cases h : m = n
  ·subst h; simp
  ·rw [upd1_ne _ _ h,upd1_ne _ _ h,hr]
 rw [hr2] at hk
 rw [hrf]
 refine IYield.of_W rok72_0 (by simp [lp72]; rfl) rfl ?_
 simp [xa72_0,xb72_0,natV,lp72,rep256,-List.reduceReplicate]
 refine ⟨_,_,_,_,_,⟨rfl,rfl,rfl,rfl,rfl⟩,?_⟩
 intro gm
 generalize gm 31 = g31
 simp [hn,tab_get,hrn,tab_set,rep256,-List.reduceReplicate]
 refine ⟨rfl,?_⟩
 obtain ⟨en,hen⟩ : ∃ b,obsF c n = b:=⟨_,rfl⟩
 simp [hn,tab_get,boolsV_get,hen,boolsV_set]
 obtain ⟨D,hD⟩ : ∃ D : Nat→Nat→Bool,∀ j i,D j i = match i with
  | 0=>en
  | i + 1=>((X n).take j).any fun l=>canB c X i l.1.toNat:=⟨_,fun _ _=>rfl⟩
 have hD0 : D 0 = upd1 (fun _=>false) 0 en:=by
  funext i
  rw [hD]
  cases i with
  | zero=>simp
  | succ i=>rw [upd1_ne _ _ (by omega)]; simp
 have hDe : D (X n).length = fun k=>canB c X k n:=by
  funext i
  rw [hD]
  cases i with
  | zero=>simp [canB,hen]
  | succ i=>simp [canB]
 have hDs : ∀ j (hj : j < (X n).length) i,D (j + 1) (i + 1) = (D j (i + 1) || canB c X i ((X n)[j]).1.toNat):=fun j hj i=>by
  rw [hD,hD]; simp only [List.take_succ_eq_append_getElem hj,List.any_append,List.any_cons,List.any_nil,Bool.or_false]
 have hDz : ∀ j,D j 0 = en:=fun j=>by rw [hD]
 rw [← hD0]
 refine LoopP.of (X:=Nat) (fun j=>[(47,natV j),(46,natV (X n).length),(45,.sl ((X n).map lnI) none),(10,natV n),(8,.ptr 8 g8 0 0),(7,.ptr 7 g7 0 0),(3,.ptr 3 g3 0 0)])
  (fun j=>[(2000027,.loop g 82 [(8,.ptr 8 g8 0 0),(7,.ptr 7 g7 0 0),(3,.ptr 3 g3 0 0)] [27,28] ra72_0 rb72_0 true),(8,.row g8 1 [.ref 24 g24 0 c.n.length (some c.n.length)]),(7,.row g7 1 [.sl (boolsV c.n.length (obsF c)) (some c.n.length)]),(3,.row g3 1 [.sl (tab c.n.length fun n=>.sl ((X n).map lnI) none) cx]),
   (24,.row g24 1 (tab c.n.length (upd1 r n (.ref 31 g31 0 256 (some 256))))),(31,.row g31 1 (boolsV 256 (D j)))])
  (fun j=>j ≤ (X n).length) (fun j=>(X n).length - j) 0 (by simp) (by simp [natV]) (by simp) ?_
 rintro j hj
 simp [natV]
 refine BrB.of (fun hb=>?_) (fun hb=>?_)
 ·have hj' : j < (X n).length:=of_decide_eq_true hb
  have hw:=wrapN j (by omega)
  obtain ⟨m,hm,hmN,hmn,hSm⟩:=hX _ (List.getElem_mem hj')
  have hrm : r m = canRow c X m:=by rw [hr,hSm]; rfl
  obtain ⟨⟨a,b⟩,hab⟩ : ∃ p,(X n)[j] = p:=⟨_,rfl⟩
  have hDj:=hDs j hj'
  rw [hab] at hm hDj
  dsimp only at hm
  subst hm
  simp [hj',hab,lnI]
  intro gf12
  generalize gf12 12 = g12
  obtain ⟨E,hE⟩ : ∃ E : Nat→Nat→Bool,∀ k i,E k i = if 1 ≤ i∧i ≤ k then D (j + 1) i else D j i:=⟨_,fun _ _=>rfl⟩
  have hE0 : E 0 = D j:=by funext i; rw [hE,if_neg (by omega)]
  have hEe : ∀ i,i < 256→E 255 i = D (j + 1) i:=fun i hi=>by
   rw [hE]
   by_cases h : 1 ≤ i
   ·rw [if_pos ⟨h,by omega⟩]
   ·obtain rfl : i = 0:=by omega
    rw [if_neg (by omega),hDz,hDz]
  have hEs : ∀ k,E (k + 1) = upd1 (E k) (k + 1) (D (j + 1) (k + 1)):=fun k=>by
   funext i
   by_cases h : i = k + 1
   ·subst h; rw [upd1_same,hE,if_pos (by omega)]
   ·rw [upd1_ne _ _ h,hE,hE]
    by_cases h2 : 1 ≤ i∧i ≤ k
    ·rw [if_pos h2,if_pos (by omega)]
    ·rw [if_neg h2,if_neg (by omega)]
  have hEk : ∀ k,E k (k + 1) = D j (k + 1):=fun k=>by rw [hE,if_neg (by omega)]
  refine LoopP.of (X:=Nat) (fun k=>[(51,natV k),(12,.ptr 12 g12 0 0),(47,natV j),(46,natV (X n).length),(45,.sl ((X n).map lnI) none),(10,natV n),(8,.ptr 8 g8 0 0),(7,.ptr 7 g7 0 0),(3,.ptr 3 g3 0 0)])
   (fun k=>[(2000027,.loop g 82 [(8,.ptr 8 g8 0 0),(7,.ptr 7 g7 0 0),(3,.ptr 3 g3 0 0)] [27,28] ra72_0 rb72_0 true),(8,.row g8 1 [.ref 24 g24 0 c.n.length (some c.n.length)]),(7,.row g7 1 [.sl (boolsV c.n.length (obsF c)) (some c.n.length)]),(3,.row g3 1 [.sl (tab c.n.length fun n=>.sl ((X n).map lnI) none) cx]),
    (24,.row g24 1 (tab c.n.length (upd1 r n (.ref 31 g31 0 256 (some 256))))),(31,.row g31 1 (boolsV 256 (E k))),(12,.row g12 2 [lnI ((m : Int),b)])])
   (fun k=>k ≤ 255) (fun k=>255 - k) 0 (by simp) (by simp [natV]) (by simp [hE0,lnI]) ?_
  rintro k hk2
  simp [natV]
  refine BrB.of (fun hb2=>?_) (fun hb2=>?_)
  ·have hk' : k < 255:=of_decide_eq_true hb2
   have hw2:=wrapN k (by omega)
   have hmn' : ¬ n = m:=fun e=>hmn e.symm
   obtain ⟨e1,he1⟩ : ∃ b,D j (k + 1) = b:=⟨_,rfl⟩
   obtain ⟨e2,he2⟩ : ∃ b,canB c X k m = b:=⟨_,rfl⟩
   have hDk:=hDj k
   simp only [Int.toNat_natCast] at hDk
   rw [he1,he2] at hDk
   have hEk':=hEk k
   rw [he1] at hEk'
   have hnx:=hEs k
   rw [hDk] at hnx
   obtain ⟨q,hq⟩ : ∃ q,k + 1 = q:=⟨_,rfl⟩
   rw [hq] at hw2 hEk' hnx
   have hq2 : q < 256:=by omega
   cases e1
   case' true=>
    simp [hw2,hn,tab_get,hq2,boolsV_get,hEk',boolsV_set]
   case' false=>
    simp [hw2,hn,tab_get,hq2,boolsV_get,hEk',boolsV_set,upd1_ne _ _ hmn,hrm,hmN,lnI,canRow,show k < 256 by omega,he2]
   all_goals
    first | refine ⟨q,by omega,rfl,?_,by omega⟩ | refine ⟨rfl,q,by omega,rfl,?_,by omega⟩
    rw [hnx]; simp
  ·have hk' : k = 255:=by have:=of_decide_eq_false hb2; omega
   subst hk'
   have hbe : boolsV 256 (E 255) = boolsV 256 (D (j + 1)):=by
    unfold boolsV
    exact tab_congr fun i hi=>by rw [hEe i hi]
   simp [hw,hbe]
   exact ⟨j + 1,hj',by simp,by simp,by omega⟩
 ·have hj' : j = (X n).length:=by have:=of_decide_eq_false hb; omega
  subst hj'
  rw [hDe]
  simp
  refine .frz (g:=g31) (sz:=1) (es:=boolsV 256 fun k=>canB c X k n) 31 (by simp) (boolsV_pure _ _) (.done ?_)
  have pX : V.pureL (tab c.n.length fun n=>V.sl ((X n).map lnI) none) = true:=tab_pure fun n=>by simp [lnI_pure]
  have hmap : (tab c.n.length (upd1 r n (.ref 31 g31 0 256 (some 256)))).map (fzV 31 g31 (boolsV 256 fun k=>canB c X k n)) = tab c.n.length (upd1 r n (canRow c X n)):=by
   rw [tab_map]
   refine tab_congr fun m hm=>?_
   by_cases h : m = n
   ·subst h
    rw [upd1_same,upd1_same]
    have ht : List.take 256 (boolsV 256 fun k=>canB c X k m) = boolsV 256 fun k=>canB c X k m:=List.take_of_length_le (by simp)
    simp [fzV,fzf,V.mapR,canRow,boolsV]
    exact ht
   ·rw [upd1_ne _ _ h,upd1_ne _ _ h,hr]
    cases S m
    ·rfl
    ·simp [canRow,fzV,V.mapR]
     exact mapRL_pure _ (tab_pure fun _=>rfl)
  simp [fzF,fzH,fzV,fzf,fzp,Blk.fz,mapRL_pure,boolsV_pure,pX]
  refine ⟨_,_,_,_,_,⟨rfl,rfl,rfl,rfl,rfl⟩,[(2000027,lp72 g g8 g7 g3),(8,.row g8 1 [.ref 24 g24 0 c.n.length (some c.n.length)]),(7,.row g7 1 [.sl (boolsV c.n.length (obsF c)) (some c.n.length)]),(3,.row g3 1 [.sl (tab c.n.length fun n=>.sl ((X n).map lnI) none) cx]),(24,.row g24 1 (tab c.n.length (upd1 r n (canRow c X n))))],?_,hk _ ?_⟩
  ·rw [← hmap]
   simp [lp72,fzV]
  ·simp
def lastS (L : List Nat) (k : Nat) (n : Nat) : Bool:=decide (n ∈ L.drop k)
theorem lastS_upd {L : List Nat} {k : Nat} (hk : k < L.length) : upd1 (lastS L (k + 1)) L[k] true = lastS L k:=by
 funext m
 by_cases h : m = L[k]
 ·subst h; rw [upd1_same]; unfold lastS; rw [List.drop_eq_getElem_cons hk]; simp only [List.mem_cons,true_or,decide_true]
 ·rw [upd1_ne _ _ h]; unfold lastS; rw [List.drop_eq_getElem_cons hk]; simp only [List.mem_cons,h,false_or]
set_option maxRecDepth 100000 in
theorem iter145_c (c : Ci) (hg : c.good) (X : Nat→List Ln) (cx cl : Option Nat) {g g8 g7 g3 g24 : Nat} {L : List Nat} (hL : L.length = c.n.length) (hLN : ∀ x ∈ L,x < c.n.length) (hnd : L.Nodup) (hXl : ∀ n,n < c.n.length→(X n).length < 1000000)
  (hX : ∀ k (hk : k < L.length),∀ l ∈ X L[k],∃ m : Nat,l.1 = (m : Int)∧m < c.n.length∧m ≠ L[k]∧m ∈ L.drop (k + 1)) {K : V→Hp→Prop} (hK : ∀ v h',Sub (hp72 c X cx g g8 g7 g3 g24 (fun n=>decide (n ∈ L))) h'→K v h') :
  ICallO Tryz.prog gl0 145 [.own 2000027 g,.iptr (.sl (natsV L) cl) 0] (hp72 c X cx g g8 g7 g3 g24 fun _=>false) K:=by
 have hn1:=hg.n1
 have hn0:=hg.n0
 obtain ⟨N,hN⟩ : ∃ N,c.n.length = N:=⟨_,rfl⟩
 have hws : IntKind.i64.wrap ((N : Int) - 1) = ((N : Int) - 1):=by simp [IntKind.wrap,IntKind.bits,IntKind.signed]; omega
 refine CallO.of_W ok145 rfl ?_
 simp [i145,x145,hL,hN,hws]
 refine LoopP.of (X:=Nat) (fun k=>[(3,.int .i64 ((k : Int) - 1)),(1,.iptr (.sl (natsV L) cl) 0),(0,.own 2000027 g)])
  (fun k=>hp72 c X cx g g8 g7 g3 g24 (lastS L k)) (fun k=>k ≤ N) (fun k=>k) N (by omega) (by simp) ?_ ?_
 ·have : lastS L N = fun _=>false:=by funext n; unfold lastS; rw [List.drop_of_length_le (by omega)]; simp
  rw [this]
  simp [hp72]
 rintro k hk
 simp
 refine BrB.of (fun hb=>?_) (fun hb=>?_)
 ·have hk0:=of_decide_eq_true hb
  obtain ⟨q,rfl⟩ : ∃ q,k = q + 1:=⟨k - 1,by omega⟩
  have hq : q < L.length:=by omega
  have hnN:=hLN L[q] (List.getElem_mem hq)
  have hup:=lastS_upd hq
  have hSn : lastS L (q + 1) L[q] = false:=by
   unfold lastS
   have h1:=List.drop_eq_getElem_cons hq
   have h2 : (L.drop q).Nodup:=hnd.sublist (List.drop_sublist _ _)
   rw [h1,List.nodup_cons] at h2
   simpa using h2.1
  obtain ⟨n,hn⟩ : ∃ n,L[q] = n:=⟨_,rfl⟩
  have hXn:=hX q hq
  rw [hn] at hnN hup hSn hXn
  have hq1 : ((q + 1 : Nat) : Int) - 1 = (q : Int):=by omega
  simp [hq,natsV_get,hn]
  refine yld72 c hg X cx hnN hSn (hXl n hnN) (fun l hl=>by
   obtain ⟨m,e1,e2,e3,e4⟩:=hXn l hl
   exact ⟨m,e1,e2,e3,by unfold lastS; simpa using e4⟩) fun h' hs=>?_
  rw [hup] at hs
  have hwq : IntKind.i64.wrap ((q : Int) - 1) = (q : Int) - 1:=by simp [IntKind.wrap,IntKind.bits,IntKind.signed]; omega
  simp [hwq]
  exact ⟨q,by omega,rfl,hs,by omega⟩
 ·have hk0 : k = 0:=by have:=of_decide_eq_false hb; omega
  subst hk0
  have e : lastS L 0 = fun n=>decide (n ∈ L):=by funext n; simp [lastS]
  rw [e]
  simp
  refine .done ⟨_,?_,hK _ (hp72 c X cx g g8 g7 g3 g24 fun n=>decide (n ∈ L)) ?_⟩
  all_goals simp [hp72]
theorem later {c : Ci} (hg : c.good) {L : List Nat} (ho : Ord c L) {k : Nat} (hk : k < L.length) {m : Nat} (hm : m < c.n.length) (h : L[k] ∈ c.g m) : m ≠ L[k]∧m ∈ L.drop (k + 1):=by
 have hlv : IsLv c.n.length c.g (lvOf c):=hg.ac.lv
 have h1 : lvOf c L[k] < lvOf c m:=by rw [hlv m hm]; exact le_mx h
 refine ⟨fun e=>by rw [e] at h1; omega,?_⟩
 obtain ⟨j,hj,rfl⟩:=List.getElem_of_mem (ho.all hm)
 have hp:=List.pairwise_iff_getElem.1 ho.p
 rcases Nat.lt_trichotomy j k with hjk | rfl | hjk
 ·have:=hp j k hj hk hjk
  exact absurd this (lex_asym (.inl h1))
 ·omega
 ·rw [List.mem_iff_getElem]
  exact ⟨j - (k + 1),by simp; omega,by simp; congr 1; omega⟩
def ExtOk (c : Ci) (X : Nat→List Ln) : Prop:=∀ n,n < c.n.length→(X n).length < 1000000∧∀ l ∈ X n,∃ m : Nat,l.1 = (m : Int)∧m < c.n.length∧n ∈ c.g m
set_option maxRecDepth 100000 in
theorem lengths_c (c : Ci) (hg : c.good) (X : Nat→List Ln) (hX : ExtOk c X) (cx : Option Nat) : PureC Tryz.prog gl0 72 [c.v,.sl (tab c.n.length fun n=>.sl ((X n).map lnI) none) cx] (.sl (tab c.n.length fun n=>canRow c X n) (some c.n.length)):=by
 have hn1:=hg.n1
 have hob:=observed_c c hg
 have pX : V.pureL (tab c.n.length fun n=>V.sl ((X n).map lnI) none) = true:=tab_pure fun n=>by simp [lnI_pure]
 refine PureC.of_WM 2 4 ok72 rfl ?_
 simp [i72,x72]
 intro gf1 gf2
 generalize gf1 2 = g2
 generalize gf2 3 = g3
 refine KM.mk (.done ?_)
 simp
 refine CallO.own 1000 (order_c c hg.wf) (by simp) (by simp) ?_
 rintro v h (⟨h1,-⟩ | ⟨-,g,L,rfl,rfl,hR,hpw⟩) gf4
 ·exact absurd hg.chk h1
 have hord : Ord c L:=⟨hR,hpw (by omega)⟩
 have hLl : L.length = c.n.length:=hR.len
 simp [upH,upS,Blk.rn,map_rn_pure (natsV_pure L)]
 generalize gf4 1000 + g = g9
 refine KM.mk (.frz (g:=g9) (sz:=1) (es:=natsV L) 1000 (by simp) (natsV_pure _) (.done ?_))
 have htk : List.take c.n.length (natsV L) = natsV L:=List.take_of_length_le (by simp [hLl])
 simp [fzF,fzH,fzV,fzf,fzp,Blk.fz,mapRL_pure,pX,natsV_pure,hLl,htk]
 have hback:=back_c L (some c.n.length)
 refine CallO.pure hob (by simp) ?_
 simp
 intro gf5 gf6
 refine ⟨by omega,?_⟩
 intro gf7
 generalize gf5 7 = g7
 generalize gf6 24 = g24
 generalize gf7 8 = g8
 refine CallO.pure hback (by simp [natsV_pure]) ?_
 simp
 have hcr0 : List.replicate c.n.length V.nil = canR c X fun _=>false:=by unfold canR; simp [tab_const]
 refine ⟨[(8,.ptr 8 g8 0 0),(7,.ptr 7 g7 0 0),(3,.ptr 3 g3 0 0)],by simp,(hp72 c X cx 0 g8 g7 g3 g24 fun _=>false).drop 1,by simp [hp72,hcr0],fun g=>?_⟩
 refine iter145_c c hg X cx (some c.n.length) hLl hR.lt (lex_nodup hord.p) (fun n hn=>(hX n hn).1) (fun k hk l hl=>?_) fun v h' hs=>?_
 ·obtain ⟨m,e1,e2,e3⟩:=(hX L[k] (hR.lt _ (List.getElem_mem hk))).2 l hl
  obtain ⟨e4,e5⟩:=later hg hord hk e2 e3
  exact ⟨m,e1,e2,e4,e5⟩
 have hall : (canR c X fun n=>decide (n ∈ L)) = tab c.n.length fun n=>canRow c X n:=by
  unfold canR
  refine tab_congr fun n hn=>?_
  have:=hord.all hn
  simp [this]
 unfold hp72 at hs
 rw [hall] at hs
 simp only [Sub,lp72] at hs
 obtain ⟨s1,s2,s3,s4,s5,-⟩:=hs
 have pR : V.pureL (tab c.n.length fun n=>canRow c X n) = true:=tab_pure fun n=>by simp only [canRow,V.pure]; exact tab_pure fun _=>rfl
 simp [s1,s2,s5,map_frz_pure pR]
 exact List.take_of_length_le (by simp)
end Go.Proofs.YtlmniacemoohpaaGreatDoor
