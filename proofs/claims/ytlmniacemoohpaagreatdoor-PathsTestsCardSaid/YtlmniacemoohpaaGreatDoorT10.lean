/- Transitions: the contract of All. Conditions: none. -/
import Derived.Test.YtlmniacemoohpaaGreatDoorJ7
import Derived.Test.YtlmniacemoohpaaGreatDoorT7
set_option linter.unusedSimpArgs false
set_option linter.unusedVariables false
namespace Go.Proofs.YtlmniacemoohpaaGreatDoor
open Go
def lnsP (n m : Nat) : List V:=(List.range m).map fun (k : Nat)=>.agg [natV n,.int .i64 ((k : Int) - 1)]
def lnsN (c : Ci) (i : Nat) : List V:=(List.range i).flatMap fun n=>lnsP n ((c.nd n).i.length + 1)
theorem lnsP_succ (n m : Nat) : lnsP n (m + 1) = lnsP n m ++ [.agg [natV n,.int .i64 ((m : Int) - 1)]]:=by simp [lnsP,List.range_succ]
theorem lnsN_succ (c : Ci) (i : Nat) : lnsN c (i + 1) = lnsN c i ++ lnsP i ((c.nd i).i.length + 1):=by simp [lnsN,List.range_succ]
theorem lnsP_pure (n m : Nat) : V.pureL (lnsP n m) = true:=by
 rw [V.pureL_iff]; intro v hv
 obtain ⟨k,-,rfl⟩:=List.mem_map.1 hv
 rfl
theorem lnsN_pure (c : Ci) (i : Nat) : V.pureL (lnsN c i) = true:=by
 rw [V.pureL_iff]; intro v hv
 obtain ⟨n,-,h⟩:=List.mem_flatMap.1 hv
 exact (V.pureL_iff _).1 (lnsP_pure _ _) v h
theorem lnsP_len (n m : Nat) : (lnsP n m).length = m:=by simp [lnsP]
theorem lnsN_len (c : Ci) (hc : ∀ n,n < c.n.length→(c.nd n).i.length ≤ 16) : ∀ i,i ≤ c.n.length→(lnsN c i).length ≤ 17 * i
 | 0,_=>by simp [lnsN]
 | i + 1,h=>by
  rw [lnsN_succ,List.length_append,lnsP_len]
  have:=lnsN_len c hc i (by omega)
  have:=hc i (by omega)
  omega
theorem clipL_c (l : List V) (cap : Option Nat) (hp : V.pureL l = true) (_hc : ∀ x ∈ l,x.cells.length = 2) : PureC Tryz.prog gl0 74 [.sl l cap] (.sl l (some l.length)):=by
 refine PureC.of_W 2 ok74 rfl ?_
 simp [i74,x74]
 exact mapRL_pure _ hp
theorem lines_c (c : Ci) (hg : c.good) : PureC Tryz.prog gl0 57 [c.v] (.tup [.sl (lnsN c c.n.length) (some (lnsN c c.n.length).length),.int .i64 0]):=by
 have h1:=valid_c c hg
 have hn1:=hg.n1
 have hn0:=hg.n0
 have hval:=hg.val
 have hll:=lnsN_len c (fun n hn=>hval.l n hn)
 refine PureC.of_W 2 ok57 rfl ?_
 simp [i57,x57]
 intro gf1
 generalize gf1 1 = g1
 refine CallO.pure h1 (by simp) ?_
 simp
 refine LoopP.ofF (X:=Nat × Option (Nat × List V)) (fun z=>[(17,natV z.1),(16,natV c.n.length),(15,.sl (c.n.map Nd.v) none),(5,accV 35 z.2),(1,.ptr 1 g1 0 0)]) (fun z=>(1,.row g1 4 [c.v]) :: accH 35 2 z.2)
  (fun z=>z.1 ≤ c.n.length∧accL z.2 = lnsN c z.1∧(z.2 = none↔z.1 = 0)) (fun z=>c.n.length - z.1) (.done ⟨(0,none),⟨by simp,by simp [accL,lnsN],by simp⟩,by simp [natV,accV],by simp [accH]⟩) ?_
 rintro ⟨i,acc⟩ ⟨q1,q2,q3⟩
 dsimp only at q1 q2 q3 ⊢
 simp [natV]
 refine BrB.of (fun hb=>?_) (fun hb=>?_)
 ·have hi : i < c.n.length:=of_decide_eq_true hb
  have hw:=wrapN i (by omega)
  obtain ⟨y,hy⟩ : ∃ y,c.n[i] = y:=⟨_,rfl⟩
  have hyl:=hval.l i hi
  have hnd : c.nd i = y:=by rw [c.nd_get hi,hy]
  have hsN:=lnsN_succ c i
  rw [hnd] at hyl hsN
  have hlli:=hll i (by omega)
  have hw2:=wrapN y.i.length (by omega)
  obtain ⟨M,hM⟩ : ∃ M,y.i.length + 1 = M:=⟨_,rfl⟩
  rw [hM] at hw2 hsN
  simp [hi,hy]
  intro gf2
  generalize gf2 7 = g7
  simp [hw2]
  refine LoopP.of (X:=Nat × Option (Nat × List V)) (fun z=>[(26,natV z.1),(25,natV M),(6,natV i),(17,natV i),(16,natV c.n.length),(15,.sl (c.n.map Nd.v) none),(5,accV 35 z.2),(1,.ptr 1 g1 0 0)]) (fun z=>(1,.row g1 4 [c.v]) :: accH 35 2 z.2)
   (fun z=>z.1 ≤ M∧accL z.2 = lnsN c i ++ lnsP i z.1∧(z.2 = none→i = 0∧z.1 = 0)) (fun z=>M - z.1) (0,acc) ⟨by simp,by simp [lnsP,q2],fun h=>⟨q3.1 h,rfl⟩⟩ (by simp [natV]) (by rcases acc with _ | ⟨ga,r⟩ <;> simp [accH]) ?_
  rintro ⟨k,acc2⟩ ⟨p1,p2,p3⟩
  dsimp only at p1 p2 p3 ⊢
  simp [natV]
  refine BrB.of (fun hb2=>?_) (fun hb2=>?_)
  ·have hk : k < M:=of_decide_eq_true hb2
   have hw3:=wrapN k (by omega)
   have hw4 : IntKind.i64.wrap ((k : Int) - 1) = (k : Int) - 1:=by rw [wrap_i64] <;> omega
   have hnx:=lnsP_succ i k
   have hnx2 : lnsN c i ++ lnsP i (k + 1) = (lnsN c i ++ lnsP i k) ++ [.agg [.int .i64 (i : Int),.int .i64 ((k : Int) - 1)]]:=by rw [hnx,List.append_assoc]; rfl
   rw [← p2] at hnx2
   have hlen:=congrArg List.length p2
   rw [List.length_append,lnsP_len] at hlen
   rcases acc2 with _ | ⟨gb,rb⟩
   ·simp [accV,accH,hw4]
    intro ga gb
    exact ⟨k + 1,some (gb 35,[.agg [.int .i64 (i : Int),.int .i64 ((k : Int) - 1)]]),⟨hk,by simpa [accL] using hnx2.symm,by simp⟩,by simp [hw3],by simp,by omega⟩
   ·simp [accV,accH,hw4]
    intro ga gb1
    exact ⟨by simp only [accL] at hlen; omega,k + 1,some (gb1 35,rb ++ [.agg [.int .i64 (i : Int),.int .i64 ((k : Int) - 1)]]),⟨hk,by simpa [accL] using hnx2.symm,by simp⟩,by simp [hw3],by simp,by omega⟩
  ·have hk : k = M:=by have:=of_decide_eq_false hb2; omega
   subst hk
   simp [hw]
   refine .done ⟨i + 1,acc2,⟨hi,by rw [p2,hsN],?_⟩,by simp,by rcases acc2 with _ | ⟨ga,r⟩ <;> simp [accH],by omega⟩
   constructor
   ·intro h; have:=(p3 h).2; omega
   ·intro h; omega
 ·have hi : i = c.n.length:=by have:=of_decide_eq_false hb; omega
  subst hi
  have hcl:=clipL_c (lnsN c c.n.length) none (lnsN_pure _ _) (fun x hx=>by
   obtain ⟨n,-,h⟩:=List.mem_flatMap.1 hx
   obtain ⟨k,-,rfl⟩:=List.mem_map.1 h
   rfl)
  have hpp:=lnsN_pure c c.n.length
  generalize lnsN c c.n.length = C at q2 hcl hpp ⊢
  rcases acc with _ | ⟨ga,r⟩
  ·have:=q3.1 rfl; omega
  ·simp only [accL] at q2
   subst q2
   simp [accV,accH]
   refine .mk [(5,.ref 35 ga 0 r.length none)] [(35,.row ga 2 r)] (by simp) (by simp) (.frz (g:=ga) (sz:=2) (es:=r) 35 (by simp) hpp (.done ?_))
   simp [fzF,fzH,fzV,fzf]
   refine CallO.pure hcl (by simp [hpp]) ?_
   simp [mapRL_pure,hpp]
end Go.Proofs.YtlmniacemoohpaaGreatDoor
