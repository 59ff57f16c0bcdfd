/- Observability: the contract of Line. Conditions: none. -/
import Derived.Test.YtcmblmkbdenakaaDoorD5
set_option linter.unusedSimpArgs false
set_option linter.unusedVariables false
namespace Go.Proofs.YtcmblmkbdenakaaDoor
open Go
end Go.Proofs.YtcmblmkbdenakaaDoor
namespace Go.Proofs.YtcmblmkbdenakaaDoor
open Go
theorem linputs_c (y : Nd) (N : Nat) (f : Nat→Nat × Nat) (cap : Option Nat) (hl : y.i.length < 1000000) (hv : ∀ j ∈ y.i,0 ≤ j∧j < N) : PureC Tryd.prog gl0 17 [y.v,.sl (netsC N f) cap] (listV ((insC f y).map nC)):=by
 refine PureC.of_W 2 ok17 rfl ?_
 simp [i17,x17,Nd.v]
 intro ga
 generalize ga 2 = g2
 have hC : (insC f y).length = y.i.length:=by simp [insC]
 refine LoopP.of (X:=PrS) (fun z=>[(6,natV z.i),(5,accV 24 z.z),(2,.ptr 2 g2 0 0),(1,.sl (netsC N f) cap)]) (fun z=>accH 24 2 z.z ++ [(2,.row g2 4 [y.v])])
  (fun z=>z.i ≤ y.i.length∧accL z.z = ((insC f y).map nC).take z.i∧(z.i = 0→z.z = none)) (fun z=>y.i.length - z.i) ⟨0,0,0,none⟩ ⟨by simp,by simp [accL_n],fun _=>rfl⟩ (by simp [natV,accV_n]) (by simp [accH_n,Nd.v]) ?_
 rintro ⟨i,m,s,z⟩ ⟨q1,q2,q3⟩
 dsimp only at q1 q2 q3 ⊢
 have hlk : lk (accH 24 2 z ++ [(2,Blk.row g2 4 [y.v])]) 2 = some (.row g2 4 [y.v]):=by rcases z with _ | ⟨gz,r⟩ <;> simp [accH_n,accH_s]
 simp only [Nd.v] at hlk
 simp [natV,Nd.v,hlk]
 refine BrB.of (fun hb2=>?_) (fun hb2=>?_)
 ·have hi:=of_decide_eq_true hb2
  have hw:=wrapN i (by omega)
  obtain ⟨q,hq⟩ : ∃ q : Nat,y.i[i] = q:=⟨y.i[i].toNat,by have:=(hv _ (List.getElem_mem hi)).1; omega⟩
  have hqN : q < N:=by have:=(hv _ (List.getElem_mem hi)).2; omega
  have h5 : (ints y.i)[i]'(by simpa using hi) = .int .i64 (q : Int):=by simp [ints,hq]
  have hiC : (insC f y)[i]'(by omega) = f q:=by simp [insC,hq]
  have h3:=netsC_at N f q (by rw [netsC_len]; exact hqN)
  have hcl : ((insC f y).map nC).take (i + 1) = accL z ++ [nC (f q)]:=by rw [take_snoc _ _ (by simp [hC,hi]),q2,List.getElem_map,hiC]
  have fin : ∀ (g24 : Nat),(i + 1 ≤ y.i.length∧accL (some (g24,accL z ++ [nC (f q)])) = ((insC f y).map nC).take (i + 1)∧(i + 1 = 0→some (g24,accL z ++ [nC (f q)]) = none)):=fun g=>⟨hi,hcl.symm,fun h=>by omega⟩
  rcases z with _ | ⟨gz,r⟩
  ·simp [accV_n,accH_n,hi,h5,hqN,netsC_len,h3,nC,natV,hw]
   intro gx gy
   exact ⟨⟨i + 1,0,0,some (gy 24,[] ++ [nC (f q)])⟩,fin _,⟨by simp,by simp [accV_s]⟩,by simp [accH_s,nC,natV],by dsimp only; omega⟩
  ·have hrl : r.length = i:=by
    have:=congrArg List.length q2
    simp [accL_s] at this
    omega
   simp [accV_s,accH_s,hi,h5,hqN,netsC_len,h3,nC,natV,hw]
   intro gx gy
   exact ⟨by omega,⟨i + 1,0,0,some (gy 24,r ++ [nC (f q)])⟩,fin _,⟨by simp,by simp [accV_s]⟩,by simp [accH_s,nC,natV],by dsimp only; omega⟩
 ·have hi : i = y.i.length:=by have:=of_decide_eq_false hb2; omega
  subst hi
  rw [← hC,← List.length_map (f:=nC),List.take_length] at q2
  rw [← q2]
  rcases z with _ | ⟨gz,r⟩
  ·simp [accV_n,accH_n,accL_n,listV]
  ·have hrp : V.pureL r = true:=by have:=nCs_pure (insC f y); rw [← q2] at this; exact this
   have hr0 : r ≠ []:=fun e=>by
    have hl2 : r.length = y.i.length:=by have:=congrArg List.length q2; simpa [accL_s,hC] using this
    rw [e] at hl2
    have:=q3 (by simpa using hl2.symm)
    cases this
   simp [accV_s,accH_s,accL_s]
   have hmr : ∀ f p,r.map (fun x=>V.mapR f p x) = r:=fun f p=>by
    have:=takeR hrp rfl f p
    rwa [List.take_of_length_le (by simp)] at this
   rw [hmr]
   cases r with
   | nil=>exact absurd rfl hr0
   | cons a b=>rfl
theorem ControlP_c (c : Ci) (hwf : c.wf) (h0 : chkE c = 0) (h20 : c.n.length ≤ 20) : PureC Tryd.prog gl0 15 [c.v] (.tup [.sl (netsC c.n.length (ctl c)) (some c.n.length),.int .i64 0]):=by
 refine PureC.of_own 2 (Control_c c hwf) ?_
 rintro v h (⟨h1,-⟩ | ⟨-,g,f,rfl,rfl,hle,hf⟩)
 ·exact absurd h0 h1
 rw [frz_tup1,frz_rowP (sz:=2) 1 (by simp [lk]; rfl) (netsC_pure _ _) (netsC_len _ _).symm,hf h20]
theorem ord_ex {c : Ci} (hv : c.val) (ha : acyc c) : Ord c (ordL c):=by
 have h : Ord c (lvL c.n.length (lvOf c) c.n.length):=
  ⟨⟨Nat.le_antisymm (lvL_len _) (lvL_all fun x hx=>ha.lv.lt hv.g x hx),fun x hx=>((lvL_mem _ x).1 hx).1⟩,lvL_pw _⟩
 rw [h.eq]; exact h
theorem ci_nn (x : Cx) : x.ci.n.length ≤ 16∧0 < x.ci.n.length:=by
 have h1:=(cxn_ok x).2
 have h2:=ns0_ok x
 omega
end Go.Proofs.YtcmblmkbdenakaaDoor
