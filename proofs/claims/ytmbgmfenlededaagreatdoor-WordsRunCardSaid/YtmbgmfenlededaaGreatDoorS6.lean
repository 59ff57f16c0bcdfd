/- Words: contracts of the check of patterns; one cycle for many patterns. Conditions: none. -/
import Derived.Test.YtmbgmfenlededaaGreatDoorS5
namespace Go.Proofs.YtmbgmfenlededaaGreatDoor
open Go
theorem pts_pure (l : List Pt) : V.pureL (l.map Pt.v) = true := V.pureL_map _ l fun p => pt_pure p
instance : Inhabited Pt := ⟨⟨[], []⟩⟩
theorem wcheck_c (c : Ci) (hg : c.good) (l : List Pt) (cap : Option Nat) (hl : l.length < 1000000) (hf : ∀ p ∈ l, p.fit c) : PureC Tryz.prog gl0 49 [c.v, .sl (l.map Pt.v) cap] (.int .i64 (if 64 < l.length then 3 else 0)) := by
  have hn1 := hg.n1
  have l0 := cnt_le 0 c.n
  have l1 := cnt_le 14 c.n
  have hbl := blank_c c hg
  have hsc := scheck_c c hg (blkP c) (blk_fit c)
  have ci := inputsN_c c (by omega)
  have cs := statesN_c c (by omega)
  have hIl : (ids 0 c.n 0).length = cnt 0 c.n := rfl
  have hSl : (ids 14 c.n 0).length = cnt 14 c.n := rfl
  have hfi := fun p (hp : p ∈ l) => (hf p hp).i
  have hfs := fun p (hp : p ∈ l) => (hf p hp).s
  generalize blkP c = B at hbl hsc
  generalize ids 0 c.n 0 = I at ci hIl
  generalize ids 14 c.n 0 = S at cs hSl
  rw [← hIl] at ci l0
  rw [← hSl] at cs l1
  refine PureC.of_W 2 ok49 rfl ?_
  simp [i49, x49]
  intro gf1
  generalize gf1 2 = g2
  refine BrB.of (fun h1 => ?_) (fun h1 => ?_)
  · have h1' : 64 < l.length := by have := of_decide_eq_true h1; omega
    rw [if_pos h1']
    simp
  have h1' : ¬ 64 < l.length := by have := of_decide_eq_false h1; omega
  rw [if_neg h1']
  simp
  intro gm
  first | refine ⟨_, _, _, .pure hbl (by simp), ?_⟩ | refine ⟨_, ⟨_, _, .pure hbl (by simp)⟩, ?_⟩ | refine ⟨_, _, ⟨_, .pure hbl (by simp)⟩, ?_⟩
  simp
  first | refine ⟨_, _, _, .pure hsc (by simp), ?_⟩ | refine ⟨_, ⟨_, _, .pure hsc (by simp)⟩, ?_⟩ | refine ⟨_, _, ⟨_, .pure hsc (by simp)⟩, ?_⟩
  simp
  refine ⟨rfl, ?_⟩
  intro gm2
  first | refine ⟨_, _, _, .pure ci (by simp), ?_⟩ | refine ⟨_, ⟨_, _, .pure ci (by simp)⟩, ?_⟩ | refine ⟨_, _, ⟨_, .pure ci (by simp)⟩, ?_⟩
  simp
  first | refine ⟨_, _, _, .pure cs (by simp), ?_⟩ | refine ⟨_, ⟨_, _, .pure cs (by simp)⟩, ?_⟩ | refine ⟨_, _, ⟨_, .pure cs (by simp)⟩, ?_⟩
  simp
  refine ⟨rfl, ?_⟩
  refine LoopP.of (X := Nat) (fun i => [(29, natV i), (28, natV l.length), (27, .sl (l.map Pt.v) cap), (8, .fn 75 [] []), (7, natV S.length), (6, natV I.length)]) (fun _ => [])
    (fun i => i ≤ l.length) (fun i => l.length - i) 0 (Nat.zero_le _) (by simp [natV]) (by simp) ?_
  intro i hi
  simp [natV]
  refine BrB.of (fun hb => ?_) (fun hb => ?_)
  · have hi' : i < l.length := of_decide_eq_true hb
    have hw := wrapN i (by omega)
    obtain ⟨p, hp⟩ : ∃ p, l[i] = p := ⟨_, rfl⟩
    have hpl : p ∈ l := by rw [← hp]; exact List.getElem_mem hi'
    have e1 := hfi p hpl
    have e2 := hfs p hpl
    rw [← hIl] at e1
    rw [← hSl] at e2
    have k1 := contNone_c 75 p.i none (by omega) fun v hv => above2_c v ((hf p hpl).iv v hv)
    have k2 := contNone_c 75 p.s none (by omega) fun v hv => above2_c v ((hf p hpl).sv v hv)
    simp [hi', hp, e1, e2]
    intro gf
    refine CallO.pure k1 (by simp) ?_
    simp
    refine CallO.pure k2 (by simp) ?_
    simp [hw]
    exact ⟨i + 1, hi', by simp, by omega⟩
  · simp
end Go.Proofs.YtmbgmfenlededaaGreatDoor
