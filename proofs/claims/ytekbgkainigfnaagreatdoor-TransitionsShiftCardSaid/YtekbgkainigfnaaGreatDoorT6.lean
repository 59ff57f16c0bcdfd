/- Transitions: the law Shift. Conditions: none. -/
import Derived.Test.YtekbgkainigfnaaGreatDoorT5
import Derived.Test.YtekbgkainigfnaaGreatDoorX3
import Derived.Test.YtekbgkainigfnaaGreatDoorXL4
namespace Go.Proofs.YtekbgkainigfnaaGreatDoor
open Go
theorem shiftS_succ (bit : Nat) (s : List Nat) (j : Nat) (hj : j < s.length) : ((bit :: s).take (j + 1)).map u8V = ((bit :: s).take j).map u8V ++ [u8V (if j = 0 then bit else s.getD (j - 1) 0)] := by
  have h : j < (bit :: s).length := by simp; omega
  rw [List.take_succ_eq_append_getElem h, List.map_append]
  congr 2
  cases j with
  | zero => rfl
  | succ k =>
    simp only [List.map_cons, List.map_nil, List.getElem_cons_succ, Nat.add_one_ne_zero, if_false, Nat.add_sub_cancel]
    rw [List.getD_eq_getElem?_getD, List.getElem?_eq_getElem (by omega)]; rfl
set_option maxRecDepth 100000 in
set_option maxHeartbeats 4000000 in
theorem law4_c (x : Cx) (hx : x.ok) (p q : Pt) (bit : Nat) : PureC Tryz.prog gl0 4 [caseV x p q, u8V bit] (.bool true) := by
  have hcs := case_c x hx p q
  have hcp := case_pure x p q
  have hg := nm_good x
  generalize x.nm.ci = c at hcs hg
  have hn1 := hg.n1
  have l0 := cnt_le 0 c.n
  have l1 := cnt_le 14 c.n
  have ha := pof_fit c p
  have hb := pof_fit c q
  generalize pof c p = a at hcs ha
  generalize pof c q = b at hcs hb
  have hsh := shf_c c hg a ha b.i ⟨hb.i, ha.s, hb.iv, ha.sv⟩ bit
  have e1 := ha.i
  have e2 := ha.s
  have e3 := hb.i
  have s1 := same17_c a.i a.i none (by omega)
  have s2 := same17_c a.s a.s none (by omega)
  have s3 := same17_c b.i b.i none (by omega)
  have s4 := same17_c (shiftS bit a.s) (shiftS bit a.s) none (by unfold shiftS; simp; omega)
  have hstep := shiftS_succ bit a.s
  simp only [decide_true] at s1 s2 s3 s4
  simp only [caseV] at hcs hcp
  simp only [u8V, Pt.v] at hsh
  refine PureC.of_W 2 ok4 rfl ?_
  simp [i4, x4, u8V, caseV]
  intro gf1
  generalize gf1 2 = g2
  refine CallO.pure hcs hcp ?_
  simp
  intro gf2 gf3
  generalize gf2 5 = g5
  generalize gf3 6 = g6
  by_cases hbit : 3 < bit
  · rw [if_pos hbit] at hsh
    refine CallO.pure hsh (by simp) ?_
    simp
    intro gf4
    simp [hbit]
    refine CallO.pure lives_c (by simp) ?_
    simp
  rw [if_neg hbit] at hsh
  refine CallO.pure hsh (by simp) ?_
  simp
  intro gf4
  generalize gf4 7 = g7
  simp [hbit]
  have hSl : (shiftS bit a.s).length = a.s.length := by unfold shiftS; simp
  have hSt : (bit :: a.s).take a.s.length = shiftS bit a.s := rfl
  have hprC : (prC a ⟨b.i, shiftS bit a.s⟩).pure = true := by simp [prC]
  have hprV : (prV a b).pure = true := prV_pure a b
  refine LoopP.ofF (X := Nat × Option (Nat × List V)) (fun z => [(10, natV z.1), (9, accV 64 z.2), (8, .int .i64 0), (7, .ptr 7 g7 0 0), (6, .ptr 6 g6 0 0), (1, u8V bit)])
    (fun z => (7, .row g7 4 [prC a ⟨b.i, shiftS bit a.s⟩]) :: (6, .row g6 4 [prV a b]) :: accH 64 1 z.2)
    (fun z => z.1 ≤ a.s.length ∧ (z.2 = none ↔ z.1 = 0) ∧ accL z.2 = ((bit :: a.s).take z.1).map u8V) (fun z => a.s.length - z.1) (.done ⟨(0, none), ⟨by simp, by simp, by simp [accL]⟩, by simp [natV, accV, u8V], by simp [accH, prC, prV]⟩) ?_
  rintro ⟨j, acc⟩ ⟨q1, q2, q3⟩
  dsimp only at q1 q2 q3 ⊢
  simp [natV, u8V]
  refine BrB.of (fun hb2 => ?_) (fun hb2 => ?_)
  · have hj : j < a.s.length := of_decide_eq_true hb2
    have hw := wrapN j (by omega)
    have hnx := hstep j hj
    rw [← q3] at hnx
    rcases acc with _ | ⟨ga, r⟩
    · have hj0 : j = 0 := q2.1 rfl
      subst hj0
      rw [if_pos rfl] at hnx
      simp [accV, accH]
      intro ga1 gb
      refine .done ⟨1, some (gb 64, [.int .u8 (bit : Int)]), ⟨hj, by simp, ?_⟩, by simp, by simp, by omega⟩
      simp only [accL, List.nil_append, Nat.zero_add] at hnx ⊢
      exact hnx.symm
    · have hj0 : j ≠ 0 := fun e => by have := q2.2 e; cases this
      obtain ⟨k, rfl⟩ : ∃ k, j = k + 1 := ⟨j - 1, by omega⟩
      rw [if_neg (by omega), Nat.add_sub_cancel] at hnx
      have hsub : IntKind.i64.wrap (((k + 1 : Nat) : Int) - 1) = (k : Int) := subN (b := 1) (by omega) (by omega)
      have hks : k < a.s.length := by omega
      obtain ⟨v, hv⟩ : ∃ v, a.s[k] = v := ⟨_, rfl⟩
      rw [List.getD_eq_getElem?_getD, List.getElem?_eq_getElem hks, hv] at hnx
      simp only [Option.getD_some] at hnx
      obtain ⟨m, hm⟩ : ∃ m, k + 1 = m := ⟨_, rfl⟩
      rw [hm] at hsub hw hnx q1 q2 q3 hj ⊢
      have hm0 : ¬ m = 0 := by omega
      simp [accV, accH, hm0, hsub, hks, hv, u8V]
      intro ga1 gb
      refine ⟨by have := congrArg List.length q3; simp [accL] at this; omega, .done ⟨m + 1, some (gb 64, r ++ [.int .u8 (v : Int)]), ⟨hj, by simp, ?_⟩, by simp [hw], by simp, by omega⟩⟩
      simpa [accL, u8V] using hnx.symm
  · have hj : j = a.s.length := by have := of_decide_eq_false hb2; omega
    subst hj
    rw [hSt] at q3
    generalize shiftS bit a.s = S at q3 s4 hSl hprC ⊢
    have hStk : List.take S.length (S.map u8V) = S.map u8V := List.take_of_length_le (by simp)
    rcases acc with _ | ⟨ga, r⟩
    · have hS0 : S = [] := by simpa [accL] using q3.symm
      have s4n := PureC.wide s4 (args := [.sl (S.map u8V) (some S.length), .nil]) ⟨.refl _, by rw [hS0]; exact VLe.nil', trivial⟩ (.refl _)
      simp [accV, accH]
      refine .mk [(9, .nil), (8, .int .i64 0), (7, .ptr 7 g7 0 0), (6, .ptr 6 g6 0 0)] [(7, .row g7 4 [prC a ⟨b.i, S⟩]), (6, .row g6 4 [prV a b])] (by simp) (by simp) (.done ?_)
      simp
      refine CallO.pure s1 (by simp) ?_
      simp
      refine CallO.pure s2 (by simp) ?_
      simp
      refine CallO.pure s3 (by simp) ?_
      simp
      refine CallO.pure s4n (by simp) ?_
      simp
      refine CallO.pure lives_c (by simp) ?_
      simp
    · simp only [accL] at q3
      subst q3
      simp [accV, accH]
      refine .mk [(9, .ref 64 ga 0 S.length none), (8, .int .i64 0), (7, .ptr 7 g7 0 0), (6, .ptr 6 g6 0 0)] [(7, .row g7 4 [prC a ⟨b.i, S⟩]), (6, .row g6 4 [prV a b]), (64, .row ga 1 (S.map u8V))] (by simp) (by simp) (.frz (g := ga) (sz := 1) (es := S.map u8V) 64 (by simp) (u8s_pure S) (.done ?_))
      simp [fzF, fzH, fzV, fzf, fzp, Blk.fz, hStk, mapR_pure _ hprC, mapR_pure _ hprV]
      refine CallO.pure s1 (by simp) ?_
      simp
      refine CallO.pure s2 (by simp) ?_
      simp
      refine CallO.pure s3 (by simp) ?_
      simp
      refine CallO.pure s4 (by simp) ?_
      simp
      refine CallO.pure lives_c (by simp) ?_
      simp
end Go.Proofs.YtekbgkainigfnaaGreatDoor
