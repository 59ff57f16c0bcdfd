/- Netlists: contracts, the reference's Levels. Conditions: none. -/
import Derived.Test.YtekbgkainigfnaaGreatDoorNet5

namespace Go.Proofs.YtekbgkainigfnaaGreatDoor
open Go
structure LR where
  r : Nat
  o : Nat → Nat
structure LI where
  i : Nat
  a : Bool
  o : Nat → Nat
theorem errs_zero : ∀ {l : List Int} {t : Int}, errs l t = 0 → (∀ x ∈ l, x = 0) ∧ t = 0
  | [], t, h => ⟨by simp, h⟩
  | x :: l, t, h => by
    simp only [errs] at h
    split at h
    · rename_i hx; exact absurd h hx
    · rename_i hx
      have hx0 : x = 0 := Classical.not_not.1 hx
      obtain ⟨h1, h2⟩ := errs_zero h
      exact ⟨fun y hy => by rcases List.mem_cons.1 hy with rfl | hy; exact hx0; exact h1 y hy, h2⟩
theorem sh_zero {c : Ci} (h : shE c = 0) : shBig c = false ∧ c.s.length = c.n.length ∧ (∀ x ∈ c.n, ndE c x = 0) ∧ nmBad [] c.s = false ∧ (∀ m ∈ c.m, mdE c m = 0) ∧ c.o.any (outB c.n.length) = false := by
  unfold shE at h
  split at h
  · cases h
  · rename_i h1
    split at h
    · cases h
    · rename_i h2
      obtain ⟨h3, h4⟩ := errs_zero h
      unfold shS at h4
      split at h4
      · cases h4
      · rename_i h5
        obtain ⟨h6, h7⟩ := errs_zero h4
        unfold shO at h7
        split at h7
        · cases h7
        · rename_i h8
          exact ⟨by simpa using h1, Classical.not_not.1 h2, fun x hx => h3 _ (List.mem_map_of_mem hx), by simpa using h5, fun x hx => h6 _ (List.mem_map_of_mem hx), by simpa using h8⟩
theorem nd_zero {c : Ci} {x : Nd} (h : ndE c x = 0) : x.k ≤ 15 ∧ widB x.k x.i.length = true ∧ x.i.any (outB c.n.length) = false ∧ (x.k = 13 → x.i.any (fun v => !decide ((c.nd v.toNat).k = 12)) = false) ∧ bitB c x = true := by
  unfold ndE at h
  split at h
  · cases h
  · rename_i h1
    split at h
    · cases h
    · rename_i h2
      split at h
      · cases h
      · rename_i h3
        split at h
        · cases h
        · rename_i h4
          split at h
          · cases h
          · rename_i h5
            exact ⟨by omega, by simpa using h2, by simpa using h3, fun hk => by simpa [hk] using h4, by simpa using h5⟩
theorem sh_val {c : Ci} (hwf : c.wf) (h : shE c = 0) : c.val := by
  obtain ⟨h1, h2, h3, h4, h5, h6⟩ := sh_zero h
  refine ⟨fun j hj x hx => ?_, fun j hj => ?_⟩
  · rw [c.nd_get hj] at hx
    have := (nd_zero (h3 _ (List.getElem_mem hj))).2.2.1
    have := List.any_eq_false.1 this x hx
    simp [outB] at this
    omega
  · rw [c.nd_get hj]
    obtain ⟨q1, q2, -⟩ := nd_zero (h3 _ (List.getElem_mem hj))
    exact widB_le (hwf.k _ (List.getElem_mem hj)).1 q1 q2
theorem sh_len {c : Ci} (h : shE c = 0) : c.n.length ≤ 16384 ∧ c.s.length = c.n.length ∧ c.m.length ≤ 16 ∧ c.o.length ≤ 16384 := by
  obtain ⟨h1, h2, -⟩ := sh_zero h
  simp [shBig] at h1
  omega
open Classical in
noncomputable def chkE (c : Ci) : Int := if shE c ≠ 0 then shE c else if acyc c then 0 else 6
/-- The levels, or the error. -/
theorem levelsW_c (c : Ci) (hwf : c.wf) : PureC Tryz.prog gl0 77 [c.v] (lvRes c (shE c)) :=
  levels_c c _ (shape_c c hwf) (sh_val hwf) (fun h => by have := sh_len h; omega)
open Classical in
theorem lvRes_eq (c : Ci) : lvRes c (shE c) = .tup [if chkE c = 0 then .sl (tab c.n.length fun i => natV (lvOf c i)) (some c.n.length) else .nil, .int .i64 (chkE c)] := by
  unfold lvRes chkE
  by_cases h1 : shE c = 0
  · by_cases h2 : acyc c <;> simp [h1, h2]
  · simp [h1]
theorem check_c (c : Ci) (hwf : c.wf) : PureC Tryz.prog gl0 129 [c.v] (.int .i64 (chkE c)) := by
  refine PureC.of_W 2 ok129 rfl ?_
  have := levelsW_c c hwf
  rw [lvRes_eq] at this
  simp [i129, x129]
  intro gf
  refine CallO.pure this (by simp) ?_
  simp
end Go.Proofs.YtekbgkainigfnaaGreatDoor
