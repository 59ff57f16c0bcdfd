/- Transitions: the closed check of layer 18. Conditions: none. -/
import Derived.Test.YtekbgkainigfnaaGreatDoorX2
namespace Go.Proofs.YtekbgkainigfnaaGreatDoor
open Go
set_option maxRecDepth 100000 in
set_option maxHeartbeats 4000000 in
theorem lives_c : PureC Tryz.prog gl0 18 [] (.bool true) := by
  have h1 := cap0_c
  have h2 := shf0_c
  have h3 := lau0_c
  have h4 := det0_c
  have h5 := loop_c
  have hl : loopV.pure = true := rfl
  simp only [v1V] at h1 h2 h3 h4
  generalize loopV = L at h1 h2 h3 h4 h5 hl
  refine PureC.of_W 6 ok18 rfl ?_
  simp [i18, x18]
  intro gf1 gf2 gf3 gf4
  intro gm
  first | refine ⟨_, _, _, .dat 0 h5 rfl, ?_⟩ | refine ⟨_, ⟨_, _, .dat 0 h5 rfl⟩, ?_⟩ | refine ⟨_, _, ⟨_, .dat 0 h5 rfl⟩, ?_⟩
  simp
  first | refine ⟨_, _, _, .dat 3 h1 (by simp [frz, V.mapR, V.mapRL, lk, mapR_pure _ hl]), ?_⟩ | refine ⟨_, ⟨_, _, .dat 3 h1 (by simp [frz, V.mapR, V.mapRL, lk, mapR_pure _ hl])⟩, ?_⟩ | refine ⟨_, _, ⟨_, .dat 3 h1 (by simp [frz, V.mapR, V.mapRL, lk, mapR_pure _ hl])⟩, ?_⟩
  simp
  refine ⟨rfl, ?_⟩
  intro gm
  first | refine ⟨_, _, _, .dat 0 h5 rfl, ?_⟩ | refine ⟨_, ⟨_, _, .dat 0 h5 rfl⟩, ?_⟩ | refine ⟨_, _, ⟨_, .dat 0 h5 rfl⟩, ?_⟩
  simp
  first | refine ⟨_, _, _, .dat 3 h2 (by simp [frz, V.mapR, V.mapRL, lk, mapR_pure _ hl]), ?_⟩ | refine ⟨_, ⟨_, _, .dat 3 h2 (by simp [frz, V.mapR, V.mapRL, lk, mapR_pure _ hl])⟩, ?_⟩ | refine ⟨_, _, ⟨_, .dat 3 h2 (by simp [frz, V.mapR, V.mapRL, lk, mapR_pure _ hl])⟩, ?_⟩
  simp
  refine ⟨rfl, ?_⟩
  intro gm
  first | refine ⟨_, _, _, .dat 0 h5 rfl, ?_⟩ | refine ⟨_, ⟨_, _, .dat 0 h5 rfl⟩, ?_⟩ | refine ⟨_, _, ⟨_, .dat 0 h5 rfl⟩, ?_⟩
  simp
  first | refine ⟨_, _, _, .dat 3 h3 (by simp [frz, V.mapR, V.mapRL, lk, mapR_pure _ hl]), ?_⟩ | refine ⟨_, ⟨_, _, .dat 3 h3 (by simp [frz, V.mapR, V.mapRL, lk, mapR_pure _ hl])⟩, ?_⟩ | refine ⟨_, _, ⟨_, .dat 3 h3 (by simp [frz, V.mapR, V.mapRL, lk, mapR_pure _ hl])⟩, ?_⟩
  simp
  refine ⟨rfl, ?_⟩
  intro gm
  first | refine ⟨_, _, _, .dat 0 h5 rfl, ?_⟩ | refine ⟨_, ⟨_, _, .dat 0 h5 rfl⟩, ?_⟩ | refine ⟨_, _, ⟨_, .dat 0 h5 rfl⟩, ?_⟩
  simp
  first | refine ⟨_, _, _, .dat 3 h4 (by simp [frz, V.mapR, V.mapRL, lk, mapR_pure _ hl]), ?_⟩ | refine ⟨_, ⟨_, _, .dat 3 h4 (by simp [frz, V.mapR, V.mapRL, lk, mapR_pure _ hl])⟩, ?_⟩ | refine ⟨_, _, ⟨_, .dat 3 h4 (by simp [frz, V.mapR, V.mapRL, lk, mapR_pure _ hl])⟩, ?_⟩
  simp
  rfl
end Go.Proofs.YtekbgkainigfnaaGreatDoor
