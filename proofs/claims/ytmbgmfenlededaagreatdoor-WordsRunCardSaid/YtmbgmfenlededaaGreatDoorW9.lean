/- Words: logic.Eval; the law's own reading of a lane; the law Eval. Conditions: none. -/
import Derived.Test.YtmbgmfenlededaaGreatDoorW8
namespace Go.Proofs.YtmbgmfenlededaaGreatDoor
open Go
theorem u8s_ok (l : List Nat) (cap : Option Nat) : V.pureL [.sl (l.map u8V) cap] = true := by simp only [V.pureL, V.pure, u8s_pure, Bool.and_self]
theorem notN_lt (v : Nat) : notN v ≤ 2 := by unfold notN; split <;> omega
set_option maxRecDepth 100000 in
set_option maxHeartbeats 4000000 in
theorem logE_c (k : Nat) (hk : k < 256) (l : List Nat) (cap : Option Nat) (hl : l.length < 1000000000) : PureC Tryz.prog gl0 9 [u8V k, .sl (l.map u8V) cap] (u8V (logE k l)) := by
  have hf := fanin_c (k : Int) (by omega) (by omega)
  have hland := land_c l cap hl
  have hlor := lor_c l cap hl
  have hlxor := lxor_c l cap hl
  have hbus := lbus_c l cap hl
  obtain ⟨A, hA⟩ : ∃ p, dec 0 1 1 l = p := ⟨_, rfl⟩
  obtain ⟨B, hB⟩ : ∃ p, dec 1 0 0 l = p := ⟨_, rfl⟩
  obtain ⟨X, hX⟩ : ∃ p, xorN 0 l = p := ⟨_, rfl⟩
  obtain ⟨U, hU⟩ : ∃ p, busN l = p := ⟨_, rfl⟩
  have hnA := lnot_c A
  have hnB := lnot_c B
  have hnX := lnot_c X
  obtain ⟨NA, hNA⟩ : ∃ p, notN A = p := ⟨_, rfl⟩
  obtain ⟨NB, hNB⟩ : ∃ p, notN B = p := ⟨_, rfl⟩
  obtain ⟨NX, hNX⟩ : ∃ p, notN X = p := ⟨_, rfl⟩
  rw [hA] at hland
  rw [hB] at hlor
  rw [hX] at hlxor
  rw [hU] at hbus
  rw [hNA] at hnA
  rw [hNB] at hnB
  rw [hNX] at hnX
  have hg : ∀ j (h : j < l.length), l.getD j 0 = l[j] := fun j h => by simp [h]
  refine PureC.of_W 2 ok9 rfl ?_
  obtain ⟨lo, hlo⟩ : ∃ p, kLo k = p := ⟨_, rfl⟩
  obtain ⟨hi, hhi⟩ : ∃ p, kHi k = p := ⟨_, rfl⟩
  rw [hlo, hhi] at hf
  unfold logE
  rw [hlo, hhi]
  simp only [u8V] at hland hlor hlxor hbus hnA hnB hnX
  simp [i9, x9, u8V]
  refine CallO.pure hf rfl ?_
  simp
  refine BrB.of (fun h1 => ?_) (fun h1 => ?_)
  · have h1' := of_decide_eq_true h1
    rw [if_pos (.inl h1')]
    simp [h1]
  have h1' := of_decide_eq_false h1
  simp [h1]
  refine BrB.of (fun h2 => ?_) (fun h2 => ?_)
  · have h2' := of_decide_eq_true h2
    rw [if_pos (.inr h2')]
    simp
  have h2' := of_decide_eq_false h2
  rw [if_neg (by omega)]
  have hk15 : k ≤ 15 := by
    by_cases hc : k ≤ 15
    · exact hc
    · exfalso
      have : hi = -1 := by rw [← hhi, kHi, if_pos (by omega)]
      omega
  have hc : k = 0 ∨ k = 1 ∨ k = 2 ∨ k = 3 ∨ k = 4 ∨ k = 5 ∨ k = 6 ∨ k = 7 ∨ k = 8 ∨ k = 9 ∨ k = 10 ∨ k = 11 ∨ k = 12 ∨ k = 13 ∨ k = 14 ∨ k = 15 := by omega
  rcases hc with rfl | rfl | rfl | rfl | rfl | rfl | rfl | rfl | rfl | rfl | rfl | rfl | rfl | rfl | rfl | rfl
  · simp [gateN]
  · simp [gateN]
  · simp [gateN]
  · have h0 : 0 < l.length := by have : lo = 1 := by rw [← hlo]; rfl
                                 omega
    have hr := rdN_c l[0]
    simp only [u8V] at hr
    have e : gateN 3 l = rdN l[0] := by rw [← hg 0 h0]; rfl
    rw [e]
    simp [h0, u8V]
    refine CallO.pure hr rfl ?_
    simp
  · have h0 : 0 < l.length := by have : lo = 1 := by rw [← hlo]; rfl
                                 omega
    have hr := lnot_c l[0]
    simp only [u8V] at hr
    have e : gateN 4 l = notN l[0] := by rw [← hg 0 h0]; rfl
    rw [e]
    simp [h0, u8V]
    refine CallO.pure hr rfl ?_
    simp
  · rw [show gateN 5 l = A from hA]
    simp
    refine CallO.pure hland (u8s_ok _ _) ?_
    simp
  · rw [show gateN 6 l = NA by rw [← hNA, ← hA]; rfl]
    simp
    refine CallO.pure hland (u8s_ok _ _) ?_
    simp
    refine CallO.pure hnA rfl ?_
    simp
  · rw [show gateN 7 l = B from hB]
    simp
    refine CallO.pure hlor (u8s_ok _ _) ?_
    simp
  · rw [show gateN 8 l = NB by rw [← hNB, ← hB]; rfl]
    simp
    refine CallO.pure hlor (u8s_ok _ _) ?_
    simp
    refine CallO.pure hnB rfl ?_
    simp
  · rw [show gateN 9 l = X from hX]
    simp
    refine CallO.pure hlxor (u8s_ok _ _) ?_
    simp
  · rw [show gateN 10 l = NX by rw [← hNX, ← hX]; rfl]
    simp
    refine CallO.pure hlxor (u8s_ok _ _) ?_
    simp
    refine CallO.pure hnX rfl ?_
    simp
  · have h0 : l.length = 3 := by
      have e1 : lo = 3 := by rw [← hlo]; rfl
      have e2 : hi = 3 := by rw [← hhi]; rfl
      omega
    have hr := lmux_c (l[0]'(by omega)) (l[1]'(by omega)) (l[2]'(by omega))
    have e : gateN 11 l = muxN (l[0]'(by omega)) (l[1]'(by omega)) (l[2]'(by omega)) := by rw [← hg 0 (by omega), ← hg 1 (by omega), ← hg 2 (by omega)]; rfl
    rw [e]
    generalize muxN (l[0]'(by omega)) (l[1]'(by omega)) (l[2]'(by omega)) = M at hr ⊢
    simp only [u8V] at hr
    simp [show 0 < l.length by omega, show 1 < l.length by omega, show 2 < l.length by omega, u8V]
    intro gm
    first | refine ⟨_, _, _, .pure hr rfl, ?_⟩ | refine ⟨_, ⟨_, _, .pure hr rfl⟩, ?_⟩ | refine ⟨_, _, ⟨_, .pure hr rfl⟩, ?_⟩
    simp
  · have h0 : l.length = 2 := by
      have e1 : lo = 2 := by rw [← hlo]; rfl
      have e2 : hi = 2 := by rw [← hhi]; rfl
      omega
    have hr := ltri_c (l[0]'(by omega)) (l[1]'(by omega))
    have e : gateN 12 l = triN (l[0]'(by omega)) (l[1]'(by omega)) := by rw [← hg 0 (by omega), ← hg 1 (by omega)]; rfl
    rw [e]
    generalize triN (l[0]'(by omega)) (l[1]'(by omega)) = M at hr ⊢
    simp only [u8V] at hr
    simp [show 0 < l.length by omega, show 1 < l.length by omega, u8V]
    intro gm
    first | refine ⟨_, _, _, .pure hr rfl, ?_⟩ | refine ⟨_, ⟨_, _, .pure hr rfl⟩, ?_⟩ | refine ⟨_, _, ⟨_, .pure hr rfl⟩, ?_⟩
    simp
  · rw [show gateN 13 l = U from hU]
    simp
    refine CallO.pure hbus (u8s_ok _ _) ?_
    simp
  · simp [gateN]
  · simp [gateN]
/-- The law's own reading of a lane. -/
theorem at8_c (w : Wd) (i : Nat) (hi : i < 64) : PureC Tryz.prog gl0 8 [w.v, natV i] (u8V (w.lane i)) := by
  refine PureC.of_W 2 ok8 rfl ?_
  have h1 : ((w.o.toNat : Int)).fdiv (2 ^ (min i IntKind.u64.bits)) = ((w.o >>> i).toNat : Int) := bv_shr w.o i (by omega)
  have h2 : ((w.z.toNat : Int)).fdiv (2 ^ (min i IntKind.u64.bits)) = ((w.z >>> i).toNat : Int) := bv_shr w.z i (by omega)
  generalize ho : w.o.getLsbD i = ob
  generalize hz : w.z.getLsbD i = zb
  have h3 : bitsI .and .u64 ((w.o >>> i).toNat : Int) 1 = if ob = true then 1 else 0 := by
    have := bv_and (w.o >>> i) 1#64
    rw [bv_lane, ho] at this
    exact this.trans (by cases ob <;> rfl)
  have h4 : bitsI .and .u64 ((w.z >>> i).toNat : Int) 1 = if zb = true then 1 else 0 := by
    have := bv_and (w.z >>> i) 1#64
    rw [bv_lane, hz] at this
    exact this.trans (by cases zb <;> rfl)
  have hw : w.lane i = lv ob zb := by rw [Wd.lane, ho, hz]
  rw [hw]
  obtain ⟨so, hso⟩ : ∃ x, w.o >>> i = x := ⟨_, rfl⟩
  obtain ⟨sz, hsz⟩ : ∃ x, w.z >>> i = x := ⟨_, rfl⟩
  rw [hso] at h1 h3
  rw [hsz] at h2 h4
  simp [i8, x8, Wd.v, natV, bvV, h1, h2, h3, h4, u8V]
  intro gf
  cases ob <;> cases zb <;> simp [lv]
end Go.Proofs.YtmbgmfenlededaaGreatDoor
