/- Words: Eval of all kinds. Conditions: none. -/
import Derived.Test.YtmbgmfenlededaaGreatDoorW3
namespace Go.Proofs.YtmbgmfenlededaaGreatDoor
open Go
def tLo : List Int := [0, 0, 0, 1, 1, 2, 2, 2, 2, 2, 2, 3, 2, 1, 1, 0]
def tHi : List Int := [0, 0, 0, 1, 1, 16, 16, 16, 16, 16, 16, 3, 2, 16, 1, 0]
def kLo (k : Int) : Int := if 16 ≤ k then 0 else tLo.getD k.toNat 0
def kHi (k : Int) : Int := if 16 ≤ k then -1 else tHi.getD k.toNat 0
theorem kind_cases {k : Int} (h0 : 0 ≤ k) (h : k < 16) {Q : Int → Prop} (hq : ∀ i : Fin 16, Q (i.val : Int)) : Q k := by
  have := hq ⟨k.toNat, by omega⟩
  simpa [Int.toNat_of_nonneg h0] using this
theorem fanin_c (k : Int) (h0 : 0 ≤ k) (h9 : k < 256) : PureC Tryz.prog gl0 24 [.int .u8 k] (.tup [.int .i64 (kLo k), .int .i64 (kHi k)]) := by
  refine PureC.of_W 2 ok24 rfl ?_
  have hw : IntKind.i64.wrap k = k := by rw [wrap_i64] <;> omega
  simp [i24, x24, hw]
  refine BrB.of (fun h => ?_) (fun h => ?_)
  · have h' : 16 ≤ k := of_decide_eq_true h
    simp [kLo, kHi, h']
  · have h' : ¬ 16 ≤ k := of_decide_eq_false h
    have h1 : k < 16 := by omega
    have hc : k = 0 ∨ k = 1 ∨ k = 2 ∨ k = 3 ∨ k = 4 ∨ k = 5 ∨ k = 6 ∨ k = 7 ∨ k = 8 ∨ k = 9 ∨ k = 10 ∨ k = 11 ∨ k = 12 ∨ k = 13 ∨ k = 14 ∨ k = 15 := by omega
    rcases hc with rfl | rfl | rfl | rfl | rfl | rfl | rfl | rfl | rfl | rfl | rfl | rfl | rfl | rfl | rfl | rfl <;> simp [gl0, kLo, kHi, tLo, tHi]
theorem wds_pure (l : List Wd) : V.pureL (l.map Wd.v) = true := V.pureL_map _ l fun _ => rfl
instance : Inhabited Wd := ⟨⟨0, 0⟩⟩
def rd (l : List Wd) (i : Nat) : Wd := readW (l.getD i default)
/-- The gates over words that were read. -/
def gateW (k : Nat) (l : List Wd) : Wd :=
  if k = 1 then filW 0 else if k = 2 then filW 1 else if k = 3 then rd l 0 else if k = 4 then notW (rd l 0)
  else if k = 5 then (l.map readW).foldl andS (filW 1) else if k = 6 then notW ((l.map readW).foldl andS (filW 1))
  else if k = 7 then (l.map readW).foldl orS (filW 0) else if k = 8 then notW ((l.map readW).foldl orS (filW 0))
  else if k = 9 then (l.map readW).foldl xorS (filW 0) else if k = 10 then notW ((l.map readW).foldl xorS (filW 0))
  else if k = 11 then muxW (rd l 0) (rd l 1) (rd l 2) else if k = 12 then triW (rd l 0) (rd l 1) else filW 2
def evalW (k : Nat) (l : List Wd) : Wd :=
  if (l.length : Int) < kLo k ∨ kHi k < (l.length : Int) then filW 2 else if k = 13 then busF (l.foldl busS bus0) else gateW k l
def rowW (l : List Wd) (i : Nat) : List V := tab l.length fun j => if j < i then (rd l j).v else .agg [.int .u64 0, .int .u64 0]
theorem rowW_all (l : List Wd) : rowW l l.length = (l.map readW).map Wd.v := by
  refine List.ext_getElem? fun j => ?_
  by_cases h : j < l.length
  · rw [rowW, tab_get? _ h, if_pos h]
    simp [rd, h]
  · rw [List.getElem?_eq_none (by simp [rowW]; omega), List.getElem?_eq_none (by simp; omega)]
set_option maxRecDepth 100000 in
set_option maxHeartbeats 4000000 in
theorem eval_c (k : Nat) (hk : k < 256) (l : List Wd) (cap : Option Nat) (hl : l.length < 1000000000) : PureC Tryz.prog gl0 7 [u8V k, .sl (l.map Wd.v) cap] (evalW k l).v := by
  have hf := fanin_c (k : Int) (by omega) (by omega)
  refine PureC.of_W 2 ok7 rfl ?_
  obtain ⟨lo, hlo⟩ : ∃ p, kLo k = p := ⟨_, rfl⟩
  obtain ⟨hi, hhi⟩ : ∃ p, kHi k = p := ⟨_, rfl⟩
  rw [hlo, hhi] at hf
  unfold evalW
  rw [hlo, hhi]
  simp [i7, x7, u8V]
  intro gf4
  generalize gf4 4 = g4
  refine CallO.pure hf rfl ?_
  simp
  refine BrB.of (fun h1 => ?_) (fun h1 => ?_)
  · have h1' := of_decide_eq_true h1
    rw [if_pos (.inl h1')]
    simp [h1]
    refine CallO.pure (fill_c 2 (by omega)) rfl ?_
    simp [wd_v]
  have h1' := of_decide_eq_false h1
  simp [h1]
  refine BrB.of (fun h2 => ?_) (fun h2 => ?_)
  · have h2' := of_decide_eq_true h2
    rw [if_pos (.inr h2')]
    simp
    refine CallO.pure (fill_c 2 (by omega)) rfl ?_
    simp [wd_v]
  have h2' := of_decide_eq_false h2
  rw [if_neg (by omega)]
  simp
  refine BrB.of (fun h3 => ?_) (fun h3 => ?_)
  · have h3' : k = 13 := by have := of_decide_eq_true h3; omega
    rw [if_pos h3']
    simp
    refine CallO.pure (bus_c l cap hl) (by simp only [V.pureL, V.pure, wds_pure, Bool.and_self]) ?_
    simp [wd_v]
  have h3' : ¬ k = 13 := by have := of_decide_eq_false h3; omega
  rw [if_neg h3']
  have hle : l.length ≤ 549755813888 := by omega
  simp [hle]
  intro gf32
  generalize gf32 32 = g32
  refine LoopP.of (X := Nat) (fun i => [(35, natV i), (34, natV l.length), (33, .sl (l.map Wd.v) cap), (7, .ref 32 g32 0 l.length (some l.length)), (4, .ptr 4 g4 0 0), (0, u8V k)]) (fun i => [(32, .row g32 2 (rowW l i)), (4, .row g4 2 [.agg [.int .u64 0, .int .u64 0]])])
    (fun i => i ≤ l.length) (fun i => l.length - i) 0 (Nat.zero_le _) (by simp [natV, u8V]) (by simp [rowW, tab_const]) ?_
  intro i hi2
  simp [natV, u8V]
  refine BrB.of (fun hb => ?_) (fun hb => ?_)
  · have hi' : i < l.length := of_decide_eq_true hb
    have hw := wrapN i (by omega)
    obtain ⟨w, hw2⟩ : ∃ w, l[i] = w := ⟨_, rfl⟩
    have hrd : rd l i = readW w := by rw [rd, List.getD_eq_getElem?_getD, List.getElem?_eq_getElem hi', hw2]; rfl
    have hrl : (rowW l i).length = l.length := by simp [rowW]
    have hri : (rowW l i)[i]'(by rw [hrl]; exact hi') = .agg [.int .u64 0, .int .u64 0] := by
      simp only [rowW]; rw [tab_get]; rw [if_neg (by omega)]
    have hset : (rowW l i).set i (.agg [.int .u64 (bvI (readW w).o), .int .u64 (bvI (readW w).z)]) = rowW l (i + 1) := by
      rw [← wd_v, ← hrd, rowW, tab_set]
      refine tab_congr fun j hj => ?_
      unfold upd1
      by_cases hji : j = i
      · subst hji; simp
      · have : (j < i + 1) ↔ j < i := by omega
        simp [hji, this]
    simp [hi', hw2]
    intro gf9
    refine CallO.pure (read_c w) rfl ?_
    simp [hi', hrl, hri, wd_v, hset, hw]
    exact ⟨i + 1, hi', by simp, rfl, by omega⟩
  have hi' : i = l.length := by have := of_decide_eq_false hb; omega
  subst hi'
  have hrl : (rowW l l.length).length = l.length := by simp [rowW]
  have hrow : ∀ j (h : j < (rowW l l.length).length), (rowW l l.length)[j] = (rd l j).v := fun j h => by
    have hj : j < l.length := by rw [hrl] at h; exact h
    simp only [rowW]; rw [tab_get, if_pos hj]
  have hk15 : k ≤ 15 := by
    by_cases hc : k ≤ 15
    · exact hc
    · exfalso
      have : hi = -1 := by rw [← hhi, kHi, if_pos (by omega)]
      omega
  have hrows : ∀ h' : Hp, lk h' 32 = some (.row g32 2 (rowW l l.length)) → [V.ref 32 g32 0 l.length (some l.length)].map (frz h' 2) = [.sl ((l.map readW).map Wd.v) (some l.length)] := fun h' e => by
    simp only [List.map_cons, List.map_nil]
    rw [frz_ref e (by omega), List.drop_zero, List.take_of_length_le (by omega), rowW_all, frz_all _ _ (wds_pure _)]
  have hc : k = 0 ∨ k = 1 ∨ k = 2 ∨ k = 3 ∨ k = 4 ∨ k = 5 ∨ k = 6 ∨ k = 7 ∨ k = 8 ∨ k = 9 ∨ k = 10 ∨ k = 11 ∨ k = 12 ∨ k = 14 ∨ k = 15 := by omega
  rcases hc with rfl | rfl | rfl | rfl | rfl | rfl | rfl | rfl | rfl | rfl | rfl | rfl | rfl | rfl | rfl
  · simp
    refine CallO.pure (fill_c 2 (by omega)) rfl ?_
    simp [gateW, wd_v]
  · simp
    refine CallO.pure (fill_c 0 (by omega)) rfl ?_
    simp [gateW, wd_v]
  · simp
    refine CallO.pure (fill_c 1 (by omega)) rfl ?_
    simp [gateW, wd_v]
  · have h0 : 0 < l.length := by have : lo = 1 := by rw [← hlo]; rfl
                                 omega
    simp [hrl, h0, hrow, gateW, wd_v]
  · have h0 : 0 < l.length := by have : lo = 1 := by rw [← hlo]; rfl
                                 omega
    simp [hrl, h0, hrow, wd_v]
    refine CallO.pure (not_c (rd l 0)) rfl ?_
    simp [gateW, wd_v]
  · simp
    refine CallO.borrow 2 (and_c (l.map readW) (some l.length) (by simpa using hl)) (hrows _ (by simp)) rfl ?_
    simp [gateW, wd_v]
  · simp
    refine CallO.borrow 2 (and_c (l.map readW) (some l.length) (by simpa using hl)) (hrows _ (by simp)) rfl ?_
    simp
    refine CallO.pure (not_c _) rfl ?_
    simp [gateW, wd_v]
  · simp
    refine CallO.borrow 2 (or_c (l.map readW) (some l.length) (by simpa using hl)) (hrows _ (by simp)) rfl ?_
    simp [gateW, wd_v]
  · simp
    refine CallO.borrow 2 (or_c (l.map readW) (some l.length) (by simpa using hl)) (hrows _ (by simp)) rfl ?_
    simp
    refine CallO.pure (not_c _) rfl ?_
    simp [gateW, wd_v]
  · simp
    refine CallO.borrow 2 (xor_c (l.map readW) (some l.length) (by simpa using hl)) (hrows _ (by simp)) rfl ?_
    simp [gateW, wd_v]
  · simp
    refine CallO.borrow 2 (xor_c (l.map readW) (some l.length) (by simpa using hl)) (hrows _ (by simp)) rfl ?_
    simp
    refine CallO.pure (not_c _) rfl ?_
    simp [gateW, wd_v]
  · have h0 : l.length = 3 := by
      have e1 : lo = 3 := by rw [← hlo]; rfl
      have e2 : hi = 3 := by rw [← hhi]; rfl
      omega
    simp [hrl, show 0 < l.length by omega, show 1 < l.length by omega, show 2 < l.length by omega, hrow, wd_v]
    intro gm
    first | refine ⟨_, _, _, .pure (mux_c (rd l 0) (rd l 1) (rd l 2)) rfl, ?_⟩ | refine ⟨_, ⟨_, _, .pure (mux_c (rd l 0) (rd l 1) (rd l 2)) rfl⟩, ?_⟩ | refine ⟨_, _, ⟨_, .pure (mux_c (rd l 0) (rd l 1) (rd l 2)) rfl⟩, ?_⟩
    simp [gateW, wd_v]
  · have h0 : l.length = 2 := by
      have e1 : lo = 2 := by rw [← hlo]; rfl
      have e2 : hi = 2 := by rw [← hhi]; rfl
      omega
    simp [hrl, show 0 < l.length by omega, show 1 < l.length by omega, hrow, wd_v]
    intro gm
    first | refine ⟨_, _, _, .pure (tri_c (rd l 0) (rd l 1)) rfl, ?_⟩ | refine ⟨_, ⟨_, _, .pure (tri_c (rd l 0) (rd l 1)) rfl⟩, ?_⟩ | refine ⟨_, _, ⟨_, .pure (tri_c (rd l 0) (rd l 1)) rfl⟩, ?_⟩
    simp [gateW, wd_v]
  · simp
    refine CallO.pure (fill_c 2 (by omega)) rfl ?_
    simp [gateW, wd_v]
  · simp
    refine CallO.pure (fill_c 2 (by omega)) rfl ?_
    simp [gateW, wd_v]
end Go.Proofs.YtmbgmfenlededaaGreatDoor
