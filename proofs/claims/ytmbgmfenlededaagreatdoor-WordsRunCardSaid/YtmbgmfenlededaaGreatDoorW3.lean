/- Words: Eval. Conditions: none. -/
import Derived.Test.YtmbgmfenlededaaGreatDoorW2
namespace Go.Proofs.YtmbgmfenlededaaGreatDoor
open Go
/-- A word's bits as a number: not unfolded by simp. -/
def bvI (b : BitVec 64) : Int := (b.toNat : Int)
theorem bvV_I (b : BitVec 64) : bvV b = .int .u64 (bvI b) := rfl
theorem bvI_and (a b : BitVec 64) : bitsI .and .u64 (bvI a) (bvI b) = bvI (a &&& b) := bv_and a b
theorem bvI_or (a b : BitVec 64) : bitsI .or .u64 (bvI a) (bvI b) = bvI (a ||| b) := bv_or a b
theorem bvI_andn (a b : BitVec 64) : bitsI .andNot .u64 (bvI a) (bvI b) = bvI (a &&& ~~~b) := bv_andn a b
theorem bvI_zero : (0 : Int) = bvI 0#64 := rfl
theorem wd_v (w : Wd) : w.v = .agg [.int .u64 (bvI w.o), .int .u64 (bvI w.z)] := rfl
def filW (v : Nat) : Wd := ⟨if v = 1 ∨ v = 3 then BitVec.allOnes 64 else 0#64, if v = 0 ∨ v = 3 then BitVec.allOnes 64 else 0#64⟩
set_option maxRecDepth 100000 in
theorem fill_c (v : Nat) (hv : v ≤ 3) : PureC Tryz.prog gl0 20 [u8V v] (filW v).v := by
  have hcl := clean_c v
  have hc0 : clean v = v := by unfold clean; rw [if_neg (by omega)]
  rw [hc0] at hcl
  refine PureC.of_W 2 ok20 rfl ?_
  have n1 : IntKind.u64.wrap (-1) = ((BitVec.allOnes 64).toNat : Int) := rfl
  have n0 : IntKind.u64.wrap 0 = 0 := rfl
  have hc : v = 0 ∨ v = 1 ∨ v = 2 ∨ v = 3 := by omega
  rcases hc with rfl | rfl | rfl | rfl <;> simp [i20, x20, u8V] <;> (intro gf2; refine CallO.pure hcl rfl ?_; simp [u8V, gl0]; rfl)
def readW (w : Wd) : Wd := ⟨w.o &&& ~~~(w.o &&& w.z), w.z &&& ~~~(w.o &&& w.z)⟩
def notW (w : Wd) : Wd := ⟨w.z, w.o⟩
theorem read_c (w : Wd) : PureC Tryz.prog gl0 26 [w.v] (readW w).v := by
  refine PureC.of_W 2 ok26 rfl ?_
  simp [i26, x26, wd_v, bvI_and, bvI_andn, readW]
theorem not_c (w : Wd) : PureC Tryz.prog gl0 27 [w.v] (notW w).v := by
  refine PureC.of_W 2 ok27 rfl ?_
  simp [i27, x27, wd_v, notW]
def muxW (s a b : Wd) : Wd := ⟨(s.z &&& a.o) ||| (s.o &&& b.o) ||| (a.o &&& b.o), (s.z &&& a.z) ||| (s.o &&& b.z) ||| (a.z &&& b.z)⟩
def triW (e d : Wd) : Wd := ⟨e.z ||| (e.o &&& d.o), e.z ||| (e.o &&& d.z)⟩
theorem mux_c (s a b : Wd) : PureC Tryz.prog gl0 31 [s.v, a.v, b.v] (muxW s a b).v := by
  refine PureC.of_W 2 ok31 rfl ?_
  simp [i31, x31, wd_v, bvI_and, bvI_or, muxW]
theorem tri_c (e d : Wd) : PureC Tryz.prog gl0 32 [e.v, d.v] (triW e d).v := by
  refine PureC.of_W 2 ok32 rfl ?_
  simp [i32, x32, wd_v, bvI_and, bvI_or, triW]
def andS (a w : Wd) : Wd := ⟨a.o &&& w.o, a.z ||| w.z⟩
def orS (a w : Wd) : Wd := ⟨a.o ||| w.o, a.z &&& w.z⟩
def xorS (a w : Wd) : Wd := ⟨(a.o &&& w.z) ||| (a.z &&& w.o), (a.o &&& w.o) ||| (a.z &&& w.z)⟩
theorem take_fold (f : Wd → Wd → Wd) (a : Wd) (l : List Wd) (i : Nat) (h : i < l.length) : (l.take (i + 1)).foldl f a = f ((l.take i).foldl f a) l[i] := by
  rw [List.take_succ_eq_append_getElem h, List.foldl_append]; rfl
theorem and_c (l : List Wd) (cap : Option Nat) (hl : l.length < 1000000000) : PureC Tryz.prog gl0 28 [.sl (l.map Wd.v) cap] (l.foldl andS (filW 1)).v := by
  refine PureC.of_W 2 ok28 rfl ?_
  simp [i28, x28]
  intro gf2
  generalize gf2 2 = g2
  refine CallO.pure (fill_c 1 (by omega)) rfl ?_
  simp
  intro gf3
  generalize gf3 3 = g3
  refine LoopP.of (X := Nat) (fun i => [(9, natV i), (8, natV l.length), (7, .sl (l.map Wd.v) cap), (3, .ptr 3 g3 0 0), (2, .ptr 2 g2 0 0)]) (fun i => [(3, .row g3 2 [((l.take i).foldl andS (filW 1)).v]), (2, .row g2 2 [.agg [.int .u64 0, .int .u64 0]])])
    (fun i => i ≤ l.length) (fun i => l.length - i) 0 (Nat.zero_le _) (by simp [natV]) (by simp [wd_v, bvV_I]) ?_
  intro i hi
  simp [natV]
  refine BrB.of (fun hb => ?_) (fun hb => ?_)
  · have hi' : i < l.length := of_decide_eq_true hb
    have hw := wrapN i (by omega)
    have ht := take_fold andS (filW 1) l i hi'
    obtain ⟨w, hw2⟩ : ∃ w, l[i] = w := ⟨_, rfl⟩
    rw [hw2] at ht
    obtain ⟨A, hA⟩ : ∃ A, (l.take i).foldl andS (filW 1) = A := ⟨_, rfl⟩
    rw [hA] at ht ⊢
    simp [hi', hw2, wd_v, bvI_and, bvI_or, hw]
    exact ⟨i + 1, hi', by simp, by rw [ht]; exact ⟨rfl, rfl⟩, by omega⟩
  · have hi' : i = l.length := by have := of_decide_eq_false hb; omega
    subst hi'
    simp [wd_v]
theorem or_c (l : List Wd) (cap : Option Nat) (hl : l.length < 1000000000) : PureC Tryz.prog gl0 29 [.sl (l.map Wd.v) cap] (l.foldl orS (filW 0)).v := by
  refine PureC.of_W 2 ok29 rfl ?_
  simp [i29, x29]
  intro gf2
  generalize gf2 2 = g2
  refine CallO.pure (fill_c 0 (by omega)) rfl ?_
  simp
  intro gf3
  generalize gf3 3 = g3
  refine LoopP.of (X := Nat) (fun i => [(9, natV i), (8, natV l.length), (7, .sl (l.map Wd.v) cap), (3, .ptr 3 g3 0 0), (2, .ptr 2 g2 0 0)]) (fun i => [(3, .row g3 2 [((l.take i).foldl orS (filW 0)).v]), (2, .row g2 2 [.agg [.int .u64 0, .int .u64 0]])])
    (fun i => i ≤ l.length) (fun i => l.length - i) 0 (Nat.zero_le _) (by simp [natV]) (by simp [wd_v, bvV_I]) ?_
  intro i hi
  simp [natV]
  refine BrB.of (fun hb => ?_) (fun hb => ?_)
  · have hi' : i < l.length := of_decide_eq_true hb
    have hw := wrapN i (by omega)
    have ht := take_fold orS (filW 0) l i hi'
    obtain ⟨w, hw2⟩ : ∃ w, l[i] = w := ⟨_, rfl⟩
    rw [hw2] at ht
    obtain ⟨A, hA⟩ : ∃ A, (l.take i).foldl orS (filW 0) = A := ⟨_, rfl⟩
    rw [hA] at ht ⊢
    simp [hi', hw2, wd_v, bvI_and, bvI_or, hw]
    exact ⟨i + 1, hi', by simp, by rw [ht]; exact ⟨rfl, rfl⟩, by omega⟩
  · have hi' : i = l.length := by have := of_decide_eq_false hb; omega
    subst hi'
    simp [wd_v]
theorem xor_c (l : List Wd) (cap : Option Nat) (hl : l.length < 1000000000) : PureC Tryz.prog gl0 30 [.sl (l.map Wd.v) cap] (l.foldl xorS (filW 0)).v := by
  refine PureC.of_W 2 ok30 rfl ?_
  simp [i30, x30]
  intro gf2
  generalize gf2 2 = g2
  refine CallO.pure (fill_c 0 (by omega)) rfl ?_
  simp
  intro gf3
  generalize gf3 3 = g3
  refine LoopP.of (X := Nat) (fun i => [(9, natV i), (8, natV l.length), (7, .sl (l.map Wd.v) cap), (3, .ptr 3 g3 0 0), (2, .ptr 2 g2 0 0)]) (fun i => [(3, .row g3 2 [((l.take i).foldl xorS (filW 0)).v]), (2, .row g2 2 [.agg [.int .u64 0, .int .u64 0]])])
    (fun i => i ≤ l.length) (fun i => l.length - i) 0 (Nat.zero_le _) (by simp [natV]) (by simp [wd_v, bvV_I]) ?_
  intro i hi
  simp [natV]
  refine BrB.of (fun hb => ?_) (fun hb => ?_)
  · have hi' : i < l.length := of_decide_eq_true hb
    have hw := wrapN i (by omega)
    have ht := take_fold xorS (filW 0) l i hi'
    obtain ⟨w, hw2⟩ : ∃ w, l[i] = w := ⟨_, rfl⟩
    rw [hw2] at ht
    obtain ⟨A, hA⟩ : ∃ A, (l.take i).foldl xorS (filW 0) = A := ⟨_, rfl⟩
    rw [hA] at ht ⊢
    simp [hi', hw2, wd_v, bvI_and, bvI_or, hw]
    exact ⟨i + 1, hi', by simp, by rw [ht]; exact ⟨rfl, rfl⟩, by omega⟩
  · have hi' : i = l.length := by have := of_decide_eq_false hb; omega
    subst hi'
    simp [wd_v]
structure Bs where
  o : BitVec 64
  z : BitVec 64
  u : BitVec 64
def busS (a : Bs) (w : Wd) : Bs := ⟨a.o ||| (w.o &&& ~~~w.z), a.z ||| (w.z &&& ~~~w.o), a.u ||| ~~~(w.o ||| w.z)⟩
def busF (a : Bs) : Wd := ⟨~~~a.z &&& ~~~(a.u ||| (a.o &&& a.z)), ~~~a.o &&& ~~~(a.u ||| (a.o &&& a.z))⟩
theorem bvI_not (a : BitVec 64) : bitsI .xor .u64 (if IntKind.u64.signed = true then -1 else IntKind.u64.max) (bvI a) = bvI (~~~a) := bv_not a
theorem take_foldB (f : Bs → Wd → Bs) (a : Bs) (l : List Wd) (i : Nat) (h : i < l.length) : (l.take (i + 1)).foldl f a = f ((l.take i).foldl f a) l[i] := by
  rw [List.take_succ_eq_append_getElem h, List.foldl_append]; rfl
def bus0 : Bs := ⟨0#64, 0#64, 0#64⟩
theorem bus_c (l : List Wd) (cap : Option Nat) (hl : l.length < 1000000000) : PureC Tryz.prog gl0 25 [.sl (l.map Wd.v) cap] (busF (l.foldl busS bus0)).v := by
  refine PureC.of_W 2 ok25 rfl ?_
  simp [i25, x25]
  intro gf2
  generalize gf2 2 = g2
  refine LoopP.of (X := Nat) (fun i => [(10, natV i), (9, natV l.length), (8, .sl (l.map Wd.v) cap), (5, bvV ((l.take i).foldl busS bus0).u), (4, bvV ((l.take i).foldl busS bus0).z), (3, bvV ((l.take i).foldl busS bus0).o), (2, .ptr 2 g2 0 0)]) (fun i => [(2, .row g2 2 [.agg [.int .u64 0, .int .u64 0]])])
    (fun i => i ≤ l.length) (fun i => l.length - i) 0 (Nat.zero_le _) (by simp [natV, bvV, bus0]) (by simp) ?_
  intro i hi
  simp [natV]
  refine BrB.of (fun hb => ?_) (fun hb => ?_)
  · have hi' : i < l.length := of_decide_eq_true hb
    have hw := wrapN i (by omega)
    have ht := take_foldB busS bus0 l i hi'
    obtain ⟨w, hw2⟩ : ∃ w, l[i] = w := ⟨_, rfl⟩
    rw [hw2] at ht
    obtain ⟨A, hA⟩ : ∃ A, (l.take i).foldl busS bus0 = A := ⟨_, rfl⟩
    rw [hA] at ht ⊢
    simp [hi', hw2, wd_v, bvV_I, bvI_or, bvI_andn, bvI_not, hw]
    exact ⟨i + 1, hi', ⟨by simp, by rw [ht]; exact ⟨rfl, rfl, rfl⟩⟩, by omega⟩
  · have hi' : i = l.length := by have := of_decide_eq_false hb; omega
    subst hi'
    simp [wd_v, bvV_I, bvI_and, bvI_or, bvI_andn, bvI_not]
    exact ⟨rfl, rfl⟩
end Go.Proofs.YtmbgmfenlededaaGreatDoor
