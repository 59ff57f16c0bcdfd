/- Words: words of 64 lanes. Conditions: none. -/
import Derived.Test.YtmbgmfenlededaaGreatDoorX2w
import Derived.IntWalk
namespace Go.Proofs.YtmbgmfenlededaaGreatDoor
open Go
theorem wrap_u8 {x : Int} (h0 : 0 ≤ x) (h1 : x < 256) : IntKind.u8.wrap x = x := by
  simp [IntKind.wrap, IntKind.bits, IntKind.signed]; omega
theorem wrapN (x : Nat) (h : x < 1000000000000000000) : IntKind.i64.wrap ((x : Int) + 1) = ((x + 1 : Nat) : Int) := by rw [wrap_i64] <;> omega
def natV (n : Nat) : V := .int .i64 (n : Int)
def u8V (n : Nat) : V := .int .u8 (n : Int)
def bvV (b : BitVec 64) : V := .int .u64 (b.toNat : Int)
theorem u64_wrap (x : Int) : IntKind.u64.wrap x = x % 18446744073709551616 := by
  simp [IntKind.wrap, IntKind.bits, IntKind.signed]
theorem bv_wrap (b : BitVec 64) : IntKind.u64.wrap (b.toNat : Int) = (b.toNat : Int) := by
  rw [u64_wrap]
  have := b.isLt
  omega
theorem bv_of (b : BitVec 64) : BitVec.ofInt 64 (b.toNat : Int) = b := by
  rw [BitVec.ofInt_natCast, BitVec.ofNat_toNat, BitVec.setWidth_eq]
theorem bv_and (a b : BitVec 64) : bitsI .and .u64 (a.toNat : Int) (b.toNat : Int) = ((a &&& b).toNat : Int) := by
  show IntKind.u64.wrap ((BitVec.ofInt 64 (a.toNat : Int) &&& BitVec.ofInt 64 (b.toNat : Int)).toNat : Int) = _
  rw [bv_of, bv_of, bv_wrap]
theorem bv_or (a b : BitVec 64) : bitsI .or .u64 (a.toNat : Int) (b.toNat : Int) = ((a ||| b).toNat : Int) := by
  show IntKind.u64.wrap ((BitVec.ofInt 64 (a.toNat : Int) ||| BitVec.ofInt 64 (b.toNat : Int)).toNat : Int) = _
  rw [bv_of, bv_of, bv_wrap]
theorem bv_andn (a b : BitVec 64) : bitsI .andNot .u64 (a.toNat : Int) (b.toNat : Int) = ((a &&& ~~~b).toNat : Int) := by
  show IntKind.u64.wrap ((BitVec.ofInt 64 (a.toNat : Int) &&& ~~~BitVec.ofInt 64 (b.toNat : Int)).toNat : Int) = _
  rw [bv_of, bv_of, bv_wrap]
theorem bv_not (a : BitVec 64) : bitsI .xor .u64 18446744073709551615 (a.toNat : Int) = ((~~~a).toNat : Int) := by
  show IntKind.u64.wrap ((BitVec.ofInt 64 18446744073709551615 ^^^ BitVec.ofInt 64 (a.toNat : Int)).toNat : Int) = _
  rw [bv_of, bv_wrap]
  congr 2
theorem bv_shr (a : BitVec 64) (i : Nat) (h : i ≤ 64) : ((a.toNat : Int)).fdiv (2 ^ (min i 64)) = ((a >>> i).toNat : Int) := by
  rw [Nat.min_eq_left h, BitVec.toNat_ushiftRight, Nat.shiftRight_eq_div_pow]
  have e : (2 : Int) ^ i = ((2 ^ i : Nat) : Int) := by simp
  rw [e, ← Int.ofNat_fdiv]
theorem bv_shl (a : BitVec 64) (i : Nat) (h : i ≤ 64) : IntKind.u64.wrap ((a.toNat : Int) * 2 ^ (min i 64)) = ((a <<< i).toNat : Int) := by
  rw [Nat.min_eq_left h, BitVec.toNat_shiftLeft, Nat.shiftLeft_eq, u64_wrap]
  simp
theorem bv_lane (a : BitVec 64) (i : Nat) : ((a >>> i) &&& 1#64).toNat = if a.getLsbD i then 1 else 0 := by
  rw [BitVec.toNat_and, BitVec.toNat_ushiftRight]
  simp only [BitVec.getLsbD, Nat.testBit, BitVec.toNat_ofNat]
  rw [Nat.and_comm, show (1 % 2 ^ 64 : Nat) = 1 by decide]
  have : 1 &&& (a.toNat >>> i) = 0 ∨ 1 &&& (a.toNat >>> i) = 1 := by
    rw [Nat.and_comm, Nat.and_one_is_mod]; omega
  rcases this with h | h <;> simp [h]
theorem bv_inj (a b : BitVec 64) : ((a.toNat : Int) = (b.toNat : Int)) ↔ a = b := by
  constructor
  · intro h; exact BitVec.eq_of_toNat_eq (by omega)
  · intro h; rw [h]
structure Wd where
  o : BitVec 64
  z : BitVec 64
def Wd.v (w : Wd) : V := .agg [bvV w.o, bvV w.z]
/-- The value of a lane. -/
def lv (o z : Bool) : Nat := if o then (if z then 3 else 1) else (if z then 0 else 2)
def Wd.lane (w : Wd) (i : Nat) : Nat := lv (w.o.getLsbD i) (w.z.getLsbD i)
def clean (v : Nat) : Nat := if 3 < v then 2 else v
theorem clean_c (v : Nat) : PureC Tryz.prog gl0 41 [u8V v] (u8V (clean v)) := by
  refine PureC.of_W 2 ok41 rfl ?_
  simp [i41, x41, u8V, clean]
  refine BrB.of (fun h => ?_) (fun h => ?_)
  · have := of_decide_eq_true h
    simp [show 3 < v by omega]
  · have := of_decide_eq_false h
    simp [show ¬ 3 < v by omega]
theorem at_c (w : Wd) (i : Nat) (hi : i < 64) : PureC Tryz.prog gl0 12 [w.v, natV i] (u8V (w.lane i)) := by
  refine PureC.of_W 2 ok12 rfl ?_
  have h1 : ((w.o.toNat : Int)).fdiv (2 ^ (min i IntKind.u64.bits)) = ((w.o >>> i).toNat : Int) := bv_shr w.o i (by omega)
  have h2 : ((w.z.toNat : Int)).fdiv (2 ^ (min i IntKind.u64.bits)) = ((w.z >>> i).toNat : Int) := bv_shr w.z i (by omega)
  generalize ho : w.o.getLsbD i = ob
  generalize hz : w.z.getLsbD i = zb
  have h3 : bitsI .and .u64 ((w.o >>> i).toNat : Int) 1 = if ob = true then 1 else 0 := by
    have := bv_and (w.o >>> i) 1#64
    rw [bv_lane, ho] at this
    exact this.trans (by cases ob <;> rfl)
  have h4 : bitsI .and .u64 ((w.z >>> i).toNat : Int) 1 = if zb = true then 1 else 0 := by
    have := bv_and (w.z >>> i) 1#64
    rw [bv_lane, hz] at this
    exact this.trans (by cases zb <;> rfl)
  simp [i12, x12, Wd.v, natV, bvV, show ¬ 64 ≤ i by omega]
  intro gf gm
  refine ⟨rfl, ?_⟩
  generalize gm 5 = g5
  have w0 : IntKind.u8.wrap 1 = 1 := rfl
  have w1 : IntKind.u8.wrap 2 = 2 := rfl
  have w2 : IntKind.u8.wrap 3 = 3 := rfl
  obtain ⟨L, hL⟩ : ∃ L, lv ob zb = L := ⟨_, rfl⟩
  have hw : w.lane i = L := by rw [← hL, Wd.lane, ho, hz]
  rw [hw]
  refine LoopP.of (X := Nat) (fun x => [(24, u8V x), (5, .ptr 5 g5 0 0)]) (fun _ => [(5, .row g5 2 [.agg [.int .u64 (if ob = true then 1 else 0), .int .u64 (if zb = true then 1 else 0)]])])
    (fun x => x ≤ L ∧ x ≤ 3) (fun x => 4 - x) 0 ⟨by omega, by omega⟩ (by simp [u8V]) (by simp; rw [h1, h2]; exact ⟨h3, h4⟩) ?_
  rintro x ⟨hx, hx3⟩
  have hc : x = 0 ∨ x = 1 ∨ x = 2 ∨ x = 3 := by omega
  cases ob <;> cases zb <;> simp only [lv, if_true, if_false, Bool.false_eq_true] at hL <;> subst hL <;> rcases hc with rfl | rfl | rfl | rfl <;> (first | omega | skip) <;> simp [u8V, gl0, w0, w1, w2, eqCells]
  all_goals first | exact ⟨1, by omega, by omega, by omega⟩ | exact ⟨2, by omega, by omega, by omega⟩ | exact ⟨3, by omega, by omega, by omega⟩
end Go.Proofs.YtmbgmfenlededaaGreatDoor
