/- Words: the law Eval. Conditions: none. -/
import Derived.Test.YtmbgmfenlededaaGreatDoorW9
namespace Go.Proofs.YtmbgmfenlededaaGreatDoor
open Go
/-- A list that grows: nothing yet, or a block. -/
def accV (b : Nat) : Option (Nat × List V) → V
  | none => .nil
  | some (g, l) => .ref b g 0 l.length none
def accH (b sz : Nat) : Option (Nat × List V) → Hp
  | none => []
  | some (g, l) => [(b, .row g sz l)]
def accL : Option (Nat × List V) → List V
  | none => []
  | some (_, l) => l
/-- The values of the first words in a lane. -/
def lnsV (l : List Wd) (i j : Nat) : List V := ((l.take j).map fun w => w.lane i).map u8V
theorem lnsV_zero (l : List Wd) (i : Nat) : lnsV l i 0 = [] := by simp [lnsV]
theorem lnsV_succ {l : List Wd} {j : Nat} {w : Wd} (i : Nat) (h : j < l.length) (hw : l[j] = w) : lnsV l i (j + 1) = lnsV l i j ++ [.int .u8 (w.lane i : Int)] := by
  rw [lnsV, lnsV, List.take_succ_eq_append_getElem h, hw]
  simp [u8V]
theorem lnsV_length {l : List Wd} {i j : Nat} (h : j ≤ l.length) : (lnsV l i j).length = j := by simp [lnsV]; omega
theorem lnsV_all (l : List Wd) (i : Nat) : lnsV l i l.length = (l.map fun w => w.lane i).map u8V := by rw [lnsV, List.take_length]
set_option maxRecDepth 100000 in
theorem law3_c (k : Nat) (hk : k < 256) (l : List Wd) : PureC Tryz.prog gl0 3 [u8V k, .sl (l.map Wd.v) none] (.bool true) := by
  refine PureC.of_W 2 ok3 rfl ?_
  simp [i3, x3, u8V]
  refine BrB.of (fun h1 => ?_) (fun h1 => ?_)
  · simp
    refine CallO.pure lives_c (by simp) ?_
    simp
  have hl20 : l.length ≤ 20 := by have := of_decide_eq_false h1; omega
  have hev := eval_c k hk l none (by omega)
  have hlane := eval_lane k l
  generalize evalW k l = E at hev hlane
  simp
  refine CallO.pure hev (by simp only [V.pureL, V.pure, wds_pure, Bool.and_self]) ?_
  simp [wd_v]
  intro gf5
  generalize gf5 5 = g5
  refine LoopP.of (X := Nat) (fun i => [(6, natV i), (5, .ptr 5 g5 0 0), (1, .sl (l.map Wd.v) none), (0, u8V k)]) (fun _ => [(5, .row g5 2 [E.v])])
    (fun i => i ≤ 64) (fun i => 64 - i) 0 (Nat.zero_le _) (by simp [natV, u8V]) (by simp [wd_v]) ?_
  intro i hi
  simp [natV, u8V]
  refine BrB.of (fun hb => ?_) (fun hb => ?_)
  · have hi' : i < 64 := by have := of_decide_eq_true hb; omega
    have hwi := wrapN i (by omega)
    simp
    refine LoopP.of (X := Nat × Option (Nat × List V)) (fun z => [(8, natV z.1), (7, accV 34 z.2), (6, natV i), (5, .ptr 5 g5 0 0), (1, .sl (l.map Wd.v) none), (0, u8V k)]) (fun z => accH 34 1 z.2 ++ [(5, .row g5 2 [E.v])])
      (fun z => z.1 ≤ l.length ∧ (z.2 = none ↔ z.1 = 0) ∧ accL z.2 = lnsV l i z.1) (fun z => l.length - z.1) (0, none) ⟨by simp, by simp, by simp [accL, lnsV_zero]⟩ (by simp [natV, accV, u8V]) (by simp [accH]) ?_
    rintro ⟨j, acc⟩ ⟨q1, q2, q3⟩
    dsimp only at q1 q2 q3 ⊢
    simp [natV, u8V]
    refine BrB.of (fun hb2 => ?_) (fun hb2 => ?_)
    · have hj : j < l.length := of_decide_eq_true hb2
      have hw := wrapN j (by omega)
      obtain ⟨w, hw2⟩ : ∃ w, l[j] = w := ⟨_, rfl⟩
      have hnx := lnsV_succ i hj hw2
      have ha := at8_c w i hi'
      simp only [u8V] at ha
      simp [hj, hw2]
      refine CallO.pure ha rfl ?_
      cases acc with
      | none =>
        have hj0 : j = 0 := q2.1 rfl
        simp only [accL] at q3
        rw [← q3] at hnx
        simp [accV, accH, hw]
        intro ga gb
        refine ⟨j + 1, some (gb 34, [.int .u8 (w.lane i : Int)]), ⟨hj, by simp, by rw [hnx]; rfl⟩, by simp, by simp, by omega⟩
      | some gl =>
        obtain ⟨g, r⟩ := gl
        simp only [accL] at q3
        have hrl : r.length = j := by rw [q3, lnsV_length q1]
        rw [← q3] at hnx
        simp [accV, accH, hw]
        intro ga gb
        refine ⟨by omega, j + 1, some (gb 34, r ++ [.int .u8 (w.lane i : Int)]), ⟨hj, by simp, by rw [hnx]; rfl⟩, by simp, by simp, by omega⟩
    · have hj : j = l.length := by have := of_decide_eq_false hb2; omega
      rw [hj, lnsV_all] at q3
      have hlog := logE_c k hk (l.map fun w => w.lane i) none (by simp; omega)
      rw [← hlane i hi', ← q3] at hlog
      have ha := at8_c E i hi'
      generalize E.lane i = L at hlog ha
      simp only [u8V] at hlog ha
      cases acc with
      | none =>
        simp only [accL] at hlog
        have hlog3 : PureC Tryz.prog gl0 9 [.int .u8 (k : Int), .nil] (.int .u8 (L : Int)) := PureC.wide hlog ⟨.refl _, VLe.nil', trivial⟩ (.refl _)
        simp [accV, accH]
        refine CallO.pure ha rfl ?_
        simp
        refine CallO.pure hlog3 rfl ?_
        simp [hwi]
        exact ⟨i + 1, hi', rfl, by omega⟩
      | some gl =>
        obtain ⟨g, r⟩ := gl
        simp only [accL] at hlog q3
        have hrp : V.pureL r = true := by rw [q3]; exact u8s_pure _
        simp [accV, accH]
        refine CallO.pure ha rfl ?_
        simp
        refine CallO.borrow 2 hlog ?_ rfl ?_
        · simp only [List.map_cons, List.map_nil]
          rw [frz_ref (es := r) (sz := 1) (by simp) (by simp), List.drop_zero, List.take_of_length_le (by simp), frz_all _ _ hrp, frz_pure _ _ rfl]
        simp [hwi]
        exact ⟨i + 1, hi', rfl, by omega⟩
  · simp
    refine CallO.pure lives_c (by simp) ?_
    simp
end Go.Proofs.YtmbgmfenlededaaGreatDoor
