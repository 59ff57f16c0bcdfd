/- Words: the law Turned. Conditions: none. -/
import Derived.Test.YthaakllbddaihaaDoorW5
namespace Go.Proofs.YthaakllbddaihaaDoor
open Go
/-- A list that grows: nothing yet, or a block. -/
def accV (b : Nat) : Option (Nat × List V) → V
  | none => .nil
  | some (g, l) => .ref b g 0 l.length none
def accH (b sz : Nat) : Option (Nat × List V) → Hp
  | none => []
  | some (g, l) => [(b, .row g sz l)]
def accL : Option (Nat × List V) → List V
  | none => []
  | some (_, l) => l
set_option maxRecDepth 100000 in
theorem law9_c (k : Nat) (hk : k < 256) (l : List Wd) (y : Nat) (hy : y < 256) : PureC Tryd.prog gl0 9 [u8V k, .sl (l.map Wd.v) none, u8V y] (.bool true) := by
  obtain ⟨b, hb⟩ : ∃ b, y % 64 = b := ⟨_, rfl⟩
  have hb64 : b < 64 := by omega
  have hwy : IntKind.u64.wrap (y : Int) = (y : Int) := by rw [u64_wrap]; omega
  refine PureC.of_W 2 ok9 rfl ?_
  simp [i9, x9, u8V]
  refine BrB.of (fun h1 => ?_) (fun h1 => ?_)
  · simp
    refine CallO.pure lives_c (by simp) ?_
    simp
  have hl20 : l.length ≤ 20 := by have := of_decide_eq_false h1; omega
  simp
  refine LoopP.of (X := Nat × Option (Nat × List V)) (fun z => [(8, natV z.1), (7, accV 28 z.2), (2, u8V y), (1, .sl (l.map Wd.v) none), (0, u8V k)]) (fun z => accH 28 2 z.2)
    (fun z => z.1 ≤ l.length ∧ (z.2 = none ↔ z.1 = 0) ∧ accL z.2 = ((l.take z.1).map (rotW b)).map Wd.v) (fun z => l.length - z.1) (0, none) ⟨by simp, by simp, by simp [accL]⟩ (by simp [natV, accV, u8V]) (by simp [accH]) ?_
  rintro ⟨i, acc⟩ ⟨q1, q2, q3⟩
  dsimp only at q1 q2 q3 ⊢
  simp [natV, u8V]
  refine BrB.of (fun hb2 => ?_) (fun hb2 => ?_)
  · have hi : i < l.length := of_decide_eq_true hb2
    have hw := wrapN i (by omega)
    obtain ⟨w, hw2⟩ : ∃ w, l[i] = w := ⟨_, rfl⟩
    have htk : ((l.take (i + 1)).map (rotW b)).map Wd.v = ((l.take i).map (rotW b)).map Wd.v ++ [(rotW b w).v] := by
      rw [List.take_succ_eq_append_getElem hi, hw2]; simp
    have htk2 : List.take (i + 1) (List.map (Wd.v ∘ rotW b) l) = accL acc ++ [(rotW b w).v] := by
      rw [← q3] at htk; simpa using htk
    simp [hi, hw2, hwy]
    refine CallO.pure (turned_c w y b hy hb) rfl ?_
    cases acc with
    | none =>
      have hi0 : i = 0 := q2.1 rfl
      simp only [accL] at q3
      simp [accV, accH, hw, wd_v]
      intro ga gb
      refine ⟨i + 1, some (gb 28, [(rotW b w).v]), ⟨hi, by simp, by rw [htk2]; rfl⟩, by simp, by simp [wd_v], by omega⟩
    | some gl =>
      obtain ⟨g, r⟩ := gl
      simp only [accL] at q3
      have hrl : r.length = i := by rw [q3]; simp; omega
      simp [accV, accH, hw, wd_v]
      intro ga gb
      refine ⟨by omega, i + 1, some (gb 28, r ++ [(rotW b w).v]), ⟨hi, by simp, by rw [htk2]; rfl⟩, by simp, by simp [wd_v], by omega⟩
  · have hi : i = l.length := by have := of_decide_eq_false hb2; omega
    rw [hi, List.take_length] at q3
    have hev := eval_c k hk (l.map (rotW b)) none (by simp; omega)
    rw [rot_eval hb64] at hev
    have hev2 := eval_c k hk l none (by omega)
    have htu := turned_c (evalW k l) y b hy hb
    have hok : ∀ a b c d : BitVec 64, eqOkB [.int .u64 (bvI a), .int .u64 (bvI b)] [.int .u64 (bvI c), .int .u64 (bvI d)] = true := fun _ _ _ _ => rfl
    have hvv : ∀ a b : Int, eqCells [.int .u64 a, .int .u64 b] [.int .u64 a, .int .u64 b] = true := fun a b => by simp [eqCells]
    generalize rotW b (evalW k l) = R at hev htu
    generalize evalW k l = E at hev2 htu
    cases acc with
    | none =>
      simp only [accL] at q3
      rw [← q3] at hev
      have hev3 : PureC Tryd.prog gl0 37 [u8V k, .nil] R.v := PureC.wide hev ⟨.refl _, VLe.nil', trivial⟩ (.refl _)
      simp [accV, accH]
      refine CallO.pure hev3 rfl ?_
      simp
      refine CallO.pure hev2 (by simp only [V.pureL, V.pure, wds_pure, Bool.and_self]) ?_
      simp [hwy]
      refine CallO.pure htu rfl ?_
      simp [wd_v]
      refine CallO.pure lives_c (by simp) ?_
      simp
    | some gl =>
      obtain ⟨g, r⟩ := gl
      simp only [accL] at q3
      rw [← q3] at hev
      have hrp : V.pureL r = true := by rw [q3]; exact wds_pure _
      simp [accV, accH]
      refine CallO.borrow 2 hev ?_ rfl ?_
      · simp only [List.map_cons, List.map_nil]
        rw [frz_ref (es := r) (sz := 2) (by simp) (by simp), List.drop_zero, List.take_of_length_le (by simp), frz_all _ _ hrp, frz_pure _ _ rfl]
        rfl
      simp
      refine CallO.pure hev2 (by simp only [V.pureL, V.pure, wds_pure, Bool.and_self]) ?_
      simp [hwy]
      refine CallO.pure htu rfl ?_
      simp [wd_v]
      refine CallO.pure lives_c (by simp) ?_
      simp
end Go.Proofs.YthaakllbddaihaaDoor
