/- Words: rotated lanes; the law Turned. Conditions: none. -/
import Derived.Test.YthaakllbddaihaaDoorW4
namespace Go.Proofs.YthaakllbddaihaaDoor
open Go
def rl (x : BitVec 64) (b : Nat) : BitVec 64 := (x <<< b) ||| (x >>> (64 - b))
theorem rl_get (x : BitVec 64) (b i : Nat) (hb : b < 64) (hi : i < 64) : (rl x b).getLsbD i = x.getLsbD (if i < b then i + 64 - b else i - b) := by
  unfold rl
  rw [BitVec.getLsbD_or, BitVec.getLsbD_shiftLeft, BitVec.getLsbD_ushiftRight]
  by_cases h : i < b
  · rw [if_pos h]
    simp [h, hi]
    congr 1; omega
  · rw [if_neg h]
    have : x.getLsbD (64 - b + i) = false := BitVec.getLsbD_of_ge _ _ (by omega)
    simp [h, hi, this]
theorem rl_and (x y : BitVec 64) (b : Nat) (hb : b < 64) : rl (x &&& y) b = rl x b &&& rl y b := by
  apply BitVec.eq_of_getLsbD_eq; intro i hi
  rw [BitVec.getLsbD_and, rl_get _ _ _ hb hi, rl_get _ _ _ hb hi, rl_get _ _ _ hb hi, BitVec.getLsbD_and]
theorem rl_or (x y : BitVec 64) (b : Nat) (hb : b < 64) : rl (x ||| y) b = rl x b ||| rl y b := by
  apply BitVec.eq_of_getLsbD_eq; intro i hi
  rw [BitVec.getLsbD_or, rl_get _ _ _ hb hi, rl_get _ _ _ hb hi, rl_get _ _ _ hb hi, BitVec.getLsbD_or]
theorem rl_not (x : BitVec 64) (b : Nat) (hb : b < 64) : rl (~~~x) b = ~~~(rl x b) := by
  apply BitVec.eq_of_getLsbD_eq; intro i hi
  rw [BitVec.getLsbD_not, rl_get _ _ _ hb hi, rl_get _ _ _ hb hi, BitVec.getLsbD_not]
  have : (if i < b then i + 64 - b else i - b) < 64 := by split <;> omega
  simp [hi, this]
theorem rl_zero (b : Nat) (hb : b < 64) : rl 0#64 b = 0#64 := by
  apply BitVec.eq_of_getLsbD_eq; intro i hi
  rw [rl_get _ _ _ hb hi]; simp
theorem rl_ones (b : Nat) (hb : b < 64) : rl (BitVec.allOnes 64) b = BitVec.allOnes 64 := by
  apply BitVec.eq_of_getLsbD_eq; intro i hi
  rw [rl_get _ _ _ hb hi, BitVec.getLsbD_allOnes, BitVec.getLsbD_allOnes]
  have : (if i < b then i + 64 - b else i - b) < 64 := by split <;> omega
  rw [decide_eq_true this, decide_eq_true hi]
def rotW (b : Nat) (w : Wd) : Wd := ⟨rl w.o b, rl w.z b⟩
section
variable {b : Nat} (hb : b < 64)
include hb
theorem rot_fil (v : Nat) : rotW b (filW v) = filW v := by
  have h : ∀ (p : Prop) [Decidable p], rl (if p then BitVec.allOnes 64 else 0#64) b = if p then BitVec.allOnes 64 else 0#64 := fun p _ => by
    split
    · exact rl_ones b hb
    · exact rl_zero b hb
  unfold rotW filW
  simp only [h]
theorem rot_read (w : Wd) : rotW b (readW w) = readW (rotW b w) := by
  simp only [rotW, readW, rl_and _ _ _ hb, rl_not _ _ hb]
theorem rot_mux (s x y : Wd) : rotW b (muxW s x y) = muxW (rotW b s) (rotW b x) (rotW b y) := by
  simp only [rotW, muxW, rl_and _ _ _ hb, rl_or _ _ _ hb]
theorem rot_tri (s x : Wd) : rotW b (triW s x) = triW (rotW b s) (rotW b x) := by
  simp only [rotW, triW, rl_and _ _ _ hb, rl_or _ _ _ hb]
theorem rot_and (s x : Wd) : rotW b (andS s x) = andS (rotW b s) (rotW b x) := by
  simp only [rotW, andS, rl_and _ _ _ hb, rl_or _ _ _ hb]
theorem rot_or (s x : Wd) : rotW b (orS s x) = orS (rotW b s) (rotW b x) := by
  simp only [rotW, orS, rl_and _ _ _ hb, rl_or _ _ _ hb]
theorem rot_xor (s x : Wd) : rotW b (xorS s x) = xorS (rotW b s) (rotW b x) := by
  simp only [rotW, xorS, rl_and _ _ _ hb, rl_or _ _ _ hb]
theorem rot_fold {f : Wd → Wd → Wd} (hf : ∀ s x, rotW b (f s x) = f (rotW b s) (rotW b x)) (v : Nat) (l : List Wd) : rotW b (l.foldl f (filW v)) = (l.map (rotW b)).foldl f (filW v) := by
  have : ∀ (l : List Wd) (a : Wd), rotW b (l.foldl f a) = (l.map (rotW b)).foldl f (rotW b a) := by
    intro l
    induction l with
    | nil => intro a; rfl
    | cons x r ih => intro a; simp only [List.foldl_cons, List.map_cons, ih, hf]
  rw [this, rot_fil hb]
def rotB (b : Nat) (a : Bs) : Bs := ⟨rl a.o b, rl a.z b, rl a.u b⟩
theorem rot_bus (l : List Wd) : rotW b (busF (l.foldl busS bus0)) = busF ((l.map (rotW b)).foldl busS bus0) := by
  have h1 : ∀ (a : Bs) (w : Wd), rotB b (busS a w) = busS (rotB b a) (rotW b w) := fun a w => by
    simp only [rotB, busS, rotW, rl_and _ _ _ hb, rl_or _ _ _ hb, rl_not _ _ hb]
  have h2 : ∀ (l : List Wd) (a : Bs), rotB b (l.foldl busS a) = (l.map (rotW b)).foldl busS (rotB b a) := by
    intro l
    induction l with
    | nil => intro a; rfl
    | cons x r ih => intro a; simp only [List.foldl_cons, List.map_cons, ih, h1]
  have h3 : ∀ a : Bs, rotW b (busF a) = busF (rotB b a) := fun a => by
    simp only [rotB, busF, rotW, rl_and _ _ _ hb, rl_or _ _ _ hb, rl_not _ _ hb]
  have h4 : rotB b bus0 = bus0 := by simp only [rotB, bus0, rl_zero b hb]
  rw [h3, h2, h4]
theorem rot_rd (l : List Wd) (i : Nat) : rd (l.map (rotW b)) i = rotW b (rd l i) := by
  unfold rd
  rw [rot_read hb]
  congr 1
  simp only [List.getD_eq_getElem?_getD, List.getElem?_map]
  cases l[i]? with
  | none =>
    show (⟨0#64, 0#64⟩ : Wd) = ⟨rl 0#64 b, rl 0#64 b⟩
    rw [rl_zero b hb]
  | some x => rfl
theorem rot_map (l : List Wd) : (l.map (rotW b)).map readW = (l.map readW).map (rotW b) := by
  simp only [List.map_map, Function.comp_def, rot_read hb]
theorem rot_eval (k : Nat) (l : List Wd) : evalW k (l.map (rotW b)) = rotW b (evalW k l) := by
  unfold evalW
  simp only [List.length_map]
  split
  · rw [rot_fil hb]
  · split
    · rw [rot_bus hb]
    · unfold gateW
      simp only [rot_rd hb, rot_map hb]
      have hif : ∀ (p : Prop) [Decidable p] (x y : Wd), rotW b (if p then x else y) = if p then rotW b x else rotW b y := fun p _ x y => by split <;> rfl
      have hnot : ∀ w : Wd, rotW b (notW w) = notW (rotW b w) := fun _ => rfl
      simp only [hif, hnot, rot_fil hb, rot_fold hb (rot_and hb), rot_fold hb (rot_or hb), rot_fold hb (rot_xor hb), rot_mux hb, rot_tri hb]
end
theorem turned_c (w : Wd) (y b : Nat) (_hy : y < 256) (hb : y % 64 = b) : PureC Tryd.prog gl0 36 [w.v, .int .u64 (y : Int)] (rotW b w).v := by
  have hb64 : b < 64 := by omega
  obtain ⟨c, hc⟩ : ∃ c, 64 - b = c := ⟨_, rfl⟩
  have h1 : ((y : Int)).tmod 64 = (b : Int) := by rw [← hb]; rfl
  have h2 : IntKind.u64.wrap (64 - (b : Int)) = (c : Int) := by rw [u64_wrap]; omega
  have e1 : IntKind.u64.wrap (bvI w.o * 2 ^ min b IntKind.u64.bits) = bvI (w.o <<< b) := bv_shl w.o b (by omega)
  have e2 : IntKind.u64.wrap (bvI w.z * 2 ^ min b IntKind.u64.bits) = bvI (w.z <<< b) := bv_shl w.z b (by omega)
  have e3 : (bvI w.o).fdiv (2 ^ min c IntKind.u64.bits) = bvI (w.o >>> c) := bv_shr w.o c (by omega)
  have e4 : (bvI w.z).fdiv (2 ^ min c IntKind.u64.bits) = bvI (w.z >>> c) := bv_shr w.z c (by omega)
  refine PureC.of_W 2 ok36 rfl ?_
  simp [i36, x36, wd_v, h1, h2, e1, e2, e3, e4, bvI_or, rotW, rl, hc]
end Go.Proofs.YthaakllbddaihaaDoor
