/- Words among the arguments. Conditions: none. -/
import Derived.Test.YthaakllbddaihaaDoorW2
import Derived.Test.YthaakllbddaihaaDoorBase11
import Derived.Test.YthaakllbddaihaaDoorRows
namespace Go.Proofs.YthaakllbddaihaaDoor
open Go Go.RowKit Go.ChangeShapes
set_option maxRecDepth 100000
variable {v : V} {n : Nat}
theorem u64_h (h : hasT Tryd.prog (n + 1) 63 v) : ∃ b : BitVec 64, v = bvV b := by
  obtain ⟨i, rfl, hi⟩ := hasT_int Tryd.underlying63 h
  simp [Lit.wf, IntKind.min, IntKind.max, IntKind.bits, IntKind.signed] at hi
  refine ⟨BitVec.ofNat 64 i.toNat, ?_⟩
  rw [bvV, BitVec.toNat_ofNat, Nat.mod_eq_of_lt (by omega), Int.toNat_of_nonneg (by omega)]
theorem wd_h (h : hasT Tryd.prog (n + 3) 65 v) : ∃ w : Wd, v = w.v := by
  obtain ⟨ps, rfl, hp⟩ := hasT_struct Tryd.underlying65 h
  obtain ⟨a, _, rfl, ha, hp⟩ := hasAll_cons hp
  obtain ⟨b, _, rfl, hb, hp⟩ := hasAll_cons hp
  obtain rfl := hasAll_nil hp
  obtain ⟨o, rfl⟩ := u64_h ha
  obtain ⟨z, rfl⟩ := u64_h hb
  exact ⟨⟨o, z⟩, rfl⟩
theorem u8_h (h : hasT Tryd.prog (n + 1) 5 v) : ∃ a : Nat, v = u8V a ∧ a < 256 := by
  obtain ⟨i, rfl, hi⟩ := hasT_int Tryd.underlying5 h
  simp [Lit.wf, IntKind.min, IntKind.max, IntKind.bits, IntKind.signed] at hi
  exact ⟨i.toNat, by rw [u8V, Int.toNat_of_nonneg (by omega)], by omega⟩
theorem kind_h (h : hasT Tryd.prog (n + 1) 58 v) : ∃ a : Nat, v = u8V a ∧ a < 256 := by
  obtain ⟨i, rfl, hi⟩ := hasT_int Tryd.underlying58 h
  simp [Lit.wf, IntKind.min, IntKind.max, IntKind.bits, IntKind.signed] at hi
  exact ⟨i.toNat, by rw [u8V, Int.toNat_of_nonneg (by omega)], by omega⟩
theorem wds_h (h : hasT Tryd.prog (n + 4) 62 v) : ∃ l : List Wd, v = .sl (l.map Wd.v) none := by
  obtain ⟨xs, rfl, -, hx⟩ := hasT_slice Tryd.underlying62 h
  obtain ⟨l, rfl, -⟩ := list_of (f := Wd.v) (Q := fun _ => True) fun x hx' => by
    obtain ⟨w, rfl⟩ := wd_h (hx x hx')
    exact ⟨w, rfl, trivial⟩
  exact ⟨l, rfl⟩
end Go.Proofs.YthaakllbddaihaaDoor
