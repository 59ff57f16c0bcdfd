/- Words and pairs among the arguments. Conditions: none. -/
import Derived.Test.YtmbgmfenlededaaGreatDoorW2
import Derived.Test.YtmbgmfenlededaaGreatDoorBase11
import Derived.Test.YtmbgmfenlededaaGreatDoorRows
namespace Go.Proofs.YtmbgmfenlededaaGreatDoor
open Go Go.RowKit Go.ChangeShapes
set_option maxRecDepth 100000
/-- A pair of values. -/
structure Pr where
  g : Nat
  b : Nat
def Pr.v (p : Pr) : V := .agg [u8V p.g, u8V p.b]
variable {v : V} {n : Nat}
theorem u64_h (h : hasT Tryz.prog (n + 1) 25 v) : ∃ b : BitVec 64, v = bvV b := by
  obtain ⟨i, rfl, hi⟩ := hasT_int Tryz.underlying25 h
  simp [Lit.wf, IntKind.min, IntKind.max, IntKind.bits, IntKind.signed] at hi
  refine ⟨BitVec.ofNat 64 i.toNat, ?_⟩
  rw [bvV, BitVec.toNat_ofNat, Nat.mod_eq_of_lt (by omega), Int.toNat_of_nonneg (by omega)]
theorem wd_h (h : hasT Tryz.prog (n + 3) 27 v) : ∃ w : Wd, v = w.v := by
  obtain ⟨ps, rfl, hp⟩ := hasT_struct Tryz.underlying27 h
  obtain ⟨a, _, rfl, ha, hp⟩ := hasAll_cons hp
  obtain ⟨b, _, rfl, hb, hp⟩ := hasAll_cons hp
  obtain rfl := hasAll_nil hp
  obtain ⟨o, rfl⟩ := u64_h ha
  obtain ⟨z, rfl⟩ := u64_h hb
  exact ⟨⟨o, z⟩, rfl⟩
theorem val_h (h : hasT Tryz.prog (n + 1) 30 v) : ∃ a : Nat, v = u8V a ∧ a < 256 := by
  obtain ⟨i, rfl, hi⟩ := hasT_int Tryz.underlying30 h
  simp [Lit.wf, IntKind.min, IntKind.max, IntKind.bits, IntKind.signed] at hi
  exact ⟨i.toNat, by rw [u8V, Int.toNat_of_nonneg (by omega)], by omega⟩
theorem kind_h (h : hasT Tryz.prog (n + 1) 22 v) : ∃ a : Nat, v = u8V a ∧ a < 256 := by
  obtain ⟨i, rfl, hi⟩ := hasT_int Tryz.underlying22 h
  simp [Lit.wf, IntKind.min, IntKind.max, IntKind.bits, IntKind.signed] at hi
  exact ⟨i.toNat, by rw [u8V, Int.toNat_of_nonneg (by omega)], by omega⟩
theorem wds_h (h : hasT Tryz.prog (n + 4) 23 v) : ∃ l : List Wd, v = .sl (l.map Wd.v) none := by
  obtain ⟨xs, rfl, -, hx⟩ := hasT_slice Tryz.underlying23 h
  obtain ⟨l, rfl, -⟩ := list_of (f := Wd.v) (Q := fun _ => True) fun x hx' => by
    obtain ⟨w, rfl⟩ := wd_h (hx x hx')
    exact ⟨w, rfl, trivial⟩
  exact ⟨l, rfl⟩
theorem pr_h (h : hasT Tryz.prog (n + 3) 37 v) : ∃ p : Pr, v = p.v ∧ (p.g < 256 ∧ p.b < 256) := by
  obtain ⟨ps, rfl, hp⟩ := hasT_struct Tryz.underlying37 h
  obtain ⟨a, _, rfl, ha, hp⟩ := hasAll_cons hp
  obtain ⟨b, _, rfl, hb, hp⟩ := hasAll_cons hp
  obtain rfl := hasAll_nil hp
  obtain ⟨o, rfl, ho⟩ := val_h ha
  obtain ⟨z, rfl, hz⟩ := val_h hb
  exact ⟨⟨o, z⟩, rfl, ho, hz⟩
theorem prs_h (h : hasT Tryz.prog (n + 4) 34 v) : ∃ l : List Pr, v = .sl (l.map Pr.v) none ∧ ∀ p ∈ l, p.g < 256 ∧ p.b < 256 := by
  obtain ⟨xs, rfl, -, hx⟩ := hasT_slice Tryz.underlying34 h
  obtain ⟨l, rfl, hl⟩ := list_of (f := Pr.v) (Q := fun p => p.g < 256 ∧ p.b < 256) fun x hx' => by
    obtain ⟨p, rfl, h1, h2⟩ := pr_h (hx x hx')
    exact ⟨p, rfl, h1, h2⟩
  exact ⟨l, rfl, hl⟩
end Go.Proofs.YtmbgmfenlededaaGreatDoor
