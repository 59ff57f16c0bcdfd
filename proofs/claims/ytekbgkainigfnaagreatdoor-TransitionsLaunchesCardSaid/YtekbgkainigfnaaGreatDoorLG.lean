/- The logic of single values, and of lists of them. No program stands in it. Conditions: none. -/
import Derived.Test.YtekbgkainigfnaaGreatDoorNet4
import Derived.Test.YtekbgkainigfnaaGreatDoorNet11
namespace Go.Proofs.YtekbgkainigfnaaGreatDoor
open Go
def clean (v : Nat) : Nat := if 3 < v then 2 else v
theorem clean_le (v : Nat) : clean v ≤ 3 := by unfold clean; split <;> omega
def rdN (v : Nat) : Nat := min v 2
def notN (v : Nat) : Nat := if v ≤ 1 then 1 - v else 2
/-- lo if it occurs, 2 if a value occurs that is neither, and else out. -/
def dec (lo hi : Nat) : Nat → List Nat → Nat
  | out, [] => out
  | out, v :: l => if v = lo then lo else if v = hi then dec lo hi out l else dec lo hi 2 l
def xorN : Nat → List Nat → Nat
  | out, [] => out
  | out, v :: l => if v = 0 then xorN out l else if v = 1 then xorN (1 - out) l else 2
def muxN (s a b : Nat) : Nat := if s = 0 then rdN a else if s = 1 then rdN b else if a = b then rdN a else 2
def triN (e d : Nat) : Nat := if e = 0 then 3 else if e = 1 then rdN d else 2
def busN (l : List Nat) : Nat :=
  match l.find? (fun v => v != 3) with
  | none => 3
  | some v => if (0 ∈ l ∧ 1 ∈ l) ∨ (∃ u ∈ l, clean u = 2) then 2 else v
def gateN (k : Nat) (l : List Nat) : Nat :=
  if k = 1 then 0 else if k = 2 then 1 else if k = 3 then rdN (l.getD 0 0) else if k = 4 then notN (l.getD 0 0)
  else if k = 5 then dec 0 1 1 l else if k = 6 then notN (dec 0 1 1 l)
  else if k = 7 then dec 1 0 0 l else if k = 8 then notN (dec 1 0 0 l)
  else if k = 9 then xorN 0 l else if k = 10 then notN (xorN 0 l)
  else if k = 11 then muxN (l.getD 0 0) (l.getD 1 0) (l.getD 2 0) else if k = 12 then triN (l.getD 0 0) (l.getD 1 0)
  else if k = 13 then busN l else 2
def logE (k : Nat) (l : List Nat) : Nat := if (l.length : Int) < kLo k ∨ kHi k < (l.length : Int) then 2 else gateN k l
theorem lt_of_lo {k : Nat} {n : Nat} {c : Int} (h : ¬ ((n : Int) < kLo k ∨ kHi k < (n : Int))) (hk : kLo k = c) : c ≤ (n : Int) := by omega
theorem dec_le (lo hi : Nat) (hlo : lo ≤ 2) : ∀ (l : List Nat) (out : Nat), out ≤ 2 → dec lo hi out l ≤ 2
  | [], out, h => h
  | v :: l, out, h => by
    rw [dec]
    split
    · exact hlo
    split
    · exact dec_le lo hi hlo l out h
    · exact dec_le lo hi hlo l 2 (by omega)
theorem xorN_le : ∀ (l : List Nat) (out : Nat), out ≤ 2 → xorN out l ≤ 2
  | [], out, h => h
  | v :: l, out, h => by
    rw [xorN]
    split
    · exact xorN_le l out h
    split
    · exact xorN_le l (1 - out) (by omega)
    · omega
theorem clean_0 (v : Nat) : clean v = 0 ↔ v = 0 := by unfold clean; split <;> omega
theorem clean_1 (v : Nat) : clean v = 1 ↔ v = 1 := by unfold clean; split <;> omega
theorem clean_3 (v : Nat) : clean v = 3 ↔ v = 3 := by unfold clean; split <;> omega
theorem clean_clean (v : Nat) : clean (clean v) = clean v := by unfold clean; split <;> simp_all
theorem rdN_clean (v : Nat) : rdN (clean v) = rdN v := by unfold clean rdN; split <;> omega
theorem notN_clean (v : Nat) : notN (clean v) = notN v := by unfold clean notN; split <;> split <;> (try split) <;> omega
theorem dec_clean {lo hi : Nat} (h : lo = 0 ∧ hi = 1 ∨ lo = 1 ∧ hi = 0) : ∀ (l : List Nat) (out : Nat), dec lo hi out (l.map clean) = dec lo hi out l
  | [], _ => rfl
  | v :: l, out => by
    rw [List.map_cons, dec, dec, dec_clean h l, dec_clean h l]
    rcases h with ⟨rfl, rfl⟩ | ⟨rfl, rfl⟩ <;> simp only [clean_0, clean_1]
theorem xorN_clean : ∀ (l : List Nat) (out : Nat), xorN out (l.map clean) = xorN out l
  | [], _ => rfl
  | v :: l, out => by
    rw [List.map_cons, xorN, xorN, xorN_clean l, xorN_clean l]
    simp only [clean_0, clean_1]
theorem muxN_clean (s a b : Nat) : muxN (clean s) (clean a) (clean b) = muxN s a b := by
  unfold muxN
  simp only [clean_0, clean_1, rdN_clean]
  split
  · rfl
  split
  · rfl
  unfold clean rdN
  by_cases ha : 3 < a <;> by_cases hb : 3 < b <;> simp only [ha, hb, if_true, if_false] <;> (repeat' split) <;> omega
theorem triN_clean (s a : Nat) : triN (clean s) (clean a) = triN s a := by
  unfold triN
  simp only [clean_0, clean_1, rdN_clean]
theorem find_clean : ∀ l : List Nat, (l.map clean).find? (fun v => v != 3) = (l.find? fun v => v != 3).map clean
  | [] => rfl
  | v :: l => by
    rw [List.map_cons, List.find?_cons, List.find?_cons, find_clean l]
    by_cases h : v = 3
    · subst h; rfl
    · have h1 : (clean v != 3) = true := bne_iff_ne.2 fun e => h ((clean_3 v).1 e)
      have h2 : (v != 3) = true := bne_iff_ne.2 h
      rw [h1, h2]; rfl
theorem busN_clean (l : List Nat) : busN (l.map clean) = busN l := by
  unfold busN
  rw [find_clean]
  have e0 : 0 ∈ l.map clean ↔ 0 ∈ l := by simp [List.mem_map, clean_0]
  have e1 : 1 ∈ l.map clean ↔ 1 ∈ l := by simp [List.mem_map, clean_1]
  have e2 : (∃ u ∈ l.map clean, clean u = 2) ↔ ∃ u ∈ l, clean u = 2 := by
    exact ⟨fun ⟨u, hu, e⟩ => by
      obtain ⟨a, ha, rfl⟩ := List.mem_map.1 hu
      exact ⟨a, ha, by rwa [clean_clean] at e⟩, fun ⟨a, ha, e⟩ => ⟨clean a, List.mem_map.2 ⟨a, ha, rfl⟩, by rw [clean_clean, e]⟩⟩
  cases hf : l.find? (fun v => v != 3) with
  | none => rfl
  | some v =>
    simp only [Option.map_some, e0, e1, e2]
    have hv : v ∈ l := List.mem_of_find?_eq_some hf
    split
    · rfl
    · rename_i h
      unfold clean
      split
      · exfalso
        apply h
        refine .inr ⟨v, hv, ?_⟩
        unfold clean
        rw [if_pos (by assumption)]
      · rfl
theorem getD_clean (l : List Nat) (j : Nat) : (l.map clean).getD j 0 = clean (l.getD j 0) := by
  rw [List.getD_eq_getElem?_getD, List.getD_eq_getElem?_getD, List.getElem?_map]
  cases l[j]? <;> rfl
theorem logE_clean (k : Nat) (l : List Nat) : logE k (l.map clean) = logE k l := by
  unfold logE
  rw [List.length_map]
  split
  · rfl
  unfold gateN
  simp only [getD_clean, rdN_clean, notN_clean, dec_clean (.inl ⟨rfl, rfl⟩), dec_clean (.inr ⟨rfl, rfl⟩), xorN_clean, muxN_clean, triN_clean, busN_clean]
end Go.Proofs.YtekbgkainigfnaaGreatDoor
