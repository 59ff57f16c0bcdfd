/- Words: the lanes of a gate's word are the gate's values of the lanes (no program). Conditions: none. -/
import Derived.Test.YtmbgmfenlededaaGreatDoorW4
namespace Go.Proofs.YtmbgmfenlededaaGreatDoor
open Go
/-! The logic of single values. -/
def rdN (v : Nat) : Nat := min v 2
def notN (v : Nat) : Nat := if v ≤ 1 then 1 - v else 2
/-- lo if it occurs, 2 if a value occurs that is neither, and else out. -/
def dec (lo hi : Nat) : Nat → List Nat → Nat
  | out, [] => out
  | out, v :: l => if v = lo then lo else if v = hi then dec lo hi out l else dec lo hi 2 l
def xorN : Nat → List Nat → Nat
  | out, [] => out
  | out, v :: l => if v = 0 then xorN out l else if v = 1 then xorN (1 - out) l else 2
def muxN (s a b : Nat) : Nat := if s = 0 then rdN a else if s = 1 then rdN b else if a = b then rdN a else 2
def triN (e d : Nat) : Nat := if e = 0 then 3 else if e = 1 then rdN d else 2
def busN (l : List Nat) : Nat :=
  match l.find? (fun v => v != 3) with
  | none => 3
  | some v => if (0 ∈ l ∧ 1 ∈ l) ∨ (∃ u ∈ l, clean u = 2) then 2 else v
def gateN (k : Nat) (l : List Nat) : Nat :=
  if k = 1 then 0 else if k = 2 then 1 else if k = 3 then rdN (l.getD 0 0) else if k = 4 then notN (l.getD 0 0)
  else if k = 5 then dec 0 1 1 l else if k = 6 then notN (dec 0 1 1 l)
  else if k = 7 then dec 1 0 0 l else if k = 8 then notN (dec 1 0 0 l)
  else if k = 9 then xorN 0 l else if k = 10 then notN (xorN 0 l)
  else if k = 11 then muxN (l.getD 0 0) (l.getD 1 0) (l.getD 2 0) else if k = 12 then triN (l.getD 0 0) (l.getD 1 0)
  else if k = 13 then busN l else 2
def logE (k : Nat) (l : List Nat) : Nat := if (l.length : Int) < kLo k ∨ kHi k < (l.length : Int) then 2 else gateN k l
/-! Lanes. -/
theorem lane_le (w : Wd) (i : Nat) : w.lane i ≤ 3 := by
  unfold Wd.lane lv
  cases w.o.getLsbD i <;> cases w.z.getLsbD i <;> simp
theorem lane_fil (v i : Nat) (hv : v ≤ 3) (hi : i < 64) : (filW v).lane i = v := by
  have hc : v = 0 ∨ v = 1 ∨ v = 2 ∨ v = 3 := by omega
  have ho : (BitVec.allOnes 64).getLsbD i = true := by rw [BitVec.getLsbD_allOnes]; simp [hi]
  have hz : (0#64).getLsbD i = false := BitVec.getLsbD_zero
  rcases hc with rfl | rfl | rfl | rfl
  · show lv ((0#64).getLsbD i) ((BitVec.allOnes 64).getLsbD i) = 0
    rw [ho, hz]; rfl
  · show lv ((BitVec.allOnes 64).getLsbD i) ((0#64).getLsbD i) = 1
    rw [ho, hz]; rfl
  · show lv ((0#64).getLsbD i) ((0#64).getLsbD i) = 2
    rw [hz]; rfl
  · show lv ((BitVec.allOnes 64).getLsbD i) ((BitVec.allOnes 64).getLsbD i) = 3
    rw [ho]; rfl
theorem lane_read (w : Wd) (i : Nat) : (readW w).lane i = rdN (w.lane i) := by
  unfold Wd.lane readW
  simp only [BitVec.getLsbD_and, BitVec.getLsbD_not]
  by_cases hi : i < 64
  · cases w.o.getLsbD i <;> cases w.z.getLsbD i <;> simp [lv, rdN, hi]
  · rw [BitVec.getLsbD_of_ge _ _ (by omega), BitVec.getLsbD_of_ge _ _ (by omega)]
    simp [lv, rdN]
theorem lane_not (w : Wd) (i : Nat) (h : w.lane i ≠ 3) : (notW w).lane i = notN (w.lane i) := by
  revert h
  unfold Wd.lane notW
  cases w.o.getLsbD i <;> cases w.z.getLsbD i <;> simp [lv, notN]
theorem lane_mux (s a b : Wd) (i : Nat) : (muxW (readW s) (readW a) (readW b)).lane i = muxN (s.lane i) (a.lane i) (b.lane i) := by
  by_cases hi : i < 64
  · unfold Wd.lane muxW readW
    simp only [BitVec.getLsbD_and, BitVec.getLsbD_or, BitVec.getLsbD_not, hi, decide_true, Bool.true_and]
    cases s.o.getLsbD i <;> cases s.z.getLsbD i <;> cases a.o.getLsbD i <;> cases a.z.getLsbD i <;> cases b.o.getLsbD i <;> cases b.z.getLsbD i <;> rfl
  · have e : ∀ w : Wd, w.lane i = 2 := fun w => by
      unfold Wd.lane
      rw [BitVec.getLsbD_of_ge _ _ (by omega), BitVec.getLsbD_of_ge _ _ (by omega)]; rfl
    rw [e, e, e, e]; rfl
theorem lane_tri (s a : Wd) (i : Nat) : (triW (readW s) (readW a)).lane i = triN (s.lane i) (a.lane i) := by
  by_cases hi : i < 64
  · unfold Wd.lane triW readW
    simp only [BitVec.getLsbD_and, BitVec.getLsbD_or, BitVec.getLsbD_not, hi, decide_true, Bool.true_and]
    cases s.o.getLsbD i <;> cases s.z.getLsbD i <;> cases a.o.getLsbD i <;> cases a.z.getLsbD i <;> rfl
  · have e : ∀ w : Wd, w.lane i = 2 := fun w => by
      unfold Wd.lane
      rw [BitVec.getLsbD_of_ge _ _ (by omega), BitVec.getLsbD_of_ge _ _ (by omega)]; rfl
    rw [e, e, e]; rfl
theorem lane_andS (a w : Wd) (i : Nat) (hi : i < 64) (h : a.lane i ≠ 3) : (andS a (readW w)).lane i = if a.lane i = 0 then 0 else if w.lane i = 0 then 0 else if w.lane i = 1 then a.lane i else 2 := by
  revert h
  unfold Wd.lane andS readW
  simp only [BitVec.getLsbD_and, BitVec.getLsbD_or, BitVec.getLsbD_not, hi, decide_true, Bool.true_and]
  cases a.o.getLsbD i <;> cases a.z.getLsbD i <;> cases w.o.getLsbD i <;> cases w.z.getLsbD i <;> simp [lv]
theorem lane_orS (a w : Wd) (i : Nat) (hi : i < 64) (h : a.lane i ≠ 3) : (orS a (readW w)).lane i = if a.lane i = 1 then 1 else if w.lane i = 1 then 1 else if w.lane i = 0 then a.lane i else 2 := by
  revert h
  unfold Wd.lane orS readW
  simp only [BitVec.getLsbD_and, BitVec.getLsbD_or, BitVec.getLsbD_not, hi, decide_true, Bool.true_and]
  cases a.o.getLsbD i <;> cases a.z.getLsbD i <;> cases w.o.getLsbD i <;> cases w.z.getLsbD i <;> simp [lv]
theorem lane_xorS (a w : Wd) (i : Nat) (hi : i < 64) (h : a.lane i ≠ 3) : (xorS a (readW w)).lane i = if a.lane i = 2 then 2 else if w.lane i = 0 then a.lane i else if w.lane i = 1 then 1 - a.lane i else 2 := by
  revert h
  unfold Wd.lane xorS readW
  simp only [BitVec.getLsbD_and, BitVec.getLsbD_or, BitVec.getLsbD_not, hi, decide_true, Bool.true_and]
  cases a.o.getLsbD i <;> cases a.z.getLsbD i <;> cases w.o.getLsbD i <;> cases w.z.getLsbD i <;> simp [lv]
theorem lane_and (i : Nat) (hi : i < 64) : ∀ (l : List Wd) (a : Wd), a.lane i ≠ 3 → ((l.map readW).foldl andS a).lane i = if a.lane i = 0 then 0 else dec 0 1 (a.lane i) (l.map fun w => w.lane i)
  | [], a, _ => by
    simp only [List.map_nil, List.foldl_nil, dec]
    split <;> simp_all
  | w :: l, a, h => by
    have hs := lane_andS a w i hi h
    have h3 : (andS a (readW w)).lane i ≠ 3 := by rw [hs]; split <;> (try split) <;> (try split) <;> simp_all
    rw [List.map_cons, List.foldl_cons, lane_and i hi l _ h3, hs, List.map_cons, dec]
    by_cases ha : a.lane i = 0
    · simp [ha]
    · by_cases h0 : w.lane i = 0
      · simp [ha, h0]
      · by_cases h1 : w.lane i = 1
        · simp [ha, h1]
        · simp [ha, h0, h1]
theorem lane_or (i : Nat) (hi : i < 64) : ∀ (l : List Wd) (a : Wd), a.lane i ≠ 3 → ((l.map readW).foldl orS a).lane i = if a.lane i = 1 then 1 else dec 1 0 (a.lane i) (l.map fun w => w.lane i)
  | [], a, _ => by
    simp only [List.map_nil, List.foldl_nil, dec]
    split <;> simp_all
  | w :: l, a, h => by
    have hs := lane_orS a w i hi h
    have h3 : (orS a (readW w)).lane i ≠ 3 := by rw [hs]; split <;> (try split) <;> (try split) <;> simp_all
    rw [List.map_cons, List.foldl_cons, lane_or i hi l _ h3, hs, List.map_cons, dec]
    by_cases ha : a.lane i = 1
    · simp [ha]
    · by_cases h0 : w.lane i = 1
      · simp [ha, h0]
      · by_cases h1 : w.lane i = 0
        · simp [ha, h1]
        · simp [ha, h0, h1]
theorem lane_xor (i : Nat) (hi : i < 64) : ∀ (l : List Wd) (a : Wd), a.lane i ≠ 3 → ((l.map readW).foldl xorS a).lane i = if a.lane i = 2 then 2 else xorN (a.lane i) (l.map fun w => w.lane i)
  | [], a, _ => by
    simp only [List.map_nil, List.foldl_nil, xorN]
    split <;> simp_all
  | w :: l, a, h => by
    have hs := lane_xorS a w i hi h
    have hl := lane_le a i
    have h3 : (xorS a (readW w)).lane i ≠ 3 := by rw [hs]; split <;> (try split) <;> (try split) <;> omega
    rw [List.map_cons, List.foldl_cons, lane_xor i hi l _ h3, hs, List.map_cons, xorN]
    by_cases ha : a.lane i = 2
    · simp [ha]
    · by_cases h0 : w.lane i = 0
      · simp [ha, h0]
      · by_cases h1 : w.lane i = 1
        · have : ¬ 1 - a.lane i = 2 := by omega
          simp [ha, h1, this]
        · simp [ha, h0, h1]
/-! Several drivers. -/
theorem bus_bits (i : Nat) (hi : i < 64) : ∀ (l : List Wd) (a : Bs), (l.foldl busS a).o.getLsbD i = (a.o.getLsbD i || l.any fun w => w.lane i == 1) ∧ (l.foldl busS a).z.getLsbD i = (a.z.getLsbD i || l.any fun w => w.lane i == 0) ∧ (l.foldl busS a).u.getLsbD i = (a.u.getLsbD i || l.any fun w => w.lane i == 2)
  | [], a => by simp
  | w :: l, a => by
    obtain ⟨h1, h2, h3⟩ := bus_bits i hi l (busS a w)
    rw [List.foldl_cons, h1, h2, h3, List.any_cons, List.any_cons, List.any_cons]
    unfold Wd.lane busS
    simp only [BitVec.getLsbD_and, BitVec.getLsbD_or, BitVec.getLsbD_not, hi, decide_true, Bool.true_and]
    cases w.o.getLsbD i <;> cases w.z.getLsbD i <;> simp [lv]
theorem lane_busF (a : Bs) (i : Nat) (hi : i < 64) : (busF a).lane i = if a.u.getLsbD i || (a.o.getLsbD i && a.z.getLsbD i) then 2 else if a.o.getLsbD i then 1 else if a.z.getLsbD i then 0 else 3 := by
  unfold Wd.lane busF
  simp only [BitVec.getLsbD_and, BitVec.getLsbD_or, BitVec.getLsbD_not, hi, decide_true, Bool.true_and]
  cases a.u.getLsbD i <;> cases a.o.getLsbD i <;> cases a.z.getLsbD i <;> rfl
theorem any_eq (l : List Wd) (i v : Nat) : (l.any fun w => w.lane i == v) = decide (v ∈ l.map fun w => w.lane i) := by
  rw [Bool.eq_iff_iff]
  simp
theorem bus0_bits (i : Nat) : bus0.o.getLsbD i = false ∧ bus0.z.getLsbD i = false ∧ bus0.u.getLsbD i = false := by simp [bus0]
theorem lane_bus (l : List Wd) (i : Nat) (hi : i < 64) : (busF (l.foldl busS bus0)).lane i = busN (l.map fun w => w.lane i) := by
  obtain ⟨h1, h2, h3⟩ := bus_bits i hi l bus0
  obtain ⟨b1, b2, b3⟩ := bus0_bits i
  rw [b1, Bool.false_or, any_eq] at h1
  rw [b2, Bool.false_or, any_eq] at h2
  rw [b3, Bool.false_or, any_eq] at h3
  have hle : ∀ v ∈ l.map (fun w => w.lane i), v ≤ 3 := fun v hv => by
    simp only [List.mem_map] at hv
    obtain ⟨w, -, rfl⟩ := hv
    exact lane_le w i
  rw [lane_busF _ _ hi]
  simp only [h1, h2, h3]
  generalize l.map (fun w => w.lane i) = m at hle
  unfold busN
  have hcl : (∃ u ∈ m, clean u = 2) ↔ 2 ∈ m := ⟨fun ⟨u, hu, e⟩ => by
    have := hle u hu
    unfold clean at e
    rw [if_neg (by omega)] at e
    exact e ▸ hu, fun h => ⟨2, h, rfl⟩⟩
  cases hf : m.find? (fun v => v != 3) with
  | none =>
    have ha : ∀ v ∈ m, v = 3 := by simpa using List.find?_eq_none.1 hf
    have n0 : ¬ 0 ∈ m := fun h => by have := ha 0 h; omega
    have n1 : ¬ 1 ∈ m := fun h => by have := ha 1 h; omega
    have n2 : ¬ 2 ∈ m := fun h => by have := ha 2 h; omega
    simp [n0, n1, n2]
  | some v =>
    have hv : v ∈ m := List.mem_of_find?_eq_some hf
    have hv3 : v ≠ 3 := by simpa using List.find?_some hf
    have hvle := hle v hv
    simp only [hcl]
    by_cases h2 : 2 ∈ m
    · simp [h2]
    · by_cases h01 : 0 ∈ m ∧ 1 ∈ m
      · simp [h01]
      · have hv2 : v ≠ 2 := fun e => h2 (e ▸ hv)
        have hc : v = 0 ∨ v = 1 := by omega
        rcases hc with rfl | rfl
        · have : ¬ 1 ∈ m := fun h => h01 ⟨hv, h⟩
          simp [h2, this, hv]
        · have : ¬ 0 ∈ m := fun h => h01 ⟨h, hv⟩
          simp [h2, this, hv]
theorem rd_lane (l : List Wd) (j i : Nat) (h : j < l.length) : (rd l j).lane i = rdN ((l.map fun w => w.lane i).getD j 0) := by
  rw [rd, lane_read]
  simp [h]
theorem lt_of_lo {k : Nat} {n : Nat} {c : Int} (h : ¬ ((n : Int) < kLo k ∨ kHi k < (n : Int))) (hk : kLo k = c) : c ≤ (n : Int) := by omega
theorem dec_le (lo hi : Nat) (hlo : lo ≤ 2) : ∀ (l : List Nat) (out : Nat), out ≤ 2 → dec lo hi out l ≤ 2
  | [], out, h => h
  | v :: l, out, h => by
    rw [dec]
    split
    · exact hlo
    split
    · exact dec_le lo hi hlo l out h
    · exact dec_le lo hi hlo l 2 (by omega)
theorem xorN_le : ∀ (l : List Nat) (out : Nat), out ≤ 2 → xorN out l ≤ 2
  | [], out, h => h
  | v :: l, out, h => by
    rw [xorN]
    split
    · exact xorN_le l out h
    split
    · exact xorN_le l (1 - out) (by omega)
    · omega
theorem eval_lane (k : Nat) (l : List Wd) (i : Nat) (hi : i < 64) : (evalW k l).lane i = logE k (l.map fun w => w.lane i) := by
  unfold evalW logE
  rw [List.length_map]
  by_cases hb : (l.length : Int) < kLo k ∨ kHi k < (l.length : Int)
  · rw [if_pos hb, if_pos hb, lane_fil 2 i (by omega) hi]
  rw [if_neg hb, if_neg hb]
  by_cases h13 : k = 13
  · subst h13
    rw [if_pos rfl, lane_bus l i hi]; rfl
  rw [if_neg h13]
  have f1 := lane_fil 1 i (by omega) hi
  have f0 := lane_fil 0 i (by omega) hi
  have f2 := lane_fil 2 i (by omega) hi
  have ea := lane_and i hi l (filW 1) (by omega)
  have eo := lane_or i hi l (filW 0) (by omega)
  have ex := lane_xor i hi l (filW 0) (by omega)
  rw [f1, if_neg (by omega)] at ea
  rw [f0, if_neg (by omega)] at eo ex
  have la := dec_le 0 1 (by omega) (l.map fun w => w.lane i) 1 (by omega)
  have lo := dec_le 1 0 (by omega) (l.map fun w => w.lane i) 0 (by omega)
  have lx := xorN_le (l.map fun w => w.lane i) 0 (by omega)
  have hk15 : k ≤ 15 := by
    by_cases hc : k ≤ 15
    · exact hc
    · exfalso
      have : kHi k = -1 := by rw [kHi, if_pos (by omega)]
      omega
  have hc : k = 0 ∨ k = 1 ∨ k = 2 ∨ k = 3 ∨ k = 4 ∨ k = 5 ∨ k = 6 ∨ k = 7 ∨ k = 8 ∨ k = 9 ∨ k = 10 ∨ k = 11 ∨ k = 12 ∨ k = 14 ∨ k = 15 := by omega
  rcases hc with rfl | rfl | rfl | rfl | rfl | rfl | rfl | rfl | rfl | rfl | rfl | rfl | rfl | rfl | rfl
  · exact f2
  · exact f0
  · exact f1
  · have h0 := lt_of_lo hb (c := 1) rfl
    exact (rd_lane l 0 i (by omega))
  · have h0 := lt_of_lo hb (c := 1) rfl
    have hr := rd_lane l 0 i (by omega)
    show (notW (rd l 0)).lane i = notN _
    rw [lane_not _ _ (by rw [hr]; unfold rdN; omega), hr]
    unfold rdN notN
    split <;> split <;> omega
  · exact ea
  · show (notW _).lane i = notN _
    rw [lane_not _ _ (by omega), ea]
  · exact eo
  · show (notW _).lane i = notN _
    rw [lane_not _ _ (by omega), eo]
  · exact ex
  · show (notW _).lane i = notN _
    rw [lane_not _ _ (by omega), ex]
  · have h0 := lt_of_lo hb (c := 3) rfl
    have e : ∀ j, j < l.length → (l.getD j default).lane i = (l.map fun w => w.lane i).getD j 0 := fun j hj => by simp [hj]
    refine (lane_mux _ _ _ i).trans ?_
    rw [e 0 (by omega), e 1 (by omega), e 2 (by omega)]; rfl
  · have h0 := lt_of_lo hb (c := 2) rfl
    have e : ∀ j, j < l.length → (l.getD j default).lane i = (l.map fun w => w.lane i).getD j 0 := fun j hj => by simp [hj]
    refine (lane_tri _ _ i).trans ?_
    rw [e 0 (by omega), e 1 (by omega)]; rfl
  · exact f2
  · exact f2
/-! Values above 3 count as unknown. -/
theorem clean_0 (v : Nat) : clean v = 0 ↔ v = 0 := by unfold clean; split <;> omega
theorem clean_1 (v : Nat) : clean v = 1 ↔ v = 1 := by unfold clean; split <;> omega
theorem clean_3 (v : Nat) : clean v = 3 ↔ v = 3 := by unfold clean; split <;> omega
theorem clean_clean (v : Nat) : clean (clean v) = clean v := by unfold clean; split <;> simp_all
theorem rdN_clean (v : Nat) : rdN (clean v) = rdN v := by unfold clean rdN; split <;> omega
theorem notN_clean (v : Nat) : notN (clean v) = notN v := by unfold clean notN; split <;> split <;> (try split) <;> omega
theorem dec_clean {lo hi : Nat} (h : lo = 0 ∧ hi = 1 ∨ lo = 1 ∧ hi = 0) : ∀ (l : List Nat) (out : Nat), dec lo hi out (l.map clean) = dec lo hi out l
  | [], _ => rfl
  | v :: l, out => by
    rw [List.map_cons, dec, dec, dec_clean h l, dec_clean h l]
    rcases h with ⟨rfl, rfl⟩ | ⟨rfl, rfl⟩ <;> simp only [clean_0, clean_1]
theorem xorN_clean : ∀ (l : List Nat) (out : Nat), xorN out (l.map clean) = xorN out l
  | [], _ => rfl
  | v :: l, out => by
    rw [List.map_cons, xorN, xorN, xorN_clean l, xorN_clean l]
    simp only [clean_0, clean_1]
theorem muxN_clean (s a b : Nat) : muxN (clean s) (clean a) (clean b) = muxN s a b := by
  unfold muxN
  simp only [clean_0, clean_1, rdN_clean]
  split
  · rfl
  split
  · rfl
  unfold clean rdN
  by_cases ha : 3 < a <;> by_cases hb : 3 < b <;> simp only [ha, hb, if_true, if_false] <;> (repeat' split) <;> omega
theorem triN_clean (s a : Nat) : triN (clean s) (clean a) = triN s a := by
  unfold triN
  simp only [clean_0, clean_1, rdN_clean]
theorem find_clean : ∀ l : List Nat, (l.map clean).find? (fun v => v != 3) = (l.find? fun v => v != 3).map clean
  | [] => rfl
  | v :: l => by
    rw [List.map_cons, List.find?_cons, List.find?_cons, find_clean l]
    by_cases h : v = 3
    · subst h; rfl
    · have h1 : (clean v != 3) = true := bne_iff_ne.2 fun e => h ((clean_3 v).1 e)
      have h2 : (v != 3) = true := bne_iff_ne.2 h
      rw [h1, h2]; rfl
theorem busN_clean (l : List Nat) : busN (l.map clean) = busN l := by
  unfold busN
  rw [find_clean]
  have e0 : 0 ∈ l.map clean ↔ 0 ∈ l := by simp [List.mem_map, clean_0]
  have e1 : 1 ∈ l.map clean ↔ 1 ∈ l := by simp [List.mem_map, clean_1]
  have e2 : (∃ u ∈ l.map clean, clean u = 2) ↔ ∃ u ∈ l, clean u = 2 := by
    exact ⟨fun ⟨u, hu, e⟩ => by
      obtain ⟨a, ha, rfl⟩ := List.mem_map.1 hu
      exact ⟨a, ha, by rwa [clean_clean] at e⟩, fun ⟨a, ha, e⟩ => ⟨clean a, List.mem_map.2 ⟨a, ha, rfl⟩, by rw [clean_clean, e]⟩⟩
  cases hf : l.find? (fun v => v != 3) with
  | none => rfl
  | some v =>
    simp only [Option.map_some, e0, e1, e2]
    have hv : v ∈ l := List.mem_of_find?_eq_some hf
    split
    · rfl
    · rename_i h
      unfold clean
      split
      · exfalso
        apply h
        refine .inr ⟨v, hv, ?_⟩
        unfold clean
        rw [if_pos (by assumption)]
      · rfl
theorem getD_clean (l : List Nat) (j : Nat) : (l.map clean).getD j 0 = clean (l.getD j 0) := by
  rw [List.getD_eq_getElem?_getD, List.getD_eq_getElem?_getD, List.getElem?_map]
  cases l[j]? <;> rfl
theorem logE_clean (k : Nat) (l : List Nat) : logE k (l.map clean) = logE k l := by
  unfold logE
  rw [List.length_map]
  split
  · rfl
  unfold gateN
  simp only [getD_clean, rdN_clean, notN_clean, dec_clean (.inl ⟨rfl, rfl⟩), dec_clean (.inr ⟨rfl, rfl⟩), xorN_clean, muxN_clean, triN_clean, busN_clean]
end Go.Proofs.YtmbgmfenlededaaGreatDoor
