/- Netlists: contracts, names. Conditions: none. -/
import Derived.Test.YtcdfifbabhfknaaDoorX2
namespace Go.Proofs.YtcdfifbabhfknaaDoor
open Go

theorem comb_c (k : Int) : PureC Tryd.prog gl0 29 [.int .u8 k] (.bool (decide (1 ≤ k ∧ k ≤ 13))) := by
  refine PureC.of_W 2 ok29 rfl ?_
  repeat' (first | refine BrB.of (fun _ => ?_) (fun _ => ?_) | (intro _) | simp [*, i29, x29])
theorem rcomb_c (k : Int) : PureC Tryd.prog gl0 34 [.int .u8 k] (.bool (decide (1 ≤ k ∧ k ≤ 13))) := by
  refine PureC.of_W 2 ok34 rfl ?_
  repeat' (first | refine BrB.of (fun _ => ?_) (fun _ => ?_) | (intro _) | simp [*, i34, x34])

theorem idxb_c (s : List UInt8) (c : Int) (h : 0 ≤ c ∧ c < 256) : PureC Tryd.prog gl0 97 [.str s, .int .u8 c] (.int .i64 (idxOf c s 0)) := by
  refine PureC.of_W 2 ok97 rfl ?_
  simp [i97, x97, nop, h]
theorem idxb2_c (s : List UInt8) (c : Int) (h : 0 ≤ c ∧ c < 256) : PureC Tryd.prog gl0 90 [.str s, .int .u8 c] (.int .i64 (idxOf c s 0)) := by
  refine PureC.of_W 2 ok90 rfl ?_
  simp [i90, x90]
  refine ICall.pure (idxb_c s c h) rfl ?_
  simp
theorem wrap_u8 {x : Int} (h0 : 0 ≤ x) (h1 : x < 256) : IntKind.u8.wrap x = x := by
  simp [IntKind.wrap, IntKind.bits, IntKind.signed]; omega
theorem idxr_c (s : List UInt8) (r : Int) (h : 0 ≤ r ∧ r < 128) : PureC Tryd.prog gl0 80 [.str s, .int .i32 r] (.int .i64 (idxOf r s 0)) := by
  have hw : IntKind.u8.wrap r = r := wrap_u8 h.1 (by omega)
  refine PureC.of_W 2 ok80 rfl ?_
  simp [i80, x80, h, hw]
  refine ICall.pure (idxb2_c s r ⟨h.1, by omega⟩) rfl ?_
  simp
theorem crune_c (s : List UInt8) (r : Int) (h : 0 ≤ r ∧ r < 128) : PureC Tryd.prog gl0 55 [.str s, .int .i32 r] (.bool (decide (0 ≤ idxOf r s 0))) := by
  refine PureC.of_W 2 ok55 rfl ?_
  simp [i55, x55]
  refine ICall.pure (idxr_c s r h) rfl ?_
  simp

def badR (r : Int) : Bool := decide (r ≤ 32) || decide (126 < r) || decide (0 ≤ idxOf r [40, 41, 61, 44, 35] 0)
theorem bad_c (r : Int) : PureC Tryd.prog gl0 54 [.int .i32 r] (.bool (badR r)) := by
  refine PureC.of_W 2 ok54 rfl ?_
  by_cases h1 : r ≤ 32
  · simp [i54, x54, h1, badR]
  · by_cases h2 : 126 < r
    · simp [i54, x54, h1, h2, badR]
    · simp [i54, x54, h1, h2, badR]
      refine ICall.pure (crune_c _ r ⟨by omega, by omega⟩) rfl ?_
      simp

def idxBadF : Nat → List UInt8 → Nat → Int
  | 0, _, _ => -1
  | n + 1, s, pos => if pos < s.length then (if badR (Utf8.decode ⟨s.toArray⟩ pos).1 = true then (pos : Int) else idxBadF n s (pos + (Utf8.decode ⟨s.toArray⟩ pos).2)) else -1

theorem dec_byte (s : List UInt8) (pos : Nat) (h : pos < s.length) : (⟨s.toArray⟩ : ByteArray).get! pos = s[pos] := by
  simp [ByteArray.get!, h]
theorem dec_lt (s : List UInt8) (pos : Nat) (h : pos < s.length) (hb : s[pos].toNat < 128) : Utf8.decode ⟨s.toArray⟩ pos = (s[pos].toNat, 1) := by
  have := dec_byte s pos h
  simp only [Utf8.decode, Nat.add_zero, this]
  rw [if_pos (by simpa using hb)]
theorem dec_pos (s : List UInt8) (pos : Nat) : 1 ≤ (Utf8.decode ⟨s.toArray⟩ pos).2 := by
  simp only [Utf8.decode]
  repeat' split
  all_goals simp
theorem dec_ge (s : List UInt8) (pos : Nat) (h : pos < s.length) (hb : 128 ≤ s[pos].toNat) : 126 < (Utf8.decode ⟨s.toArray⟩ pos).1 := by
  have hby := dec_byte s pos h
  simp only [Utf8.decode, Nat.add_zero, hby]
  rw [if_neg (by simpa using hb)]
  have : Utf8.runeError = 65533 := rfl
  repeat' split
  all_goals simp_all
  all_goals omega

theorem indexf_c (s : List UInt8) : PureC Tryd.prog gl0 94 [.str s, .fn 54 [] [], .bool true] (.int .i64 (idxBadF (s.length + 1) s 0)) := by
  obtain ⟨r, hr⟩ : ∃ r, idxBadF (s.length + 1) s 0 = r := ⟨_, rfl⟩
  rw [hr]
  refine PureC.of_W 2 ok94 rfl ?_
  simp [i94, x94, nop]
  intro gf
  refine LoopP.of (X := Nat × Nat) (fun x => [(0, .str s), (1, .fn 54 [] []), (2, .bool true), (10, .own 10 (gf 10))]) (fun x => [(10, .siter (gf 10) s x.1)])
    (fun x => s.length < x.1 + x.2 ∧ idxBadF x.2 s x.1 = r) (fun x => x.2) (0, s.length + 1) ⟨by simp, hr⟩ (by simp) (by simp) ?_
  rintro ⟨pos, fuel⟩ ⟨h2, h3⟩
  dsimp only at h2 h3
  cases fuel with
  | zero =>
    have hp : ¬ pos < s.length := by omega
    simp [nop, hp, ← h3, idxBadF]
  | succ fuel =>
    have hd := dec_pos s pos
    by_cases hp : pos < s.length
    · simp [nop, hp]
      refine ICall.pure (bad_c _) rfl ?_
      simp
      refine BrB.of (fun hb => ?_) (fun hb => ?_)
      · simp [← h3, idxBadF, hp, hb]
      · simp
        refine ⟨_, fuel, ⟨?_, ?_⟩, rfl, by omega⟩
        · omega
        · rw [← h3]; simp [idxBadF, hp, hb]
    · simp [nop, hp, ← h3, idxBadF]

theorem indexF_c (s : List UInt8) : PureC Tryd.prog gl0 81 [.str s, .fn 54 [] []] (.int .i64 (idxBadF (s.length + 1) s 0)) := by
  refine PureC.of_W 2 ok81 rfl ?_
  simp [i81, x81, nop]
  refine ICall.pure (indexf_c s) rfl ?_
  simp
theorem containsF_c (s : List UInt8) : PureC Tryd.prog gl0 56 [.str s, .fn 54 [] []] (.bool (decide (0 ≤ idxBadF (s.length + 1) s 0))) := by
  refine PureC.of_W 2 ok56 rfl ?_
  simp [i56, x56, nop]
  refine ICall.pure (indexF_c s) rfl ?_
  simp
def nameOk (s : List UInt8) : Bool := decide (s ≠ []) && decide (s.length ≤ 32) && !(decide (0 ≤ idxBadF (s.length + 1) s 0))
def okByte (b : UInt8) : Bool := !(decide (b.toNat ≤ 32) || decide (126 < b.toNat) || decide (b.toNat = 40) || decide (b.toNat = 41) || decide (b.toNat = 61) || decide (b.toNat = 44) || decide (b.toNat = 35))
theorem badR_byte (b : UInt8) : badR (b.toNat : Int) = !(okByte b) := by
  unfold badR okByte
  generalize b.toNat = n
  by_cases h1 : n = 40
  · subst h1; rfl
  by_cases h2 : n = 41
  · subst h2; rfl
  by_cases h3 : n = 61
  · subst h3; rfl
  by_cases h4 : n = 44
  · subst h4; rfl
  by_cases h5 : n = 35
  · subst h5; rfl
  have e : idxOf (n : Int) [40, 41, 61, 44, 35] 0 = -1 := by
    have q1 : ¬ 40 = (n : Int) := by omega
    have q2 : ¬ 41 = (n : Int) := by omega
    have q3 : ¬ 61 = (n : Int) := by omega
    have q4 : ¬ 44 = (n : Int) := by omega
    have q5 : ¬ 35 = (n : Int) := by omega
    simp [idxOf, q1, q2, q3, q4, q5]
  rw [e]
  simp [h1, h2, h3, h4, h5]
theorem idxBad_drop (s : List UInt8) : ∀ (n pos : Nat), s.length < pos + n → decide (0 ≤ idxBadF n s pos) = !((s.drop pos).all okByte)
  | 0, pos, h => by
    rw [List.drop_eq_nil_of_le (by omega)]; simp [idxBadF]
  | n + 1, pos, h => by
    have hd := dec_pos s pos
    unfold idxBadF
    by_cases hp : pos < s.length
    · rw [if_pos hp, List.drop_eq_getElem_cons hp]
      by_cases hb : s[pos].toNat < 128
      · rw [dec_lt s pos hp hb]
        have hz := badR_byte s[pos]
        rw [hz]
        cases h0 : okByte s[pos] with
        | true => simp only [List.all_cons, h0]; simpa using idxBad_drop s n (pos + 1) (by omega)
        | false => simp only [Bool.not_false, if_pos, List.all_cons, h0]; simp
      · have h1 := dec_ge s pos hp (by omega)
        have h2 : badR ((Utf8.decode ⟨s.toArray⟩ pos).1 : Int) = true := by
          simp [badR]; omega
        have h3 : okByte s[pos] = false := by simp [okByte]; omega
        rw [if_pos h2]; simp only [List.all_cons, h3]; simp
    · rw [if_neg hp, List.drop_eq_nil_of_le (by omega)]; simp
theorem isName_c (s : List UInt8) : PureC Tryd.prog gl0 32 [.str s] (.bool (nameOk s)) := by
  have hc := containsF_c s
  refine PureC.of_W 2 ok32 rfl ?_
  unfold nameOk
  generalize decide (0 ≤ idxBadF (s.length + 1) s 0) = q at *
  simp [i32, x32, nop]
  refine BrB.of (fun h1 => ?_) (fun h1 => ?_)
  · simp [h1]
  · simp [h1]
    refine BrB.of (fun h2 => ?_) (fun h2 => ?_)
    · simp [h2]
      refine ICall.pure hc rfl ?_
      simp
    · simp [h2]
theorem drop_cons' {α : Type} {s : List α} {i : Nat} (d : α) (h : i < s.length) : s.drop i = s.getD i d :: s.drop (i + 1) := by
  rw [List.drop_eq_getElem_cons h]; simp [h]
theorem risName_c (s : List UInt8) (hs : s.length < 9000000000000000000) : PureC Tryd.prog gl0 33 [.str s] (.bool (decide (s ≠ []) && decide (s.length ≤ 32) && s.all okByte)) := by
  refine PureC.of_W 2 ok33 rfl ?_
  obtain ⟨q, hq⟩ : ∃ r, s.all okByte = r := ⟨_, rfl⟩
  rw [hq]
  simp [i33, x33, nop]
  refine LoopP.of (X := Nat) (fun i => [(3, .int .i64 (i : Int)), (2, V.bool false), (0, .str s)]) (fun _ => [])
    (fun i => i ≤ s.length ∧ (s.drop i).all okByte = q) (fun i => s.length - i) 0 ⟨by simp, by simpa using hq⟩ (by simp) (by simp) ?_
  rintro i ⟨h2, h3⟩
  simp
  refine BrB.of (fun h1 => ?_) (fun h1 => ?_)
  · have h1' : i < s.length := of_decide_eq_true h1
    have hw : IntKind.i64.wrap ((i : Int) + 1) = ((i + 1 : Nat) : Int) := by rw [wrap_i64] <;> omega
    rw [List.drop_eq_getElem_cons h1'] at h3
    simp [h1, h1']
    generalize s[i] = b at *
    have hk : okByte b = false → q = false := fun h => by rw [← h3]; simp [h]
    have hx : okByte b = true → ∃ x', (x' ≤ s.length ∧ (List.drop x' s).all okByte = q) ∧ (i : Int) + 1 = (x' : Int) ∧ s.length - x' < s.length - i := fun h => ⟨i + 1, ⟨h1', by rw [← h3]; simp [h]⟩, rfl, by omega⟩
    clear h3
    repeat' (first | refine BrB.of (fun _ => ?_) (fun _ => ?_) | (intro _) | simp [*])
    all_goals first | exact hx (by simp [okByte, *]) | (rw [hk]; simp [okByte, *]; done)
  · have h1' : i = s.length := by have := of_decide_eq_false h1; omega
    subst h1'
    simp at h3
    simp [← h3]
    repeat' (first | refine BrB.of (fun _ => ?_) (fun _ => ?_) | (intro _) | simp [*])
    all_goals (cases s <;> simp_all)

def findL (x : List UInt8) : List (List UInt8) → Nat → Int
  | [], _ => -1
  | y :: r, i => if x = y then (i : Int) else findL x r (i + 1)
theorem pureL_map {α : Type} {f : α → V} (hf : ∀ x, (f x).pure = true) : ∀ l : List α, V.pureL (l.map f) = true
  | [] => rfl
  | x :: l => by simp [V.pureL, hf x, pureL_map hf l]
@[simp] theorem pureL_str (l : List (List UInt8)) : V.pureL (l.map .str) = true := pureL_map (fun _ => rfl) l
theorem index_c (x : List UInt8) (l : List (List UInt8)) (hl : l.length < 1000000000000) : PureC Tryd.prog gl0 53 [.sl (l.map .str) none, .str x] (.int .i64 (findL x l 0)) := by
  obtain ⟨q, hq⟩ : ∃ r, findL x l 0 = r := ⟨_, rfl⟩
  rw [hq]
  refine PureC.of_W 2 ok53 rfl ?_
  simp [i53, x53, nop]
  refine LoopP.of (X := Nat) (fun i => [(8, .int .i64 (i : Int)), (7, .int .i64 (l.length : Int)), (0, .sl (l.map .str) none), (1, .str x)]) (fun _ => [])
    (fun i => i ≤ l.length ∧ findL x (l.drop i) i = q) (fun i => l.length - i) 0 ⟨by simp, by simpa using hq⟩ (by simp) (by simp) ?_
  rintro i ⟨h2, h3⟩
  simp
  refine BrB.of (fun h1 => ?_) (fun h1 => ?_)
  · have h1' : i < l.length := of_decide_eq_true h1
    have hw : IntKind.i64.wrap ((i : Int) + 1) = ((i + 1 : Nat) : Int) := by rw [wrap_i64] <;> omega
    rw [List.drop_eq_getElem_cons h1'] at h3
    simp only [findL] at h3
    simp [h1, h1']
    refine BrB.of (fun h4 => ?_) (fun h4 => ?_)
    · rw [if_pos (of_decide_eq_true h4)] at h3
      simp [h3]
    · rw [if_neg (of_decide_eq_false h4)] at h3
      simp [hw]
      exact ⟨i + 1, ⟨h1', h3⟩, rfl, by omega⟩
  · have h1' : i = l.length := by have := of_decide_eq_false h1; omega
    subst h1'
    simp [findL] at h3
    simp [h3]
theorem find_c (x : List UInt8) (l : List (List UInt8)) (hl : l.length < 1000000000000) : PureC Tryd.prog gl0 31 [.agg [.nil, .sl (l.map .str) none, .nil, .nil], .str x] (.tup [.int .i64 (max (findL x l 0) 0), .bool (decide (0 ≤ findL x l 0))]) := by
  refine PureC.of_W 2 ok31 rfl ?_
  simp [i31, x31, nop]
  intro gf
  refine ICall.pure (index_c x l hl) (by simp) ?_
  simp
theorem nameOk_eq (s : List UInt8) : nameOk s = (decide (s ≠ []) && decide (s.length ≤ 32) && s.all okByte) := by
  have := idxBad_drop s (s.length + 1) 0 (by omega)
  unfold nameOk
  rw [this]; simp
/-- The first place of x below n, sought from above; else r. -/
def findR (x : List UInt8) (l : List (List UInt8)) : Nat → Int → Int
  | 0, r => r
  | n + 1, r => findR x l n (if l[n]? = some x then (n : Int) else r)
theorem findL_snoc (x y : List UInt8) : ∀ (l : List (List UInt8)) (i : Nat), findL x (l ++ [y]) i = if 0 ≤ findL x l i then findL x l i else if x = y then ((i + l.length : Nat) : Int) else -1
  | [], i => by simp [findL]
  | z :: l, i => by
    by_cases h : x = z
    · simp [findL, h]
    · have := findL_snoc x y l (i + 1)
      simp only [List.cons_append, findL, h, if_false, this, List.length_cons]
      rw [show i + 1 + l.length = i + (l.length + 1) by omega]
theorem findR_eq (x : List UInt8) (l : List (List UInt8)) : ∀ (n : Nat) (r : Int), n ≤ l.length → findR x l n r = if 0 ≤ findL x (l.take n) 0 then findL x (l.take n) 0 else r
  | 0, r, h => by simp [findR, findL]
  | n + 1, r, h => by
    have hn : n < l.length := h
    rw [findR, findR_eq x l n _ (by omega), List.take_succ_eq_append_getElem hn, findL_snoc]
    have hl : (l.take n).length = n := by rw [List.length_take]; omega
    rw [hl, List.getElem?_eq_getElem hn]
    by_cases h0 : 0 ≤ findL x (l.take n) 0
    · simp [h0]
    · by_cases h1 : x = l[n]
      · simp [h0, ← h1]
      · have h2 : ¬ l[n] = x := fun q => h1 q.symm
        simp [h0, h1, h2]
theorem findL_low (x : List UInt8) : ∀ (l : List (List UInt8)) (i : Nat), -1 ≤ findL x l i
  | [], i => by simp [findL]
  | z :: l, i => by
    have := findL_low x l (i + 1)
    simp only [findL]; split <;> omega
theorem findR_all (x : List UInt8) (l : List (List UInt8)) : findR x l l.length (-1) = findL x l 0 := by
  rw [findR_eq x l _ _ (by omega), List.take_length]
  have := findL_low x l 0
  split <;> omega
theorem names9_c (s : List UInt8) (k : Int) (l : List (List UInt8)) : PureC Tryd.prog gl0 9 [.str s, .int .u8 k, .sl (l.map .str) none] (.bool true) := by
  refine PureC.of_W 2 ok9 rfl ?_
  simp [i9, x9, nop]
  refine BrB.of (fun h1 => ?_) (fun h1 => ?_)
  · simp [h1]
    refine ICall.pure lives_c rfl ?_
    simp
  · simp [h1]
    refine BrB.of (fun h2 => ?_) (fun h2 => ?_)
    · simp
      refine ICall.pure lives_c rfl ?_
      simp
    · have h1' := of_decide_eq_false h1
      have h2' := of_decide_eq_false h2
      simp
      refine ICall.pure (find_c s l (by omega)) (by simp) ?_
      have hw0 : IntKind.i64.wrap ((l.length : Int) - 1) = (l.length : Int) - 1 := by rw [wrap_i64] <;> omega
      simp [hw0]
      have hn := nameOk_eq s
      have hr := findR_all s l
      generalize findL s l 0 = q at *
      refine LoopP.of (X := Nat × Int) (fun x => [(10, .int .i64 ((x.1 : Int) - 1)), (9, .int .i64 x.2), (8, .bool (decide (0 ≤ q))), (7, .int .i64 (max q 0)), (6, .bool false), (0, .str s), (1, .int .u8 k), (2, .sl (l.map .str) none)]) (fun _ => [])
        (fun x => x.1 ≤ l.length ∧ findR s l x.1 x.2 = q) (fun x => x.1) (l.length, -1) ⟨by simp, hr⟩ (by simp) (by simp) ?_
      rintro ⟨n, r⟩ ⟨h3, h4⟩
      dsimp only at h3 h4
      cases n with
      | zero =>
        simp [findR] at h4
        simp [h4]
        refine ICall.pure (isName_c s) (by simp) ?_
        simp
        refine ICall.pure (risName_c s (by omega)) (by simp) ?_
        simp [hn]
        refine ICall.pure (comb_c k) (by simp) ?_
        simp
        refine ICall.pure (rcomb_c k) (by simp) ?_
        simp
        refine ICall.pure lives_c (by simp) ?_
        simp
      | succ n =>
        have hw1 : IntKind.i64.wrap ((n : Int) - 1) = (n : Int) - 1 := by rw [wrap_i64] <;> omega
        have hn : n < l.length := by omega
        simp [findR, hn] at h4
        simp [hn]
        refine BrB.of (fun h5 => ?_) (fun h5 => ?_)
        · rw [if_pos (of_decide_eq_true h5)] at h4
          simp [hw1]
          exact ⟨n, _, ⟨by omega, h4⟩, ⟨rfl, rfl⟩, by omega⟩
        · rw [if_neg (of_decide_eq_false h5)] at h4
          simp [hw1]
          exact ⟨n, _, ⟨by omega, h4⟩, ⟨rfl, rfl⟩, by omega⟩
end Go.Proofs.YtcdfifbabhfknaaDoor
