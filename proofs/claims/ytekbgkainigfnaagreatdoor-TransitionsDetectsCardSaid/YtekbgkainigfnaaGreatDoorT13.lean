/- Transitions: slow lines against stuck ones, when the values are known. No program stands in it. Conditions: none. -/
import Derived.Test.YtekbgkainigfnaaGreatDoorJ7
import Derived.Test.YtekbgkainigfnaaGreatDoorT8
import Derived.Test.YtekbgkainigfnaaGreatDoorX3
import Derived.Test.YtekbgkainigfnaaGreatDoorXL6
namespace Go.Proofs.YtekbgkainigfnaaGreatDoor
open Go
theorem dec1 {lo hi : Nat} (h : lo = 0 ∧ hi = 1 ∨ lo = 1 ∧ hi = 0) : ∀ (l : List Nat) (out : Nat), (∀ v ∈ l, v ≤ 1) → out ≤ 1 → dec lo hi out l ≤ 1
  | [], out, _, h1 => h1
  | v :: l, out, hl, h1 => by
    have hv := hl v List.mem_cons_self
    rw [dec]
    split
    · omega
    split
    · exact dec1 h l out (fun x hx => hl x (List.mem_cons_of_mem _ hx)) h1
    · omega
theorem xor1 : ∀ (l : List Nat) (out : Nat), (∀ v ∈ l, v ≤ 1) → out ≤ 1 → xorN out l ≤ 1
  | [], out, _, h1 => h1
  | v :: l, out, hl, h1 => by
    have hv := hl v List.mem_cons_self
    have hr : ∀ x ∈ l, x ≤ 1 := fun x hx => hl x (List.mem_cons_of_mem _ hx)
    rw [xorN]
    split
    · exact xor1 l out hr h1
    split
    · exact xor1 l (1 - out) hr (by omega)
    · omega
theorem not1 {v : Nat} (h : v ≤ 1) : notN v ≤ 1 := by unfold notN; rw [if_pos h]; omega
theorem getD1 {l : List Nat} (hl : ∀ v ∈ l, v ≤ 1) (i : Nat) : l.getD i 0 ≤ 1 := by
  by_cases h : i < l.length
  · rw [List.getD_eq_getElem?_getD, List.getElem?_eq_getElem h]; exact hl _ (List.getElem_mem h)
  · rw [List.getD_eq_getElem?_getD, List.getElem?_eq_none (by omega)]; simp
theorem gate1 {k : Nat} (h0 : 1 ≤ k) (h1 : k ≤ 11) {l : List Nat} (hl : ∀ v ∈ l, v ≤ 1) : gateN k l ≤ 1 := by
  have hc : k = 1 ∨ k = 2 ∨ k = 3 ∨ k = 4 ∨ k = 5 ∨ k = 6 ∨ k = 7 ∨ k = 8 ∨ k = 9 ∨ k = 10 ∨ k = 11 := by omega
  have g0 := getD1 hl 0
  have g1 := getD1 hl 1
  have g2 := getD1 hl 2
  rcases hc with rfl | rfl | rfl | rfl | rfl | rfl | rfl | rfl | rfl | rfl | rfl
  · simp [gateN]
  · simp [gateN]
  · show rdN (l.getD 0 0) ≤ 1
    unfold rdN; omega
  · exact not1 g0
  · exact dec1 (.inl ⟨rfl, rfl⟩) l 1 hl (by omega)
  · exact not1 (dec1 (.inl ⟨rfl, rfl⟩) l 1 hl (by omega))
  · exact dec1 (.inr ⟨rfl, rfl⟩) l 0 hl (by omega)
  · exact not1 (dec1 (.inr ⟨rfl, rfl⟩) l 0 hl (by omega))
  · exact xor1 l 0 hl (by omega)
  · exact not1 (xor1 l 0 hl (by omega))
  · show muxN (l.getD 0 0) (l.getD 1 0) (l.getD 2 0) ≤ 1
    unfold muxN rdN
    split
    · omega
    split
    · omega
    · omega
theorem logE1 {k : Int} (h0 : 1 ≤ k) (h1 : k ≤ 11) {l : List Nat} (hw : widB k l.length = true) (hl : ∀ v ∈ l, v ≤ 1) : logE k.toNat l ≤ 1 := by
  obtain ⟨m, rfl⟩ : ∃ m : Nat, k = (m : Int) := ⟨k.toNat, by omega⟩
  simp only [widB, Bool.and_eq_true, decide_eq_true_eq] at hw
  unfold logE
  rw [Int.toNat_natCast, if_neg (by omega)]
  exact gate1 (by omega) (by omega) hl
/-- No node of kind Tri or Bus. -/
def Ci.plain (c : Ci) : Prop := ∀ n, n < c.n.length → combC c n = true → 1 ≤ (c.nd n).k ∧ (c.nd n).k ≤ 11 ∧ widB (c.nd n).k (c.nd n).i.length = true
theorem evl1 {c : Ci} (hk : c.plain) : ∀ (L : List Nat) (f : Nat → Nat), (∀ n ∈ L, n < c.n.length) → (∀ i, f i ≤ 1) → ∀ i, evl (nevN c) (combC c) L f i ≤ 1
  | [], _, _, h, i => h i
  | m :: L, f, hL, h, i => by
    rw [evl]
    refine evl1 hk L _ (fun n hn => hL n (List.mem_cons_of_mem _ hn)) (fun j => ?_) i
    split
    · rename_i hm
      by_cases hj : j = m
      · subst hj
        rw [upd1_same]
        obtain ⟨h1, h2, h3⟩ := hk j (hL j List.mem_cons_self) hm
        refine logE1 h1 h2 ?_ fun v hv => ?_
        · rw [g_comb hm]; simpa using h3
        · obtain ⟨x, -, rfl⟩ := List.mem_map.1 hv; exact h x
      · rw [upd1_ne _ _ hj]; exact h j
    · exact h j
theorem put1 : ∀ (ns vs : List Nat) (f : Nat → Nat), (∀ v ∈ vs, v ≤ 1) → (∀ i, f i ≤ 1) → ∀ i, put ns vs f i ≤ 1
  | [], _, _, _, h, i => h i
  | _ :: _, [], _, _, h, i => h i
  | n :: ns, v :: vs, f, hv, h, i => by
    rw [put]
    refine put1 ns vs _ (fun x hx => hv x (List.mem_cons_of_mem _ hx)) (fun j => ?_) i
    by_cases hj : j = n
    · subst hj; rw [upd1_same]; exact hv v List.mem_cons_self
    · rw [upd1_ne _ _ hj]; exact h j
/-- A pattern of known values. -/
def Pt.kn (p : Pt) : Prop := (∀ x ∈ p.i, x ≤ 1) ∧ ∀ x ∈ p.s, x ≤ 1
theorem net1 {c : Ci} (hg : c.good) (hk : c.plain) {p : Pt} (hp : p.kn) (n : Nat) : netN c p n ≤ 1 :=
  evl1 hk _ _ hg.ord.r.lt (put1 _ _ _ hp.2 (put1 _ _ _ hp.1 fun _ => by omega)) n
/-- Contradictions of a list with itself. -/
theorem cons_self (a : List Nat) : cons a a = [] := by
  unfold cons conL
  rw [List.filter_eq_nil_iff]
  intro i _
  simp [conB]
theorem seen_self (O S : List Nat) : seenB O S O S = false := by unfold seenB; rw [cons_self, cons_self]; rfl
theorem clean_id {v : Nat} (h : v ≤ 3) : clean v = v := by unfold clean; rw [if_neg (by omega)]
theorem net3 {c : Ci} {p : Pt} (hp : p.fit c) (n : Nat) : netN c p n ≤ 3 := by
  rw [netN_M]
  exact evlM_le (fun _ _ h => h) _ _ (ini_le hp) n
theorem obsMO_same {c : Ci} (hg : c.good) {M : Nat → Nat} {p : Pt} (hp : p.fit c) (hM : ∀ n, n < c.n.length → M n = netN c p n) : obsMO c M = obsO c (netN c p) := by
  unfold obsMO obsO
  refine List.map_congr_left fun x hx => ?_
  have h := hg.o hx
  rw [hM _ (by omega), clean_id (net3 hp _)]
theorem obsMS_same {c : Ci} (hg : c.good) {M : Nat → Nat} {Q : Nat → Nat → Nat → Nat} {p : Pt} (hp : p.fit c) (hM : ∀ n, n < c.n.length → M n = netN c p n)
    (hQ : ∀ n, n < c.n.length → ∀ k (hk : k < (c.nd n).i.length), Q n k (netN c p ((c.nd n).i[k]).toNat) = netN c p ((c.nd n).i[k]).toNat) : obsMS c Q M = obsS c (netN c p) := by
  unfold obsMS obsS
  refine List.map_congr_left fun n hn => ?_
  obtain ⟨h, x, hx, h0, h1, -⟩ := nd_dff hg hn
  have hnd : (c.nd n).i = [x] := by rw [c.nd_get h]; exact hx
  have hq := hQ n h 0 (by rw [hnd]; simp)
  have hx2 := hM x.toNat (by omega)
  have h3 := net3 hp x.toNat
  unfold nxtM nxtN
  have hr : rdsM c Q n M = [netN c p x.toNat] := by
    unfold rdsM
    simp only [hnd] at hq ⊢
    simp only [List.getElem_cons_zero] at hq
    simp [hx2, hq]
  rw [hr, hnd]
  simp only [List.getD_cons_zero]
  rw [clean_id h3]
  unfold rdN
  split <;> omega
/-- A replacement of a line that changes nothing shows nothing. -/
theorem unseen {c : Ci} (hg : c.good) {f : Ft} (_hf : f.ok c) {G : Nat → Nat} {b : Pt} (hb : b.fit c) (hG : G (netN c b (f.net c)) = netN c b (f.net c)) :
    seenB (obsO c (netN c b)) (obsS c (netN c b)) (obsMO c (netM c (atW f G) (atQ f G) b)) (obsMS c (atQ f G) (netM c (atW f G) (atQ f G) b)) = false := by
  have hW : ∀ n, n < c.n.length → atW f G n (netN c b n) = netN c b n := fun n hn => by
    unfold atW
    split
    · rename_i h
      have : f.net c = n := by unfold Ft.net; rw [if_pos h.1, h.2]
      rw [this] at hG; exact hG
    · rfl
  have hQ : ∀ n, n < c.n.length → ∀ k (hk : k < (c.nd n).i.length), atQ f G n k (netN c b ((c.nd n).i[k]).toNat) = netN c b ((c.nd n).i[k]).toNat := fun n hn k hk => by
    unfold atQ
    split
    · rename_i h
      obtain ⟨h1, rfl, h3⟩ := h
      have : f.net c = ((c.nd f.n).i[k]).toNat := by
        unfold Ft.net
        rw [if_neg h1, ← h3, Nat.add_sub_cancel, List.getD_eq_getElem?_getD, List.getElem?_eq_getElem hk]; rfl
      rw [this] at hG; exact hG
    · rfl
  have hM := netM_same hg hg.ord hW hQ
  rw [obsMO_same hg hb hM, obsMS_same hg hb hM hQ]
  exact seen_self _ _
/-- Does a pattern show a stuck line? -/
noncomputable def stkB (c : Ci) (f : Ft) (b : Pt) : Bool := seenB (obsO c (netN c b)) (obsS c (netN c b)) (obsMO c (netM c (atW f fun _ => f.v) (atQ f fun _ => f.v) b)) (obsMS c (atQ f fun _ => f.v) (netM c (atW f fun _ => f.v) (atQ f fun _ => f.v) b))
/-- The line stuck at the opposite value. -/
def Ft.opp (f : Ft) : Ft := { f with m := 0, v := notN f.v }
theorem and0 (w : Nat) : logE 5 [0, w] = 0 := by simp [logE, kLo, kHi, tLo, tHi, gateN, dec]
theorem or1 (w : Nat) : logE 7 [1, w] = 1 := by simp [logE, kLo, kHi, tLo, tHi, gateN, dec]
theorem and1 {w : Nat} (h : w ≤ 1) : logE 5 [1, w] = w := by
  have : w = 0 ∨ w = 1 := by omega
  rcases this with rfl | rfl <;> simp [logE, kLo, kHi, tLo, tHi, gateN, dec]
theorem or0 {w : Nat} (h : w ≤ 1) : logE 7 [0, w] = w := by
  have : w = 0 ∨ w = 1 := by omega
  rcases this with rfl | rfl <;> simp [logE, kLo, kHi, tLo, tHi, gateN, dec]
theorem pairB_known {c : Ci} (hg : c.good) (hk : c.plain) {f : Ft} (hf : f.ok c) {a b : Pt} (_ha : a.fit c) (hb : b.fit c) (hak : a.kn) (hbk : b.kn) :
    pairB c f a b = (decide (netN c a (f.net c) = notN f.v ∧ netN c b (f.net c) = f.v) && stkB c f.opp b) := by
  have h1 := net1 hg hk hak (f.net c)
  have h2 := net1 hg hk hbk (f.net c)
  have hv := hf.v
  have hvn : notN f.v = 1 - f.v := by unfold notN; rw [if_pos hv]
  by_cases hA : netN c a (f.net c) = f.v
  · have hl : (decide (netN c a (f.net c) = notN f.v ∧ netN c b (f.net c) = f.v)) = false := by
      rw [decide_eq_false_iff_not, hvn]; omega
    rw [hl, Bool.false_and]
    refine unseen hg hf hb ?_
    unfold slG
    rw [hA]
    have : f.v = 0 ∨ f.v = 1 := by omega
    rcases this with e | e
    · rw [e]; exact or0 h2
    · rw [e]; exact and1 h2
  · have hA' : netN c a (f.net c) = 1 - f.v := by omega
    have hG : slG c f a = fun _ => notN f.v := by
      funext w
      unfold slG
      rw [hA', hvn]
      have : f.v = 0 ∨ f.v = 1 := by omega
      rcases this with e | e
      · rw [e]; exact or1 w
      · rw [e]; exact and0 w
    have hP : pairB c f a b = stkB c f.opp b := by unfold pairB slM; rw [hG]; rfl
    rw [hP]
    by_cases hB : netN c b (f.net c) = f.v
    · rw [decide_eq_true ⟨by rw [hvn]; exact hA', hB⟩, Bool.true_and]
    · have hB' : netN c b (f.net c) = notN f.v := by omega
      rw [decide_eq_false fun h => hB h.2, Bool.false_and, ← hP]
      refine unseen hg hf hb ?_
      rw [hG, hB']
end Go.Proofs.YtekbgkainigfnaaGreatDoor
namespace Go.Proofs.YtekbgkainigfnaaGreatDoor
open Go
def NoTri (l : List Nd) : Prop := ∀ y ∈ l, y.k ≠ 12 ∧ y.k ≠ 13
theorem gateK (g : Gx) (l : List Nd) : (gateC false g l).1 ≠ 12 ∧ (gateC false g l).1 ≠ 13 := by
  unfold gateC gateKind
  dsimp only
  have h : g.k % 9 < 9 := Nat.mod_lt _ (by omega)
  rw [if_neg Bool.false_ne_true]
  generalize g.k % 9 = k at h
  split
  · dsimp only; omega
  split
  · simp
  split
  · simp
  rw [if_neg (by omega), if_neg (by omega)]
  split
  · dsimp only; omega
  · simp
theorem gatesK : ∀ (gs : List Gx) (l : List Nd), NoTri l → NoTri (gatesN false gs l)
  | [], _, h => h
  | g :: gs, l, h => by
    rw [gatesN]
    refine gatesK gs _ fun y hy => ?_
    rcases List.mem_append.1 hy with hy | hy
    · exact h y hy
    · obtain rfl := List.mem_singleton.1 hy
      obtain ⟨h1, h2⟩ := gateK g l
      exact ⟨by simp only [ndN]; omega, by simp only [ndN]; omega⟩
theorem st0K (x : Cx) (hm : x.mem = false) : NoTri x.st0 := by
  intro y hy
  unfold Cx.st0 Cx.st1 at hy
  rw [if_neg (by rw [hm]; exact Bool.false_ne_true), List.append_nil] at hy
  rcases List.mem_append.1 hy with h | h
  · rw [List.eq_of_mem_replicate h]; exact ⟨by simp [in0], by simp [in0]⟩
  · rw [List.eq_of_mem_replicate h]; exact ⟨by simp [dffN], by simp [dffN]⟩
theorem ns1K (x : Cx) (hb : x.bus = false) (hm : x.mem = false) : ∀ i, NoTri (x.ns1 i)
  | 0 => by
    show NoTri x.ns0
    unfold Cx.ns0
    rw [hb]
    exact gatesK _ _ (st0K x hm)
  | i + 1 => by
    have ih := ns1K x hb hm i
    intro y hy
    unfold Cx.ns1 at hy
    rcases List.mem_or_eq_of_mem_set hy with h | rfl
    · exact ih y h
    · dsimp only
      by_cases hl : x.n % 4 + 1 + i < (x.ns1 i).length
      · rw [List.getD_eq_getElem?_getD, List.getElem?_eq_getElem hl]
        exact ih _ (List.getElem_mem hl)
      · rw [List.getD_eq_getElem?_getD, List.getElem?_eq_none (by omega)]
        exact ⟨by simp [in0], by simp [in0]⟩
theorem ci_plain (x : Cx) (hb : x.bus = false) (hm : x.mem = false) : x.ci.plain := by
  intro n hn hc
  obtain ⟨h1, -⟩ := cxn_ok x
  have h2 := h1 n hn
  have h3 := ns1K x hb hm (x.f % 3) (x.ci.n[n]) (List.getElem_mem hn)
  unfold combC at hc
  rw [x.ci.nd_get hn] at hc ⊢
  simp only [combB, decide_eq_true_eq] at hc
  rcases h2 with h | h | h | h
  · omega
  · omega
  · rw [hm] at h; exact absurd h.1 Bool.false_ne_true
  · exact ⟨h.1, by omega, h.2.2.1⟩
def Cx.pl (x : Cx) : Cx := { x with bus := false }
theorem plain_c (x : Cx) (hx : x.ok) : PureC Tryz.prog gl0 23 [x.v] x.pl.nm.ci.v := by
  have hyok : x.pl.ok := ⟨hx.n, hx.f, hx.d0, hx.d1, hx.p0, hx.p1, hx.p2, hx.p3, hx.g, hx.o⟩
  have hof := circU_c x.pl hyok
  have hpu := cxU_pure x.pl
  generalize x.pl.nm.ci = c at hof ⊢
  have hcl : c.v.cells = [.sl (c.n.map Nd.v) none, .sl (c.s.map .str) none, .sl (c.m.map Md.v) none, .sl (ints c.o) none] := rfl
  simp only [Cx.pl] at hof hpu
  refine PureC.of_W 2 ok23 rfl ?_
  simp [i23, x23, Cx.v]
  intro gf1 gf2
  refine CallO.pure hof hpu ?_
  simp [mapRL_pure, nds_pure, mds_pure, ints_pure]
  try rfl
/-- Words of 64 bits. -/
def bvV (b : BitVec 64) : V := .int .u64 (b.toNat : Int)
theorem u64_wrap (x : Int) : IntKind.u64.wrap x = x % 18446744073709551616 := by
  simp [IntKind.wrap, IntKind.bits, IntKind.signed]
theorem bv_and (a b : BitVec 64) : bitsI .and .u64 (a.toNat : Int) (b.toNat : Int) = ((a &&& b).toNat : Int) := by
  show IntKind.u64.wrap ((BitVec.ofInt 64 (a.toNat : Int) &&& BitVec.ofInt 64 (b.toNat : Int)).toNat : Int) = _
  rw [BitVec.ofInt_natCast, BitVec.ofNat_toNat, BitVec.setWidth_eq, BitVec.ofInt_natCast, BitVec.ofNat_toNat, BitVec.setWidth_eq, u64_wrap]
  have := (a &&& b).isLt
  omega
theorem bv_shr (a : BitVec 64) (i : Nat) (h : i ≤ 64) : ((a.toNat : Int)).fdiv (2 ^ (min i 64)) = ((a >>> i).toNat : Int) := by
  rw [Nat.min_eq_left h, BitVec.toNat_ushiftRight, Nat.shiftRight_eq_div_pow]
  have e : (2 : Int) ^ i = ((2 ^ i : Nat) : Int) := by simp
  rw [e, ← Int.ofNat_fdiv]
theorem bv_lane (a : BitVec 64) (i : Nat) : ((a >>> i) &&& 1#64).toNat = if a.getLsbD i then 1 else 0 := by
  rw [BitVec.toNat_and, BitVec.toNat_ushiftRight]
  simp only [BitVec.getLsbD, Nat.testBit, BitVec.toNat_ofNat]
  rw [Nat.and_comm, show (1 % 2 ^ 64 : Nat) = 1 by decide]
  have : 1 &&& (a.toNat >>> i) = 0 ∨ 1 &&& (a.toNat >>> i) = 1 := by
    rw [Nat.and_comm, Nat.and_one_is_mod]; omega
  rcases this with h | h <;> simp [h]
/-- A bit of a word, and a run of bits. -/
def fb (b : BitVec 64) (k : Nat) : Nat := if b.getLsbD (k % 64) then 1 else 0
theorem fb_le (b : BitVec 64) (k : Nat) : fb b k ≤ 1 := by unfold fb; split <;> omega
theorem fb_and (b : BitVec 64) (k : Nat) : bitsI .and .u64 ((b >>> (k % 64)).toNat : Int) 1 = (fb b k : Int) := by
  have := bv_and (b >>> (k % 64)) 1#64
  rw [bv_lane] at this
  exact this
def fbL (b : BitVec 64) (s n : Nat) : List Nat := tab n fun j => fb b (s + j)
theorem fbL_succ (b : BitVec 64) (s n : Nat) : fbL b s (n + 1) = fbL b s n ++ [fb b (s + n)] := tab_snoc _ _
theorem fbL_len (b : BitVec 64) (s n : Nat) : (fbL b s n).length = n := by simp [fbL]
theorem fbL_le (b : BitVec 64) (s n : Nat) : ∀ x ∈ fbL b s n, x ≤ 1 := by
  intro x hx
  unfold fbL tab at hx
  obtain ⟨j, -, rfl⟩ := List.mem_map.1 hx
  exact fb_le _ _
/-- A pattern of known values. -/
def fullP (c : Ci) (b : BitVec 64) : Pt := ⟨fbL b 0 (cnt 0 c.n), fbL b (cnt 0 c.n) (cnt 14 c.n)⟩
theorem full_fit (c : Ci) (b : BitVec 64) : (fullP c b).fit c := ⟨fbL_len _ _ _, fbL_len _ _ _, fun x hx => by have := fbL_le _ _ _ x hx; omega, fun x hx => by have := fbL_le _ _ _ x hx; omega⟩
theorem full_kn (c : Ci) (b : BitVec 64) : (fullP c b).kn := ⟨fbL_le _ _ _, fbL_le _ _ _⟩
theorem full_c (c : Ci) (hl : c.n.length < 1000000) (b : BitVec 64) : PureC Tryz.prog gl0 24 [c.v, bvV b] (fullP c b).v := by
  refine PureC.wide (res := .agg [listV ((fullP c b).i.map u8V), listV ((fullP c b).s.map u8V)]) ?_ (AllLe.refl _) ?_
  rotate_left
  · exact VLe.agg ⟨listV_le _, listV_le _, trivial⟩
  have hcl : ∀ k : Int, ∀ i, cnt k (c.n.take i) ≤ i := fun k i => by
    have := cnt_le k (c.n.take i)
    have h2 : (c.n.take i).length ≤ i := by simp; omega
    omega
  refine PureC.of_W 2 ok24 rfl ?_
  simp [i24, x24, bvV]
  intro gf1 gf2 gf3
  generalize gf1 2 = g2
  generalize gf2 4 = g4
  generalize gf3 5 = g5
  refine LoopP.ofF (X := Nat × Option (Nat × List V)) (fun z => [(7, natV z.1), (6, .int .u64 ((cnt 0 (c.n.take z.1) : Nat) : Int)), (5, .ptr 5 g5 0 0), (4, .ptr 4 g4 0 0), (2, .ptr 2 g2 0 0), (1, .int .u64 (b.toNat : Int))])
    (fun z => [(5, .row g5 2 [.agg [accV 32 z.2, .nil]]), (4, .row g4 2 [.agg [.nil, .nil]]), (2, .row g2 4 [c.v])] ++ accH 32 1 z.2)
    (fun z => z.1 ≤ c.n.length ∧ accL z.2 = (fbL b 0 (cnt 0 (c.n.take z.1))).map u8V ∧ (z.2 = none ↔ cnt 0 (c.n.take z.1) = 0)) (fun z => c.n.length - z.1) (.done ⟨(0, none), ⟨by simp, by simp [accL, fbL, tab, cnt, ids], by simp [cnt, ids]⟩, by simp [natV, cnt, ids], by simp [accV, accH]⟩) ?_
  rintro ⟨i, acc⟩ ⟨q1, q2, q3⟩
  dsimp only at q1 q2 q3 ⊢
  simp [natV]
  refine BrB.of (fun hb => ?_) (fun hb => ?_)
  · have hi : i < c.n.length := of_decide_eq_true hb
    have hw := wrapN i (by omega)
    obtain ⟨y, hy⟩ : ∃ y, c.n[i] = y := ⟨_, rfl⟩
    have hc := cnt_take (k := 0) hi hy
    have hle := hcl 0 i
    obtain ⟨K, hK⟩ : ∃ K, cnt 0 (c.n.take i) = K := ⟨_, rfl⟩
    rw [hK] at hc q2 q3 hle ⊢
    by_cases hk : y.k = 0
    · rw [if_pos hk] at hc
      obtain ⟨P, hP⟩ : ∃ P, K % 64 = P := ⟨_, rfl⟩
      have hm : ((K : Int)).tmod 64 = (P : Int) := by rw [← hP]; rfl
      have hsh : ((b.toNat : Int)).fdiv (2 ^ (min P IntKind.u64.bits)) = ((b >>> P).toNat : Int) := bv_shr b _ (by omega)
      have hand := fb_and b K
      rw [hP] at hand
      generalize (b >>> P).toNat = QQ at hsh hand
      have hnx := congrArg (List.map u8V) (fbL_succ b 0 K)
      rw [List.map_append, ← q2, Nat.zero_add] at hnx
      have hfb := fb_le b K
      generalize fb b K = F at hand hnx hfb
      have hu : IntKind.u8.wrap (F : Int) = (F : Int) := wrap_u8 (by omega) (by omega)
      have hk1 : IntKind.u64.wrap ((K : Int) + 1) = ((K + 1 : Nat) : Int) := by rw [u64_wrap]; omega
      simp only [u8V, List.map_cons, List.map_nil] at hnx q2
      rcases acc with _ | ⟨ga, r⟩
      · simp [hi, hy, hk, hm, hsh, hand, hu, hk1, accV, accH]
        intro g1 g2'
        exact .done ⟨i + 1, some (g2' 32, [.int .u8 (F : Int)]), ⟨hi, by rw [hc]; exact hnx.symm, by rw [hc]; simp⟩, by simp [hw, hc], by simp, by omega⟩
      · simp [hi, hy, hk, hm, hsh, hand, hu, hk1, accV, accH]
        intro g1 g2'
        have hrl := congrArg List.length q2
        simp only [accL, List.length_map, fbL_len] at hrl
        refine ⟨by omega, .done ⟨i + 1, some (g2' 32, r ++ [.int .u8 (F : Int)]), ⟨hi, by rw [hc]; exact hnx.symm, by rw [hc]; simp⟩, by simp [hw, hc], by simp, by omega⟩⟩
    · rw [if_neg hk, Nat.add_zero] at hc
      simp [hi, hy, hk]
      exact .done ⟨i + 1, acc, ⟨hi, by rw [hc]; exact q2, by rw [hc]; exact q3⟩, by simp [hw, hc], by rcases acc with _ | ⟨g, r⟩ <;> simp [accV, accH], by omega⟩
  · have hi : i = c.n.length := by have := of_decide_eq_false hb; omega
    subst hi
    rw [List.take_length] at q2 q3 ⊢
    obtain ⟨A, hA⟩ : ∃ A, cnt 0 c.n = A := ⟨_, rfl⟩
    have hAl := cnt_le 0 c.n
    rw [hA] at q2 q3 hAl ⊢
    have hi0 : (fullP c b).i.map u8V = accL acc := by rw [q2, fullP, hA]
    have hs0 : (fullP c b).s = fbL b A (cnt 14 c.n) := by rw [fullP, hA]
    have hip : V.pureL ((fullP c b).i.map u8V) = true := u8s_pure _
    generalize (fullP c b).i.map u8V = I at hi0 hip ⊢
    generalize (fullP c b).s = S at hs0 ⊢
    obtain ⟨LI, hLI⟩ : ∃ LI, listV I = LI := ⟨_, rfl⟩
    rcases acc with _ | ⟨ga, r⟩
    case' none =>
      simp only [accL] at hi0
      subst hi0
      have hL2 : LI = .nil := hLI.symm
      simp [accV, accH]
      refine .mk [(6, .int .u64 (A : Int)), (5, .ptr 5 g5 0 0), (4, .ptr 4 g4 0 0), (2, .ptr 2 g2 0 0), (1, .int .u64 (b.toNat : Int))] [(5, .row g5 2 [.agg [.nil, .nil]]), (4, .row g4 2 [.agg [.nil, .nil]]), (2, .row g2 4 [c.v])] (by simp) (by simp) (.done ?_)
      simp
    case' some =>
      simp only [accL] at hi0 q2
      subst hi0
      have hA0 : A ≠ 0 := fun e => by have := q3.2 e; cases this
      have hL2 : LI = .sl I none := by
        have hl := congrArg List.length q2
        simp only [List.length_map, fbL_len] at hl
        rw [← hLI]
        cases I with
        | nil => simp at hl; omega
        | cons _ _ => rfl
      have hIt : List.take I.length I = I := List.take_of_length_le (Nat.le_refl _)
      simp [accV, accH]
      refine .mk [(6, .int .u64 (A : Int)), (5, .ptr 5 g5 0 0), (4, .ptr 4 g4 0 0), (2, .ptr 2 g2 0 0), (1, .int .u64 (b.toNat : Int))] [(5, .row g5 2 [.agg [.ref 32 ga 0 I.length none, .nil]]), (4, .row g4 2 [.agg [.nil, .nil]]), (2, .row g2 4 [c.v]), (32, .row ga 1 I)] (by simp) (by simp) (.frz (g := ga) (sz := 1) (es := I) 32 (by simp) hip (.done ?_))
      simp [fzF, fzH, fzV, fzf, fzp, Blk.fz, mapR_pure _ (ci_pure2 c), hIt]
    all_goals
      have hLp : LI.pure = true := by rw [hL2]; simp [V.pure, hip]
      refine LoopP.ofF (X := Nat × Option (Nat × List V)) (fun z => [(8, natV z.1), (6, .int .u64 ((A + cnt 14 (c.n.take z.1) : Nat) : Int)), (5, .ptr 5 g5 0 0), (4, .ptr 4 g4 0 0), (2, .ptr 2 g2 0 0), (1, .int .u64 (b.toNat : Int))])
        (fun z => [(5, .row g5 2 [.agg [LI, accV 59 z.2]]), (4, .row g4 2 [.agg [.nil, .nil]]), (2, .row g2 4 [c.v])] ++ accH 59 1 z.2)
        (fun z => z.1 ≤ c.n.length ∧ accL z.2 = (fbL b A (cnt 14 (c.n.take z.1))).map u8V ∧ (z.2 = none ↔ cnt 14 (c.n.take z.1) = 0)) (fun z => c.n.length - z.1) (.done ⟨(0, none), ⟨by simp, by simp [accL, fbL, tab, cnt, ids], by simp [cnt, ids]⟩, by simp [natV, cnt, ids], by simp [hL2, accV, accH]⟩) ?_
      clear hL2
      rintro ⟨i, acc⟩ ⟨p1, p2, p3⟩
      dsimp only at p1 p2 p3 ⊢
      simp [natV]
      refine BrB.of (fun hb => ?_) (fun hb => ?_)
      · have hi : i < c.n.length := of_decide_eq_true hb
        have hw := wrapN i (by omega)
        obtain ⟨y, hy⟩ : ∃ y, c.n[i] = y := ⟨_, rfl⟩
        have hc := cnt_take (k := 14) hi hy
        have hle := hcl 14 i
        obtain ⟨K, hK⟩ : ∃ K, cnt 14 (c.n.take i) = K := ⟨_, rfl⟩
        rw [hK] at hc p2 p3 hle ⊢
        by_cases hk : y.k = 14
        · rw [if_pos hk] at hc
          obtain ⟨B, hB⟩ : ∃ B, A + K = B := ⟨_, rfl⟩
          obtain ⟨P, hP⟩ : ∃ P, B % 64 = P := ⟨_, rfl⟩
          have hBi : (A : Int) + (K : Int) = (B : Int) := by omega
          have hm : ((B : Int)).tmod 64 = (P : Int) := by rw [← hP]; rfl
          have hsh : ((b.toNat : Int)).fdiv (2 ^ (min P IntKind.u64.bits)) = ((b >>> P).toNat : Int) := bv_shr b _ (by omega)
          have hand := fb_and b B
          rw [hP] at hand
          generalize (b >>> P).toNat = QQ at hsh hand
          have hnx := congrArg (List.map u8V) (fbL_succ b A K)
          rw [List.map_append, ← p2, hB] at hnx
          have hfb := fb_le b B
          generalize fb b B = F at hand hnx hfb
          have hu : IntKind.u8.wrap (F : Int) = (F : Int) := wrap_u8 (by omega) (by omega)
          have hk1 : IntKind.u64.wrap ((B : Int) + 1) = ((B + 1 : Nat) : Int) := by rw [u64_wrap]; omega
          have hB1 : A + (K + 1) = B + 1 := by omega
          have hB1i : (A : Int) + ((K : Int) + 1) = (B : Int) + 1 := by omega
          simp only [u8V, List.map_cons, List.map_nil] at hnx p2
          rcases acc with _ | ⟨gz, rz⟩
          · simp [hi, hy, hk, hm, hsh, hand, hu, hk1, hBi, accV, accH]
            intro g1 g2'
            exact .done ⟨i + 1, some (g2' 59, [.int .u8 (F : Int)]), ⟨hi, by rw [hc]; exact hnx.symm, by rw [hc]; simp⟩, by simp [hw, hc, hB1i], by simp, by omega⟩
          · simp [hi, hy, hk, hm, hsh, hand, hu, hk1, hBi, accV, accH]
            intro g1 g2'
            have hrl := congrArg List.length p2
            simp only [accL, List.length_map, fbL_len] at hrl
            refine ⟨by omega, .done ⟨i + 1, some (g2' 59, rz ++ [.int .u8 (F : Int)]), ⟨hi, by rw [hc]; exact hnx.symm, by rw [hc]; simp⟩, by simp [hw, hc, hB1i], by simp, by omega⟩⟩
        · rw [if_neg hk, Nat.add_zero] at hc
          simp [hi, hy, hk]
          exact .done ⟨i + 1, acc, ⟨hi, by rw [hc]; exact p2, by rw [hc]; exact p3⟩, by simp [hw, hc], by rcases acc with _ | ⟨g, r⟩ <;> simp [accV, accH], by omega⟩
      · have hi : i = c.n.length := by have := of_decide_eq_false hb; omega
        subst hi
        rw [List.take_length] at p2 p3
        rw [← hs0] at p2
        rw [hLI]
        rcases acc with _ | ⟨gz, rz⟩
        case' none =>
          simp only [accL] at p2
          rw [← p2]
          simp [accV, accH, listV]
          refine .mk [(5, .ptr 5 g5 0 0), (4, .ptr 4 g4 0 0)] [(5, .row g5 2 [.agg [LI, .nil]]), (4, .row g4 2 [.agg [.nil, .nil]])] (by simp) (by simp) (.done ?_)
          simp [mapR_pure _ hLp]
        case' some =>
          have hA0 : cnt 14 c.n ≠ 0 := fun e => by have := p3.2 e; cases this
          have hjp : V.pureL (S.map u8V) = true := u8s_pure _
          simp only [accL] at p2
          rw [← p2] at hjp ⊢
          have hL2 : listV rz = .sl rz none := by
            have hl := congrArg List.length p2
            rw [hs0] at hl
            simp only [List.length_map, fbL_len] at hl
            cases rz with
            | nil => simp at hl; omega
            | cons _ _ => rfl
          have hIt2 : List.take rz.length rz = rz := List.take_of_length_le (Nat.le_refl _)
          simp [accV, accH, hL2]
          refine .mk [(5, .ptr 5 g5 0 0), (4, .ptr 4 g4 0 0)] [(5, .row g5 2 [.agg [LI, .ref 59 gz 0 rz.length none]]), (4, .row g4 2 [.agg [.nil, .nil]]), (59, .row gz 1 rz)] (by simp) (by simp) (.frz (g := gz) (sz := 1) (es := rz) 59 (by simp) hjp (.done ?_))
          simp [fzF, fzH, fzV, fzf, fzp, Blk.fz, mapR_pure _ hLp, hIt2, mapRL_pure, hjp]
theorem opp_ok {c : Ci} {f : Ft} (hf : f.ok c) : f.opp.ok c := ⟨by simp [Ft.opp], hf.n, hf.q, not1 hf.v, hf.o⟩
set_option maxRecDepth 100000 in
set_option maxHeartbeats 8000000 in
theorem law6_c (x : Cx) (hx : x.ok) (z : Fx) (hz : z.ok) (b : BitVec 64) : PureC Tryz.prog gl0 6 [x.v, z.v, bvV b] (.bool true) := by
  have hcs := plain_c x hx
  have hcp := cx_pure x
  have hg := nm_good x.pl
  have hpl := ci_plain x.pl.nm rfl rfl
  generalize x.pl.nm.ci = c at hcs hg hpl
  have hn1 := hg.n1
  have hzo : ({ z with m := 1 } : Fx).ok := ⟨by simp, hz.n, hz.p, hz.o⟩
  have hfo := fof_c c hg { z with m := 1 } hzo 1 rfl (by omega)
  have hfk := of_ok c hg { z with m := 1 } 1 (by omega)
  have hfm : (Fx.of c { z with m := 1 } 1).m = 1 := rfl
  generalize Fx.of c { z with m := 1 } 1 = f at hfo hfk hfm
  have f1 := full_c c (by omega) b
  have f2 := full_c c (by omega) (b >>> 32)
  have ha := full_fit c b
  have hb := full_fit c (b >>> 32)
  have hkn := pairB_known hg hpl hfk ha hb (full_kn c b) (full_kn c (b >>> 32))
  have hsh : ((b.toNat : Int)).fdiv (2 ^ (min 32 IntKind.u64.bits)) = ((b >>> 32).toNat : Int) := bv_shr b 32 (by omega)
  simp only [bvV] at f1 f2
  generalize (b >>> 32).toNat = N2 at f2 hsh
  generalize fullP c b = p1 at f1 ha hkn
  generalize fullP c (b >>> 32) = p2 at f2 hb hkn
  have hd := det25_c c hg f hfk hfm p1 p2 ha hb
  have hla := lau_c c hg f hfk p1 p2 ha hb
  have hst := detS_c c hg f.opp (opp_ok hfk) rfl p2 hb
  have hno := lnot_c f.v
  have hSB : seenB (obsO c (netN c p2)) (obsS c (netN c p2)) (obsMO c (netM c (atW f.opp fun _ => f.opp.v) (atQ f.opp fun _ => f.opp.v) p2)) (obsMS c (atQ f.opp fun _ => f.opp.v) (netM c (atW f.opp fun _ => f.opp.v) (atQ f.opp fun _ => f.opp.v) p2)) = stkB c f.opp p2 := rfl
  rw [hSB] at hst
  rw [hkn, Bool.decide_and] at hd
  generalize (decide (netN c p1 (f.net c) = notN f.v) && decide (netN c p2 (f.net c) = f.v)) = LA at hd hla
  generalize stkB c f.opp p2 = SB at hd hst
  have hpp := prV_pure p1 p2
  have hoo := hfk.o
  simp only [Ft.opp, Ft.w, u8V, natV, hoo] at hst
  simp only [u8V] at hno hla
  simp only [Ft.w] at hd
  generalize notN f.v = nv at hst hno
  simp only [Cx.v] at hcs hcp
  simp only [Fx.v, u8V] at hfo
  simp only [Pt.v] at f1 f2 hst
  refine PureC.of_W 2 ok6 rfl ?_
  simp [i6, x6, Cx.v, bvV, Fx.v]
  intro gf1 gf2
  refine CallO.pure hcs (by simp only [V.pureL, Bool.and_true]; exact hcp) ?_
  simp
  intro gf3
  refine CallO.pure hfo (by simp [u8V]) ?_
  simp
  intro gf4 gm1
  first | refine ⟨_, _, _, .pure f1 (by simp [V.pureL, V.pure]), ?_⟩ | refine ⟨_, ⟨_, _, .pure f1 (by simp [V.pureL, V.pure])⟩, ?_⟩ | refine ⟨_, _, ⟨_, .pure f1 (by simp [V.pureL, V.pure])⟩, ?_⟩
  simp [hsh]
  first | refine ⟨_, _, _, .pure f2 (by simp [V.pureL, V.pure]), ?_⟩ | refine ⟨_, ⟨_, _, .pure f2 (by simp [V.pureL, V.pure])⟩, ?_⟩ | refine ⟨_, _, ⟨_, .pure f2 (by simp [V.pureL, V.pure])⟩, ?_⟩
  simp
  refine ⟨rfl, ?_⟩
  refine CallO.pure hd (by simp [V.pureL, V.pure, u8V, natV]) ?_
  simp
  refine CallO.pure hla (by simp [V.pureL, V.pure, u8V, natV]) ?_
  simp
  intro gm2
  first | refine ⟨_, _, _, .pure hno (by simp [V.pureL, V.pure, u8V]), ?_⟩ | refine ⟨_, ⟨_, _, .pure hno (by simp [V.pureL, V.pure, u8V])⟩, ?_⟩ | refine ⟨_, _, ⟨_, .pure hno (by simp [V.pureL, V.pure, u8V])⟩, ?_⟩
  simp
  first | refine ⟨_, _, _, .pure hst (by simp [V.pureL, V.pure, natV]), ?_⟩ | refine ⟨_, ⟨_, _, .pure hst (by simp [V.pureL, V.pure, u8V, natV])⟩, ?_⟩ | refine ⟨_, _, ⟨_, .pure hst (by simp [V.pureL, V.pure, u8V, natV])⟩, ?_⟩
  cases LA <;> cases SB
  all_goals
    simp
    refine ⟨rfl, ?_⟩
    first
    | (refine CallO.pure lives_c rfl ?_
       simp)
    | (simp
       refine CallO.pure lives_c rfl ?_
       simp)
end Go.Proofs.YtekbgkainigfnaaGreatDoor
