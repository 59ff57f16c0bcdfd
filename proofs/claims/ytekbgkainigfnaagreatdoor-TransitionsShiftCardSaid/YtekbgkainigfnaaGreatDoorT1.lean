/- Transitions: circuits and patterns of the laws; copies of lists; checks one after another. Conditions: none. -/
import Derived.Test.YtekbgkainigfnaaGreatDoorS5
import Derived.Test.YtekbgkainigfnaaGreatDoorNet16
import Derived.Test.YtekbgkainigfnaaGreatDoorNet13
namespace Go.Proofs.YtekbgkainigfnaaGreatDoor
open Go
theorem ordL_ord {c : Ci} {L : List Nat} (h : Ord c L) : Ord c (ordL c) := by rw [h.eq]; exact h
theorem Ci.good.ord {c : Ci} (hg : c.good) : Ord c (ordL c) := by
  have hlv : IsLv c.n.length c.g (lvOf c) := hg.ac.lv
  have hlt := hlv.lt hg.val.g
  refine ordL_ord (L := lvL c.n.length (lvOf c) c.n.length) ⟨⟨?_, fun x hx => ((lvL_mem _ _).1 hx).1⟩, lvL_pw _⟩
  have h1 := lvL_len (n := c.n.length) (lv := lvOf c) c.n.length
  have h2 := lvL_all hlt
  omega
theorem good_of (x : Cx) (hm : x.mem = false) : x.ci.good where
  wf := ci_wf x
  chk := chk_ok x
  sh := shE_ok x
  ac := acyc_below (ci_below x)
  m := by simp [Cx.ci, hm]
  k := fun y hy hk => by
    obtain ⟨i, hi, rfl⟩ := List.getElem_of_mem hy
    rcases (cxn_ok x).1 i hi with h | h | h | h
    · have := h.1; omega
    · have := h.1; omega
    · rw [hm] at h; exact absurd h.1 (by simp)
    · have := h.2.1; omega
  n0 := by rw [(cxn_ok x).2]; exact (ns0_ok x).2.2.1
  n1 := by rw [(cxn_ok x).2]; have := (ns0_ok x).2.2.2; have e : x.nn ≤ 16 := this; omega
/-- The pattern that a law reads off plain data. -/
def pof (c : Ci) (p : Pt) : Pt := ⟨tkN p.i (cnt 0 c.n) 4, tkN p.s (cnt 14 c.n) 3⟩
theorem pof_fit (c : Ci) (p : Pt) : (pof c p).fit c := ⟨by simp [pof], by simp [pof], tkN_le _ _ 4 (by omega) (by omega), tkN_le _ _ 3 (by omega) (by omega)⟩
theorem pofV_c (p : Pt) (c : Ci) (hl : c.n.length < 1000000) : PureC Tryz.prog gl0 38 [p.v, c.v] (pof c p).v := pof_c p c hl
theorem cloneU_d (xs : List V) (cap : Option Nat) (hp : V.pureL xs = true) (hn : V.noGL xs = true) (hx : (xs.all fun x => decide (x.cells.length = 1)) = true) (hl : xs.length < 1000000000) : OwnC Tryz.prog gl0 97 [.sl xs cap] (DatK 1 (.sl xs none)) := by
  have h0 : OwnC Tryz.prog gl0 97 [.sl xs none] (Fresh0 1 xs) := by
    refine OwnC.of_W ok97 rfl ?_
    cases xs with
    | nil =>
      simp [i97, x97, Fresh0]
      exact ⟨fun gf gf1 => .move 5 0 _ (by simp) (by simp; rfl) fun g => .done (by simp), .done (by simp)⟩
    | cons x xs =>
      simp only [List.all_cons, Bool.and_eq_true, decide_eq_true_eq] at hx
      simp only [V.pureL, Bool.and_eq_true] at hp
      have hle : xs.length + 1 ≤ 274877906944 := by simp at hl; omega
      simp [i97, x97, nop, hx.1, hx.2, hle, Fresh0]
      refine fun gf gf1 => MvP.move 5 0 _ (by simp) (by simp; rfl) fun g => .done ?_
      simp [map_rn_pure hp.2, rn_pure _ hp.1]
  refine OwnC.wide (h0.mono fun v h' hk => ?_) ⟨VLe.cap _ _, trivial⟩
  rcases hk with ⟨rfl, rfl, rfl⟩ | ⟨g, cap, rfl, rfl⟩
  · exact ⟨rfl, fun b k hb => by simp [lk] at hb, VLe.nil'⟩
  · refine ⟨rfl, fun b k hb => ?_, ?_⟩
    · simp only [lk] at hb
      split at hb
      · cases hb; exact hn
      · cases hb
    · rw [frz_ref (es := xs) (sz := 1) (by simp) (by simp), List.drop_zero, List.take_of_length_le (by simp), frz_all _ _ hp]
      exact VLe.cap _ _
/-- A circuit of plain data, without memories. -/
def Cx.nm (x : Cx) : Cx := { x with mem := false }
theorem nm_good (x : Cx) : x.nm.ci.good := good_of _ rfl
theorem circ_c (x : Cx) (hx : x.ok) : PureC Tryz.prog gl0 13 [x.v] x.nm.ci.v := by
  have hyok : x.nm.ok := ⟨hx.n, hx.f, hx.d0, hx.d1, hx.p0, hx.p1, hx.p2, hx.p3, hx.g, hx.o⟩
  have hof := cof_c x.nm hyok
  have hpu : V.pureL [x.nm.v] = true := by
    have := cx_pure x.nm
    simp only [V.pureL, Bool.and_true]; exact this
  have hcc : x.nm.ci.v.cells.length = 4 := rfl
  generalize x.nm.ci = c at hof hcc
  simp only [Cx.v, Cx.nm] at hof hpu
  refine PureC.of_W 2 ok13 rfl ?_
  simp [i13, x13, Cx.v]
  intro gf1 gf2
  refine CallO.pure hof hpu ?_
  simp [mapRL_pure, nds_pure, mds_pure, ints_pure]
  rfl
def prV (a b : Pt) : V := .agg [.sl (a.i.map u8V) none, .sl (a.s.map u8V) none, .sl (b.i.map u8V) none, .sl (b.s.map u8V) none]
theorem prV_pure (a b : Pt) : (prV a b).pure = true := by simp [prV]
theorem of14_c (c : Ci) (p q : Pt) (hl : c.n.length < 1000000) : PureC Tryz.prog gl0 14 [c.v, p.v, q.v] (prV (pof c p) (pof c q)) := by
  have h1 := pofV_c p c hl
  have h2 := pofV_c q c hl
  generalize pof c p = a at h1
  generalize pof c q = b at h2
  refine PureC.of_W 2 ok14 rfl ?_
  simp [i14, x14]
  intro gf1 gf2 gf3 gf4 gm
  first | refine ⟨_, _, _, .pure h1 (by simp), ?_⟩ | refine ⟨_, ⟨_, _, .pure h1 (by simp)⟩, ?_⟩ | refine ⟨_, _, ⟨_, .pure h1 (by simp)⟩, ?_⟩
  simp
  first | refine ⟨_, _, _, .pure h2 (by simp), ?_⟩ | refine ⟨_, ⟨_, _, .pure h2 (by simp)⟩, ?_⟩ | refine ⟨_, _, ⟨_, .pure h2 (by simp)⟩, ?_⟩
  simp [prV, Pt.v, mapRL_pure]
  try rfl
/-- Two lists of values are the same, and the first has no room to grow. -/
theorem same17_c (a b : List Nat) (cb : Option Nat) (hl : a.length < 1000000000) : PureC Tryz.prog gl0 17 [.sl (a.map u8V) (some a.length), .sl (b.map u8V) cb] (.bool (decide (a = b))) := by
  obtain ⟨q, hq⟩ : ∃ r, decide (a = b) = r := ⟨_, rfl⟩
  rw [hq]
  have hne : a ≠ b → q = false := fun h => by rw [← hq]; simp [h]
  have heq : a = b → q = true := fun h => by rw [← hq]; simp [h]
  refine PureC.of_W 2 ok17 rfl ?_
  by_cases hab : a.length = b.length
  rotate_left
  · have := hne fun e => hab (by rw [e])
    simp [i17, x17, hab, this]
  simp [i17, x17, hab]
  refine LoopP.of (X := Nat) (fun i => [(5, natV i), (1, .sl (b.map u8V) cb), (0, .sl (a.map u8V) (some a.length))]) (fun _ => [])
    (fun i => i ≤ a.length ∧ a.take i = b.take i) (fun i => a.length - i) 0 ⟨by simp, by simp⟩ (by simp [natV, hab]) (by simp) ?_
  rintro i ⟨h3, h4⟩
  simp [natV]
  refine BrB.of (fun h5 => ?_) (fun h5 => ?_)
  · have hi : i < a.length := of_decide_eq_true h5
    have hj : i < b.length := by omega
    have hw := wrapN i (by omega)
    obtain ⟨x, hx⟩ : ∃ x, a[i] = x := ⟨_, rfl⟩
    obtain ⟨y, hy⟩ : ∃ y, b[i] = y := ⟨_, rfl⟩
    simp [hi, hj, hx, hy, u8V]
    refine BrB.of (fun h6 => ?_) (fun h6 => ?_)
    rotate_left
    · have := hne fun e => by subst e; rw [hx] at hy; subst hy; simp at h6
      simp [this]
    · have he : x = y := by simpa using h6
      simp [hw]
      refine ⟨i + 1, ⟨by omega, ?_⟩, rfl, by omega⟩
      rw [List.take_succ_eq_append_getElem hi, List.take_succ_eq_append_getElem hj, h4, hx, hy, he]
  · have hi : i = a.length := by have := of_decide_eq_false h5; omega
    have : a = b := by rw [hi, List.take_length, hab, List.take_length] at h4; exact h4
    simp [heq this]
theorem u8s_noG : ∀ l : List Nat, V.noGL (l.map u8V) = true
  | [] => rfl
  | a :: r => by
    rw [List.map_cons]
    show (V.noG (u8V a) && V.noGL (r.map u8V)) = true
    rw [u8s_noG r]; rfl
theorem u8s_one (l : List Nat) : ((l.map u8V).all fun x => decide (x.cells.length = 1)) = true := by simp [u8V]
theorem values_c (l : List Nat) (cap : Option Nat) (hl : l.length < 1000000) : PureC Tryz.prog gl0 51 [.sl (l.map u8V) cap] (.sl (l.map u8V) (some l.length)) := by
  have h1 := cloneU_d (l.map u8V) cap (u8s_pure l) (u8s_noG l) (u8s_one l) (by simp; omega)
  have h2 := clip_c l none hl
  refine PureC.of_W 2 ok51 rfl ?_
  simp [i51, x51]
  refine CallO.dat 1 h1 (by simp [mapRL_pure]) ?_
  simp
  refine CallO.pure h2 (by simp) ?_
  simp [mapRL_pure]
/-- Checks that all answer OK. -/
def okF (fs : List (FuncId × List V)) : Prop := ∀ x ∈ fs, PureC Tryz.prog gl0 x.1 x.2 (.int .i64 0) ∧ V.pureL x.2 = true
def fnV (x : FuncId × List V) : V := .fn x.1 [] x.2
theorem first_c (fs : List (FuncId × List V)) (cap : Option Nat) (hf : okF fs) (hl : fs.length < 1000) : PureC Tryz.prog gl0 53 [.sl (fs.map fnV) cap] (.int .i64 0) := by
  refine PureC.of_W 2 ok53 rfl ?_
  simp [i53, x53]
  refine LoopP.of (X := Nat) (fun i => [(8, natV i), (7, natV fs.length), (6, .sl (fs.map fnV) cap)]) (fun _ => [])
    (fun i => i ≤ fs.length) (fun i => fs.length - i) 0 (Nat.zero_le _) (by simp [natV]) (by simp) ?_
  intro i hi
  simp [natV]
  refine BrB.of (fun h => ?_) (fun h => ?_)
  · have hi' : i < fs.length := of_decide_eq_true h
    have hw := wrapN i (by omega)
    obtain ⟨x, hx⟩ : ∃ x, fs[i] = x := ⟨_, rfl⟩
    obtain ⟨h1, h2⟩ := hf x (by rw [← hx]; exact List.getElem_mem hi')
    simp [hi', hx, fnV]
    refine CallO.pure h1 h2 ?_
    simp [hw]
    exact ⟨i + 1, hi', rfl, by omega⟩
  · simp
end Go.Proofs.YtekbgkainigfnaaGreatDoor
