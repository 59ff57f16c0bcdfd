/- Circuits without memories: contracts of the response. Conditions: none. -/
import Derived.Test.YtekbgkainigfnaaGreatDoorS3
import Derived.Test.YtekbgkainigfnaaGreatDoorLC
import Derived.Test.YtekbgkainigfnaaGreatDoorBase14
namespace Go.Proofs.YtekbgkainigfnaaGreatDoor
open Go
/-- A circuit with the values of its nets. -/
def runV (c : Ci) (l : V) : V := .agg [.sl (c.n.map Nd.v) none, .sl (c.s.map .str) none, .sl (c.m.map Md.v) none, .sl (ints c.o) none, l]
@[simp] theorem run_cells (c : Ci) (l : V) : (runV c l).cells = [.sl (c.n.map Nd.v) none, .sl (c.s.map .str) none, .sl (c.m.map Md.v) none, .sl (ints c.o) none, l] := rfl
@[simp] theorem run_ok (c : Ci) (xs : List V) (cap : Option Nat) : (runV c (.sl xs cap)).cellsOk = true := rfl
@[simp] theorem run_okR (c : Ci) (b g o l : Nat) (cap : Option Nat) : (runV c (.ref b g o l cap)).cellsOk = true := rfl
theorem run_pure (c : Ci) (l : List Nat) (cap : Option Nat) : (runV c (.sl (l.map u8V) cap)).pure = true := by
  have := ci_pure2 c
  simp only [Ci.v, V.pure, V.pureL, Bool.and_true, Bool.and_eq_true] at this
  simp [runV, this]
theorem value_c (c : Ci) (l : List Nat) (cap : Option Nat) (m : Nat) (h : m < l.length) (_hl : l.length < 1000000) : PureC Tryz.prog gl0 92 [runV c (.sl (l.map u8V) cap), .int .i64 (m : Int)] (u8V (clean (l.getD m 0))) := by
  obtain ⟨x, hx⟩ : ∃ x, l[m] = x := ⟨_, rfl⟩
  have hd : l.getD m 0 = x := by rw [List.getD_eq_getElem?_getD, List.getElem?_eq_getElem h, hx]; rfl
  rw [hd]
  have hc := clean_c x
  simp only [u8V] at hc
  refine PureC.of_W 2 ok92 rfl ?_
  simp [i92, x92, runV, show ¬ l.length ≤ m by omega, h, hx, u8V]
  intro gf
  refine CallO.pure hc rfl ?_
  simp
theorem clip_c (l : List Nat) (cap : Option Nat) (_hl : l.length < 1000000) : PureC Tryz.prog gl0 93 [.sl (l.map u8V) cap] (.sl (l.map u8V) (some l.length)) := by
  refine PureC.of_W 2 ok93 rfl ?_
  simp [i93, x93]
  rw [List.take_of_length_le (by simp)]
  exact mapRL_pure _ (u8s_pure l)
theorem clip0_c : PureC Tryz.prog gl0 93 [.nil] (.sl [] (some 0)) := PureC.wide (clip_c [] none (by simp)) ⟨VLe.nil', trivial⟩ (.refl _)
theorem nd_dff {c : Ci} (hg : c.good) {n : Nat} (hn : n ∈ ids 14 c.n 0) : ∃ h : n < c.n.length, ∃ x : Int, c.n[n].i = [x] ∧ 0 ≤ x ∧ x < c.n.length ∧ c.n[n].k = 14 := by
  obtain ⟨h, hk⟩ := ids_lt hn
  have h1 := nd_zero ((sh_zero hg.sh).2.2.1 _ (List.getElem_mem h))
  have hv := hg.val.i n h
  rw [c.nd_get h] at hv
  have hw := h1.2.1
  rw [hk] at hw
  have hl : c.n[n].i.length = 1 := by
    have e1 : kLo 14 = 1 := rfl
    have e2 : kHi 14 = 1 := rfl
    simp only [widB, e1, e2, Bool.and_eq_true, decide_eq_true_eq] at hw
    omega
  match hq : c.n[n].i, hl with
  | [x], _ =>
    rw [hq] at hv
    have := hv x (by simp)
    exact ⟨h, x, hq, this.1, this.2, hk⟩
theorem map_take_succ {α β : Type} {l : List α} {i : Nat} {y : α} (F : α → β) (h : i < l.length) (hy : l[i] = y) : (l.take (i + 1)).map F = (l.take i).map F ++ [F y] := by
  rw [List.take_succ_eq_append_getElem h, hy]; simp
set_option maxHeartbeats 4000000 in
theorem observe_c (c : Ci) (hg : c.good) (l : List Nat) (cap : Option Nat) (hll : l.length = c.n.length) : PureC Tryz.prog gl0 46 [runV c (.sl (l.map u8V) cap)] (rspV (obsO c fun i => l.getD i 0) (obsS c fun i => l.getD i 0)) := by
  have hn1 := hg.n1
  have hno : c.o.length ≤ 16384 := (sh_len hg.sh).2.2.2
  have l1 := cnt_le 14 c.n
  have cs := statesN_c c (by omega)
  have hcl := clip_c
  obtain ⟨F, hF⟩ : ∃ F : Int → Nat, F = fun n => clean (l.getD n.toNat 0) := ⟨_, rfl⟩
  obtain ⟨E, hE⟩ : ∃ E : Nat → Nat, E = nxtN c fun i => l.getD i 0 := ⟨_, rfl⟩
  have hres : rspV (obsO c fun i => l.getD i 0) (obsS c fun i => l.getD i 0) = rspV (c.o.map F) ((ids 14 c.n 0).map E) := by rw [hF, hE]; rfl
  rw [hres]
  have hdff := fun n (hn : n ∈ ids 14 c.n 0) => nd_dff hg hn
  obtain ⟨S, hS⟩ : ∃ S, ids 14 c.n 0 = S := ⟨_, rfl⟩
  have hSl : S.length = cnt 14 c.n := by rw [← hS]; rfl
  rw [hS] at cs hdff ⊢
  rw [← hSl] at cs l1
  have hrp := run_pure c l cap
  refine PureC.of_W 2 ok46 rfl ?_
  simp [i46, x46]
  intro gf1 gf2 gf3
  generalize gf1 1 = g1
  generalize gf2 2 = g2
  generalize gf3 3 = g3
  refine LoopP.of (X := Nat × Option (Nat × List V)) (fun z => [(14, natV z.1), (13, natV c.o.length), (12, .sl (ints c.o) none), (3, .ptr 3 g3 0 0), (2, .ptr 2 g2 0 0), (1, .ptr 1 g1 0 0)])
    (fun z => [(3, .row g3 2 [.agg [accV 24 z.2, .nil]]), (2, .row g2 2 [.agg [.nil, .nil]]), (1, .row g1 5 [runV c (.sl (l.map u8V) cap)])] ++ accH 24 1 z.2)
    (fun z => z.1 ≤ c.o.length ∧ (z.2 = none ↔ z.1 = 0) ∧ accL z.2 = ((c.o.take z.1).map F).map u8V) (fun z => c.o.length - z.1) (0, none) ⟨by simp, by simp, by simp [accL]⟩ (by simp [natV]) (by simp [accV, accH]) ?_
  rintro ⟨i, acc⟩ ⟨q1, q2, q3⟩
  dsimp only at q1 q2 q3 ⊢
  simp [natV]
  refine BrB.of (fun hb => ?_) (fun hb => ?_)
  · have hi : i < c.o.length := of_decide_eq_true hb
    have hw := wrapN i (by omega)
    obtain ⟨y, hy⟩ : ∃ y, c.o[i] = y := ⟨_, rfl⟩
    obtain ⟨y0, y1⟩ := hg.o (x := y) (by rw [← hy]; exact List.getElem_mem hi)
    obtain ⟨m, rfl⟩ := Int.eq_ofNat_of_zero_le y0
    have hv := value_c c l cap m (by omega) (by omega)
    have hFm : clean (l.getD m 0) = F (m : Int) := by rw [hF]; rfl
    rw [hFm] at hv
    have hnx := congrArg (List.map u8V) (map_take_succ F hi hy)
    rw [List.map_append, ← q3] at hnx
    simp only [List.map_cons, List.map_nil, u8V] at hnx hv
    cases acc with
    | none =>
      have hi0 : i = 0 := q2.1 rfl
      simp [accV, accH, hi, ints_getE, hy]
      intro gm
      refine ⟨_, _, _, .pure hv (by simp), ?_⟩
      simp [hw]
      refine ⟨rfl, i + 1, some (gm 24, [.int .u8 (F (m : Int) : Int)]), ⟨hi, by simp, by simpa [accL, u8V] using hnx.symm⟩, by simp, by simp, by omega⟩
    | some gl =>
      obtain ⟨g, r⟩ := gl
      simp only [accL] at q3 hnx
      simp [accV, accH, hi, ints_getE, hy]
      intro gm
      refine ⟨_, _, _, .pure hv (by simp), ?_⟩
      simp [hw]
      refine ⟨by have := congrArg List.length q3; simp at this; omega, rfl, i + 1, some (g + 1, r ++ [.int .u8 (F (m : Int) : Int)]), ⟨hi, by simp, by simpa [accL, u8V] using hnx.symm⟩, by simp, by simp, by omega⟩
  have hi : i = c.o.length := by have := of_decide_eq_false hb; omega
  subst hi
  rw [List.take_length] at q3
  simp
  refine CallO.pure cs (by simp) ?_
  simp
  refine LoopP.ofF (X := Nat × Option (Nat × List V)) (fun z => [(31, natV z.1), (30, natV S.length), (29, .sl (natsV S) (some S.length)), (3, .ptr 3 g3 0 0), (2, .ptr 2 g2 0 0), (1, .ptr 1 g1 0 0)])
    (fun z => [(3, .row g3 2 [.agg [accV 24 acc, accV 55 z.2]]), (2, .row g2 2 [.agg [.nil, .nil]]), (1, .row g1 5 [runV c (.sl (l.map u8V) cap)])] ++ (accH 24 1 acc ++ accH 55 1 z.2))
    (fun z => z.1 ≤ S.length ∧ (z.2 = none ↔ z.1 = 0) ∧ accL z.2 = ((S.take z.1).map E).map u8V) (fun z => S.length - z.1) (.done ⟨(0, none), ⟨by simp, by simp, by simp [accL]⟩, by simp [natV], ?_⟩) ?_
  · cases acc with
    | none => simp [accV, accH]
    | some gl => simp [accV, accH]
  rintro ⟨j, acc2⟩ ⟨p1, p2, p3⟩
  dsimp only at p1 p2 p3 ⊢
  simp [natV]
  refine BrB.of (fun hb2 => ?_) (fun hb2 => ?_)
  · have hj : j < S.length := of_decide_eq_true hb2
    have hw := wrapN j (by omega)
    obtain ⟨n, hn⟩ : ∃ n, S[j] = n := ⟨_, rfl⟩
    obtain ⟨hnc, x, hxi, x0, x1, -⟩ := hdff n (by rw [← hn]; exact List.getElem_mem hj)
    obtain ⟨m, rfl⟩ := Int.eq_ofNat_of_zero_le x0
    have hv := value_c c l cap m (by omega) (by omega)
    have hr := rdN_c (clean (l.getD m 0))
    have hEn : rdN (clean (l.getD m 0)) = E n := by rw [hE]; simp only [nxtN]; rw [c.nd_get hnc, hxi]; rfl
    rw [hEn] at hr
    obtain ⟨q, hq⟩ : ∃ q, clean (l.getD m 0) = q := ⟨_, rfl⟩
    rw [hq] at hv hr
    obtain ⟨y, hy⟩ : ∃ y, c.n[n] = y := ⟨_, rfl⟩
    rw [hy] at hxi
    have hnx := congrArg (List.map u8V) (map_take_succ E hj hn)
    rw [List.map_append, ← p3] at hnx
    simp only [List.map_cons, List.map_nil, u8V] at hnx hv hr
    have h1 : ints [(m : Int)] = [.int .i64 (m : Int)] := rfl
    rcases acc with _ | gl <;> rcases acc2 with _ | gl2
    case' none.none =>
      simp [hj, natsV_get, hn, hnc, hy, hxi, accV, accH, h1]
      intro gm
      first | refine ⟨_, _, _, .pure hv (by simp [hrp]), ?_⟩ | refine ⟨_, ⟨_, _, .pure hv (by simp [hrp])⟩, ?_⟩ | refine ⟨_, _, ⟨_, .pure hv (by simp)⟩, ?_⟩
      simp
      first | refine ⟨_, _, _, .pure hr (by simp), ?_⟩ | refine ⟨_, ⟨_, _, .pure hr (by simp)⟩, ?_⟩ | refine ⟨_, _, ⟨_, .pure hr (by simp)⟩, ?_⟩
      simp
      intro ga gb
      refine .done ⟨j + 1, some (gb 55, [.int .u8 (E n : Int)]), ⟨hj, by simp, by simpa [accL, u8V] using hnx.symm⟩, by simp [hw], by simp, by omega⟩
    case' some.none =>
      simp [hj, natsV_get, hn, hnc, hy, hxi, accV, accH, h1]
      intro gm
      first | refine ⟨_, _, _, .pure hv (by simp [hrp]), ?_⟩ | refine ⟨_, ⟨_, _, .pure hv (by simp [hrp])⟩, ?_⟩ | refine ⟨_, _, ⟨_, .pure hv (by simp)⟩, ?_⟩
      simp
      first | refine ⟨_, _, _, .pure hr (by simp), ?_⟩ | refine ⟨_, ⟨_, _, .pure hr (by simp)⟩, ?_⟩ | refine ⟨_, _, ⟨_, .pure hr (by simp)⟩, ?_⟩
      simp
      intro ga gb
      refine .done ⟨j + 1, some (gb 55, [.int .u8 (E n : Int)]), ⟨hj, by simp, by simpa [accL, u8V] using hnx.symm⟩, by simp [hw], by simp, by omega⟩
    case' none.some =>
      simp [hj, natsV_get, hn, hnc, hy, hxi, accV, accH, h1]
      intro gm
      first | refine ⟨_, _, _, .pure hv (by simp [hrp]), ?_⟩ | refine ⟨_, ⟨_, _, .pure hv (by simp [hrp])⟩, ?_⟩ | refine ⟨_, _, ⟨_, .pure hv (by simp)⟩, ?_⟩
      simp
      first | refine ⟨_, _, _, .pure hr (by simp), ?_⟩ | refine ⟨_, ⟨_, _, .pure hr (by simp)⟩, ?_⟩ | refine ⟨_, _, ⟨_, .pure hr (by simp)⟩, ?_⟩
      simp
      intro ga gb
      refine ⟨by have := congrArg List.length p3; simp [accL] at this; omega, .done ⟨j + 1, some (gb 55, gl2.2 ++ [.int .u8 (E n : Int)]), ⟨hj, by simp, by simpa [accL, u8V] using hnx.symm⟩, by simp [hw], by simp, by omega⟩⟩
    case' some.some =>
      simp [hj, natsV_get, hn, hnc, hy, hxi, accV, accH, h1]
      intro gm
      first | refine ⟨_, _, _, .pure hv (by simp [hrp]), ?_⟩ | refine ⟨_, ⟨_, _, .pure hv (by simp [hrp])⟩, ?_⟩ | refine ⟨_, _, ⟨_, .pure hv (by simp)⟩, ?_⟩
      simp
      first | refine ⟨_, _, _, .pure hr (by simp), ?_⟩ | refine ⟨_, ⟨_, _, .pure hr (by simp)⟩, ?_⟩ | refine ⟨_, _, ⟨_, .pure hr (by simp)⟩, ?_⟩
      simp
      intro ga gb
      refine ⟨by have := congrArg List.length p3; simp [accL] at this; omega, .done ⟨j + 1, some (gb 55, gl2.2 ++ [.int .u8 (E n : Int)]), ⟨hj, by simp, by simpa [accL, u8V] using hnx.symm⟩, by simp [hw], by simp, by omega⟩⟩
  have hj : j = S.length := by have := of_decide_eq_false hb2; omega
  subst hj
  rw [List.take_length] at p3
  have hcO := clip_c (c.o.map F) none (by simp; omega)
  have hcS := clip_c (S.map E) none (by simp; omega)
  generalize c.o.map F = O at q3 hcO ⊢
  generalize S.map E = T at p3 hcS ⊢
  have htO : List.take O.length (O.map u8V) = O.map u8V := List.take_of_length_le (by simp)
  have htT : List.take T.length (T.map u8V) = T.map u8V := List.take_of_length_le (by simp)
  rcases acc with _ | ⟨ga, ra⟩ <;> rcases acc2 with _ | ⟨gb, rb⟩
  · have hO : O = [] := by simpa [accL] using q3.symm
    have hT : T = [] := by simpa [accL] using p3.symm
    subst hO hT
    simp [accV, accH]
    refine .mk [(3, .ptr 3 g3 0 0), (2, .ptr 2 g2 0 0)] [(3, .row g3 2 [.agg [.nil, .nil]]), (2, .row g2 2 [.agg [.nil, .nil]])] (by simp) (by simp) (.done ?_)
    simp
    intro gm
    first | refine ⟨_, _, _, .pure clip0_c (by simp), ?_⟩ | refine ⟨_, ⟨_, _, .pure clip0_c (by simp)⟩, ?_⟩ | refine ⟨_, _, ⟨_, .pure clip0_c (by simp)⟩, ?_⟩
    simp
    first | refine ⟨_, _, _, .pure clip0_c (by simp), ?_⟩ | refine ⟨_, ⟨_, _, .pure clip0_c (by simp)⟩, ?_⟩ | refine ⟨_, _, ⟨_, .pure clip0_c (by simp)⟩, ?_⟩
    simp [rspV]
    try rfl
  · simp only [accL] at q3 p3
    have hO : O = [] := by simpa using q3.symm
    subst hO
    subst p3
    simp [accV, accH]
    refine .mk [(3, .ptr 3 g3 0 0), (2, .ptr 2 g2 0 0)] [(3, .row g3 2 [.agg [.nil, .ref 55 gb 0 T.length none]]), (2, .row g2 2 [.agg [.nil, .nil]]), (55, .row gb 1 (T.map u8V))] (by simp) (by simp) (.frz (g := gb) (sz := 1) (es := T.map u8V) 55 (by simp) (u8s_pure T) (.done ?_))
    simp [fzF, fzH, fzV, fzf, fzp, Blk.fz, htT]
    intro gm
    first | refine ⟨_, _, _, .pure clip0_c (by simp), ?_⟩ | refine ⟨_, ⟨_, _, .pure clip0_c (by simp)⟩, ?_⟩ | refine ⟨_, _, ⟨_, .pure clip0_c (by simp)⟩, ?_⟩
    simp
    first | refine ⟨_, _, _, .pure hcS (by simp), ?_⟩ | refine ⟨_, ⟨_, _, .pure hcS (by simp)⟩, ?_⟩ | refine ⟨_, _, ⟨_, .pure hcS (by simp)⟩, ?_⟩
    simp [rspV, mapRL_pure]
    try rfl
  · simp only [accL] at q3 p3
    subst q3
    have hT : T = [] := by simpa using p3.symm
    subst hT
    simp [accV, accH]
    refine .mk [(3, .ptr 3 g3 0 0), (2, .ptr 2 g2 0 0)] [(3, .row g3 2 [.agg [.ref 24 ga 0 O.length none, .nil]]), (2, .row g2 2 [.agg [.nil, .nil]]), (24, .row ga 1 (O.map u8V))] (by simp) (by simp) (.frz (g := ga) (sz := 1) (es := O.map u8V) 24 (by simp) (u8s_pure O) (.done ?_))
    simp [fzF, fzH, fzV, fzf, fzp, Blk.fz, htO]
    intro gm
    first | refine ⟨_, _, _, .pure hcO (by simp), ?_⟩ | refine ⟨_, ⟨_, _, .pure hcO (by simp)⟩, ?_⟩ | refine ⟨_, _, ⟨_, .pure hcO (by simp)⟩, ?_⟩
    simp
    first | refine ⟨_, _, _, .pure clip0_c (by simp), ?_⟩ | refine ⟨_, ⟨_, _, .pure clip0_c (by simp)⟩, ?_⟩ | refine ⟨_, _, ⟨_, .pure clip0_c (by simp)⟩, ?_⟩
    simp [rspV, mapRL_pure]
    try rfl
  · simp only [accL] at q3 p3
    subst q3
    subst p3
    simp [accV, accH]
    refine .mk [(3, .ptr 3 g3 0 0), (2, .ptr 2 g2 0 0)] [(3, .row g3 2 [.agg [.ref 24 ga 0 O.length none, .ref 55 gb 0 T.length none]]), (2, .row g2 2 [.agg [.nil, .nil]]), (24, .row ga 1 (O.map u8V)), (55, .row gb 1 (T.map u8V))] (by simp) (by simp) (.frz (g := ga) (sz := 1) (es := O.map u8V) 24 (by simp) (u8s_pure O) (.frz (g := gb) (sz := 1) (es := T.map u8V) 55 (by simp [fzH, Blk.fz, map_fzV (u8s_pure T)]) (u8s_pure T) (.done ?_)))
    simp [fzF, fzH, fzV, fzf, fzp, Blk.fz, htO, htT, mapRL_pure]
    intro gm
    first | refine ⟨_, _, _, .pure hcO (by simp), ?_⟩ | refine ⟨_, ⟨_, _, .pure hcO (by simp)⟩, ?_⟩ | refine ⟨_, _, ⟨_, .pure hcO (by simp)⟩, ?_⟩
    simp
    first | refine ⟨_, _, _, .pure hcS (by simp), ?_⟩ | refine ⟨_, ⟨_, _, .pure hcS (by simp)⟩, ?_⟩ | refine ⟨_, _, ⟨_, .pure hcS (by simp)⟩, ?_⟩
    simp [rspV, mapRL_pure]
    try rfl
end Go.Proofs.YtekbgkainigfnaaGreatDoor
