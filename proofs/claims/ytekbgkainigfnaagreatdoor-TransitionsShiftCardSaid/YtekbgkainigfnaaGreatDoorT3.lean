/- Transitions: the contract of Shift. Conditions: none. -/
import Derived.Test.YtekbgkainigfnaaGreatDoorT2
namespace Go.Proofs.YtekbgkainigfnaaGreatDoor
open Go
@[simp] theorem prC_cells (a b : Pt) : (prC a b).cells = [.sl (a.i.map u8V) (some a.i.length), .sl (a.s.map u8V) (some a.s.length), .sl (b.i.map u8V) (some b.i.length), .sl (b.s.map u8V) (some b.s.length)] := rfl
@[simp] theorem prC_ok (a b : Pt) : (prC a b).cellsOk = true := rfl
def shiftS (bit : Nat) (s : List Nat) : List Nat := (bit :: s).take s.length
theorem shf1_c (p : Pt) (bit : Nat) (hl : p.s.length < 1000000) : PureC Tryz.prog gl0 50 [.iptr p.v 0, .iptr (u8V bit) 0] (.sl ((shiftS bit p.s).map u8V) (some (shiftS bit p.s).length)) := by
  have hv := values_c (shiftS bit p.s) none (by unfold shiftS; simp; omega)
  have hsl : (shiftS bit p.s).length = p.s.length := by unfold shiftS; simp
  have hmap : List.take p.s.length (.int .u8 (bit : Int) :: p.s.map u8V) = (shiftS bit p.s).map u8V := by unfold shiftS; rw [List.map_take]; rfl
  have hrp := u8s_pure (shiftS bit p.s)
  refine PureC.of_W 2 ok50 rfl ?_
  have hall : (p.s.all ((fun x => decide (x.cells.length = 1)) ∘ u8V)) = true := by simp [u8V]
  simp [i50, x50, u8V, hall, show 1 + p.s.length ≤ 274877906944 by omega]
  intro gf1 gf2
  refine CallO.frzB 8 (g := gf2 8) (sz := 1) (es := .int .u8 (bit : Int) :: p.s.map u8V) (by simp) (by simp) ?_
  simp [fzV, V.mapR, fzf, fzH]
  rw [hmap]
  refine CallO.pure hv (by simp) ?_
  simp [mapRL_pure]
theorem shf_c (c : Ci) (hg : c.good) (p : Pt) (hp : p.fit c) (i : List Nat) (hp2 : (⟨i, p.s⟩ : Pt).fit c) (bit : Nat) :
    PureC Tryz.prog gl0 20 [c.v, p.v, .sl (i.map u8V) none, u8V bit] (if 3 < bit then .tup [.agg [.nil, .nil, .nil, .nil], .int .i64 1] else .tup [prC p ⟨i, shiftS bit p.s⟩, .int .i64 0]) := by
  have hn1 := hg.n1
  have l1 := cnt_le 14 c.n
  have e2 := hp.s
  have h := made_c c hg p hp i (shiftS bit p.s) hp2 50 [.iptr p.v 0, .iptr (u8V bit) 0] (by simp [V.pureL, V.pure, u8V]) (shf1_c p bit (by omega))
  generalize shiftS bit p.s = S at h ⊢
  simp only [u8V] at h ⊢
  refine PureC.of_WM 1 2 ok20 rfl ?_
  simp [i20, x20]
  intro gf1 gf2 gf3 gf4
  refine KM.mk (.frz (g := gf2 5) (sz := 2) (es := [p.v]) 5 (by simp) (by simp) (.frz (g := gf3 7) (sz := 1) (es := [.int .u8 (bit : Int)]) 7 (by simp [fzV, V.mapR, V.mapRL, fzH, Blk.fz, mapR_pure _ (ci_pure2 c)]) (by simp) (.done ?_)))
  simp [fzF, fzV, V.mapR, V.mapRL, fzp, fzH, Blk.fz, mapR_pure _ (ci_pure2 c), mapR_pure _ (pt_pure p), mapRL_pure]
  by_cases hb : 3 < bit
  · rw [if_pos hb]
    refine CallO.pure h (by simp) ?_
    simp [hb]
    try rfl
  · rw [if_neg hb]
    refine CallO.pure h (by simp) ?_
    simp [hb, prC, mapRL_pure]
    try rfl
end Go.Proofs.YtekbgkainigfnaaGreatDoor
