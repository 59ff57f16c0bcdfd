/- Transitions: a circuit and two patterns of plain data. Conditions: none. -/
import Derived.Test.YtekbgkainigfnaaGreatDoorT3
namespace Go.Proofs.YtekbgkainigfnaaGreatDoor
open Go
@[simp] theorem prV_cells (a b : Pt) : (prV a b).cells = [.sl (a.i.map u8V) none, .sl (a.s.map u8V) none, .sl (b.i.map u8V) none, .sl (b.s.map u8V) none] := rfl
@[simp] theorem prV_ok (a b : Pt) : (prV a b).cellsOk = true := rfl
theorem circU_c (x : Cx) (hx : x.ok) : PureC Tryz.prog gl0 13 [.agg [u8V x.n, u8V x.f, u8V x.d0, u8V x.d1, .bool x.bus, .bool x.mem, u8V x.p0, u8V x.p1, u8V x.p2, u8V x.p3, .sl (x.g.map Gx.v) none, .sl (x.o.map u8V) none]] x.nm.ci.v := circ_c x hx
theorem cxU_pure (x : Cx) : V.pureL [.agg [u8V x.n, u8V x.f, u8V x.d0, u8V x.d1, .bool x.bus, .bool x.mem, u8V x.p0, u8V x.p1, u8V x.p2, u8V x.p3, .sl (x.g.map Gx.v) none, .sl (x.o.map u8V) none]] = true := by
  have := cx_pure x
  simp only [V.pureL, Bool.and_true]; exact this
def caseV (x : Cx) (p q : Pt) : V := .agg [u8V x.n, u8V x.f, u8V x.d0, u8V x.d1, .bool x.bus, .bool x.mem, u8V x.p0, u8V x.p1, u8V x.p2, u8V x.p3, .sl (x.g.map Gx.v) none, .sl (x.o.map u8V) none, .sl (p.i.map u8V) none, .sl (p.s.map u8V) none, .sl (q.i.map u8V) none, .sl (q.s.map u8V) none]
@[simp] theorem case_cells (x : Cx) (p q : Pt) : (caseV x p q).cells = [u8V x.n, u8V x.f, u8V x.d0, u8V x.d1, .bool x.bus, .bool x.mem, u8V x.p0, u8V x.p1, u8V x.p2, u8V x.p3, .sl (x.g.map Gx.v) none, .sl (x.o.map u8V) none, .sl (p.i.map u8V) none, .sl (p.s.map u8V) none, .sl (q.i.map u8V) none, .sl (q.s.map u8V) none] := rfl
@[simp] theorem case_ok (x : Cx) (p q : Pt) : (caseV x p q).cellsOk = true := rfl
theorem case_pure (x : Cx) (p q : Pt) : V.pureL [caseV x p q] = true := by
  have := cxU_pure x
  simp only [V.pureL, V.pure, Bool.and_true, Bool.and_eq_true] at this
  simp only [caseV, V.pureL, V.pure, Bool.and_true, Bool.and_eq_true, u8s_pure]
  simp [this]
theorem case_c (x : Cx) (hx : x.ok) (p q : Pt) : PureC Tryz.prog gl0 19 [caseV x p q] (.tup [x.nm.ci.v, prV (pof x.nm.ci p) (pof x.nm.ci q)]) := by
  have hof := circU_c x hx
  have hpu := cxU_pure x
  have hg := nm_good x
  generalize x.nm.ci = c at hof hg ⊢
  have hn1 := hg.n1
  have h14 := of14_c c p q (by omega)
  generalize pof c p = a at h14 ⊢
  generalize pof c q = b at h14 ⊢
  have hcl : c.v.cells = [.sl (c.n.map Nd.v) none, .sl (c.s.map .str) none, .sl (c.m.map Md.v) none, .sl (ints c.o) none] := rfl
  simp only [Pt.v] at h14
  refine PureC.of_W 2 ok19 rfl ?_
  simp [i19, x19]
  intro gf1 gf2 gf3
  refine CallO.pure hof hpu ?_
  simp
  intro gf4 gm
  first | refine ⟨_, _, _, .pure h14 (by simp), ?_⟩ | refine ⟨_, ⟨_, _, .pure h14 (by simp)⟩, ?_⟩ | refine ⟨_, _, ⟨_, .pure h14 (by simp)⟩, ?_⟩
  simp [mapRL_pure, nds_pure, mds_pure, ints_pure, prV]
  exact ⟨rfl, rfl⟩
end Go.Proofs.YtekbgkainigfnaaGreatDoor
