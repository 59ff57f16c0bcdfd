/- Transitions: contracts of Capture and Shift. Conditions: none. -/
import Derived.Test.YtekbgkainigfnaaGreatDoorT1
namespace Go.Proofs.YtekbgkainigfnaaGreatDoor
open Go
/-- A pair of patterns without room to grow. -/
def prC (a b : Pt) : V := .agg [.sl (a.i.map u8V) (some a.i.length), .sl (a.s.map u8V) (some a.s.length), .sl (b.i.map u8V) (some b.i.length), .sl (b.s.map u8V) (some b.s.length)]
theorem made1_c (c : Ci) (hg : c.good) (p : Pt) (hp : p.fit c) : PureC Tryz.prog gl0 94 [.iptr c.v 0, .iptr p.v 0] (.int .i64 0) := by
  refine PureC.of_W 2 ok94 rfl ?_
  simp [i94, x94]
  refine CallO.pure (scheck_c c hg p hp) (by simp) ?_
  simp
theorem made2_c (c : Ci) (hg : c.good) (p : Pt) (i : List Nat) (hp : (⟨i, p.s⟩ : Pt).fit c) : PureC Tryz.prog gl0 96 [.iptr c.v 0, .iptr (.sl (i.map u8V) none) 0, .iptr p.v 0] (.int .i64 0) := by
  have hs := scheck_c c hg _ hp
  simp only [Pt.v] at hs
  refine PureC.of_W 2 ok96 rfl ?_
  simp [i96, x96]
  refine CallO.pure hs (by simp) ?_
  simp
theorem made_c (c : Ci) (hg : c.good) (p : Pt) (hp : p.fit c) (i s : List Nat) (hp2 : (⟨i, p.s⟩ : Pt).fit c) (f : FuncId) (caps : List V) (hcp : V.pureL caps = true) (hst : PureC Tryz.prog gl0 f caps (.sl (s.map u8V) (some s.length))) :
    PureC Tryz.prog gl0 47 [c.v, p.v, .sl (i.map u8V) none, .fn f [] caps] (.tup [prC p ⟨i, s⟩, .int .i64 0]) := by
  have hn1 := hg.n1
  have l0 := cnt_le 0 c.n
  have l1 := cnt_le 14 c.n
  have e1 := hp.i
  have e2 := hp.s
  have e3 := hp2.i
  have m1 := made1_c c hg p hp
  have m2 := made2_c c hg p i hp2
  have hfs := first_c [(94, [.iptr c.v 0, .iptr p.v 0]), (96, [.iptr c.v 0, .iptr (.sl (i.map u8V) none) 0, .iptr p.v 0])] (some 2) (fun x hx => by
    simp only [List.mem_cons, List.not_mem_nil, or_false] at hx
    rcases hx with rfl | rfl
    · exact ⟨m1, by simp [V.pureL, V.pure]⟩
    · exact ⟨m2, by simp [V.pureL, V.pure]⟩) (by simp)
  simp only [fnV, List.map_cons, List.map_nil] at hfs
  have v1 := values_c p.i none (by omega)
  have v2 := values_c p.s none (by omega)
  have v3 := values_c i none (by simp only at e3; omega)
  have hcl : c.v.cells = [.sl (c.n.map Nd.v) none, .sl (c.s.map .str) none, .sl (c.m.map Md.v) none, .sl (ints c.o) none] := rfl
  refine PureC.of_W 2 ok47 rfl ?_
  simp [i47, x47]
  intro gf1 gf2 gf3 gf4 gf5
  have hcv : V.agg c.v.cells = c.v := rfl
  refine CallO.borrow 4 hfs ?_ rfl ?_
  · simp [frz, V.mapR, V.mapRL, lk, mapR_pure _ (ci_pure2 c), mapR_pure _ (pt_pure p), mapRL_pure]
  simp
  intro gm
  refine ⟨_, _, _, .pure v1 (by simp), ?_⟩
  simp
  first | refine ⟨_, _, _, .pure v2 (by simp), ?_⟩ | refine ⟨_, ⟨_, _, .pure v2 (by simp)⟩, ?_⟩ | refine ⟨_, _, ⟨_, .pure v2 (by simp)⟩, ?_⟩
  simp
  first | refine ⟨_, _, _, .pure v3 (by simp), ?_⟩ | refine ⟨_, ⟨_, _, .pure v3 (by simp)⟩, ?_⟩ | refine ⟨_, _, ⟨_, .pure v3 (by simp)⟩, ?_⟩
  simp
  first | refine ⟨_, _, _, .pure hst hcp, ?_⟩ | refine ⟨_, ⟨_, _, .pure hst hcp⟩, ?_⟩ | refine ⟨_, _, ⟨_, .pure hst hcp⟩, ?_⟩
  simp [prC, mapRL_pure]
  try rfl
theorem cap1_c (c : Ci) (hg : c.good) (p : Pt) (hp : p.fit c) : PureC Tryz.prog gl0 48 [.iptr c.v 0, .iptr p.v 0] (.sl ((obsS c (netN c p)).map u8V) (some (obsS c (netN c p)).length)) := by
  have hr := run_c c hg p hp
  generalize obsO c (netN c p) = O at hr
  generalize obsS c (netN c p) = S at hr ⊢
  simp only [rspV] at hr
  refine PureC.of_W 2 ok48 rfl ?_
  simp [i48, x48]
  refine CallO.pure hr (by simp) ?_
  simp [mapRL_pure]
theorem cap_c (c : Ci) (hg : c.good) (p : Pt) (hp : p.fit c) (i : List Nat) (hp2 : (⟨i, p.s⟩ : Pt).fit c) : PureC Tryz.prog gl0 16 [c.v, p.v, .sl (i.map u8V) none] (.tup [prC p ⟨i, obsS c (netN c p)⟩, .int .i64 0]) := by
  have h := made_c c hg p hp i (obsS c (netN c p)) hp2 48 [.iptr c.v 0, .iptr p.v 0] (by simp [V.pureL, V.pure]) (cap1_c c hg p hp)
  generalize obsS c (netN c p) = S at h ⊢
  refine PureC.of_W 2 ok16 rfl ?_
  simp [i16, x16]
  intro gf1 gf2 gf3
  refine CallO.frzB 3 (by simp; exact ⟨rfl, rfl, rfl⟩) (by simp) ?_
  simp [fzV, V.mapR, V.mapRL, fzp, fzH, Blk.fz, mapR_pure _ (ci_pure2 c), mapR_pure _ (pt_pure p), mapRL_pure]
  refine CallO.frzB 4 (by simp; exact ⟨rfl, rfl, rfl⟩) (by simp) ?_
  simp [fzV, V.mapR, V.mapRL, fzp, fzH, Blk.fz, mapR_pure _ (ci_pure2 c), mapRL_pure]
  refine CallO.pure h (by simp) ?_
  simp [prC, mapRL_pure]
  try rfl
end Go.Proofs.YtekbgkainigfnaaGreatDoor
