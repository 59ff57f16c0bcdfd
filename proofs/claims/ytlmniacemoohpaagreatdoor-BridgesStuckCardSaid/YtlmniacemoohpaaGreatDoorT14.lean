/- Faults: the case of the laws of layer 13. Conditions: none. -/
import Derived.Test.YtlmniacemoohpaaGreatDoorJ7
import Derived.Test.YtlmniacemoohpaaGreatDoorXG
set_option linter.unusedSimpArgs false
set_option linter.unusedVariables false
namespace Go.Proofs.YtlmniacemoohpaaGreatDoor
open Go
def caseJ (x : Cx) (z : Fx) (p : Pt) : V:=.agg [u8V x.n,u8V x.f,u8V x.d0,u8V x.d1,.bool x.bus,.bool x.mem,u8V x.p0,u8V x.p1,u8V x.p2,u8V x.p3,.sl (x.g.map Gx.v) none,.sl (x.o.map u8V) none,u8V z.m,u8V z.n,u8V z.p,u8V z.o,.bool z.one,.sl (p.i.map u8V) none,.sl (p.s.map u8V) none]
@[simp] theorem caseJ_cells (x : Cx) (z : Fx) (p : Pt) : (caseJ x z p).cells = [u8V x.n,u8V x.f,u8V x.d0,u8V x.d1,.bool x.bus,.bool x.mem,u8V x.p0,u8V x.p1,u8V x.p2,u8V x.p3,.sl (x.g.map Gx.v) none,.sl (x.o.map u8V) none,u8V z.m,u8V z.n,u8V z.p,u8V z.o,.bool z.one,.sl (p.i.map u8V) none,.sl (p.s.map u8V) none]:=rfl
@[simp] theorem caseJ_ok (x : Cx) (z : Fx) (p : Pt) : (caseJ x z p).cellsOk = true:=rfl
theorem caseJ_pure (x : Cx) (z : Fx) (p : Pt) : V.pureL [caseJ x z p] = true:=by
  have:=cxU_pure x
  simp only [V.pureL,V.pure,Bool.and_true,Bool.and_eq_true] at this
  simp only [caseJ,V.pureL,V.pure,Bool.and_true,Bool.and_eq_true,u8s_pure]
  simp [this,u8V]
theorem caseJ_c (x : Cx) (hx : x.ok) (z : Fx) (f : Ft) (hf : PureC Tryz.prog gl0 42 [Fx.v { z with m:=2 + z.m % 2 },x.nm.ci.v] f.w) (p : Pt) : PureC Tryz.prog gl0 15 [caseJ x z p] (.tup [x.nm.ci.v,f.w,(pof x.nm.ci p).v]):=by
  have hof:=circU_c x hx
  have hpu:=cxU_pure x
  have hg:=nm_good x
  generalize x.nm.ci = c at hof hg hf ⊢
  have hn1:=hg.n1
  have h14:=pofV_c p c (by omega)
  generalize pof c p = a at h14 ⊢
  have hcl : c.v.cells = [.sl (c.n.map Nd.v) none,.sl (c.s.map .str) none,.sl (c.m.map Md.v) none,.sl (ints c.o) none]:=rfl
  obtain ⟨m,hm⟩ : ∃ m,z.m % 2 = m:=⟨_,rfl⟩
  have hm2:=modN hm
  have hml : m < 2:=by omega
  rw [hm] at hf
  obtain ⟨M,hM⟩ : ∃ M,2 + m = M:=⟨_,rfl⟩
  have w1 : IntKind.u8.wrap (2 + (m : Int)) = (M : Int):=by rw [wrap_u8] <;> omega
  rw [hM] at hf
  simp only [Pt.v] at h14 ⊢
  simp only [Fx.v,u8V] at hf
  refine PureC.of_W 2 ok15 rfl ?_
  simp [i15,x15,u8V,caseJ]
  intro gf1 gf2 gf3 gf4
  refine CallO.pure hof (by simpa [u8V] using hpu) ?_
  have hm3 : ((z.m : Int)).tmod 2 = (m : Int):=hm2
  simp [hm3,w1]
  intro gf5 gm
  first | refine ⟨_,_,_,.pure hf (by simp [u8V]),?_⟩ | refine ⟨_,⟨_,_,.pure hf (by simp [u8V])⟩,?_⟩ | refine ⟨_,_,⟨_,.pure hf (by simp [u8V])⟩,?_⟩
  simp
  first | refine ⟨_,_,_,.pure h14 (by simp),?_⟩ | refine ⟨_,⟨_,_,.pure h14 (by simp)⟩,?_⟩ | refine ⟨_,_,⟨_,.pure h14 (by simp)⟩,?_⟩
  simp [mapRL_pure,nds_pure,mds_pure,ints_pure,V.mapR]
  exact ⟨rfl,rfl,rfl⟩
end Go.Proofs.YtlmniacemoohpaaGreatDoor
