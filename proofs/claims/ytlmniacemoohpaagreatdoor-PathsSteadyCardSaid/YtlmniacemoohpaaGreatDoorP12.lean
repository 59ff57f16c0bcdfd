/- Paths: the case of the laws; the law Rules of layer 20. Conditions: none. -/
import Derived.Test.YtlmniacemoohpaaGreatDoorP11
import Derived.Test.YtlmniacemoohpaaGreatDoorT7
import Derived.Test.YtlmniacemoohpaaGreatDoorXL12
set_option linter.unusedSimpArgs false
set_option linter.unusedVariables false
namespace Go.Proofs.YtlmniacemoohpaaGreatDoor
open Go
theorem caseP_c (x : Cx) (hx : x.ok) (p q : Pt) : PureC Tryz.prog gl0 36 [caseV x p q] (.tup [x.nm.ci.v,prV (pof x.nm.ci p) (pof x.nm.ci q)]):=by
  have hof:=circU_c x hx
  have hpu:=cxU_pure x
  have hg:=nm_good x
  generalize x.nm.ci = c at hof hg ⊢
  have hn1:=hg.n1
  have hp:=pofV_c p c (by omega)
  have hq:=pofV_c q c (by omega)
  generalize pof c p = a at hp ⊢
  generalize pof c q = b at hq ⊢
  have hcl : c.v.cells = [.sl (c.n.map Nd.v) none,.sl (c.s.map .str) none,.sl (c.m.map Md.v) none,.sl (ints c.o) none]:=rfl
  simp only [Pt.v] at hp hq
  refine PureC.of_W 2 ok36 rfl ?_
  simp [i36,x36]
  intro gf1 gf2 gf3
  refine CallO.pure hof hpu ?_
  simp
  intro gf4 gm
  first | refine ⟨_,_,_,.pure hp (by simp),?_⟩ | refine ⟨_,⟨_,_,.pure hp (by simp)⟩,?_⟩ | refine ⟨_,_,⟨_,.pure hp (by simp)⟩,?_⟩
  simp
  first | refine ⟨_,_,_,.pure hq (by simp),?_⟩ | refine ⟨_,⟨_,_,.pure hq (by simp)⟩,?_⟩ | refine ⟨_,_,⟨_,.pure hq (by simp)⟩,?_⟩
  simp [mapRL_pure,nds_pure,mds_pure,ints_pure,prV]
  exact ⟨rfl,rfl⟩
end Go.Proofs.YtlmniacemoohpaaGreatDoor
