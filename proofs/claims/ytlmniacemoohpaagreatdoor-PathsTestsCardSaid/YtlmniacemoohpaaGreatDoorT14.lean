/- Transitions: slow lines against stuck ones, when the values are known. No program stands in it. Conditions: none. -/
import Derived.Test.YtlmniacemoohpaaGreatDoorJ7
import Derived.Test.YtlmniacemoohpaaGreatDoorXG
set_option linter.unusedSimpArgs false
set_option linter.unusedVariables false
namespace Go.Proofs.YtlmniacemoohpaaGreatDoor
open Go
def Ci.plain (c : Ci) : Prop:=∀ n,n < c.n.length→combC c n = true→1 ≤ (c.nd n).k∧(c.nd n).k ≤ 11∧widB (c.nd n).k (c.nd n).i.length = true
def Pt.kn (p : Pt) : Prop:=(∀ x ∈ p.i,x ≤ 1)∧∀ x ∈ p.s,x ≤ 1
theorem net3 {c : Ci} {p : Pt} (hp : p.fit c) (n : Nat) : netN c p n ≤ 3:=by
 rw [netN_M]
 exact evlM_le (fun _ _ h=>h) _ _ (ini_le hp) n
end Go.Proofs.YtlmniacemoohpaaGreatDoor
namespace Go.Proofs.YtlmniacemoohpaaGreatDoor
open Go
def caseJ (x : Cx) (z : Fx) (p : Pt) : V:=.agg [u8V x.n,u8V x.f,u8V x.d0,u8V x.d1,.bool x.bus,.bool x.mem,u8V x.p0,u8V x.p1,u8V x.p2,u8V x.p3,.sl (x.g.map Gx.v) none,.sl (x.o.map u8V) none,u8V z.m,u8V z.n,u8V z.p,u8V z.o,.bool z.one,.sl (p.i.map u8V) none,.sl (p.s.map u8V) none]
@[simp] theorem caseJ_cells (x : Cx) (z : Fx) (p : Pt) : (caseJ x z p).cells = [u8V x.n,u8V x.f,u8V x.d0,u8V x.d1,.bool x.bus,.bool x.mem,u8V x.p0,u8V x.p1,u8V x.p2,u8V x.p3,.sl (x.g.map Gx.v) none,.sl (x.o.map u8V) none,u8V z.m,u8V z.n,u8V z.p,u8V z.o,.bool z.one,.sl (p.i.map u8V) none,.sl (p.s.map u8V) none]:=rfl
@[simp] theorem caseJ_ok (x : Cx) (z : Fx) (p : Pt) : (caseJ x z p).cellsOk = true:=rfl
end Go.Proofs.YtlmniacemoohpaaGreatDoor
