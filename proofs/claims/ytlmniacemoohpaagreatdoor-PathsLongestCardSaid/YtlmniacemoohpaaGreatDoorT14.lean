/- Lemmas. Conditions: none. -/
import Derived.Test.YtlmniacemoohpaaGreatDoorJ7
import Derived.Test.YtlmniacemoohpaaGreatDoorXG
set_option linter.all false
namespace Go.Proofs.YtlmniacemoohpaaGreatDoor
open Go
def q6j (x:Cx) (z:Fx) (p:Pt):V:=.agg [u8V x.n,u8V x.f,u8V x.d0,u8V x.d1,.bool x.bus,.bool x.mem,u8V x.p0,u8V x.p1,u8V x.p2,u8V x.p3,.sl (x.g.map Gx.v) none,.sl (x.o.map u8V) none,u8V z.m,u8V z.n,u8V z.p,u8V z.o,.bool z.one,.sl (p.i.map u8V) none,.sl (p.s.map u8V) none]
@[simp] theorem q2k (x:Cx) (z:Fx) (p:Pt):(q6j x z p).cells = [u8V x.n,u8V x.f,u8V x.d0,u8V x.d1,.bool x.bus,.bool x.mem,u8V x.p0,u8V x.p1,u8V x.p2,u8V x.p3,.sl (x.g.map Gx.v) none,.sl (x.o.map u8V) none,u8V z.m,u8V z.n,u8V z.p,u8V z.o,.bool z.one,.sl (p.i.map u8V) none,.sl (p.s.map u8V) none]:=rfl
@[simp] theorem ja1 (x:Cx) (z:Fx) (p:Pt):(q6j x z p).cellsOk = true:=rfl
end Go.Proofs.YtlmniacemoohpaaGreatDoor
