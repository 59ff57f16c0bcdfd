/- Transitions: slow lines against stuck ones, when the values are known. No program stands in it. Conditions: none. -/
import Derived.Test.YtlmniacemoohpaaGreatDoorJ7
set_option linter.unusedSimpArgs false
set_option linter.unusedVariables false
namespace Go.Proofs.YtlmniacemoohpaaGreatDoor
open Go
def Ci.plain (c : Ci) : Prop:=∀ n,n < c.n.length→combC c n = true→1 ≤ (c.nd n).k∧(c.nd n).k ≤ 11∧widB (c.nd n).k (c.nd n).i.length = true
end Go.Proofs.YtlmniacemoohpaaGreatDoor
