/- Trees: the law Blocked. Conditions: none. -/
import Derived.Test.YtpaopccohkldlaaGreatDoorRE
import Derived.Test.YtpaopccohkldlaaGreatDoorRA
set_option linter.unusedSimpArgs false
set_option linter.unusedVariables false
namespace Go.Proofs.YtpaopccohkldlaaGreatDoor
open Go
theorem ci_v (c : Ci) : c.v = .agg [.sl (c.n.map Nd.v) none,.sl (c.s.map .str) none,.sl (c.m.map Md.v) none,.sl (ints c.o) none]:=rfl
end Go.Proofs.YtpaopccohkldlaaGreatDoor
