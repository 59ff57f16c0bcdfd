/- Trees: the law's own reading of a blocked cube. Conditions: none. -/
import Derived.Test.YtpaopccohkldlaaGreatDoorRD
set_option linter.unusedSimpArgs false
set_option linter.unusedVariables false
namespace Go.Proofs.YtpaopccohkldlaaGreatDoor
open Go
end Go.Proofs.YtpaopccohkldlaaGreatDoor
