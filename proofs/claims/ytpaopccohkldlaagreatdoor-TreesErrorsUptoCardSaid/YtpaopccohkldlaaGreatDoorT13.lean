/- Transitions: circuits without nodes of kind Tri and Bus, patterns of known values; the law Detects. Conditions: none. -/
import Derived.Test.YtpaopccohkldlaaGreatDoorT12
import Derived.Test.YtpaopccohkldlaaGreatDoorT7
import Derived.Test.YtpaopccohkldlaaGreatDoorXT
set_option linter.unusedSimpArgs false
set_option linter.unusedVariables false
namespace Go.Proofs.YtpaopccohkldlaaGreatDoor
open Go
end Go.Proofs.YtpaopccohkldlaaGreatDoor
