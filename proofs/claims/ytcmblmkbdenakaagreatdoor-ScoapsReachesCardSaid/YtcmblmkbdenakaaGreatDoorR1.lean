/- Circuits without memories: one cycle, for a pattern whose inputs are memory of one's own. Conditions: none. -/
import Derived.Test.YtcmblmkbdenakaaGreatDoorT1
import Derived.Test.YtcmblmkbdenakaaGreatDoorLV
set_option linter.unusedSimpArgs false
set_option linter.unusedVariables false
namespace Go.Proofs.YtcmblmkbdenakaaGreatDoor
open Go
end Go.Proofs.YtcmblmkbdenakaaGreatDoor
