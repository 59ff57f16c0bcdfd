/- Bridges: what a bridge of two known nets makes of a pattern. Conditions: none. -/
import Derived.Test.YtlmniacemoohpaaGreatDoorU5
import Derived.Test.YtlmniacemoohpaaGreatDoorT12
set_option linter.unusedSimpArgs false
set_option linter.unusedVariables false
namespace Go.Proofs.YtlmniacemoohpaaGreatDoor
open Go
variable {c : Ci} {p : Pt}
end Go.Proofs.YtlmniacemoohpaaGreatDoor
