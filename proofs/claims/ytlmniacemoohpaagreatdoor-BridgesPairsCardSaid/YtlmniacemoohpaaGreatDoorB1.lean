/- Bridges: the values of bridged nets, the stuck fault, the checks of the package. Conditions: none. -/
import Derived.Test.YtlmniacemoohpaaGreatDoorB0
import Derived.Test.YtlmniacemoohpaaGreatDoorU5
set_option linter.unusedSimpArgs false
set_option linter.unusedVariables false
namespace Go.Proofs.YtlmniacemoohpaaGreatDoor
open Go
end Go.Proofs.YtlmniacemoohpaaGreatDoor
