/- Lemmas. Conditions: none. -/
import Derived.Test.YtlmniacemoohpaaGreatDoorJ4
import Derived.Test.YtlmniacemoohpaaGreatDoorXG
set_option linter.all false
namespace Go.Proofs.YtlmniacemoohpaaGreatDoor
section
open Go
end
section
open Go
end
section
open Go
end
end Go.Proofs.YtlmniacemoohpaaGreatDoor
