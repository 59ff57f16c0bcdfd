/- Bridges and paths: the functions' code as the run takes it (a law). Conditions: none. -/
import Derived.Test.YtlmniacemoohpaaGreatDoorXP
namespace Go.Proofs.YtlmniacemoohpaaGreatDoor
open Go
end Go.Proofs.YtlmniacemoohpaaGreatDoor
