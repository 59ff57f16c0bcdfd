/- Lemmas. Conditions: none. -/
import Derived.Test.YtpaopccohkldlaaGreatDoorXT
namespace Go.Proofs.YtpaopccohkldlaaGreatDoor
open Go
end Go.Proofs.YtpaopccohkldlaaGreatDoor
