/- Transitions: the contract of All. Conditions: none. -/
import Derived.Test.YtpaopccohkldlaaGreatDoorT12
import Derived.Test.YtpaopccohkldlaaGreatDoorT7
import Derived.Test.YtpaopccohkldlaaGreatDoorWA
set_option linter.all false
namespace Go.Proofs.YtpaopccohkldlaaGreatDoor
section
open Go
end
section
open Go
structure SitS where
 j:Nat
 z:Option (Nat × List V)
end
section
open Go
end
end Go.Proofs.YtpaopccohkldlaaGreatDoor
