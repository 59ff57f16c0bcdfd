/- Lemmas. Conditions: none. -/
import Derived.Test.YtpaopccohkldlaaGreatDoorWA
import Derived.Test.YtpaopccohkldlaaGreatDoorT13
import Derived.Test.YtpaopccohkldlaaGreatDoorA5
set_option linter.all false
namespace Go.Proofs.YtpaopccohkldlaaGreatDoor
section
open Go
end
section
open Go
end
section
open Go
end
section
open Go
end
section
open Go
end
end Go.Proofs.YtpaopccohkldlaaGreatDoor
