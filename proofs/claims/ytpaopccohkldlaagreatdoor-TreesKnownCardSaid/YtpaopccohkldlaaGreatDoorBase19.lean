/- Lemmas. Conditions: none. -/
import Derived.Test.YtpaopccohkldlaaGreatDoorBase18
import Derived.Shelf.Slices.Delete
set_option linter.all false
namespace Go.Proofs.YtpaopccohkldlaaGreatDoor
open Go Go.Shelf Go.Sort
section
variable {P:Program} {gl:Fr} {ρ:Ren}
end
end Go.Proofs.YtpaopccohkldlaaGreatDoor
