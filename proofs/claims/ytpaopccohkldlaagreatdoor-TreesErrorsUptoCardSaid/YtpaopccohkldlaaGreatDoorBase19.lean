/- The library's Delete of one element of a list of integers, over memory of the activation's own. No program stands in it. Conditions: none. -/
import Derived.Test.YtpaopccohkldlaaGreatDoorBase18
import Derived.Shelf.Slices.Delete
set_option linter.unusedSimpArgs false
set_option linter.unusedVariables false
namespace Go.Proofs.YtpaopccohkldlaaGreatDoor
open Go Go.Shelf Go.Sort
section
variable {P : Program} {gl : Fr} {ρ : Ren}
end
end Go.Proofs.YtpaopccohkldlaaGreatDoor
