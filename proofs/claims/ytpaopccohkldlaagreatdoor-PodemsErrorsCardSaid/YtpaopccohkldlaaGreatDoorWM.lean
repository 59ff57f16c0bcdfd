/- Podems: the law Finds. Conditions: none. -/
import Derived.Test.YtpaopccohkldlaaGreatDoorWL
import Derived.Test.YtpaopccohkldlaaGreatDoorWF
import Derived.Test.YtpaopccohkldlaaGreatDoorXL8
set_option linter.all false
namespace Go.Proofs.YtpaopccohkldlaaGreatDoor
open Go
theorem qo6 (l:Nat) (R:VR):(quz l R).pure = true:=by
 cases R <;> simp [quz,V.pure,jm8,qaa,trV,qcp]
end Go.Proofs.YtpaopccohkldlaaGreatDoor
