/- Lemmas. Conditions: none. -/
import Derived.Test.YtpaopccohkldlaaGreatDoorT12
set_option linter.all false
namespace Go.Proofs.YtpaopccohkldlaaGreatDoor
open Go
noncomputable def visB (c:Ci) (W:Nat->Nat->Nat) (Q:Nat->Nat->Nat->Nat) (p:Pt):Bool:=qpk (qqs c (qgz c p)) (qqt c (qgz c p)) (qj4 c (qmg c W Q p)) (qj5 c Q (qmg c W Q p))
end Go.Proofs.YtpaopccohkldlaaGreatDoor
