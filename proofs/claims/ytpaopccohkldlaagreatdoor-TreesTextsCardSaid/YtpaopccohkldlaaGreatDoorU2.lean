/- Lemmas. Conditions: none. -/
import Derived.Test.YtpaopccohkldlaaGreatDoorT12
set_option linter.all false
namespace Go.Proofs.YtpaopccohkldlaaGreatDoor
open Go
noncomputable def visB (c:Ci) (W:Nat->Nat->Nat) (Q:Nat->Nat->Nat->Nat) (p:Pt):Bool:=qqt (qqk c (qgt c p)) (qql c (qgt c p)) (qjz c (qnj c W Q p)) (qj0 c Q (qnj c W Q p))
end Go.Proofs.YtpaopccohkldlaaGreatDoor
