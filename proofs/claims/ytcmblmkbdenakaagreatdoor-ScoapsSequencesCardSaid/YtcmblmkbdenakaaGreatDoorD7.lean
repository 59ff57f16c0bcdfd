/- Observability: the contract of Line. Conditions: none. -/
import Derived.Test.YtcmblmkbdenakaaGreatDoorD5
set_option linter.unusedSimpArgs false
set_option linter.unusedVariables false
namespace Go.Proofs.YtcmblmkbdenakaaGreatDoor
open Go
end Go.Proofs.YtcmblmkbdenakaaGreatDoor
namespace Go.Proofs.YtcmblmkbdenakaaGreatDoor
open Go
theorem ord_ex {c : Ci} (hv : c.val) (ha : acyc c) : Ord c (ordL c):=by
 have h : Ord c (lvL c.n.length (lvOf c) c.n.length):=
  ⟨⟨Nat.le_antisymm (lvL_len _) (lvL_all fun x hx=>ha.lv.lt hv.g x hx),fun x hx=>((lvL_mem _ x).1 hx).1⟩,lvL_pw _⟩
 rw [h.eq]; exact h
end Go.Proofs.YtcmblmkbdenakaaGreatDoor
