/- Cones: the law Sets. Conditions: none. -/
import Derived.Test.YtcmapbecfpcnfaaDoorK16
import Derived.Test.YtcmapbecfpcnfaaDoorXD
import Derived.Test.YtcmapbecfpcnfaaDoorXL5
set_option linter.unusedSimpArgs false
set_option linter.unusedVariables false
namespace Go.Proofs.YtcmapbecfpcnfaaDoor
open Go
theorem intsE_c (l : List Nat) (cb : Option Nat) (hl : l.length < 1000000000000) : PureC Tryd.prog gl0 25 [.sl (natsV l) (some l.length),.sl (natsV l) cb] (.int .i64 0):=by
  have:=ie_c (l.map fun x : Nat=>(x : Int)) cb (by simpa using hl)
  rw [← natsV_i,List.length_map] at this
  exact this
structure SeSt where
  i : Nat
  a : Option (Nat × List V)
end Go.Proofs.YtcmapbecfpcnfaaDoor
