/- Words: the package-level variables; the closed check, run. Conditions: none. -/
import Derived.Test.YtmbgmfenlededaaGreatDoorX1
namespace Go.Proofs.YtmbgmfenlededaaGreatDoor
open Go
/-- The package-level variables that the program reads. -/
def gl0 : Fr := [(1, .iptr (.agg ([0,0,0,0,0,0,1,1,1,1,2,16,2,16,2,16,2,16,2,16,2,16,3,3,2,2,1,16,1,1,0,0].map (V.int .i64))) 0), (0, .iptr (.agg ([0,1,1,0,0,0,1,1].map (V.int .u64))) 0)]
theorem lives_c : PureC Tryz.prog gl0 6 [] (.bool true) := PureC.of_run FTt_ok (m := 200000) (d := 4) (by kernel_rfl)
end Go.Proofs.YtmbgmfenlededaaGreatDoor
