/- Netlists: the closed checks, run. Conditions: none. -/
import Derived.Test.YtcdfifbabhfknaaDoorX1
namespace Go.Proofs.YtcdfifbabhfknaaDoor
open Go
/-- The package-level variable that the program reads. -/
def gl0 : Fr := [(0, .iptr (.agg ([0,0,0,0,0,0,1,1,1,1,2,16,2,16,2,16,2,16,2,16,2,16,3,3,2,2,1,16,1,1,0,0].map (V.int .i64))) 0)]
theorem lives_c : PureC Tryd.prog gl0 12 [] (.bool true) := PureC.of_run FTt_ok (m := 100000) (d := 4) (by kernel_rfl)
end Go.Proofs.YtcdfifbabhfknaaDoor
