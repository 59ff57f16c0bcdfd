/- Netlists: the closed check, run. Conditions: none. -/
import Derived.Test.YtcdfifbabhfknaaDoorXG
namespace Go.Proofs.YtcdfifbabhfknaaDoor
open Go
theorem lives_c : PureC Tryd.prog gl0 12 [] (.bool true):=PureC.of_run FTt_ok (m:=100000) (d:=4) (by kernel_rfl)
end Go.Proofs.YtcdfifbabhfknaaDoor
