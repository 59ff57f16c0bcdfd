/- The package-level variables that the program reads. Conditions: none. -/
import Derived.Test.YtcmapbecfpcnfaaDoorX1
namespace Go.Proofs.YtcmapbecfpcnfaaDoor
open Go
def gl0 : Fr:=[(0,.iptr (.agg ([0,0,0,0,0,0,1,1,1,1,2,16,2,16,2,16,2,16,2,16,2,16,3,3,2,2,1,16,1,1,0,0].map (V.int .i64))) 0)]
end Go.Proofs.YtcmapbecfpcnfaaDoor
