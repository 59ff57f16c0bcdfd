/- Transitions: the package-level variables; the closed check of layer 18, run by its parts. Conditions: none. -/
import Derived.Test.YtekbgkainigfnaaGreatDoorXG
import Derived.Test.YtekbgkainigfnaaGreatDoorBase15
namespace Go.Proofs.YtekbgkainigfnaaGreatDoor
open Go
def loopV : V := .agg [.sl [.agg [.int .u8 0, .nil, .int .i64 0, .int .i64 0], .agg [.int .u8 14, .sl [.int .i64 2] (some 1), .int .i64 0, .int .i64 0], .agg [.int .u8 4, .sl [.int .i64 0] (some 1), .int .i64 0, .int .i64 0]] (some 3), .sl [.str [97], .str [113], .str [100]] (some 3), .nil, .sl [.int .i64 1] (some 1)]
def v1V (n : Int) : V := .sl [.int .u8 n] (some 1)
theorem loop_c : OwnC Tryz.prog gl0 49 [] (DatK 6 loopV) := OwnC.of_runD FTt_ok (m := 200000) (by kernel_rfl)
theorem cap0_c : OwnC Tryz.prog gl0 16 [loopV, .agg [v1V 0, v1V 0], v1V 1] (DatK 6 (.tup [.agg [v1V 0, v1V 0, v1V 1, v1V 1], .int .i64 0])) := OwnC.of_runD FTt_ok (m := 200000) (by kernel_rfl)
theorem shf0_c : OwnC Tryz.prog gl0 20 [loopV, .agg [v1V 0, v1V 0], v1V 1, .int .u8 0] (DatK 6 (.tup [.agg [v1V 0, v1V 0, v1V 1, v1V 0], .int .i64 0])) := OwnC.of_runD FTt_ok (m := 200000) (by kernel_rfl)
theorem lau0_c : OwnC Tryz.prog gl0 22 [loopV, .agg [.int .i64 0, .int .i64 (-1)], .int .u8 1, .agg [v1V 0, v1V 0, v1V 1, v1V 1]] (DatK 6 (.tup [.bool true, .int .i64 0])) := OwnC.of_runD FTt_ok (m := 200000) (by kernel_rfl)
theorem det0_c : OwnC Tryz.prog gl0 25 [loopV, .agg [.int .u8 1, .int .i64 0, .int .i64 (-1), .int .u8 1, .int .i64 0], .agg [v1V 0, v1V 0, v1V 1, v1V 1]] (DatK 6 (.tup [.bool true, .int .i64 0])) := OwnC.of_runD FTt_ok (m := 200000) (by kernel_rfl)
end Go.Proofs.YtekbgkainigfnaaGreatDoor
