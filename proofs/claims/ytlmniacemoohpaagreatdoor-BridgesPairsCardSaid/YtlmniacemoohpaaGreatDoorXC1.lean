/- Bridges: the closed check of layer 19, run by its parts. Conditions: none. -/
import Derived.Test.YtlmniacemoohpaaGreatDoorXTB
import Derived.Test.YtlmniacemoohpaaGreatDoorXG
namespace Go.Proofs.YtlmniacemoohpaaGreatDoor
open Go
def twoV : V:=.agg [.sl [.agg [.int .u8 0,.nil,.int .i64 0,.int .i64 0],.agg [.int .u8 0,.nil,.int .i64 0,.int .i64 0],.agg [.int .u8 5,.sl [.int .i64 0,.int .i64 1] (some 2),.int .i64 0,.int .i64 0],.agg [.int .u8 7,.sl [.int .i64 0,.int .i64 1] (some 2),.int .i64 0,.int .i64 0]] (some 4),.sl [.str [97],.str [98],.str [121],.str [122]] (some 4),.nil,.sl [.int .i64 2,.int .i64 3] (some 2)]
def brV : V:=.agg [.int .u8 2,.int .i64 2,.int .i64 (-1),.int .u8 0,.int .i64 3]
def p2V (n m : Int) : V:=.agg [.sl [.int .u8 n,.int .u8 m] (some 2),.nil]
set_option maxRecDepth 1000000
theorem two_d : OwnC Tryz.prog gl0 46 [] (DatK 6 twoV):=OwnC.of_runD FTb_ok (m:=200000) (by kernel_rfl)
theorem prs_d : OwnC Tryz.prog gl0 27 [twoV] (DatK 6 (.tup [.sl [.agg [.int .i64 0,.int .i64 1],.agg [.int .i64 2,.int .i64 3]] (some 2),.int .i64 0])):=OwnC.of_runD FTb_ok (m:=200000) (by kernel_rfl)
theorem st0_d : OwnC Tryz.prog gl0 19 [twoV,brV,p2V 1 0] (DatK 6 (.tup [.agg [.int .u8 0,.int .i64 3,.int .i64 (-1),.int .u8 0,.int .i64 0],.bool true,.int .i64 0])):=OwnC.of_runD FTb_ok (m:=200000) (by kernel_rfl)
theorem st1_d : OwnC Tryz.prog gl0 19 [twoV,brV,p2V 1 1] (DatK 6 (.tup [.agg [.int .u8 0,.int .i64 0,.int .i64 0,.int .u8 0,.int .i64 0],.bool false,.int .i64 0])):=OwnC.of_runD FTb_ok (m:=200000) (by kernel_rfl)
theorem dt0_d : OwnC Tryz.prog gl0 16 [twoV,brV,p2V 1 0] (DatK 6 (.tup [.bool true,.int .i64 0])):=OwnC.of_runD FTb_ok (m:=200000) (by kernel_rfl)
theorem dt1_d : OwnC Tryz.prog gl0 16 [twoV,brV,p2V 1 1] (DatK 6 (.tup [.bool false,.int .i64 0])):=OwnC.of_runD FTb_ok (m:=200000) (by kernel_rfl)
end Go.Proofs.YtlmniacemoohpaaGreatDoor
