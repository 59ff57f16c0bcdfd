/- Paths: the closed check of layer 20, its parts. Conditions: none. -/
import Derived.Test.YtlmniacemoohpaaGreatDoorP6
import Derived.Test.YtlmniacemoohpaaGreatDoorXTP
import Derived.Test.YtlmniacemoohpaaGreatDoorXG
set_option linter.unusedSimpArgs false
set_option linter.unusedVariables false
namespace Go.Proofs.YtlmniacemoohpaaGreatDoor
open Go
def gateV : V:=.agg [.sl [.agg [.int .u8 0,.nil,.int .i64 0,.int .i64 0],.agg [.int .u8 0,.nil,.int .i64 0,.int .i64 0],.agg [.int .u8 5,.sl [.int .i64 0,.int .i64 1] (some 2),.int .i64 0,.int .i64 0]] (some 3),.sl [.str [97],.str [98],.str [121]] (some 3),.nil,.sl [.int .i64 2] (some 1)]
set_option maxRecDepth 1000000
theorem gate_d : OwnC Tryz.prog gl0 66 [] (DatK 6 gateV):=OwnC.of_runD FTp_ok (m:=200000) (by kernel_rfl)
theorem count_d : OwnC Tryz.prog gl0 32 [gateV] (DatK 6 (.tup [.int .u64 2,.int .i64 0])):=OwnC.of_runD FTp_ok (m:=200000) (by kernel_rfl)
def nextV : V:=.sl [.sl [.agg [.int .i64 2,.int .i64 0]] none,.sl [.agg [.int .i64 2,.int .i64 1]] none,.nil] (some 3)
def pairV (a b d e : Int) : V:=.agg [.sl [.int .u8 a,.int .u8 b] (some 2),.nil,.sl [.int .u8 d,.int .u8 e] (some 2),.nil]
theorem pair1_d : OwnC Tryz.prog gl0 67 [.int .u8 0,.int .u8 1,.int .u8 1,.int .u8 1] (DatK 6 (pairV 0 1 1 1)):=OwnC.of_runD FTp_ok (m:=200000) (by kernel_rfl)
theorem pair2_d : OwnC Tryz.prog gl0 67 [.int .u8 1,.int .u8 1,.int .u8 0,.int .u8 1] (DatK 6 (pairV 1 1 0 1)):=OwnC.of_runD FTp_ok (m:=200000) (by kernel_rfl)
theorem pair3_d : OwnC Tryz.prog gl0 67 [.int .u8 1,.int .u8 0,.int .u8 0,.int .u8 1] (DatK 6 (pairV 1 0 0 1)):=OwnC.of_runD FTp_ok (m:=200000) (by kernel_rfl)
end Go.Proofs.YtlmniacemoohpaaGreatDoor
