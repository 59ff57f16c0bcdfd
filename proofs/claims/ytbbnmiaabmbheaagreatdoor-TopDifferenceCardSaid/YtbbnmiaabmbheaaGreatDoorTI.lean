/- Lemmas. Conditions: none. -/
import Derived.Test.YtbbnmiaabmbheaaGreatDoorTG
set_option linter.all false
namespace Go.Proofs.YtbbnmiaabmbheaaGreatDoor
open Go
def tgS (a b:UInt8):V:=.str [a + 48,46,b + 48]
def tgX:List V:=[tgN 0 .nil,tgN 0 .nil,tgN 9 (tgI [0,1]),tgN 0 .nil,tgN 3 (tgI [2]),tgN 9 (tgI [3,4]),tgN 0 .nil,tgN 3 (tgI [5]),tgN 9 (tgI [6,7]),tgN 3 (tgI [8])]
def tgM:List V:=[tgS 0 0,tgS 0 1,tgS 0 2,tgS 1 0,tgS 1 1,tgS 1 2,tgS 2 0,tgS 2 1,tgS 2 2,tgS 3 1]
set_option maxRecDepth 100000 in
theorem q9b:qce Tryz.prog gl0 113 [tgC,.int .i64 3] (qz3 6 (.tup [.agg [.sl tgX (some 10),.sl tgM (some 10),.nil,tgI [1,4,4,7,7,9],.sl [tgI [0,1,2],tgI [3,4,5],tgI [6,7,8]] (some 3)],.int .i64 0])):=ji7 qq1 (m:=200000) (by kernel_rfl)
theorem qzv:qac Tryz.prog gl0 114 [.sl [.int .u8 1] (some 1)] (.str [49]):=jji qq1 (m:=200000) (d:=2) (by kernel_rfl)
end Go.Proofs.YtbbnmiaabmbheaaGreatDoor
