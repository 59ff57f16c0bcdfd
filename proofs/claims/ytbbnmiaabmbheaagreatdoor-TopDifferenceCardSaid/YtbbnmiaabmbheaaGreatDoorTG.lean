/- Lemmas. Conditions: none. -/
import Derived.Test.YtbbnmiaabmbheaaGreatDoorXYT
import Derived.Test.YtbbnmiaabmbheaaGreatDoorNet2
import Derived.Test.YtbbnmiaabmbheaaGreatDoorBase18
set_option linter.all false
namespace Go.Proofs.YtbbnmiaabmbheaaGreatDoor
open Go
def tgN (k:Int) (l:V):V:=.agg [.int .u8 k,l,.int .i64 0,.int .i64 0]
def tgI (l:List Int):V:=.sl (l.map fun i=>.int .i64 i) (some l.length)
def tgU (i:Int):V:=.sl [.int .u8 i] (some 1)
def tgC:V:=.agg [.sl [tgN 0 .nil,tgN 14 (tgI [2]),tgN 9 (tgI [0,1])] (some 3),.sl [.str [116],.str [113],.str [120]] (some 3),.nil,tgI [1]]
def tgT:V:=.str [73,78,80,85,84,40,116,41,10,113,32,61,32,68,70,70,40,120,41,10,120,32,61,32,88,79,82,40,116,44,32,113,41,10,79,85,84,80,85,84,40,113,41,10]
set_option maxRecDepth 100000 in
theorem qzu:qce Tryz.prog gl0 111 [tgT] (qz3 6 (.tup [tgC,.agg [.int .i64 0,.int .i64 0]])):=ji7 qq1 (m:=200000) (by kernel_rfl)
end Go.Proofs.YtbbnmiaabmbheaaGreatDoor
