/- Lemmas. Conditions: none. -/
import Derived.Test.YtbbnmiaabmbheaaGreatDoorTG
set_option linter.all false
namespace Go.Proofs.YtbbnmiaabmbheaaGreatDoor
open Go
def tgR (a b:Int):V:=.agg [tgU a,tgU b]
set_option maxRecDepth 100000 in
theorem q3m:qce Tryz.prog gl0 112 [tgC,.agg [tgU 0,.nil,.nil],.sl [tgU 1,tgU 1,tgU 1] (some 3)] (qz3 6 (.tup [.sl [tgR 0 1,tgR 1 0,tgR 0 1] (some 3),.agg [tgU 1,.nil,.nil],.int .i64 0])):=ji7 qq1 (m:=200000) (by kernel_rfl)
end Go.Proofs.YtbbnmiaabmbheaaGreatDoor
