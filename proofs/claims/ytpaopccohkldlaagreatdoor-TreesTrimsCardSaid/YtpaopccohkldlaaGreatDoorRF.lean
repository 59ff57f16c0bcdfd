/- Trees: the law Blocked. Conditions: none. -/
import Derived.Test.YtpaopccohkldlaaGreatDoorRE
import Derived.Test.YtpaopccohkldlaaGreatDoorRA
set_option linter.all false
namespace Go.Proofs.YtpaopccohkldlaaGreatDoor
open Go
theorem qpt:∀ l:List Nd,cnt 0 l + cnt 14 l≤l.length
 | []=>by simp [cnt,ids]
 | x :: l=>by
  have:=qpt l;rw [qf4,qf4];simp only [List.length_cons];by_cases h0:x.k = 0
  ·rw [if_pos h0,if_neg (by omega)]; omega
  ·rw [if_neg h0]; split <;> omega
theorem ci_v (c:Ci):c.v = .agg [.sl (c.n.map Nd.v) none,.sl (c.s.map .str) none,.sl (c.m.map Md.v) none,.sl (qda c.o) none]:=rfl
end Go.Proofs.YtpaopccohkldlaaGreatDoor
