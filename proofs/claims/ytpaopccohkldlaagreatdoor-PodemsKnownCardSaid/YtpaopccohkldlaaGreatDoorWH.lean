/- Lemmas. Conditions: none. -/
import Derived.Test.YtpaopccohkldlaaGreatDoorWF
import Derived.Test.YtpaopccohkldlaaGreatDoorU3
import Derived.Test.YtpaopccohkldlaaGreatDoorT13
set_option linter.all false
namespace Go.Proofs.YtpaopccohkldlaaGreatDoor
open Go
def jls (c:Ci):Int:=if c.m ≠ [] then 7 else if qmv [12,13,15] c.n 0 ≠ [] then 7 else 0
theorem q3v (c:Ci) (hwf:c.wf) (hk:qlv c = 0) (hn:c.n.length < 1000000):qab Tryz.prog gl0 42 [c.v] (.int .i64 (jls c)):=by
 have h1:=qj5 c hwf;rw [hk] at h1;have h2:=job (q8h c [12,13,15] (some 3) hn (by simp)) (qc7 [12,13,15] c.n 0).2 (qc7 [12,13,15] c.n 0).1;unfold jls;generalize qmv [12,13,15] c.n 0 = L at h2 ⊢;refine jpb 2 ok42 rfl ?_;simp [i42,x42];intro gf;refine jo7 h1 (by simp) ?_;simp;by_cases hm:c.m = []
 ·simp [hm];intro gf2;refine CallO.dat 1 h2 (by simp) ?_
  cases L with
  | nil=>simp
  | cons a r=>simp
 ·have h0:0 < c.m.length:=List.length_pos_iff.2 hm;simp [hm,h0]
end Go.Proofs.YtpaopccohkldlaaGreatDoor
