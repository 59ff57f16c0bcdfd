/- Top: the closed check. Conditions: none. -/
import Derived.Test.YtbbnmiaabmbheaaGreatDoorTH
import Derived.Test.YtbbnmiaabmbheaaGreatDoorTI
set_option linter.all false
namespace Go.Proofs.YtbbnmiaabmbheaaGreatDoor
open Go
set_option maxRecDepth 100000 in
theorem jh0:qac Tryz.prog gl0 35 [] (.bool true):=by
 have r1:=qzu;have r2:=q3m;have r3:=q9b;have r4:=qzv;simp only [tgT,tgC,tgN,tgI,tgU,tgR,List.map_cons,List.map_nil,List.length_cons,List.length_nil] at r1 r2 r3;refine jj7 2 ok35 rfl ?_;simp [i35,x35];refine CallO.dat 3 r1 (qdr _ _ (by simp)) ?_;simp;intro gf1 gf2 gf3 gf4 gf5;refine CallO.dat 3 r2 ?_ ?_
 ·simp [frz,V.mapR,jio]
 simp;intro gf6;refine CallO.dat 3 r3 (qdr _ _ (by simp)) ?_;simp;intro gf7;refine jj4 r4 (by simp) ?_;simp;refine jj4 r4 (by simp) ?_;simp [tgX]
end Go.Proofs.YtbbnmiaabmbheaaGreatDoor
