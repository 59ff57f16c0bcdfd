/- Lemmas. Conditions: none. -/
import Derived.Test.YtpaopccohkldlaaGreatDoorST
import Derived.Test.YtpaopccohkldlaaGreatDoorY3
set_option linter.all false
namespace Go.Proofs.YtpaopccohkldlaaGreatDoor
open Go Go.RowKit Go.ChangeShapes
set_option maxRecDepth 100000
variable {v:V} {n:Nat}
theorem tn_h (h:qd7 Tryz.prog (n + 2) 55 v):∃ t:Tn,v = t.v/\True:=by
 obtain ⟨ps,rfl,hp⟩:=qe7 Tryz.underlying55 h;obtain ⟨a,_,rfl,ha,hp⟩:=qav hp;obtain ⟨b,_,rfl,hb,hp⟩:=qav hp;obtain ⟨d,_,rfl,hd,hp⟩:=qav hp;obtain rfl:=qdt hp;obtain ⟨x,rfl⟩:=q22 ha;obtain ⟨y,rfl⟩:=q22 hb;obtain ⟨z,rfl⟩:=q22 hd;exact ⟨⟨x,y,z⟩,rfl,trivial⟩
theorem jfm (h:qd7 Tryz.prog (n + 3) 46 v):∃ l:List Tn,v = .sl (l.map Tn.v) none:=by
 obtain ⟨xs,rfl,-,hx⟩:=qf6 Tryz.underlying46 h;obtain ⟨l,rfl,-⟩:=qqc (f:=Tn.v) (Q:=fun _=>True) fun x hx2=>tn_h (hx x hx2);exact ⟨l,rfl⟩
theorem jfj (h:qd7 Tryz.prog (n + 1) 9 v):∃ s:List UInt8,v = .str s:=by
 obtain ⟨s,rfl,-⟩:=qp5 Tryz.underlying9 h;exact ⟨s,rfl⟩
end Go.Proofs.YtpaopccohkldlaaGreatDoor
