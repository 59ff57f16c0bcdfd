/- Transitions: the contract of All. Conditions: none. -/
import Derived.Test.YtpaopccohkldlaaGreatDoorT12
import Derived.Test.YtpaopccohkldlaaGreatDoorT7
import Derived.Test.YtpaopccohkldlaaGreatDoorWA
set_option linter.all false
namespace Go.Proofs.YtpaopccohkldlaaGreatDoor
section
open Go
end
section
open Go
structure SitS where
 j:Nat
 z:Option (Nat × List V)
end
section
open Go
def Fx.st (z:Fx):Fx:={ z with m:=0 }
def stF (c:Ci) (z:Fx):Ft:=z.st.of c 0
theorem q7r (c:Ci) (hg:c.good) (z:Fx):(stF c z).ok c/\(stF c z).m = 0:=⟨jkj c hg _ 0 (by decide),rfl⟩
theorem q13 (c:Ci) (hg:c.good) (z:Fx) (hz:z.ok):qac Tryz.prog gl0 15 [c.v,z.v] (stF c z).w:=by
 have h1:=jjv c hg z.st (by obtain ⟨h1,h2,h3,h4⟩:=hz; exact ⟨Nat.zero_lt_succ _,h2,h3,h4⟩) 0 rfl (by decide);simp only [Fx.v,Fx.st,u8V] at h1;simp only [Fx.v,u8V];refine jqo 2 ok15 rfl ?_;simp [i15,x15,nop,Fx.v,u8V];intro gf1 gf2 gf3;refine jqk h1 (by simp) ?_;simp [stF,Fx.st,Ft.w,V.mapR,jow,u8V,qaa]
end
end Go.Proofs.YtpaopccohkldlaaGreatDoor
