/- Costs: the functions' code as the run takes it (a second table). Conditions: none. -/
import Derived.Test.YtcmblmkbdenakaaGreatDoorXG
namespace Go.Proofs.YtcmblmkbdenakaaGreatDoor
open Go
noncomputable def FTb : T FnI:=(.nd none (.nd none (.nd none (.nd none (.nd none .lf (.nd none (.nd (some i79) .lf .lf) .lf)) .lf) (.nd none (.nd none .lf (.nd (some i51) .lf .lf)) .lf)) (.nd none .lf (.nd none .lf (.nd none .lf (.nd none (.nd (some i93) .lf .lf) .lf))))) (.nd none .lf (.nd none (.nd none (.nd none .lf (.nd (some i50) .lf .lf)) .lf) (.nd none .lf (.nd none .lf (.nd none (.nd (some i94) .lf .lf) .lf))))))
theorem FTb_ok : FTok Tryz.prog FTb.get:=FTok.of_all ⟨trivial,⟨trivial,⟨trivial,⟨trivial,⟨trivial,trivial,⟨trivial,⟨ok79,trivial,trivial⟩,trivial⟩⟩,trivial⟩,⟨trivial,⟨trivial,trivial,⟨ok51,trivial,trivial⟩⟩,trivial⟩⟩,⟨trivial,trivial,⟨trivial,trivial,⟨trivial,trivial,⟨trivial,⟨ok93,trivial,trivial⟩,trivial⟩⟩⟩⟩⟩,⟨trivial,trivial,⟨trivial,⟨trivial,⟨trivial,trivial,⟨ok50,trivial,trivial⟩⟩,trivial⟩,⟨trivial,trivial,⟨trivial,trivial,⟨trivial,⟨ok94,trivial,trivial⟩,trivial⟩⟩⟩⟩⟩⟩
end Go.Proofs.YtcmblmkbdenakaaGreatDoor
