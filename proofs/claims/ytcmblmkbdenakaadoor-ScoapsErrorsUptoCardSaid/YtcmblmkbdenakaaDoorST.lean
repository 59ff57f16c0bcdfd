/- Netlists: circuits as plain data among the arguments. Conditions: none. -/
import Derived.Test.YtcmblmkbdenakaaDoorBase11
import Derived.Test.YtcmblmkbdenakaaDoorRows
import Derived.Test.YtcmblmkbdenakaaDoorNet13
set_option linter.unusedSimpArgs false
set_option linter.unusedVariables false
namespace Go.Proofs.YtcmblmkbdenakaaDoor
open Go Go.RowKit Go.ChangeShapes
set_option maxRecDepth 100000
variable {v : V} {n : Nat}
theorem u8_h (h : hasT Tryd.prog (n + 1) 5 v) : ∃ a : Nat,v = u8V a∧a < 256:=by
 obtain ⟨i,rfl,hi⟩:=hasT_int Tryd.underlying5 h
 simp [Lit.wf,IntKind.min,IntKind.max,IntKind.bits,IntKind.signed] at hi
 exact ⟨i.toNat,by rw [u8V,Int.toNat_of_nonneg (by omega)],by omega⟩
theorem u8s_h {ps : List V} (h : ∀ x ∈ ps,hasT Tryd.prog (n + 1) 5 x) : ∃ l : List Nat,ps = l.map u8V∧∀ a ∈ l,a < 256:=
 list_of (f:=u8V) (Q:=fun a=>a < 256) fun x hx=>u8_h (h x hx)
end Go.Proofs.YtcmblmkbdenakaaDoor
