/-
  NARROWER THAN 'FOR EVERY INPUT', by the rows' own cells (each row's printed sentence says how): ScoapsGate: laid · ScoapsObserves: laid · ScoapsControls: laid · ScoapsErrors: laid.
  DERIVED. THE GIVEN ROWS OF THIS SEAT. 4 by the template 'for every input the law returns true; each argument reads behind the call as it read before'; 0 by the template 'total and deterministic' (their statements: YtcmblmkbdenakaaDoorTotals.lean).
  GIVEN WITH THE SEED: the statements are not yours to turn. If you find one false, say at which input.
  Laid BY PROGRAM, IN A SANDBOX (cutbox-rows.mjs): the forced cells as the released guide's own fill.sh prints them over the translation e5c8e9d8a5c838fd… (all of the seat's roots in one cut). By AI agents, Wed Nov 11 2026. No macro, syntax, notation, axiom, sorry.
-/
import Derived.Test.YtcmblmkbdenakaaDoorChecked
import GoSem.Claim
import GoSem.ClaimJoined
import GoSem.ClaimMapViews
import Derived.JoinedTies
import Derived.KernelRfl
namespace Go.Proofs.YtcmblmkbdenakaaDoor
/- THE CELL 'sum', in the pinned program and in every row, IS THE sha256 OF THE DUMP (.gsa) THAT YtcmblmkbdenakaaDoorProg.lean LOADS. Nothing in Lean hashes anything: it is a label: what it is worth is what the hold of that sum in a sandbox is worth. -/
noncomputable def Tryd.pinned : Pinned := { name := "ytcmblmkbdenakaadoor", sum := "e5c8e9d8a5c838fd4db5c77fc25a96ea831e8107145e9df8c2b7c7245a75ff07", checked := Tryd.checked }
namespace Rows
def none {H : Type} : Left H := { results := [], args := [] }

/- WHAT THE LISTED PACKAGE-LEVEL VARIABLES READ AS WHEN THE CALL BEGINS. Each datum BY PROGRAM (the guide's laid-datum.mjs) off the statement by which the dump's own 'gosem.cut.vars' lays the variable. In a bare row this is a premise. The card (YtcmblmkbdenakaaDoorCards.lean) ties it to the program's text. -/
def laid_probecard_logic_fanins {H : Type} : DataW H := .agg [.agg [.lit (.int .i64 0), .lit (.int .i64 0)], .agg [.lit (.int .i64 0), .lit (.int .i64 0)], .agg [.lit (.int .i64 0), .lit (.int .i64 0)], .agg [.lit (.int .i64 1), .lit (.int .i64 1)], .agg [.lit (.int .i64 1), .lit (.int .i64 1)], .agg [.lit (.int .i64 2), .lit (.int .i64 16)], .agg [.lit (.int .i64 2), .lit (.int .i64 16)], .agg [.lit (.int .i64 2), .lit (.int .i64 16)], .agg [.lit (.int .i64 2), .lit (.int .i64 16)], .agg [.lit (.int .i64 2), .lit (.int .i64 16)], .agg [.lit (.int .i64 2), .lit (.int .i64 16)], .agg [.lit (.int .i64 3), .lit (.int .i64 3)], .agg [.lit (.int .i64 2), .lit (.int .i64 2)], .agg [.lit (.int .i64 1), .lit (.int .i64 16)], .agg [.lit (.int .i64 1), .lit (.int .i64 1)], .agg [.lit (.int .i64 0), .lit (.int .i64 0)]]
def laid_probecard_scoaps_unit {H : Type} : DataW H := .agg [.lit (.int .i64 1), .lit (.int .i64 1)]
def laid_probecard_scoaps_never {H : Type} : DataW H := .agg [.lit (.int .i64 1073741824), .lit (.int .i64 1073741824)]

/-- 'probecardlaw23.ScoapsGate': WHATEVER THE INPUT: true; the input reads as it did. -/
def scoapsGateSpec : ChangeSpec := { name := "scoapsGate", fn := fun _ => fun
  | [d1, d2, d3] => { results := [.lit (.bool true)], args := [d1, d2, d3] }
  | _ => none }
def scoapsGateRow : OpenClaim := { program := "ytcmblmkbdenakaadoor", sum := "e5c8e9d8a5c838fd4db5c77fc25a96ea831e8107145e9df8c2b7c7245a75ff07", func := "probecard/probecardlaw23.ScoapsGate", spec := "scoapsGate", inPlace := ["internal/bytealg.IndexByteString", "internal/bytealg.IndexString"], unfollowed := true, recurses := true, named := ["probecard/scoaps.never", "probecard/scoaps.unit", "probecard/logic.fanins", "internal/bytealg.MaxLen"], apart := false, laid := [("probecard/logic.fanins", laid_probecard_logic_fanins), ("probecard/scoaps.unit", laid_probecard_scoaps_unit), ("probecard/scoaps.never", laid_probecard_scoaps_never)] }
def ScoapsGateSaid : Prop := scoapsGateRow.holds Tryd.pinned (OpenSpec.ofChange scoapsGateSpec)

/-- ITS FALSE NEIGHBOUR: 'it returns false'. Refute it at one input. -/
def scoapsGateWrong : ChangeSpec := { name := "scoapsGate", fn := fun _ => fun
  | [d1, d2, d3] => { results := [.lit (.bool false)], args := [d1, d2, d3] }
  | _ => none }
def ScoapsGateWrongFalsely : Prop := scoapsGateRow.holds Tryd.pinned (OpenSpec.ofChange scoapsGateWrong)

/-- 'probecardlaw23.ScoapsObserves': WHATEVER THE INPUT: true; the input reads as it did. -/
def scoapsObservesSpec : ChangeSpec := { name := "scoapsObserves", fn := fun _ => fun
  | [d] => { results := [.lit (.bool true)], args := [d] }
  | _ => none }
def scoapsObservesRow : OpenClaim := { program := "ytcmblmkbdenakaadoor", sum := "e5c8e9d8a5c838fd4db5c77fc25a96ea831e8107145e9df8c2b7c7245a75ff07", func := "probecard/probecardlaw23.ScoapsObserves", spec := "scoapsObserves", inPlace := ["internal/bytealg.IndexByteString", "internal/bytealg.IndexString"], unfollowed := true, recurses := true, named := ["probecard/logic.fanins", "probecard/scoaps.never", "probecard/scoaps.unit", "internal/bytealg.MaxLen"], apart := false, laid := [("probecard/logic.fanins", laid_probecard_logic_fanins), ("probecard/scoaps.unit", laid_probecard_scoaps_unit), ("probecard/scoaps.never", laid_probecard_scoaps_never)] }
def ScoapsObservesSaid : Prop := scoapsObservesRow.holds Tryd.pinned (OpenSpec.ofChange scoapsObservesSpec)

/-- ITS FALSE NEIGHBOUR: 'it returns false'. Refute it at one input. -/
def scoapsObservesWrong : ChangeSpec := { name := "scoapsObserves", fn := fun _ => fun
  | [d] => { results := [.lit (.bool false)], args := [d] }
  | _ => none }
def ScoapsObservesWrongFalsely : Prop := scoapsObservesRow.holds Tryd.pinned (OpenSpec.ofChange scoapsObservesWrong)

/-- 'probecardlaw23.ScoapsControls': WHATEVER THE INPUT: true; the input reads as it did. -/
def scoapsControlsSpec : ChangeSpec := { name := "scoapsControls", fn := fun _ => fun
  | [d] => { results := [.lit (.bool true)], args := [d] }
  | _ => none }
def scoapsControlsRow : OpenClaim := { program := "ytcmblmkbdenakaadoor", sum := "e5c8e9d8a5c838fd4db5c77fc25a96ea831e8107145e9df8c2b7c7245a75ff07", func := "probecard/probecardlaw23.ScoapsControls", spec := "scoapsControls", inPlace := ["internal/bytealg.IndexByteString", "internal/bytealg.IndexString"], unfollowed := true, recurses := true, named := ["probecard/logic.fanins", "probecard/scoaps.never", "probecard/scoaps.unit", "internal/bytealg.MaxLen"], apart := false, laid := [("probecard/logic.fanins", laid_probecard_logic_fanins), ("probecard/scoaps.unit", laid_probecard_scoaps_unit), ("probecard/scoaps.never", laid_probecard_scoaps_never)] }
def ScoapsControlsSaid : Prop := scoapsControlsRow.holds Tryd.pinned (OpenSpec.ofChange scoapsControlsSpec)

/-- ITS FALSE NEIGHBOUR: 'it returns false'. Refute it at one input. -/
def scoapsControlsWrong : ChangeSpec := { name := "scoapsControls", fn := fun _ => fun
  | [d] => { results := [.lit (.bool false)], args := [d] }
  | _ => none }
def ScoapsControlsWrongFalsely : Prop := scoapsControlsRow.holds Tryd.pinned (OpenSpec.ofChange scoapsControlsWrong)

/-- 'probecardlaw23.ScoapsErrors': WHATEVER THE INPUT: true; the input reads as it did. -/
def scoapsErrorsSpec : ChangeSpec := { name := "scoapsErrors", fn := fun _ => fun
  | [d1, d2, d3] => { results := [.lit (.bool true)], args := [d1, d2, d3] }
  | _ => none }
def scoapsErrorsRow : OpenClaim := { program := "ytcmblmkbdenakaadoor", sum := "e5c8e9d8a5c838fd4db5c77fc25a96ea831e8107145e9df8c2b7c7245a75ff07", func := "probecard/probecardlaw23.ScoapsErrors", spec := "scoapsErrors", inPlace := ["internal/bytealg.IndexByteString", "internal/bytealg.IndexString"], unfollowed := true, recurses := true, named := ["probecard/scoaps.never", "probecard/scoaps.unit", "probecard/logic.fanins", "internal/bytealg.MaxLen"], apart := false, laid := [("probecard/logic.fanins", laid_probecard_logic_fanins), ("probecard/scoaps.unit", laid_probecard_scoaps_unit), ("probecard/scoaps.never", laid_probecard_scoaps_never)] }
def ScoapsErrorsSaid : Prop := scoapsErrorsRow.holds Tryd.pinned (OpenSpec.ofChange scoapsErrorsSpec)

/-- ITS FALSE NEIGHBOUR: 'it returns false'. Refute it at one input. -/
def scoapsErrorsWrong : ChangeSpec := { name := "scoapsErrors", fn := fun _ => fun
  | [d1, d2, d3] => { results := [.lit (.bool false)], args := [d1, d2, d3] }
  | _ => none }
def ScoapsErrorsWrongFalsely : Prop := scoapsErrorsRow.holds Tryd.pinned (OpenSpec.ofChange scoapsErrorsWrong)

/- THE SECOND FORM. 'bulk': how many values and letters a reading holds, each counted each time it is reached (what is shared counts as often as it is met; a slice's spare places count too). A statement '..UptoSaid' is the law's where the arguments, and the package variables that the reading takes, are together of bulk at most 1048576: NARROWER than '..Said'. Prove '..Said' where nothing that the law and all that it calls make is longer than what came in: it says more and counts as full. Else prove '..UptoSaid'. A law counts once. -/
mutual
def uptoBulk {H : Type} : DataW H → Nat
  | .lit (.string bytes) => bytes.length + 1
  | .lit _ => 1
  | .nil => 1
  | .ptr d => uptoBulk d + 1
  | .slice elems spare => uptoBulkAll elems + uptoBulkAll spare + 1
  | .agg parts => uptoBulkAll parts + 1
  | .iface _ d => uptoBulk d + 1
  | .map entries => uptoBulkEntries entries + 1
  | .held _ => 1
def uptoBulkAll {H : Type} : List (DataW H) → Nat
  | [] => 0
  | d :: r => uptoBulk d + uptoBulkAll r
def uptoBulkEntries {H : Type} : List (Lit × DataW H) → Nat
  | [] => 0
  | x :: r => uptoBulkEntry x + uptoBulkEntries r
def uptoBulkEntry {H : Type} : Lit × DataW H → Nat
  | (.string bytes, d) => bytes.length + uptoBulk d + 1
  | (_, d) => uptoBulk d + 1
 end
def uptoSmall : (H : Type) → List (DataW H) → Bool := fun _ ds => decide (uptoBulkAll ds ≤ 1048576)
def OpenSpec.upto (s : _root_.Go.ChangeSpec) : _root_.Go.OpenSpec := { _root_.Go.OpenSpec.ofChange s with cond := some uptoSmall }

/-- 'probecardlaw23.ScoapsGate', WHERE WHAT IT READS IS OF BULK AT MOST 1048576: true; the input reads as it did. -/
def scoapsGateUptoRow : OpenClaim := { program := "ytcmblmkbdenakaadoor", sum := "e5c8e9d8a5c838fd4db5c77fc25a96ea831e8107145e9df8c2b7c7245a75ff07", func := "probecard/probecardlaw23.ScoapsGate", spec := "scoapsGate", inPlace := ["internal/bytealg.IndexByteString", "internal/bytealg.IndexString"], unfollowed := true, recurses := true, named := ["probecard/scoaps.never", "probecard/scoaps.unit", "probecard/logic.fanins", "internal/bytealg.MaxLen"], apart := false, laid := [("probecard/logic.fanins", laid_probecard_logic_fanins), ("probecard/scoaps.unit", laid_probecard_scoaps_unit), ("probecard/scoaps.never", laid_probecard_scoaps_never)], narrowed := true }
def ScoapsGateUptoSaid : Prop := scoapsGateUptoRow.holds Tryd.pinned (OpenSpec.upto scoapsGateSpec)

/-- 'probecardlaw23.ScoapsObserves', WHERE WHAT IT READS IS OF BULK AT MOST 1048576: true; the input reads as it did. -/
def scoapsObservesUptoRow : OpenClaim := { program := "ytcmblmkbdenakaadoor", sum := "e5c8e9d8a5c838fd4db5c77fc25a96ea831e8107145e9df8c2b7c7245a75ff07", func := "probecard/probecardlaw23.ScoapsObserves", spec := "scoapsObserves", inPlace := ["internal/bytealg.IndexByteString", "internal/bytealg.IndexString"], unfollowed := true, recurses := true, named := ["probecard/logic.fanins", "probecard/scoaps.never", "probecard/scoaps.unit", "internal/bytealg.MaxLen"], apart := false, laid := [("probecard/logic.fanins", laid_probecard_logic_fanins), ("probecard/scoaps.unit", laid_probecard_scoaps_unit), ("probecard/scoaps.never", laid_probecard_scoaps_never)], narrowed := true }
def ScoapsObservesUptoSaid : Prop := scoapsObservesUptoRow.holds Tryd.pinned (OpenSpec.upto scoapsObservesSpec)

/-- 'probecardlaw23.ScoapsControls', WHERE WHAT IT READS IS OF BULK AT MOST 1048576: true; the input reads as it did. -/
def scoapsControlsUptoRow : OpenClaim := { program := "ytcmblmkbdenakaadoor", sum := "e5c8e9d8a5c838fd4db5c77fc25a96ea831e8107145e9df8c2b7c7245a75ff07", func := "probecard/probecardlaw23.ScoapsControls", spec := "scoapsControls", inPlace := ["internal/bytealg.IndexByteString", "internal/bytealg.IndexString"], unfollowed := true, recurses := true, named := ["probecard/logic.fanins", "probecard/scoaps.never", "probecard/scoaps.unit", "internal/bytealg.MaxLen"], apart := false, laid := [("probecard/logic.fanins", laid_probecard_logic_fanins), ("probecard/scoaps.unit", laid_probecard_scoaps_unit), ("probecard/scoaps.never", laid_probecard_scoaps_never)], narrowed := true }
def ScoapsControlsUptoSaid : Prop := scoapsControlsUptoRow.holds Tryd.pinned (OpenSpec.upto scoapsControlsSpec)

/-- 'probecardlaw23.ScoapsErrors', WHERE WHAT IT READS IS OF BULK AT MOST 1048576: true; the input reads as it did. -/
def scoapsErrorsUptoRow : OpenClaim := { program := "ytcmblmkbdenakaadoor", sum := "e5c8e9d8a5c838fd4db5c77fc25a96ea831e8107145e9df8c2b7c7245a75ff07", func := "probecard/probecardlaw23.ScoapsErrors", spec := "scoapsErrors", inPlace := ["internal/bytealg.IndexByteString", "internal/bytealg.IndexString"], unfollowed := true, recurses := true, named := ["probecard/scoaps.never", "probecard/scoaps.unit", "probecard/logic.fanins", "internal/bytealg.MaxLen"], apart := false, laid := [("probecard/logic.fanins", laid_probecard_logic_fanins), ("probecard/scoaps.unit", laid_probecard_scoaps_unit), ("probecard/scoaps.never", laid_probecard_scoaps_never)], narrowed := true }
def ScoapsErrorsUptoSaid : Prop := scoapsErrorsUptoRow.holds Tryd.pinned (OpenSpec.upto scoapsErrorsSpec)

end Rows
end Go.Proofs.YtcmblmkbdenakaaDoor
