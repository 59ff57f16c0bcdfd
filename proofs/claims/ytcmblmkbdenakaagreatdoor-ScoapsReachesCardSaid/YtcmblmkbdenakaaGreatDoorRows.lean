/-
  NARROWER THAN 'FOR EVERY INPUT', by the rows' own cells (each row's printed sentence says how): ScoapsKnown: laid · ScoapsReaches: laid · ScoapsSequences: laid.
  DERIVED. THE GIVEN ROWS OF THIS SEAT. 3 by the template 'for every input the law returns true; each argument reads behind the call as it read before'; 0 by the template 'total and deterministic' (their statements: YtcmblmkbdenakaaGreatDoorTotals.lean).
  GIVEN WITH THE SEED: the statements are not yours to turn. If you find one false, say at which input.
  Laid BY PROGRAM, IN A SANDBOX (cutbox-rows.mjs): the forced cells as the released guide's own fill.sh prints them over the translation 5f855060330c4498… (all of the seat's roots in one cut). By AI agents, Wed Nov 11 2026. No macro, syntax, notation, axiom, sorry.
-/
import Derived.Test.YtcmblmkbdenakaaGreatDoorChecked
import GoSem.Claim
import GoSem.ClaimJoined
import GoSem.ClaimMapViews
import Derived.JoinedTies
import Derived.KernelRfl
namespace Go.Proofs.YtcmblmkbdenakaaGreatDoor
/- THE CELL 'sum', in the pinned program and in every row, IS THE sha256 OF THE DUMP (.gsa) THAT YtcmblmkbdenakaaGreatDoorProg.lean LOADS. Nothing in Lean hashes anything: it is a label: what it is worth is what the hold of that sum in a sandbox is worth. -/
noncomputable def Tryz.pinned : Pinned := { name := "ytcmblmkbdenakaagreatdoor", sum := "5f855060330c44983e524fe5ac25bab7aee965a9db30d955c01f1a8aeac2120a", checked := Tryz.checked }
namespace Rows
def none {H : Type} : Left H := { results := [], args := [] }

/- WHAT THE LISTED PACKAGE-LEVEL VARIABLES READ AS WHEN THE CALL BEGINS. Each datum BY PROGRAM (the guide's laid-datum.mjs) off the statement by which the dump's own 'gosem.cut.vars' lays the variable. In a bare row this is a premise. The card (YtcmblmkbdenakaaGreatDoorCards.lean) ties it to the program's text. -/
def laid_probecard_logic_fanins {H : Type} : DataW H := .agg [.agg [.lit (.int .i64 0), .lit (.int .i64 0)], .agg [.lit (.int .i64 0), .lit (.int .i64 0)], .agg [.lit (.int .i64 0), .lit (.int .i64 0)], .agg [.lit (.int .i64 1), .lit (.int .i64 1)], .agg [.lit (.int .i64 1), .lit (.int .i64 1)], .agg [.lit (.int .i64 2), .lit (.int .i64 16)], .agg [.lit (.int .i64 2), .lit (.int .i64 16)], .agg [.lit (.int .i64 2), .lit (.int .i64 16)], .agg [.lit (.int .i64 2), .lit (.int .i64 16)], .agg [.lit (.int .i64 2), .lit (.int .i64 16)], .agg [.lit (.int .i64 2), .lit (.int .i64 16)], .agg [.lit (.int .i64 3), .lit (.int .i64 3)], .agg [.lit (.int .i64 2), .lit (.int .i64 2)], .agg [.lit (.int .i64 1), .lit (.int .i64 16)], .agg [.lit (.int .i64 1), .lit (.int .i64 1)], .agg [.lit (.int .i64 0), .lit (.int .i64 0)]]
def laid_probecard_scoaps_unit {H : Type} : DataW H := .agg [.lit (.int .i64 1), .lit (.int .i64 1)]
def laid_probecard_scoaps_never {H : Type} : DataW H := .agg [.lit (.int .i64 1073741824), .lit (.int .i64 1073741824)]

/-- 'probecardlaw23.ScoapsKnown': WHATEVER THE INPUT: true; the input reads as it did. -/
def scoapsKnownSpec : ChangeSpec := { name := "scoapsKnown", fn := fun _ => fun
  | [] => { results := [.lit (.bool true)], args := [] }
  | _ => none }
def scoapsKnownRow : OpenClaim := { program := "ytcmblmkbdenakaagreatdoor", sum := "5f855060330c44983e524fe5ac25bab7aee965a9db30d955c01f1a8aeac2120a", func := "probecard/probecardlaw23.ScoapsKnown", spec := "scoapsKnown", inPlace := ["internal/bytealg.IndexByteString", "internal/bytealg.IndexString"], unfollowed := true, recurses := true, named := ["probecard/scoaps.never", "probecard/scoaps.unit", "probecard/logic.fanins", "internal/bytealg.MaxLen"], apart := false, laid := [("probecard/logic.fanins", laid_probecard_logic_fanins), ("probecard/scoaps.unit", laid_probecard_scoaps_unit), ("probecard/scoaps.never", laid_probecard_scoaps_never)] }
def ScoapsKnownSaid : Prop := scoapsKnownRow.holds Tryz.pinned (OpenSpec.ofChange scoapsKnownSpec)

/-- ITS FALSE NEIGHBOUR: 'it returns false'. Refute it at one input. -/
def scoapsKnownWrong : ChangeSpec := { name := "scoapsKnown", fn := fun _ => fun
  | [] => { results := [.lit (.bool false)], args := [] }
  | _ => none }
def ScoapsKnownWrongFalsely : Prop := scoapsKnownRow.holds Tryz.pinned (OpenSpec.ofChange scoapsKnownWrong)

/-- 'probecardlaw23.ScoapsReaches': WHATEVER THE INPUT: true; the input reads as it did. -/
def scoapsReachesSpec : ChangeSpec := { name := "scoapsReaches", fn := fun _ => fun
  | [d] => { results := [.lit (.bool true)], args := [d] }
  | _ => none }
def scoapsReachesRow : OpenClaim := { program := "ytcmblmkbdenakaagreatdoor", sum := "5f855060330c44983e524fe5ac25bab7aee965a9db30d955c01f1a8aeac2120a", func := "probecard/probecardlaw23.ScoapsReaches", spec := "scoapsReaches", inPlace := ["internal/bytealg.IndexByteString", "internal/bytealg.IndexString"], unfollowed := true, recurses := true, named := ["probecard/logic.fanins", "probecard/scoaps.never", "probecard/scoaps.unit", "internal/bytealg.MaxLen"], apart := false, laid := [("probecard/logic.fanins", laid_probecard_logic_fanins), ("probecard/scoaps.unit", laid_probecard_scoaps_unit), ("probecard/scoaps.never", laid_probecard_scoaps_never)] }
def ScoapsReachesSaid : Prop := scoapsReachesRow.holds Tryz.pinned (OpenSpec.ofChange scoapsReachesSpec)

/-- ITS FALSE NEIGHBOUR: 'it returns false'. Refute it at one input. -/
def scoapsReachesWrong : ChangeSpec := { name := "scoapsReaches", fn := fun _ => fun
  | [d] => { results := [.lit (.bool false)], args := [d] }
  | _ => none }
def ScoapsReachesWrongFalsely : Prop := scoapsReachesRow.holds Tryz.pinned (OpenSpec.ofChange scoapsReachesWrong)

/-- 'probecardlaw23.ScoapsSequences': WHATEVER THE INPUT: true; the input reads as it did. -/
def scoapsSequencesSpec : ChangeSpec := { name := "scoapsSequences", fn := fun _ => fun
  | [d1, d2] => { results := [.lit (.bool true)], args := [d1, d2] }
  | _ => none }
def scoapsSequencesRow : OpenClaim := { program := "ytcmblmkbdenakaagreatdoor", sum := "5f855060330c44983e524fe5ac25bab7aee965a9db30d955c01f1a8aeac2120a", func := "probecard/probecardlaw23.ScoapsSequences", spec := "scoapsSequences", inPlace := ["internal/bytealg.IndexByteString", "internal/bytealg.IndexString"], unfollowed := true, recurses := true, named := ["probecard/scoaps.never", "probecard/scoaps.unit", "probecard/logic.fanins", "internal/bytealg.MaxLen"], apart := false, laid := [("probecard/logic.fanins", laid_probecard_logic_fanins), ("probecard/scoaps.unit", laid_probecard_scoaps_unit), ("probecard/scoaps.never", laid_probecard_scoaps_never)] }
def ScoapsSequencesSaid : Prop := scoapsSequencesRow.holds Tryz.pinned (OpenSpec.ofChange scoapsSequencesSpec)

/-- ITS FALSE NEIGHBOUR: 'it returns false'. Refute it at one input. -/
def scoapsSequencesWrong : ChangeSpec := { name := "scoapsSequences", fn := fun _ => fun
  | [d1, d2] => { results := [.lit (.bool false)], args := [d1, d2] }
  | _ => none }
def ScoapsSequencesWrongFalsely : Prop := scoapsSequencesRow.holds Tryz.pinned (OpenSpec.ofChange scoapsSequencesWrong)

/- THE SECOND FORM. 'bulk': how many values and letters a reading holds, each counted each time it is reached (what is shared counts as often as it is met; a slice's spare places count too). A statement '..UptoSaid' is the law's where the arguments, and the package variables that the reading takes, are together of bulk at most 1048576: NARROWER than '..Said'. Prove '..Said' where nothing that the law and all that it calls make is longer than what came in: it says more and counts as full. Else prove '..UptoSaid'. A law counts once. -/
mutual
def uptoBulk {H : Type} : DataW H → Nat
  | .lit (.string bytes) => bytes.length + 1
  | .lit _ => 1
  | .nil => 1
  | .ptr d => uptoBulk d + 1
  | .slice elems spare => uptoBulkAll elems + uptoBulkAll spare + 1
  | .agg parts => uptoBulkAll parts + 1
  | .iface _ d => uptoBulk d + 1
  | .map entries => uptoBulkEntries entries + 1
  | .held _ => 1
def uptoBulkAll {H : Type} : List (DataW H) → Nat
  | [] => 0
  | d :: r => uptoBulk d + uptoBulkAll r
def uptoBulkEntries {H : Type} : List (Lit × DataW H) → Nat
  | [] => 0
  | x :: r => uptoBulkEntry x + uptoBulkEntries r
def uptoBulkEntry {H : Type} : Lit × DataW H → Nat
  | (.string bytes, d) => bytes.length + uptoBulk d + 1
  | (_, d) => uptoBulk d + 1
 end
def uptoSmall : (H : Type) → List (DataW H) → Bool := fun _ ds => decide (uptoBulkAll ds ≤ 1048576)
def OpenSpec.upto (s : _root_.Go.ChangeSpec) : _root_.Go.OpenSpec := { _root_.Go.OpenSpec.ofChange s with cond := some uptoSmall }

/-- 'probecardlaw23.ScoapsKnown', WHERE WHAT IT READS IS OF BULK AT MOST 1048576: true; the input reads as it did. -/
def scoapsKnownUptoRow : OpenClaim := { program := "ytcmblmkbdenakaagreatdoor", sum := "5f855060330c44983e524fe5ac25bab7aee965a9db30d955c01f1a8aeac2120a", func := "probecard/probecardlaw23.ScoapsKnown", spec := "scoapsKnown", inPlace := ["internal/bytealg.IndexByteString", "internal/bytealg.IndexString"], unfollowed := true, recurses := true, named := ["probecard/scoaps.never", "probecard/scoaps.unit", "probecard/logic.fanins", "internal/bytealg.MaxLen"], apart := false, laid := [("probecard/logic.fanins", laid_probecard_logic_fanins), ("probecard/scoaps.unit", laid_probecard_scoaps_unit), ("probecard/scoaps.never", laid_probecard_scoaps_never)], narrowed := true }
def ScoapsKnownUptoSaid : Prop := scoapsKnownUptoRow.holds Tryz.pinned (OpenSpec.upto scoapsKnownSpec)

/-- 'probecardlaw23.ScoapsReaches', WHERE WHAT IT READS IS OF BULK AT MOST 1048576: true; the input reads as it did. -/
def scoapsReachesUptoRow : OpenClaim := { program := "ytcmblmkbdenakaagreatdoor", sum := "5f855060330c44983e524fe5ac25bab7aee965a9db30d955c01f1a8aeac2120a", func := "probecard/probecardlaw23.ScoapsReaches", spec := "scoapsReaches", inPlace := ["internal/bytealg.IndexByteString", "internal/bytealg.IndexString"], unfollowed := true, recurses := true, named := ["probecard/logic.fanins", "probecard/scoaps.never", "probecard/scoaps.unit", "internal/bytealg.MaxLen"], apart := false, laid := [("probecard/logic.fanins", laid_probecard_logic_fanins), ("probecard/scoaps.unit", laid_probecard_scoaps_unit), ("probecard/scoaps.never", laid_probecard_scoaps_never)], narrowed := true }
def ScoapsReachesUptoSaid : Prop := scoapsReachesUptoRow.holds Tryz.pinned (OpenSpec.upto scoapsReachesSpec)

/-- 'probecardlaw23.ScoapsSequences', WHERE WHAT IT READS IS OF BULK AT MOST 1048576: true; the input reads as it did. -/
def scoapsSequencesUptoRow : OpenClaim := { program := "ytcmblmkbdenakaagreatdoor", sum := "5f855060330c44983e524fe5ac25bab7aee965a9db30d955c01f1a8aeac2120a", func := "probecard/probecardlaw23.ScoapsSequences", spec := "scoapsSequences", inPlace := ["internal/bytealg.IndexByteString", "internal/bytealg.IndexString"], unfollowed := true, recurses := true, named := ["probecard/scoaps.never", "probecard/scoaps.unit", "probecard/logic.fanins", "internal/bytealg.MaxLen"], apart := false, laid := [("probecard/logic.fanins", laid_probecard_logic_fanins), ("probecard/scoaps.unit", laid_probecard_scoaps_unit), ("probecard/scoaps.never", laid_probecard_scoaps_never)], narrowed := true }
def ScoapsSequencesUptoSaid : Prop := scoapsSequencesUptoRow.holds Tryz.pinned (OpenSpec.upto scoapsSequencesSpec)

end Rows
end Go.Proofs.YtcmblmkbdenakaaGreatDoor
