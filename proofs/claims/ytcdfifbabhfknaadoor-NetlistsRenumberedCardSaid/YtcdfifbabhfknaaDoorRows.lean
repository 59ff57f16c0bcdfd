/-
  NARROWER THAN 'FOR EVERY INPUT', by the rows' own cells (each row's printed sentence says how): NetlistsCheck: laid · NetlistsLists: laid · NetlistsOrder: laid · NetlistsLoops: laid · NetlistsRenumbered: laid · NetlistsSpoil: laid · NetlistsNames: laid · NetlistsCopy: laid.
  DERIVED. THE GIVEN ROWS OF THIS SEAT. 8 by the template 'for every input the law returns true; each argument reads behind the call as it read before'; 0 by the template 'total and deterministic' (their statements: YtcdfifbabhfknaaDoorTotals.lean).
  GIVEN WITH THE SEED: the statements are not yours to turn. If you find one false, say at which input.
  Laid BY PROGRAM, IN A SANDBOX (cutbox-rows.mjs): the forced cells as the released guide's own fill.sh prints them over the translation 0d48561a42813e4f… (all of the seat's roots in one cut). By AI agents, Wed Nov 11 2026. No macro, syntax, notation, axiom, sorry.
-/
import Derived.Test.YtcdfifbabhfknaaDoorChecked
import GoSem.Claim
import GoSem.ClaimJoined
import GoSem.ClaimMapViews
import Derived.JoinedTies
import Derived.KernelRfl
namespace Go.Proofs.YtcdfifbabhfknaaDoor
/- THE CELL 'sum', in the pinned program and in every row, IS THE sha256 OF THE DUMP (.gsa) THAT YtcdfifbabhfknaaDoorProg.lean LOADS. Nothing in Lean hashes anything: it is a label: what it is worth is what the hold of that sum in a sandbox is worth. -/
noncomputable def Tryd.pinned : Pinned := { name := "ytcdfifbabhfknaadoor", sum := "0d48561a42813e4f13b23b9f30b979895bf00655a4773c3e7955867765d49c75", checked := Tryd.checked }
namespace Rows
def none {H : Type} : Left H := { results := [], args := [] }

/- WHAT THE LISTED PACKAGE-LEVEL VARIABLES READ AS WHEN THE CALL BEGINS. Each datum BY PROGRAM (the guide's laid-datum.mjs) off the statement by which the dump's own 'gosem.cut.vars' lays the variable. In a bare row this is a premise. The card (YtcdfifbabhfknaaDoorCards.lean) ties it to the program's text. -/
def laid_probecard_logic_fanins {H : Type} : DataW H := .agg [.agg [.lit (.int .i64 0), .lit (.int .i64 0)], .agg [.lit (.int .i64 0), .lit (.int .i64 0)], .agg [.lit (.int .i64 0), .lit (.int .i64 0)], .agg [.lit (.int .i64 1), .lit (.int .i64 1)], .agg [.lit (.int .i64 1), .lit (.int .i64 1)], .agg [.lit (.int .i64 2), .lit (.int .i64 16)], .agg [.lit (.int .i64 2), .lit (.int .i64 16)], .agg [.lit (.int .i64 2), .lit (.int .i64 16)], .agg [.lit (.int .i64 2), .lit (.int .i64 16)], .agg [.lit (.int .i64 2), .lit (.int .i64 16)], .agg [.lit (.int .i64 2), .lit (.int .i64 16)], .agg [.lit (.int .i64 3), .lit (.int .i64 3)], .agg [.lit (.int .i64 2), .lit (.int .i64 2)], .agg [.lit (.int .i64 1), .lit (.int .i64 16)], .agg [.lit (.int .i64 1), .lit (.int .i64 1)], .agg [.lit (.int .i64 0), .lit (.int .i64 0)]]

/-- 'probecardlaw03.NetlistsCheck': WHATEVER THE INPUT: true; the input reads as it did. -/
def netlistsCheckSpec : ChangeSpec := { name := "netlistsCheck", fn := fun _ => fun
  | [d] => { results := [.lit (.bool true)], args := [d] }
  | _ => none }
def netlistsCheckRow : OpenClaim := { program := "ytcdfifbabhfknaadoor", sum := "0d48561a42813e4f13b23b9f30b979895bf00655a4773c3e7955867765d49c75", func := "probecard/probecardlaw03.NetlistsCheck", spec := "netlistsCheck", inPlace := ["internal/bytealg.IndexByteString", "internal/bytealg.IndexString"], unfollowed := true, recurses := true, named := ["probecard/logic.fanins", "internal/bytealg.MaxLen"], apart := false, laid := [("probecard/logic.fanins", laid_probecard_logic_fanins)] }
def NetlistsCheckSaid : Prop := netlistsCheckRow.holds Tryd.pinned (OpenSpec.ofChange netlistsCheckSpec)

/-- ITS FALSE NEIGHBOUR: 'it returns false'. Refute it at one input. -/
def netlistsCheckWrong : ChangeSpec := { name := "netlistsCheck", fn := fun _ => fun
  | [d] => { results := [.lit (.bool false)], args := [d] }
  | _ => none }
def NetlistsCheckWrongFalsely : Prop := netlistsCheckRow.holds Tryd.pinned (OpenSpec.ofChange netlistsCheckWrong)

/-- 'probecardlaw03.NetlistsLists': WHATEVER THE INPUT: true; the input reads as it did. -/
def netlistsListsSpec : ChangeSpec := { name := "netlistsLists", fn := fun _ => fun
  | [d1, d2] => { results := [.lit (.bool true)], args := [d1, d2] }
  | _ => none }
def netlistsListsRow : OpenClaim := { program := "ytcdfifbabhfknaadoor", sum := "0d48561a42813e4f13b23b9f30b979895bf00655a4773c3e7955867765d49c75", func := "probecard/probecardlaw03.NetlistsLists", spec := "netlistsLists", inPlace := ["internal/bytealg.IndexByteString", "internal/bytealg.IndexString"], unfollowed := true, recurses := true, named := ["probecard/logic.fanins", "internal/bytealg.MaxLen"], apart := false, laid := [("probecard/logic.fanins", laid_probecard_logic_fanins)] }
def NetlistsListsSaid : Prop := netlistsListsRow.holds Tryd.pinned (OpenSpec.ofChange netlistsListsSpec)

/-- ITS FALSE NEIGHBOUR: 'it returns false'. Refute it at one input. -/
def netlistsListsWrong : ChangeSpec := { name := "netlistsLists", fn := fun _ => fun
  | [d1, d2] => { results := [.lit (.bool false)], args := [d1, d2] }
  | _ => none }
def NetlistsListsWrongFalsely : Prop := netlistsListsRow.holds Tryd.pinned (OpenSpec.ofChange netlistsListsWrong)

/-- 'probecardlaw03.NetlistsOrder': WHATEVER THE INPUT: true; the input reads as it did. -/
def netlistsOrderSpec : ChangeSpec := { name := "netlistsOrder", fn := fun _ => fun
  | [d] => { results := [.lit (.bool true)], args := [d] }
  | _ => none }
def netlistsOrderRow : OpenClaim := { program := "ytcdfifbabhfknaadoor", sum := "0d48561a42813e4f13b23b9f30b979895bf00655a4773c3e7955867765d49c75", func := "probecard/probecardlaw03.NetlistsOrder", spec := "netlistsOrder", inPlace := ["internal/bytealg.IndexByteString", "internal/bytealg.IndexString"], unfollowed := true, recurses := true, named := ["probecard/logic.fanins", "internal/bytealg.MaxLen"], apart := false, laid := [("probecard/logic.fanins", laid_probecard_logic_fanins)] }
def NetlistsOrderSaid : Prop := netlistsOrderRow.holds Tryd.pinned (OpenSpec.ofChange netlistsOrderSpec)

/-- ITS FALSE NEIGHBOUR: 'it returns false'. Refute it at one input. -/
def netlistsOrderWrong : ChangeSpec := { name := "netlistsOrder", fn := fun _ => fun
  | [d] => { results := [.lit (.bool false)], args := [d] }
  | _ => none }
def NetlistsOrderWrongFalsely : Prop := netlistsOrderRow.holds Tryd.pinned (OpenSpec.ofChange netlistsOrderWrong)

/-- 'probecardlaw03.NetlistsLoops': WHATEVER THE INPUT: true; the input reads as it did. -/
def netlistsLoopsSpec : ChangeSpec := { name := "netlistsLoops", fn := fun _ => fun
  | [d1, d2] => { results := [.lit (.bool true)], args := [d1, d2] }
  | _ => none }
def netlistsLoopsRow : OpenClaim := { program := "ytcdfifbabhfknaadoor", sum := "0d48561a42813e4f13b23b9f30b979895bf00655a4773c3e7955867765d49c75", func := "probecard/probecardlaw03.NetlistsLoops", spec := "netlistsLoops", inPlace := ["internal/bytealg.IndexByteString", "internal/bytealg.IndexString"], unfollowed := true, recurses := true, named := ["probecard/logic.fanins", "internal/bytealg.MaxLen"], apart := false, laid := [("probecard/logic.fanins", laid_probecard_logic_fanins)] }
def NetlistsLoopsSaid : Prop := netlistsLoopsRow.holds Tryd.pinned (OpenSpec.ofChange netlistsLoopsSpec)

/-- ITS FALSE NEIGHBOUR: 'it returns false'. Refute it at one input. -/
def netlistsLoopsWrong : ChangeSpec := { name := "netlistsLoops", fn := fun _ => fun
  | [d1, d2] => { results := [.lit (.bool false)], args := [d1, d2] }
  | _ => none }
def NetlistsLoopsWrongFalsely : Prop := netlistsLoopsRow.holds Tryd.pinned (OpenSpec.ofChange netlistsLoopsWrong)

/-- 'probecardlaw03.NetlistsRenumbered': WHATEVER THE INPUT: true; the input reads as it did. -/
def netlistsRenumberedSpec : ChangeSpec := { name := "netlistsRenumbered", fn := fun _ => fun
  | [d1, d2] => { results := [.lit (.bool true)], args := [d1, d2] }
  | _ => none }
def netlistsRenumberedRow : OpenClaim := { program := "ytcdfifbabhfknaadoor", sum := "0d48561a42813e4f13b23b9f30b979895bf00655a4773c3e7955867765d49c75", func := "probecard/probecardlaw03.NetlistsRenumbered", spec := "netlistsRenumbered", inPlace := ["internal/bytealg.IndexByteString", "internal/bytealg.IndexString"], unfollowed := true, recurses := true, named := ["probecard/logic.fanins", "internal/bytealg.MaxLen"], apart := false, laid := [("probecard/logic.fanins", laid_probecard_logic_fanins)] }
def NetlistsRenumberedSaid : Prop := netlistsRenumberedRow.holds Tryd.pinned (OpenSpec.ofChange netlistsRenumberedSpec)

/-- ITS FALSE NEIGHBOUR: 'it returns false'. Refute it at one input. -/
def netlistsRenumberedWrong : ChangeSpec := { name := "netlistsRenumbered", fn := fun _ => fun
  | [d1, d2] => { results := [.lit (.bool false)], args := [d1, d2] }
  | _ => none }
def NetlistsRenumberedWrongFalsely : Prop := netlistsRenumberedRow.holds Tryd.pinned (OpenSpec.ofChange netlistsRenumberedWrong)

/-- 'probecardlaw03.NetlistsSpoil': WHATEVER THE INPUT: true; the input reads as it did. -/
def netlistsSpoilSpec : ChangeSpec := { name := "netlistsSpoil", fn := fun _ => fun
  | [d1, d2, d3] => { results := [.lit (.bool true)], args := [d1, d2, d3] }
  | _ => none }
def netlistsSpoilRow : OpenClaim := { program := "ytcdfifbabhfknaadoor", sum := "0d48561a42813e4f13b23b9f30b979895bf00655a4773c3e7955867765d49c75", func := "probecard/probecardlaw03.NetlistsSpoil", spec := "netlistsSpoil", inPlace := ["internal/bytealg.IndexByteString", "internal/bytealg.IndexString"], unfollowed := true, recurses := true, named := ["probecard/logic.fanins", "internal/bytealg.MaxLen"], apart := false, laid := [("probecard/logic.fanins", laid_probecard_logic_fanins)] }
def NetlistsSpoilSaid : Prop := netlistsSpoilRow.holds Tryd.pinned (OpenSpec.ofChange netlistsSpoilSpec)

/-- ITS FALSE NEIGHBOUR: 'it returns false'. Refute it at one input. -/
def netlistsSpoilWrong : ChangeSpec := { name := "netlistsSpoil", fn := fun _ => fun
  | [d1, d2, d3] => { results := [.lit (.bool false)], args := [d1, d2, d3] }
  | _ => none }
def NetlistsSpoilWrongFalsely : Prop := netlistsSpoilRow.holds Tryd.pinned (OpenSpec.ofChange netlistsSpoilWrong)

/-- 'probecardlaw03.NetlistsNames': WHATEVER THE INPUT: true; the input reads as it did. -/
def netlistsNamesSpec : ChangeSpec := { name := "netlistsNames", fn := fun _ => fun
  | [d1, d2, d3] => { results := [.lit (.bool true)], args := [d1, d2, d3] }
  | _ => none }
def netlistsNamesRow : OpenClaim := { program := "ytcdfifbabhfknaadoor", sum := "0d48561a42813e4f13b23b9f30b979895bf00655a4773c3e7955867765d49c75", func := "probecard/probecardlaw03.NetlistsNames", spec := "netlistsNames", inPlace := ["internal/bytealg.IndexByteString", "internal/bytealg.IndexString"], unfollowed := true, recurses := true, named := ["probecard/logic.fanins", "internal/bytealg.MaxLen"], apart := false, laid := [("probecard/logic.fanins", laid_probecard_logic_fanins)] }
def NetlistsNamesSaid : Prop := netlistsNamesRow.holds Tryd.pinned (OpenSpec.ofChange netlistsNamesSpec)

/-- ITS FALSE NEIGHBOUR: 'it returns false'. Refute it at one input. -/
def netlistsNamesWrong : ChangeSpec := { name := "netlistsNames", fn := fun _ => fun
  | [d1, d2, d3] => { results := [.lit (.bool false)], args := [d1, d2, d3] }
  | _ => none }
def NetlistsNamesWrongFalsely : Prop := netlistsNamesRow.holds Tryd.pinned (OpenSpec.ofChange netlistsNamesWrong)

/-- 'probecardlaw03.NetlistsCopy': WHATEVER THE INPUT: true; the input reads as it did. -/
def netlistsCopySpec : ChangeSpec := { name := "netlistsCopy", fn := fun _ => fun
  | [d1, d2] => { results := [.lit (.bool true)], args := [d1, d2] }
  | _ => none }
def netlistsCopyRow : OpenClaim := { program := "ytcdfifbabhfknaadoor", sum := "0d48561a42813e4f13b23b9f30b979895bf00655a4773c3e7955867765d49c75", func := "probecard/probecardlaw03.NetlistsCopy", spec := "netlistsCopy", inPlace := ["internal/bytealg.IndexByteString", "internal/bytealg.IndexString"], unfollowed := true, recurses := true, named := ["probecard/logic.fanins", "internal/bytealg.MaxLen"], apart := false, laid := [("probecard/logic.fanins", laid_probecard_logic_fanins)] }
def NetlistsCopySaid : Prop := netlistsCopyRow.holds Tryd.pinned (OpenSpec.ofChange netlistsCopySpec)

/-- ITS FALSE NEIGHBOUR: 'it returns false'. Refute it at one input. -/
def netlistsCopyWrong : ChangeSpec := { name := "netlistsCopy", fn := fun _ => fun
  | [d1, d2] => { results := [.lit (.bool false)], args := [d1, d2] }
  | _ => none }
def NetlistsCopyWrongFalsely : Prop := netlistsCopyRow.holds Tryd.pinned (OpenSpec.ofChange netlistsCopyWrong)

/- THE SECOND FORM. 'bulk': how many values and letters a reading holds, each counted each time it is reached (what is shared counts as often as it is met; a slice's spare places count too). A statement '..UptoSaid' is the law's where the arguments, and the package variables that the reading takes, are together of bulk at most 1048576: NARROWER than '..Said'. Prove '..Said' where nothing that the law and all that it calls make is longer than what came in: it says more and counts as full. Else prove '..UptoSaid'. A law counts once. -/
mutual
def uptoBulk {H : Type} : DataW H → Nat
  | .lit (.string bytes) => bytes.length + 1
  | .lit _ => 1
  | .nil => 1
  | .ptr d => uptoBulk d + 1
  | .slice elems spare => uptoBulkAll elems + uptoBulkAll spare + 1
  | .agg parts => uptoBulkAll parts + 1
  | .iface _ d => uptoBulk d + 1
  | .map entries => uptoBulkEntries entries + 1
  | .held _ => 1
def uptoBulkAll {H : Type} : List (DataW H) → Nat
  | [] => 0
  | d :: r => uptoBulk d + uptoBulkAll r
def uptoBulkEntries {H : Type} : List (Lit × DataW H) → Nat
  | [] => 0
  | x :: r => uptoBulkEntry x + uptoBulkEntries r
def uptoBulkEntry {H : Type} : Lit × DataW H → Nat
  | (.string bytes, d) => bytes.length + uptoBulk d + 1
  | (_, d) => uptoBulk d + 1
 end
def uptoSmall : (H : Type) → List (DataW H) → Bool := fun _ ds => decide (uptoBulkAll ds ≤ 1048576)
def OpenSpec.upto (s : _root_.Go.ChangeSpec) : _root_.Go.OpenSpec := { _root_.Go.OpenSpec.ofChange s with cond := some uptoSmall }

/-- 'probecardlaw03.NetlistsCheck', WHERE WHAT IT READS IS OF BULK AT MOST 1048576: true; the input reads as it did. -/
def netlistsCheckUptoRow : OpenClaim := { program := "ytcdfifbabhfknaadoor", sum := "0d48561a42813e4f13b23b9f30b979895bf00655a4773c3e7955867765d49c75", func := "probecard/probecardlaw03.NetlistsCheck", spec := "netlistsCheck", inPlace := ["internal/bytealg.IndexByteString", "internal/bytealg.IndexString"], unfollowed := true, recurses := true, named := ["probecard/logic.fanins", "internal/bytealg.MaxLen"], apart := false, laid := [("probecard/logic.fanins", laid_probecard_logic_fanins)], narrowed := true }
def NetlistsCheckUptoSaid : Prop := netlistsCheckUptoRow.holds Tryd.pinned (OpenSpec.upto netlistsCheckSpec)

/-- 'probecardlaw03.NetlistsLists', WHERE WHAT IT READS IS OF BULK AT MOST 1048576: true; the input reads as it did. -/
def netlistsListsUptoRow : OpenClaim := { program := "ytcdfifbabhfknaadoor", sum := "0d48561a42813e4f13b23b9f30b979895bf00655a4773c3e7955867765d49c75", func := "probecard/probecardlaw03.NetlistsLists", spec := "netlistsLists", inPlace := ["internal/bytealg.IndexByteString", "internal/bytealg.IndexString"], unfollowed := true, recurses := true, named := ["probecard/logic.fanins", "internal/bytealg.MaxLen"], apart := false, laid := [("probecard/logic.fanins", laid_probecard_logic_fanins)], narrowed := true }
def NetlistsListsUptoSaid : Prop := netlistsListsUptoRow.holds Tryd.pinned (OpenSpec.upto netlistsListsSpec)

/-- 'probecardlaw03.NetlistsOrder', WHERE WHAT IT READS IS OF BULK AT MOST 1048576: true; the input reads as it did. -/
def netlistsOrderUptoRow : OpenClaim := { program := "ytcdfifbabhfknaadoor", sum := "0d48561a42813e4f13b23b9f30b979895bf00655a4773c3e7955867765d49c75", func := "probecard/probecardlaw03.NetlistsOrder", spec := "netlistsOrder", inPlace := ["internal/bytealg.IndexByteString", "internal/bytealg.IndexString"], unfollowed := true, recurses := true, named := ["probecard/logic.fanins", "internal/bytealg.MaxLen"], apart := false, laid := [("probecard/logic.fanins", laid_probecard_logic_fanins)], narrowed := true }
def NetlistsOrderUptoSaid : Prop := netlistsOrderUptoRow.holds Tryd.pinned (OpenSpec.upto netlistsOrderSpec)

/-- 'probecardlaw03.NetlistsLoops', WHERE WHAT IT READS IS OF BULK AT MOST 1048576: true; the input reads as it did. -/
def netlistsLoopsUptoRow : OpenClaim := { program := "ytcdfifbabhfknaadoor", sum := "0d48561a42813e4f13b23b9f30b979895bf00655a4773c3e7955867765d49c75", func := "probecard/probecardlaw03.NetlistsLoops", spec := "netlistsLoops", inPlace := ["internal/bytealg.IndexByteString", "internal/bytealg.IndexString"], unfollowed := true, recurses := true, named := ["probecard/logic.fanins", "internal/bytealg.MaxLen"], apart := false, laid := [("probecard/logic.fanins", laid_probecard_logic_fanins)], narrowed := true }
def NetlistsLoopsUptoSaid : Prop := netlistsLoopsUptoRow.holds Tryd.pinned (OpenSpec.upto netlistsLoopsSpec)

/-- 'probecardlaw03.NetlistsRenumbered', WHERE WHAT IT READS IS OF BULK AT MOST 1048576: true; the input reads as it did. -/
def netlistsRenumberedUptoRow : OpenClaim := { program := "ytcdfifbabhfknaadoor", sum := "0d48561a42813e4f13b23b9f30b979895bf00655a4773c3e7955867765d49c75", func := "probecard/probecardlaw03.NetlistsRenumbered", spec := "netlistsRenumbered", inPlace := ["internal/bytealg.IndexByteString", "internal/bytealg.IndexString"], unfollowed := true, recurses := true, named := ["probecard/logic.fanins", "internal/bytealg.MaxLen"], apart := false, laid := [("probecard/logic.fanins", laid_probecard_logic_fanins)], narrowed := true }
def NetlistsRenumberedUptoSaid : Prop := netlistsRenumberedUptoRow.holds Tryd.pinned (OpenSpec.upto netlistsRenumberedSpec)

/-- 'probecardlaw03.NetlistsSpoil', WHERE WHAT IT READS IS OF BULK AT MOST 1048576: true; the input reads as it did. -/
def netlistsSpoilUptoRow : OpenClaim := { program := "ytcdfifbabhfknaadoor", sum := "0d48561a42813e4f13b23b9f30b979895bf00655a4773c3e7955867765d49c75", func := "probecard/probecardlaw03.NetlistsSpoil", spec := "netlistsSpoil", inPlace := ["internal/bytealg.IndexByteString", "internal/bytealg.IndexString"], unfollowed := true, recurses := true, named := ["probecard/logic.fanins", "internal/bytealg.MaxLen"], apart := false, laid := [("probecard/logic.fanins", laid_probecard_logic_fanins)], narrowed := true }
def NetlistsSpoilUptoSaid : Prop := netlistsSpoilUptoRow.holds Tryd.pinned (OpenSpec.upto netlistsSpoilSpec)

/-- 'probecardlaw03.NetlistsNames', WHERE WHAT IT READS IS OF BULK AT MOST 1048576: true; the input reads as it did. -/
def netlistsNamesUptoRow : OpenClaim := { program := "ytcdfifbabhfknaadoor", sum := "0d48561a42813e4f13b23b9f30b979895bf00655a4773c3e7955867765d49c75", func := "probecard/probecardlaw03.NetlistsNames", spec := "netlistsNames", inPlace := ["internal/bytealg.IndexByteString", "internal/bytealg.IndexString"], unfollowed := true, recurses := true, named := ["probecard/logic.fanins", "internal/bytealg.MaxLen"], apart := false, laid := [("probecard/logic.fanins", laid_probecard_logic_fanins)], narrowed := true }
def NetlistsNamesUptoSaid : Prop := netlistsNamesUptoRow.holds Tryd.pinned (OpenSpec.upto netlistsNamesSpec)

/-- 'probecardlaw03.NetlistsCopy', WHERE WHAT IT READS IS OF BULK AT MOST 1048576: true; the input reads as it did. -/
def netlistsCopyUptoRow : OpenClaim := { program := "ytcdfifbabhfknaadoor", sum := "0d48561a42813e4f13b23b9f30b979895bf00655a4773c3e7955867765d49c75", func := "probecard/probecardlaw03.NetlistsCopy", spec := "netlistsCopy", inPlace := ["internal/bytealg.IndexByteString", "internal/bytealg.IndexString"], unfollowed := true, recurses := true, named := ["probecard/logic.fanins", "internal/bytealg.MaxLen"], apart := false, laid := [("probecard/logic.fanins", laid_probecard_logic_fanins)], narrowed := true }
def NetlistsCopyUptoSaid : Prop := netlistsCopyUptoRow.holds Tryd.pinned (OpenSpec.upto netlistsCopySpec)

end Rows
end Go.Proofs.YtcdfifbabhfknaaDoor
