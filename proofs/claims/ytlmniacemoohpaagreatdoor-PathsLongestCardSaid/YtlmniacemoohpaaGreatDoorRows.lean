/-
  NARROWER THAN 'FOR EVERY INPUT', by the rows' own cells (each row's printed sentence says how): BridgesDetects: laid · BridgesStuck: laid · BridgesQuiescent: laid · BridgesFeedback: laid · BridgesPairs: laid · PathsCount: laid · PathsLongest: laid · PathsCheck: laid · PathsSteady: laid · PathsRules: laid · PathsTests: laid · PathsKinds: laid.
  DERIVED. THE GIVEN ROWS OF THIS SEAT. 12 by the template 'for every input the law returns true; each argument reads behind the call as it read before'; 0 by the template 'total and deterministic' (their statements: YtlmniacemoohpaaGreatDoorTotals.lean).
  GIVEN WITH THE SEED: the statements are not yours to turn. If you find one false, say at which input.
  Laid BY PROGRAM, IN A SANDBOX (cutbox-rows.mjs): the forced cells as the released guide's own fill.sh prints them over the translation d3a89a990e0883f3… (all of the seat's roots in one cut). By AI agents, Wed Nov 11 2026. No macro, syntax, notation, axiom, sorry.
-/
import Derived.Test.YtlmniacemoohpaaGreatDoorChecked
import GoSem.Claim
import GoSem.ClaimJoined
import GoSem.ClaimMapViews
import Derived.JoinedTies
import Derived.KernelRfl
namespace Go.Proofs.YtlmniacemoohpaaGreatDoor
/- THE CELL 'sum', in the pinned program and in every row, IS THE sha256 OF THE DUMP (.gsa) THAT YtlmniacemoohpaaGreatDoorProg.lean LOADS. Nothing in Lean hashes anything: it is a label: what it is worth is what the hold of that sum in a sandbox is worth. -/
noncomputable def Tryz.pinned : Pinned := { name := "ytlmniacemoohpaagreatdoor", sum := "d3a89a990e0883f376440ae481a6073c0416b82c1ab17e0fb820a9214f8cda34", checked := Tryz.checked }
namespace Rows
def none {H : Type} : Left H := { results := [], args := [] }

/- WHAT THE LISTED PACKAGE-LEVEL VARIABLES READ AS WHEN THE CALL BEGINS. Each datum BY PROGRAM (the guide's laid-datum.mjs) off the statement by which the dump's own 'gosem.cut.vars' lays the variable. In a bare row this is a premise. The card (YtlmniacemoohpaaGreatDoorCards.lean) ties it to the program's text. -/
def laid_probecard_logic_fanins {H : Type} : DataW H := .agg [.agg [.lit (.int .i64 0), .lit (.int .i64 0)], .agg [.lit (.int .i64 0), .lit (.int .i64 0)], .agg [.lit (.int .i64 0), .lit (.int .i64 0)], .agg [.lit (.int .i64 1), .lit (.int .i64 1)], .agg [.lit (.int .i64 1), .lit (.int .i64 1)], .agg [.lit (.int .i64 2), .lit (.int .i64 16)], .agg [.lit (.int .i64 2), .lit (.int .i64 16)], .agg [.lit (.int .i64 2), .lit (.int .i64 16)], .agg [.lit (.int .i64 2), .lit (.int .i64 16)], .agg [.lit (.int .i64 2), .lit (.int .i64 16)], .agg [.lit (.int .i64 2), .lit (.int .i64 16)], .agg [.lit (.int .i64 3), .lit (.int .i64 3)], .agg [.lit (.int .i64 2), .lit (.int .i64 2)], .agg [.lit (.int .i64 1), .lit (.int .i64 16)], .agg [.lit (.int .i64 1), .lit (.int .i64 1)], .agg [.lit (.int .i64 0), .lit (.int .i64 0)]]

/-- 'probecardlaw19.BridgesDetects': WHATEVER THE INPUT: true; the input reads as it did. -/
def bridgesDetectsSpec : ChangeSpec := { name := "bridgesDetects", fn := fun _ => fun
  | [d] => { results := [.lit (.bool true)], args := [d] }
  | _ => none }
def bridgesDetectsRow : OpenClaim := { program := "ytlmniacemoohpaagreatdoor", sum := "d3a89a990e0883f376440ae481a6073c0416b82c1ab17e0fb820a9214f8cda34", func := "probecard/probecardlaw19.BridgesDetects", spec := "bridgesDetects", inPlace := ["internal/bytealg.IndexByteString", "internal/bytealg.IndexString"], unfollowed := true, recurses := true, named := ["probecard/logic.fanins", "internal/bytealg.MaxLen"], apart := false, laid := [("probecard/logic.fanins", laid_probecard_logic_fanins)] }
def BridgesDetectsSaid : Prop := bridgesDetectsRow.holds Tryz.pinned (OpenSpec.ofChange bridgesDetectsSpec)

/-- ITS FALSE NEIGHBOUR: 'it returns false'. Refute it at one input. -/
def bridgesDetectsWrong : ChangeSpec := { name := "bridgesDetects", fn := fun _ => fun
  | [d] => { results := [.lit (.bool false)], args := [d] }
  | _ => none }
def BridgesDetectsWrongFalsely : Prop := bridgesDetectsRow.holds Tryz.pinned (OpenSpec.ofChange bridgesDetectsWrong)

/-- 'probecardlaw19.BridgesStuck': WHATEVER THE INPUT: true; the input reads as it did. -/
def bridgesStuckSpec : ChangeSpec := { name := "bridgesStuck", fn := fun _ => fun
  | [d] => { results := [.lit (.bool true)], args := [d] }
  | _ => none }
def bridgesStuckRow : OpenClaim := { program := "ytlmniacemoohpaagreatdoor", sum := "d3a89a990e0883f376440ae481a6073c0416b82c1ab17e0fb820a9214f8cda34", func := "probecard/probecardlaw19.BridgesStuck", spec := "bridgesStuck", inPlace := ["internal/bytealg.IndexByteString", "internal/bytealg.IndexString"], unfollowed := true, recurses := true, named := ["probecard/logic.fanins", "internal/bytealg.MaxLen"], apart := false, laid := [("probecard/logic.fanins", laid_probecard_logic_fanins)] }
def BridgesStuckSaid : Prop := bridgesStuckRow.holds Tryz.pinned (OpenSpec.ofChange bridgesStuckSpec)

/-- ITS FALSE NEIGHBOUR: 'it returns false'. Refute it at one input. -/
def bridgesStuckWrong : ChangeSpec := { name := "bridgesStuck", fn := fun _ => fun
  | [d] => { results := [.lit (.bool false)], args := [d] }
  | _ => none }
def BridgesStuckWrongFalsely : Prop := bridgesStuckRow.holds Tryz.pinned (OpenSpec.ofChange bridgesStuckWrong)

/-- 'probecardlaw19.BridgesQuiescent': WHATEVER THE INPUT: true; the input reads as it did. -/
def bridgesQuiescentSpec : ChangeSpec := { name := "bridgesQuiescent", fn := fun _ => fun
  | [d] => { results := [.lit (.bool true)], args := [d] }
  | _ => none }
def bridgesQuiescentRow : OpenClaim := { program := "ytlmniacemoohpaagreatdoor", sum := "d3a89a990e0883f376440ae481a6073c0416b82c1ab17e0fb820a9214f8cda34", func := "probecard/probecardlaw19.BridgesQuiescent", spec := "bridgesQuiescent", inPlace := ["internal/bytealg.IndexByteString", "internal/bytealg.IndexString"], unfollowed := true, recurses := true, named := ["probecard/logic.fanins", "internal/bytealg.MaxLen"], apart := false, laid := [("probecard/logic.fanins", laid_probecard_logic_fanins)] }
def BridgesQuiescentSaid : Prop := bridgesQuiescentRow.holds Tryz.pinned (OpenSpec.ofChange bridgesQuiescentSpec)

/-- ITS FALSE NEIGHBOUR: 'it returns false'. Refute it at one input. -/
def bridgesQuiescentWrong : ChangeSpec := { name := "bridgesQuiescent", fn := fun _ => fun
  | [d] => { results := [.lit (.bool false)], args := [d] }
  | _ => none }
def BridgesQuiescentWrongFalsely : Prop := bridgesQuiescentRow.holds Tryz.pinned (OpenSpec.ofChange bridgesQuiescentWrong)

/-- 'probecardlaw19.BridgesFeedback': WHATEVER THE INPUT: true; the input reads as it did. -/
def bridgesFeedbackSpec : ChangeSpec := { name := "bridgesFeedback", fn := fun _ => fun
  | [d1, d2, d3] => { results := [.lit (.bool true)], args := [d1, d2, d3] }
  | _ => none }
def bridgesFeedbackRow : OpenClaim := { program := "ytlmniacemoohpaagreatdoor", sum := "d3a89a990e0883f376440ae481a6073c0416b82c1ab17e0fb820a9214f8cda34", func := "probecard/probecardlaw19.BridgesFeedback", spec := "bridgesFeedback", inPlace := ["internal/bytealg.IndexByteString", "internal/bytealg.IndexString"], unfollowed := true, recurses := true, named := ["probecard/logic.fanins", "internal/bytealg.MaxLen"], apart := false, laid := [("probecard/logic.fanins", laid_probecard_logic_fanins)] }
def BridgesFeedbackSaid : Prop := bridgesFeedbackRow.holds Tryz.pinned (OpenSpec.ofChange bridgesFeedbackSpec)

/-- ITS FALSE NEIGHBOUR: 'it returns false'. Refute it at one input. -/
def bridgesFeedbackWrong : ChangeSpec := { name := "bridgesFeedback", fn := fun _ => fun
  | [d1, d2, d3] => { results := [.lit (.bool false)], args := [d1, d2, d3] }
  | _ => none }
def BridgesFeedbackWrongFalsely : Prop := bridgesFeedbackRow.holds Tryz.pinned (OpenSpec.ofChange bridgesFeedbackWrong)

/-- 'probecardlaw19.BridgesPairs': WHATEVER THE INPUT: true; the input reads as it did. -/
def bridgesPairsSpec : ChangeSpec := { name := "bridgesPairs", fn := fun _ => fun
  | [d] => { results := [.lit (.bool true)], args := [d] }
  | _ => none }
def bridgesPairsRow : OpenClaim := { program := "ytlmniacemoohpaagreatdoor", sum := "d3a89a990e0883f376440ae481a6073c0416b82c1ab17e0fb820a9214f8cda34", func := "probecard/probecardlaw19.BridgesPairs", spec := "bridgesPairs", inPlace := ["internal/bytealg.IndexByteString", "internal/bytealg.IndexString"], unfollowed := true, recurses := true, named := ["probecard/logic.fanins", "internal/bytealg.MaxLen"], apart := false, laid := [("probecard/logic.fanins", laid_probecard_logic_fanins)] }
def BridgesPairsSaid : Prop := bridgesPairsRow.holds Tryz.pinned (OpenSpec.ofChange bridgesPairsSpec)

/-- ITS FALSE NEIGHBOUR: 'it returns false'. Refute it at one input. -/
def bridgesPairsWrong : ChangeSpec := { name := "bridgesPairs", fn := fun _ => fun
  | [d] => { results := [.lit (.bool false)], args := [d] }
  | _ => none }
def BridgesPairsWrongFalsely : Prop := bridgesPairsRow.holds Tryz.pinned (OpenSpec.ofChange bridgesPairsWrong)

/-- 'probecardlaw20.PathsCount': WHATEVER THE INPUT: true; the input reads as it did. -/
def pathsCountSpec : ChangeSpec := { name := "pathsCount", fn := fun _ => fun
  | [d] => { results := [.lit (.bool true)], args := [d] }
  | _ => none }
def pathsCountRow : OpenClaim := { program := "ytlmniacemoohpaagreatdoor", sum := "d3a89a990e0883f376440ae481a6073c0416b82c1ab17e0fb820a9214f8cda34", func := "probecard/probecardlaw20.PathsCount", spec := "pathsCount", inPlace := ["internal/bytealg.IndexByteString", "internal/bytealg.IndexString", "math/bits.Add64"], unfollowed := true, recurses := true, named := ["probecard/logic.fanins", "internal/bytealg.MaxLen"], apart := false, laid := [("probecard/logic.fanins", laid_probecard_logic_fanins)] }
def PathsCountSaid : Prop := pathsCountRow.holds Tryz.pinned (OpenSpec.ofChange pathsCountSpec)

/-- ITS FALSE NEIGHBOUR: 'it returns false'. Refute it at one input. -/
def pathsCountWrong : ChangeSpec := { name := "pathsCount", fn := fun _ => fun
  | [d] => { results := [.lit (.bool false)], args := [d] }
  | _ => none }
def PathsCountWrongFalsely : Prop := pathsCountRow.holds Tryz.pinned (OpenSpec.ofChange pathsCountWrong)

/-- 'probecardlaw20.PathsLongest': WHATEVER THE INPUT: true; the input reads as it did. -/
def pathsLongestSpec : ChangeSpec := { name := "pathsLongest", fn := fun _ => fun
  | [d1, d2] => { results := [.lit (.bool true)], args := [d1, d2] }
  | _ => none }
def pathsLongestRow : OpenClaim := { program := "ytlmniacemoohpaagreatdoor", sum := "d3a89a990e0883f376440ae481a6073c0416b82c1ab17e0fb820a9214f8cda34", func := "probecard/probecardlaw20.PathsLongest", spec := "pathsLongest", inPlace := ["internal/bytealg.IndexByteString", "internal/bytealg.IndexString", "math/bits.Add64"], unfollowed := true, recurses := true, named := ["probecard/logic.fanins", "internal/bytealg.MaxLen"], apart := false, laid := [("probecard/logic.fanins", laid_probecard_logic_fanins)] }
def PathsLongestSaid : Prop := pathsLongestRow.holds Tryz.pinned (OpenSpec.ofChange pathsLongestSpec)

/-- ITS FALSE NEIGHBOUR: 'it returns false'. Refute it at one input. -/
def pathsLongestWrong : ChangeSpec := { name := "pathsLongest", fn := fun _ => fun
  | [d1, d2] => { results := [.lit (.bool false)], args := [d1, d2] }
  | _ => none }
def PathsLongestWrongFalsely : Prop := pathsLongestRow.holds Tryz.pinned (OpenSpec.ofChange pathsLongestWrong)

/-- 'probecardlaw20.PathsCheck': WHATEVER THE INPUT: true; the input reads as it did. -/
def pathsCheckSpec : ChangeSpec := { name := "pathsCheck", fn := fun _ => fun
  | [d1, d2] => { results := [.lit (.bool true)], args := [d1, d2] }
  | _ => none }
def pathsCheckRow : OpenClaim := { program := "ytlmniacemoohpaagreatdoor", sum := "d3a89a990e0883f376440ae481a6073c0416b82c1ab17e0fb820a9214f8cda34", func := "probecard/probecardlaw20.PathsCheck", spec := "pathsCheck", inPlace := ["internal/bytealg.IndexByteString", "internal/bytealg.IndexString", "math/bits.Add64"], unfollowed := true, recurses := true, named := ["probecard/logic.fanins", "internal/bytealg.MaxLen"], apart := false, laid := [("probecard/logic.fanins", laid_probecard_logic_fanins)] }
def PathsCheckSaid : Prop := pathsCheckRow.holds Tryz.pinned (OpenSpec.ofChange pathsCheckSpec)

/-- ITS FALSE NEIGHBOUR: 'it returns false'. Refute it at one input. -/
def pathsCheckWrong : ChangeSpec := { name := "pathsCheck", fn := fun _ => fun
  | [d1, d2] => { results := [.lit (.bool false)], args := [d1, d2] }
  | _ => none }
def PathsCheckWrongFalsely : Prop := pathsCheckRow.holds Tryz.pinned (OpenSpec.ofChange pathsCheckWrong)

/-- 'probecardlaw20.PathsSteady': WHATEVER THE INPUT: true; the input reads as it did. -/
def pathsSteadySpec : ChangeSpec := { name := "pathsSteady", fn := fun _ => fun
  | [d] => { results := [.lit (.bool true)], args := [d] }
  | _ => none }
def pathsSteadyRow : OpenClaim := { program := "ytlmniacemoohpaagreatdoor", sum := "d3a89a990e0883f376440ae481a6073c0416b82c1ab17e0fb820a9214f8cda34", func := "probecard/probecardlaw20.PathsSteady", spec := "pathsSteady", inPlace := ["internal/bytealg.IndexByteString", "internal/bytealg.IndexString", "math/bits.Add64"], unfollowed := true, recurses := true, named := ["probecard/logic.fanins", "internal/bytealg.MaxLen"], apart := false, laid := [("probecard/logic.fanins", laid_probecard_logic_fanins)] }
def PathsSteadySaid : Prop := pathsSteadyRow.holds Tryz.pinned (OpenSpec.ofChange pathsSteadySpec)

/-- ITS FALSE NEIGHBOUR: 'it returns false'. Refute it at one input. -/
def pathsSteadyWrong : ChangeSpec := { name := "pathsSteady", fn := fun _ => fun
  | [d] => { results := [.lit (.bool false)], args := [d] }
  | _ => none }
def PathsSteadyWrongFalsely : Prop := pathsSteadyRow.holds Tryz.pinned (OpenSpec.ofChange pathsSteadyWrong)

/-- 'probecardlaw20.PathsRules': WHATEVER THE INPUT: true; the input reads as it did. -/
def pathsRulesSpec : ChangeSpec := { name := "pathsRules", fn := fun _ => fun
  | [d] => { results := [.lit (.bool true)], args := [d] }
  | _ => none }
def pathsRulesRow : OpenClaim := { program := "ytlmniacemoohpaagreatdoor", sum := "d3a89a990e0883f376440ae481a6073c0416b82c1ab17e0fb820a9214f8cda34", func := "probecard/probecardlaw20.PathsRules", spec := "pathsRules", inPlace := ["internal/bytealg.IndexByteString", "internal/bytealg.IndexString", "math/bits.Add64"], unfollowed := true, recurses := true, named := ["probecard/logic.fanins", "internal/bytealg.MaxLen"], apart := false, laid := [("probecard/logic.fanins", laid_probecard_logic_fanins)] }
def PathsRulesSaid : Prop := pathsRulesRow.holds Tryz.pinned (OpenSpec.ofChange pathsRulesSpec)

/-- ITS FALSE NEIGHBOUR: 'it returns false'. Refute it at one input. -/
def pathsRulesWrong : ChangeSpec := { name := "pathsRules", fn := fun _ => fun
  | [d] => { results := [.lit (.bool false)], args := [d] }
  | _ => none }
def PathsRulesWrongFalsely : Prop := pathsRulesRow.holds Tryz.pinned (OpenSpec.ofChange pathsRulesWrong)

/-- 'probecardlaw20.PathsTests': WHATEVER THE INPUT: true; the input reads as it did. -/
def pathsTestsSpec : ChangeSpec := { name := "pathsTests", fn := fun _ => fun
  | [d] => { results := [.lit (.bool true)], args := [d] }
  | _ => none }
def pathsTestsRow : OpenClaim := { program := "ytlmniacemoohpaagreatdoor", sum := "d3a89a990e0883f376440ae481a6073c0416b82c1ab17e0fb820a9214f8cda34", func := "probecard/probecardlaw20.PathsTests", spec := "pathsTests", inPlace := ["internal/bytealg.IndexByteString", "internal/bytealg.IndexString", "math/bits.Add64"], unfollowed := true, recurses := true, named := ["probecard/logic.fanins", "internal/bytealg.MaxLen"], apart := false, laid := [("probecard/logic.fanins", laid_probecard_logic_fanins)] }
def PathsTestsSaid : Prop := pathsTestsRow.holds Tryz.pinned (OpenSpec.ofChange pathsTestsSpec)

/-- ITS FALSE NEIGHBOUR: 'it returns false'. Refute it at one input. -/
def pathsTestsWrong : ChangeSpec := { name := "pathsTests", fn := fun _ => fun
  | [d] => { results := [.lit (.bool false)], args := [d] }
  | _ => none }
def PathsTestsWrongFalsely : Prop := pathsTestsRow.holds Tryz.pinned (OpenSpec.ofChange pathsTestsWrong)

/-- 'probecardlaw20.PathsKinds': WHATEVER THE INPUT: true; the input reads as it did. -/
def pathsKindsSpec : ChangeSpec := { name := "pathsKinds", fn := fun _ => fun
  | [d] => { results := [.lit (.bool true)], args := [d] }
  | _ => none }
def pathsKindsRow : OpenClaim := { program := "ytlmniacemoohpaagreatdoor", sum := "d3a89a990e0883f376440ae481a6073c0416b82c1ab17e0fb820a9214f8cda34", func := "probecard/probecardlaw20.PathsKinds", spec := "pathsKinds", inPlace := ["internal/bytealg.IndexByteString", "internal/bytealg.IndexString", "math/bits.Add64"], unfollowed := true, recurses := true, named := ["probecard/logic.fanins", "internal/bytealg.MaxLen"], apart := false, laid := [("probecard/logic.fanins", laid_probecard_logic_fanins)] }
def PathsKindsSaid : Prop := pathsKindsRow.holds Tryz.pinned (OpenSpec.ofChange pathsKindsSpec)

/-- ITS FALSE NEIGHBOUR: 'it returns false'. Refute it at one input. -/
def pathsKindsWrong : ChangeSpec := { name := "pathsKinds", fn := fun _ => fun
  | [d] => { results := [.lit (.bool false)], args := [d] }
  | _ => none }
def PathsKindsWrongFalsely : Prop := pathsKindsRow.holds Tryz.pinned (OpenSpec.ofChange pathsKindsWrong)

/- THE SECOND FORM. 'bulk': how many values and letters a reading holds, each counted each time it is reached (what is shared counts as often as it is met; a slice's spare places count too). A statement '..UptoSaid' is the law's where the arguments, and the package variables that the reading takes, are together of bulk at most 1048576: NARROWER than '..Said'. Prove '..Said' where nothing that the law and all that it calls make is longer than what came in: it says more and counts as full. Else prove '..UptoSaid'. A law counts once. -/
mutual
def uptoBulk {H : Type} : DataW H → Nat
  | .lit (.string bytes) => bytes.length + 1
  | .lit _ => 1
  | .nil => 1
  | .ptr d => uptoBulk d + 1
  | .slice elems spare => uptoBulkAll elems + uptoBulkAll spare + 1
  | .agg parts => uptoBulkAll parts + 1
  | .iface _ d => uptoBulk d + 1
  | .map entries => uptoBulkEntries entries + 1
  | .held _ => 1
def uptoBulkAll {H : Type} : List (DataW H) → Nat
  | [] => 0
  | d :: r => uptoBulk d + uptoBulkAll r
def uptoBulkEntries {H : Type} : List (Lit × DataW H) → Nat
  | [] => 0
  | x :: r => uptoBulkEntry x + uptoBulkEntries r
def uptoBulkEntry {H : Type} : Lit × DataW H → Nat
  | (.string bytes, d) => bytes.length + uptoBulk d + 1
  | (_, d) => uptoBulk d + 1
 end
def uptoSmall : (H : Type) → List (DataW H) → Bool := fun _ ds => decide (uptoBulkAll ds ≤ 1048576)
def OpenSpec.upto (s : _root_.Go.ChangeSpec) : _root_.Go.OpenSpec := { _root_.Go.OpenSpec.ofChange s with cond := some uptoSmall }

/-- 'probecardlaw19.BridgesDetects', WHERE WHAT IT READS IS OF BULK AT MOST 1048576: true; the input reads as it did. -/
def bridgesDetectsUptoRow : OpenClaim := { program := "ytlmniacemoohpaagreatdoor", sum := "d3a89a990e0883f376440ae481a6073c0416b82c1ab17e0fb820a9214f8cda34", func := "probecard/probecardlaw19.BridgesDetects", spec := "bridgesDetects", inPlace := ["internal/bytealg.IndexByteString", "internal/bytealg.IndexString"], unfollowed := true, recurses := true, named := ["probecard/logic.fanins", "internal/bytealg.MaxLen"], apart := false, laid := [("probecard/logic.fanins", laid_probecard_logic_fanins)], narrowed := true }
def BridgesDetectsUptoSaid : Prop := bridgesDetectsUptoRow.holds Tryz.pinned (OpenSpec.upto bridgesDetectsSpec)

/-- 'probecardlaw19.BridgesStuck', WHERE WHAT IT READS IS OF BULK AT MOST 1048576: true; the input reads as it did. -/
def bridgesStuckUptoRow : OpenClaim := { program := "ytlmniacemoohpaagreatdoor", sum := "d3a89a990e0883f376440ae481a6073c0416b82c1ab17e0fb820a9214f8cda34", func := "probecard/probecardlaw19.BridgesStuck", spec := "bridgesStuck", inPlace := ["internal/bytealg.IndexByteString", "internal/bytealg.IndexString"], unfollowed := true, recurses := true, named := ["probecard/logic.fanins", "internal/bytealg.MaxLen"], apart := false, laid := [("probecard/logic.fanins", laid_probecard_logic_fanins)], narrowed := true }
def BridgesStuckUptoSaid : Prop := bridgesStuckUptoRow.holds Tryz.pinned (OpenSpec.upto bridgesStuckSpec)

/-- 'probecardlaw19.BridgesQuiescent', WHERE WHAT IT READS IS OF BULK AT MOST 1048576: true; the input reads as it did. -/
def bridgesQuiescentUptoRow : OpenClaim := { program := "ytlmniacemoohpaagreatdoor", sum := "d3a89a990e0883f376440ae481a6073c0416b82c1ab17e0fb820a9214f8cda34", func := "probecard/probecardlaw19.BridgesQuiescent", spec := "bridgesQuiescent", inPlace := ["internal/bytealg.IndexByteString", "internal/bytealg.IndexString"], unfollowed := true, recurses := true, named := ["probecard/logic.fanins", "internal/bytealg.MaxLen"], apart := false, laid := [("probecard/logic.fanins", laid_probecard_logic_fanins)], narrowed := true }
def BridgesQuiescentUptoSaid : Prop := bridgesQuiescentUptoRow.holds Tryz.pinned (OpenSpec.upto bridgesQuiescentSpec)

/-- 'probecardlaw19.BridgesFeedback', WHERE WHAT IT READS IS OF BULK AT MOST 1048576: true; the input reads as it did. -/
def bridgesFeedbackUptoRow : OpenClaim := { program := "ytlmniacemoohpaagreatdoor", sum := "d3a89a990e0883f376440ae481a6073c0416b82c1ab17e0fb820a9214f8cda34", func := "probecard/probecardlaw19.BridgesFeedback", spec := "bridgesFeedback", inPlace := ["internal/bytealg.IndexByteString", "internal/bytealg.IndexString"], unfollowed := true, recurses := true, named := ["probecard/logic.fanins", "internal/bytealg.MaxLen"], apart := false, laid := [("probecard/logic.fanins", laid_probecard_logic_fanins)], narrowed := true }
def BridgesFeedbackUptoSaid : Prop := bridgesFeedbackUptoRow.holds Tryz.pinned (OpenSpec.upto bridgesFeedbackSpec)

/-- 'probecardlaw19.BridgesPairs', WHERE WHAT IT READS IS OF BULK AT MOST 1048576: true; the input reads as it did. -/
def bridgesPairsUptoRow : OpenClaim := { program := "ytlmniacemoohpaagreatdoor", sum := "d3a89a990e0883f376440ae481a6073c0416b82c1ab17e0fb820a9214f8cda34", func := "probecard/probecardlaw19.BridgesPairs", spec := "bridgesPairs", inPlace := ["internal/bytealg.IndexByteString", "internal/bytealg.IndexString"], unfollowed := true, recurses := true, named := ["probecard/logic.fanins", "internal/bytealg.MaxLen"], apart := false, laid := [("probecard/logic.fanins", laid_probecard_logic_fanins)], narrowed := true }
def BridgesPairsUptoSaid : Prop := bridgesPairsUptoRow.holds Tryz.pinned (OpenSpec.upto bridgesPairsSpec)

/-- 'probecardlaw20.PathsCount', WHERE WHAT IT READS IS OF BULK AT MOST 1048576: true; the input reads as it did. -/
def pathsCountUptoRow : OpenClaim := { program := "ytlmniacemoohpaagreatdoor", sum := "d3a89a990e0883f376440ae481a6073c0416b82c1ab17e0fb820a9214f8cda34", func := "probecard/probecardlaw20.PathsCount", spec := "pathsCount", inPlace := ["internal/bytealg.IndexByteString", "internal/bytealg.IndexString", "math/bits.Add64"], unfollowed := true, recurses := true, named := ["probecard/logic.fanins", "internal/bytealg.MaxLen"], apart := false, laid := [("probecard/logic.fanins", laid_probecard_logic_fanins)], narrowed := true }
def PathsCountUptoSaid : Prop := pathsCountUptoRow.holds Tryz.pinned (OpenSpec.upto pathsCountSpec)

/-- 'probecardlaw20.PathsLongest', WHERE WHAT IT READS IS OF BULK AT MOST 1048576: true; the input reads as it did. -/
def pathsLongestUptoRow : OpenClaim := { program := "ytlmniacemoohpaagreatdoor", sum := "d3a89a990e0883f376440ae481a6073c0416b82c1ab17e0fb820a9214f8cda34", func := "probecard/probecardlaw20.PathsLongest", spec := "pathsLongest", inPlace := ["internal/bytealg.IndexByteString", "internal/bytealg.IndexString", "math/bits.Add64"], unfollowed := true, recurses := true, named := ["probecard/logic.fanins", "internal/bytealg.MaxLen"], apart := false, laid := [("probecard/logic.fanins", laid_probecard_logic_fanins)], narrowed := true }
def PathsLongestUptoSaid : Prop := pathsLongestUptoRow.holds Tryz.pinned (OpenSpec.upto pathsLongestSpec)

/-- 'probecardlaw20.PathsCheck', WHERE WHAT IT READS IS OF BULK AT MOST 1048576: true; the input reads as it did. -/
def pathsCheckUptoRow : OpenClaim := { program := "ytlmniacemoohpaagreatdoor", sum := "d3a89a990e0883f376440ae481a6073c0416b82c1ab17e0fb820a9214f8cda34", func := "probecard/probecardlaw20.PathsCheck", spec := "pathsCheck", inPlace := ["internal/bytealg.IndexByteString", "internal/bytealg.IndexString", "math/bits.Add64"], unfollowed := true, recurses := true, named := ["probecard/logic.fanins", "internal/bytealg.MaxLen"], apart := false, laid := [("probecard/logic.fanins", laid_probecard_logic_fanins)], narrowed := true }
def PathsCheckUptoSaid : Prop := pathsCheckUptoRow.holds Tryz.pinned (OpenSpec.upto pathsCheckSpec)

/-- 'probecardlaw20.PathsSteady', WHERE WHAT IT READS IS OF BULK AT MOST 1048576: true; the input reads as it did. -/
def pathsSteadyUptoRow : OpenClaim := { program := "ytlmniacemoohpaagreatdoor", sum := "d3a89a990e0883f376440ae481a6073c0416b82c1ab17e0fb820a9214f8cda34", func := "probecard/probecardlaw20.PathsSteady", spec := "pathsSteady", inPlace := ["internal/bytealg.IndexByteString", "internal/bytealg.IndexString", "math/bits.Add64"], unfollowed := true, recurses := true, named := ["probecard/logic.fanins", "internal/bytealg.MaxLen"], apart := false, laid := [("probecard/logic.fanins", laid_probecard_logic_fanins)], narrowed := true }
def PathsSteadyUptoSaid : Prop := pathsSteadyUptoRow.holds Tryz.pinned (OpenSpec.upto pathsSteadySpec)

/-- 'probecardlaw20.PathsRules', WHERE WHAT IT READS IS OF BULK AT MOST 1048576: true; the input reads as it did. -/
def pathsRulesUptoRow : OpenClaim := { program := "ytlmniacemoohpaagreatdoor", sum := "d3a89a990e0883f376440ae481a6073c0416b82c1ab17e0fb820a9214f8cda34", func := "probecard/probecardlaw20.PathsRules", spec := "pathsRules", inPlace := ["internal/bytealg.IndexByteString", "internal/bytealg.IndexString", "math/bits.Add64"], unfollowed := true, recurses := true, named := ["probecard/logic.fanins", "internal/bytealg.MaxLen"], apart := false, laid := [("probecard/logic.fanins", laid_probecard_logic_fanins)], narrowed := true }
def PathsRulesUptoSaid : Prop := pathsRulesUptoRow.holds Tryz.pinned (OpenSpec.upto pathsRulesSpec)

/-- 'probecardlaw20.PathsTests', WHERE WHAT IT READS IS OF BULK AT MOST 1048576: true; the input reads as it did. -/
def pathsTestsUptoRow : OpenClaim := { program := "ytlmniacemoohpaagreatdoor", sum := "d3a89a990e0883f376440ae481a6073c0416b82c1ab17e0fb820a9214f8cda34", func := "probecard/probecardlaw20.PathsTests", spec := "pathsTests", inPlace := ["internal/bytealg.IndexByteString", "internal/bytealg.IndexString", "math/bits.Add64"], unfollowed := true, recurses := true, named := ["probecard/logic.fanins", "internal/bytealg.MaxLen"], apart := false, laid := [("probecard/logic.fanins", laid_probecard_logic_fanins)], narrowed := true }
def PathsTestsUptoSaid : Prop := pathsTestsUptoRow.holds Tryz.pinned (OpenSpec.upto pathsTestsSpec)

/-- 'probecardlaw20.PathsKinds', WHERE WHAT IT READS IS OF BULK AT MOST 1048576: true; the input reads as it did. -/
def pathsKindsUptoRow : OpenClaim := { program := "ytlmniacemoohpaagreatdoor", sum := "d3a89a990e0883f376440ae481a6073c0416b82c1ab17e0fb820a9214f8cda34", func := "probecard/probecardlaw20.PathsKinds", spec := "pathsKinds", inPlace := ["internal/bytealg.IndexByteString", "internal/bytealg.IndexString", "math/bits.Add64"], unfollowed := true, recurses := true, named := ["probecard/logic.fanins", "internal/bytealg.MaxLen"], apart := false, laid := [("probecard/logic.fanins", laid_probecard_logic_fanins)], narrowed := true }
def PathsKindsUptoSaid : Prop := pathsKindsUptoRow.holds Tryz.pinned (OpenSpec.upto pathsKindsSpec)

end Rows
end Go.Proofs.YtlmniacemoohpaaGreatDoor
