/-
  NARROWER THAN 'FOR EVERY INPUT', by the rows' own cells (each row's printed sentence says how): TransitionsCapture: laid · TransitionsShift: laid · TransitionsLaunches: laid · TransitionsDetects: laid · TransitionsAll: laid · InjectRun: laid · InjectDetects: laid · InjectMore: laid · InjectSlow: laid · InjectPair: laid.
  DERIVED. THE GIVEN ROWS OF THIS SEAT. 10 by the template 'for every input the law returns true; each argument reads behind the call as it read before'; 0 by the template 'total and deterministic' (their statements: YtekbgkainigfnaaGreatDoorTotals.lean).
  GIVEN WITH THE SEED: the statements are not yours to turn. If you find one false, say at which input.
  Laid BY PROGRAM, IN A SANDBOX (cutbox-rows.mjs): the forced cells as the released guide's own fill.sh prints them over the translation b8d3f74ea5ea3a53… (all of the seat's roots in one cut). By AI agents, Wed Nov 11 2026. No macro, syntax, notation, axiom, sorry.
-/
import Derived.Test.YtekbgkainigfnaaGreatDoorChecked
import GoSem.Claim
import GoSem.ClaimJoined
import GoSem.ClaimMapViews
import Derived.JoinedTies
import Derived.KernelRfl
namespace Go.Proofs.YtekbgkainigfnaaGreatDoor
/- THE CELL 'sum', in the pinned program and in every row, IS THE sha256 OF THE DUMP (.gsa) THAT YtekbgkainigfnaaGreatDoorProg.lean LOADS. Nothing in Lean hashes anything: it is a label: what it is worth is what the hold of that sum in a sandbox is worth. -/
noncomputable def Tryz.pinned : Pinned := { name := "ytekbgkainigfnaagreatdoor", sum := "b8d3f74ea5ea3a5363b59d5b94cd3f639a7a71b2a5bd5d3b1ed1702707957fa7", checked := Tryz.checked }
namespace Rows
def none {H : Type} : Left H := { results := [], args := [] }

/- WHAT THE LISTED PACKAGE-LEVEL VARIABLES READ AS WHEN THE CALL BEGINS. Each datum BY PROGRAM (the guide's laid-datum.mjs) off the statement by which the dump's own 'gosem.cut.vars' lays the variable. In a bare row this is a premise. The card (YtekbgkainigfnaaGreatDoorCards.lean) ties it to the program's text. -/
def laid_probecard_logic_fanins {H : Type} : DataW H := .agg [.agg [.lit (.int .i64 0), .lit (.int .i64 0)], .agg [.lit (.int .i64 0), .lit (.int .i64 0)], .agg [.lit (.int .i64 0), .lit (.int .i64 0)], .agg [.lit (.int .i64 1), .lit (.int .i64 1)], .agg [.lit (.int .i64 1), .lit (.int .i64 1)], .agg [.lit (.int .i64 2), .lit (.int .i64 16)], .agg [.lit (.int .i64 2), .lit (.int .i64 16)], .agg [.lit (.int .i64 2), .lit (.int .i64 16)], .agg [.lit (.int .i64 2), .lit (.int .i64 16)], .agg [.lit (.int .i64 2), .lit (.int .i64 16)], .agg [.lit (.int .i64 2), .lit (.int .i64 16)], .agg [.lit (.int .i64 3), .lit (.int .i64 3)], .agg [.lit (.int .i64 2), .lit (.int .i64 2)], .agg [.lit (.int .i64 1), .lit (.int .i64 16)], .agg [.lit (.int .i64 1), .lit (.int .i64 1)], .agg [.lit (.int .i64 0), .lit (.int .i64 0)]]
def laid_math_bits_deBruijn32tab {H : Type} : DataW H := .agg [.lit (.int .u8 0), .lit (.int .u8 1), .lit (.int .u8 28), .lit (.int .u8 2), .lit (.int .u8 29), .lit (.int .u8 14), .lit (.int .u8 24), .lit (.int .u8 3), .lit (.int .u8 30), .lit (.int .u8 22), .lit (.int .u8 20), .lit (.int .u8 15), .lit (.int .u8 25), .lit (.int .u8 17), .lit (.int .u8 4), .lit (.int .u8 8), .lit (.int .u8 31), .lit (.int .u8 27), .lit (.int .u8 13), .lit (.int .u8 23), .lit (.int .u8 21), .lit (.int .u8 19), .lit (.int .u8 16), .lit (.int .u8 7), .lit (.int .u8 26), .lit (.int .u8 12), .lit (.int .u8 18), .lit (.int .u8 6), .lit (.int .u8 11), .lit (.int .u8 5), .lit (.int .u8 10), .lit (.int .u8 9)]
def laid_math_bits_deBruijn64tab {H : Type} : DataW H := .agg [.lit (.int .u8 0), .lit (.int .u8 1), .lit (.int .u8 56), .lit (.int .u8 2), .lit (.int .u8 57), .lit (.int .u8 49), .lit (.int .u8 28), .lit (.int .u8 3), .lit (.int .u8 61), .lit (.int .u8 58), .lit (.int .u8 42), .lit (.int .u8 50), .lit (.int .u8 38), .lit (.int .u8 29), .lit (.int .u8 17), .lit (.int .u8 4), .lit (.int .u8 62), .lit (.int .u8 47), .lit (.int .u8 59), .lit (.int .u8 36), .lit (.int .u8 45), .lit (.int .u8 43), .lit (.int .u8 51), .lit (.int .u8 22), .lit (.int .u8 53), .lit (.int .u8 39), .lit (.int .u8 33), .lit (.int .u8 30), .lit (.int .u8 24), .lit (.int .u8 18), .lit (.int .u8 12), .lit (.int .u8 5), .lit (.int .u8 63), .lit (.int .u8 55), .lit (.int .u8 48), .lit (.int .u8 27), .lit (.int .u8 60), .lit (.int .u8 41), .lit (.int .u8 37), .lit (.int .u8 16), .lit (.int .u8 46), .lit (.int .u8 35), .lit (.int .u8 44), .lit (.int .u8 21), .lit (.int .u8 52), .lit (.int .u8 32), .lit (.int .u8 23), .lit (.int .u8 11), .lit (.int .u8 54), .lit (.int .u8 26), .lit (.int .u8 40), .lit (.int .u8 15), .lit (.int .u8 34), .lit (.int .u8 20), .lit (.int .u8 31), .lit (.int .u8 10), .lit (.int .u8 25), .lit (.int .u8 14), .lit (.int .u8 19), .lit (.int .u8 9), .lit (.int .u8 13), .lit (.int .u8 8), .lit (.int .u8 7), .lit (.int .u8 6)]
def laid_internal_strconv_uint64pow10 {H : Type} : DataW H := .agg [.lit (.int .u64 1), .lit (.int .u64 10), .lit (.int .u64 100), .lit (.int .u64 1000), .lit (.int .u64 10000), .lit (.int .u64 100000), .lit (.int .u64 1000000), .lit (.int .u64 10000000), .lit (.int .u64 100000000), .lit (.int .u64 1000000000), .lit (.int .u64 10000000000), .lit (.int .u64 100000000000), .lit (.int .u64 1000000000000), .lit (.int .u64 10000000000000), .lit (.int .u64 100000000000000), .lit (.int .u64 1000000000000000), .lit (.int .u64 10000000000000000), .lit (.int .u64 100000000000000000), .lit (.int .u64 1000000000000000000), .lit (.int .u64 10000000000000000000)]

/-- 'probecardlaw18.TransitionsCapture': WHATEVER THE INPUT: true; the input reads as it did. -/
def transitionsCaptureSpec : ChangeSpec := { name := "transitionsCapture", fn := fun _ => fun
  | [d1, d2, d3] => { results := [.lit (.bool true)], args := [d1, d2, d3] }
  | _ => none }
def transitionsCaptureRow : OpenClaim := { program := "ytekbgkainigfnaagreatdoor", sum := "b8d3f74ea5ea3a5363b59d5b94cd3f639a7a71b2a5bd5d3b1ed1702707957fa7", func := "probecard/probecardlaw18.TransitionsCapture", spec := "transitionsCapture", inPlace := ["internal/bytealg.IndexByteString", "internal/bytealg.IndexString"], unfollowed := true, recurses := true, named := ["probecard/logic.fanins", "internal/bytealg.MaxLen"], apart := false, laid := [("probecard/logic.fanins", laid_probecard_logic_fanins)] }
def TransitionsCaptureSaid : Prop := transitionsCaptureRow.holds Tryz.pinned (OpenSpec.ofChange transitionsCaptureSpec)

/-- ITS FALSE NEIGHBOUR: 'it returns false'. Refute it at one input. -/
def transitionsCaptureWrong : ChangeSpec := { name := "transitionsCapture", fn := fun _ => fun
  | [d1, d2, d3] => { results := [.lit (.bool false)], args := [d1, d2, d3] }
  | _ => none }
def TransitionsCaptureWrongFalsely : Prop := transitionsCaptureRow.holds Tryz.pinned (OpenSpec.ofChange transitionsCaptureWrong)

/-- 'probecardlaw18.TransitionsShift': WHATEVER THE INPUT: true; the input reads as it did. -/
def transitionsShiftSpec : ChangeSpec := { name := "transitionsShift", fn := fun _ => fun
  | [d1, d2] => { results := [.lit (.bool true)], args := [d1, d2] }
  | _ => none }
def transitionsShiftRow : OpenClaim := { program := "ytekbgkainigfnaagreatdoor", sum := "b8d3f74ea5ea3a5363b59d5b94cd3f639a7a71b2a5bd5d3b1ed1702707957fa7", func := "probecard/probecardlaw18.TransitionsShift", spec := "transitionsShift", inPlace := ["internal/bytealg.IndexByteString", "internal/bytealg.IndexString"], unfollowed := true, recurses := true, named := ["probecard/logic.fanins", "internal/bytealg.MaxLen"], apart := false, laid := [("probecard/logic.fanins", laid_probecard_logic_fanins)] }
def TransitionsShiftSaid : Prop := transitionsShiftRow.holds Tryz.pinned (OpenSpec.ofChange transitionsShiftSpec)

/-- ITS FALSE NEIGHBOUR: 'it returns false'. Refute it at one input. -/
def transitionsShiftWrong : ChangeSpec := { name := "transitionsShift", fn := fun _ => fun
  | [d1, d2] => { results := [.lit (.bool false)], args := [d1, d2] }
  | _ => none }
def TransitionsShiftWrongFalsely : Prop := transitionsShiftRow.holds Tryz.pinned (OpenSpec.ofChange transitionsShiftWrong)

/-- 'probecardlaw18.TransitionsLaunches': WHATEVER THE INPUT: true; the input reads as it did. -/
def transitionsLaunchesSpec : ChangeSpec := { name := "transitionsLaunches", fn := fun _ => fun
  | [d1, d2] => { results := [.lit (.bool true)], args := [d1, d2] }
  | _ => none }
def transitionsLaunchesRow : OpenClaim := { program := "ytekbgkainigfnaagreatdoor", sum := "b8d3f74ea5ea3a5363b59d5b94cd3f639a7a71b2a5bd5d3b1ed1702707957fa7", func := "probecard/probecardlaw18.TransitionsLaunches", spec := "transitionsLaunches", inPlace := ["internal/bytealg.IndexByteString", "internal/bytealg.IndexString"], unfollowed := true, recurses := true, named := ["probecard/logic.fanins", "internal/bytealg.MaxLen"], apart := false, laid := [("probecard/logic.fanins", laid_probecard_logic_fanins)] }
def TransitionsLaunchesSaid : Prop := transitionsLaunchesRow.holds Tryz.pinned (OpenSpec.ofChange transitionsLaunchesSpec)

/-- ITS FALSE NEIGHBOUR: 'it returns false'. Refute it at one input. -/
def transitionsLaunchesWrong : ChangeSpec := { name := "transitionsLaunches", fn := fun _ => fun
  | [d1, d2] => { results := [.lit (.bool false)], args := [d1, d2] }
  | _ => none }
def TransitionsLaunchesWrongFalsely : Prop := transitionsLaunchesRow.holds Tryz.pinned (OpenSpec.ofChange transitionsLaunchesWrong)

/-- 'probecardlaw18.TransitionsDetects': WHATEVER THE INPUT: true; the input reads as it did. -/
def transitionsDetectsSpec : ChangeSpec := { name := "transitionsDetects", fn := fun _ => fun
  | [d1, d2, d3] => { results := [.lit (.bool true)], args := [d1, d2, d3] }
  | _ => none }
def transitionsDetectsRow : OpenClaim := { program := "ytekbgkainigfnaagreatdoor", sum := "b8d3f74ea5ea3a5363b59d5b94cd3f639a7a71b2a5bd5d3b1ed1702707957fa7", func := "probecard/probecardlaw18.TransitionsDetects", spec := "transitionsDetects", inPlace := ["internal/bytealg.IndexByteString", "internal/bytealg.IndexString"], unfollowed := true, recurses := true, named := ["probecard/logic.fanins", "internal/bytealg.MaxLen"], apart := false, laid := [("probecard/logic.fanins", laid_probecard_logic_fanins)] }
def TransitionsDetectsSaid : Prop := transitionsDetectsRow.holds Tryz.pinned (OpenSpec.ofChange transitionsDetectsSpec)

/-- ITS FALSE NEIGHBOUR: 'it returns false'. Refute it at one input. -/
def transitionsDetectsWrong : ChangeSpec := { name := "transitionsDetects", fn := fun _ => fun
  | [d1, d2, d3] => { results := [.lit (.bool false)], args := [d1, d2, d3] }
  | _ => none }
def TransitionsDetectsWrongFalsely : Prop := transitionsDetectsRow.holds Tryz.pinned (OpenSpec.ofChange transitionsDetectsWrong)

/-- 'probecardlaw18.TransitionsAll': WHATEVER THE INPUT: true; the input reads as it did. -/
def transitionsAllSpec : ChangeSpec := { name := "transitionsAll", fn := fun _ => fun
  | [d1, d2] => { results := [.lit (.bool true)], args := [d1, d2] }
  | _ => none }
def transitionsAllRow : OpenClaim := { program := "ytekbgkainigfnaagreatdoor", sum := "b8d3f74ea5ea3a5363b59d5b94cd3f639a7a71b2a5bd5d3b1ed1702707957fa7", func := "probecard/probecardlaw18.TransitionsAll", spec := "transitionsAll", inPlace := ["internal/bytealg.IndexByteString", "internal/bytealg.IndexString"], unfollowed := true, recurses := true, named := ["probecard/logic.fanins", "internal/bytealg.MaxLen"], apart := false, laid := [("probecard/logic.fanins", laid_probecard_logic_fanins)] }
def TransitionsAllSaid : Prop := transitionsAllRow.holds Tryz.pinned (OpenSpec.ofChange transitionsAllSpec)

/-- ITS FALSE NEIGHBOUR: 'it returns false'. Refute it at one input. -/
def transitionsAllWrong : ChangeSpec := { name := "transitionsAll", fn := fun _ => fun
  | [d1, d2] => { results := [.lit (.bool false)], args := [d1, d2] }
  | _ => none }
def TransitionsAllWrongFalsely : Prop := transitionsAllRow.holds Tryz.pinned (OpenSpec.ofChange transitionsAllWrong)

/-- 'probecardlaw13.InjectRun': WHATEVER THE INPUT: true; the input reads as it did. -/
def injectRunSpec : ChangeSpec := { name := "injectRun", fn := fun _ => fun
  | [d] => { results := [.lit (.bool true)], args := [d] }
  | _ => none }
def injectRunRow : OpenClaim := { program := "ytekbgkainigfnaagreatdoor", sum := "b8d3f74ea5ea3a5363b59d5b94cd3f639a7a71b2a5bd5d3b1ed1702707957fa7", func := "probecard/probecardlaw13.InjectRun", spec := "injectRun", inPlace := ["internal/bytealg.IndexByteString", "internal/bytealg.IndexString"], unfollowed := true, recurses := true, named := ["probecard/logic.fanins", "internal/strconv.uint64pow10", "math/bits.deBruijn32tab", "math/bits.deBruijn64tab", "internal/bytealg.MaxLen"], apart := false, laid := [("math/bits.deBruijn32tab", laid_math_bits_deBruijn32tab), ("math/bits.deBruijn64tab", laid_math_bits_deBruijn64tab), ("internal/strconv.uint64pow10", laid_internal_strconv_uint64pow10), ("probecard/logic.fanins", laid_probecard_logic_fanins)] }
def InjectRunSaid : Prop := injectRunRow.holds Tryz.pinned (OpenSpec.ofChange injectRunSpec)

/-- ITS FALSE NEIGHBOUR: 'it returns false'. Refute it at one input. -/
def injectRunWrong : ChangeSpec := { name := "injectRun", fn := fun _ => fun
  | [d] => { results := [.lit (.bool false)], args := [d] }
  | _ => none }
def InjectRunWrongFalsely : Prop := injectRunRow.holds Tryz.pinned (OpenSpec.ofChange injectRunWrong)

/-- 'probecardlaw13.InjectDetects': WHATEVER THE INPUT: true; the input reads as it did. -/
def injectDetectsSpec : ChangeSpec := { name := "injectDetects", fn := fun _ => fun
  | [d] => { results := [.lit (.bool true)], args := [d] }
  | _ => none }
def injectDetectsRow : OpenClaim := { program := "ytekbgkainigfnaagreatdoor", sum := "b8d3f74ea5ea3a5363b59d5b94cd3f639a7a71b2a5bd5d3b1ed1702707957fa7", func := "probecard/probecardlaw13.InjectDetects", spec := "injectDetects", inPlace := ["internal/bytealg.IndexByteString", "internal/bytealg.IndexString"], unfollowed := true, recurses := true, named := ["probecard/logic.fanins", "internal/strconv.uint64pow10", "math/bits.deBruijn32tab", "math/bits.deBruijn64tab", "internal/bytealg.MaxLen"], apart := false, laid := [("math/bits.deBruijn32tab", laid_math_bits_deBruijn32tab), ("math/bits.deBruijn64tab", laid_math_bits_deBruijn64tab), ("internal/strconv.uint64pow10", laid_internal_strconv_uint64pow10), ("probecard/logic.fanins", laid_probecard_logic_fanins)] }
def InjectDetectsSaid : Prop := injectDetectsRow.holds Tryz.pinned (OpenSpec.ofChange injectDetectsSpec)

/-- ITS FALSE NEIGHBOUR: 'it returns false'. Refute it at one input. -/
def injectDetectsWrong : ChangeSpec := { name := "injectDetects", fn := fun _ => fun
  | [d] => { results := [.lit (.bool false)], args := [d] }
  | _ => none }
def InjectDetectsWrongFalsely : Prop := injectDetectsRow.holds Tryz.pinned (OpenSpec.ofChange injectDetectsWrong)

/-- 'probecardlaw13.InjectMore': WHATEVER THE INPUT: true; the input reads as it did. -/
def injectMoreSpec : ChangeSpec := { name := "injectMore", fn := fun _ => fun
  | [d1, d2] => { results := [.lit (.bool true)], args := [d1, d2] }
  | _ => none }
def injectMoreRow : OpenClaim := { program := "ytekbgkainigfnaagreatdoor", sum := "b8d3f74ea5ea3a5363b59d5b94cd3f639a7a71b2a5bd5d3b1ed1702707957fa7", func := "probecard/probecardlaw13.InjectMore", spec := "injectMore", inPlace := ["internal/bytealg.IndexByteString", "internal/bytealg.IndexString"], unfollowed := true, recurses := true, named := ["probecard/logic.fanins", "internal/strconv.uint64pow10", "math/bits.deBruijn32tab", "math/bits.deBruijn64tab", "internal/bytealg.MaxLen"], apart := false, laid := [("math/bits.deBruijn32tab", laid_math_bits_deBruijn32tab), ("math/bits.deBruijn64tab", laid_math_bits_deBruijn64tab), ("internal/strconv.uint64pow10", laid_internal_strconv_uint64pow10), ("probecard/logic.fanins", laid_probecard_logic_fanins)] }
def InjectMoreSaid : Prop := injectMoreRow.holds Tryz.pinned (OpenSpec.ofChange injectMoreSpec)

/-- ITS FALSE NEIGHBOUR: 'it returns false'. Refute it at one input. -/
def injectMoreWrong : ChangeSpec := { name := "injectMore", fn := fun _ => fun
  | [d1, d2] => { results := [.lit (.bool false)], args := [d1, d2] }
  | _ => none }
def InjectMoreWrongFalsely : Prop := injectMoreRow.holds Tryz.pinned (OpenSpec.ofChange injectMoreWrong)

/-- 'probecardlaw13.InjectSlow': WHATEVER THE INPUT: true; the input reads as it did. -/
def injectSlowSpec : ChangeSpec := { name := "injectSlow", fn := fun _ => fun
  | [d1, d2] => { results := [.lit (.bool true)], args := [d1, d2] }
  | _ => none }
def injectSlowRow : OpenClaim := { program := "ytekbgkainigfnaagreatdoor", sum := "b8d3f74ea5ea3a5363b59d5b94cd3f639a7a71b2a5bd5d3b1ed1702707957fa7", func := "probecard/probecardlaw13.InjectSlow", spec := "injectSlow", inPlace := ["internal/bytealg.IndexByteString", "internal/bytealg.IndexString"], unfollowed := true, recurses := true, named := ["probecard/logic.fanins", "internal/strconv.uint64pow10", "math/bits.deBruijn32tab", "math/bits.deBruijn64tab", "internal/bytealg.MaxLen"], apart := false, laid := [("math/bits.deBruijn32tab", laid_math_bits_deBruijn32tab), ("math/bits.deBruijn64tab", laid_math_bits_deBruijn64tab), ("internal/strconv.uint64pow10", laid_internal_strconv_uint64pow10), ("probecard/logic.fanins", laid_probecard_logic_fanins)] }
def InjectSlowSaid : Prop := injectSlowRow.holds Tryz.pinned (OpenSpec.ofChange injectSlowSpec)

/-- ITS FALSE NEIGHBOUR: 'it returns false'. Refute it at one input. -/
def injectSlowWrong : ChangeSpec := { name := "injectSlow", fn := fun _ => fun
  | [d1, d2] => { results := [.lit (.bool false)], args := [d1, d2] }
  | _ => none }
def InjectSlowWrongFalsely : Prop := injectSlowRow.holds Tryz.pinned (OpenSpec.ofChange injectSlowWrong)

/-- 'probecardlaw13.InjectPair': WHATEVER THE INPUT: true; the input reads as it did. -/
def injectPairSpec : ChangeSpec := { name := "injectPair", fn := fun _ => fun
  | [d1, d2] => { results := [.lit (.bool true)], args := [d1, d2] }
  | _ => none }
def injectPairRow : OpenClaim := { program := "ytekbgkainigfnaagreatdoor", sum := "b8d3f74ea5ea3a5363b59d5b94cd3f639a7a71b2a5bd5d3b1ed1702707957fa7", func := "probecard/probecardlaw13.InjectPair", spec := "injectPair", inPlace := ["internal/bytealg.IndexByteString", "internal/bytealg.IndexString"], unfollowed := true, recurses := true, named := ["probecard/logic.fanins", "internal/strconv.uint64pow10", "math/bits.deBruijn32tab", "math/bits.deBruijn64tab", "internal/bytealg.MaxLen"], apart := false, laid := [("math/bits.deBruijn32tab", laid_math_bits_deBruijn32tab), ("math/bits.deBruijn64tab", laid_math_bits_deBruijn64tab), ("internal/strconv.uint64pow10", laid_internal_strconv_uint64pow10), ("probecard/logic.fanins", laid_probecard_logic_fanins)] }
def InjectPairSaid : Prop := injectPairRow.holds Tryz.pinned (OpenSpec.ofChange injectPairSpec)

/-- ITS FALSE NEIGHBOUR: 'it returns false'. Refute it at one input. -/
def injectPairWrong : ChangeSpec := { name := "injectPair", fn := fun _ => fun
  | [d1, d2] => { results := [.lit (.bool false)], args := [d1, d2] }
  | _ => none }
def InjectPairWrongFalsely : Prop := injectPairRow.holds Tryz.pinned (OpenSpec.ofChange injectPairWrong)

/- THE SECOND FORM. 'bulk': how many values and letters a reading holds, each counted each time it is reached (what is shared counts as often as it is met; a slice's spare places count too). A statement '..UptoSaid' is the law's where the arguments, and the package variables that the reading takes, are together of bulk at most 1048576: NARROWER than '..Said'. Prove '..Said' where nothing that the law and all that it calls make is longer than what came in: it says more and counts as full. Else prove '..UptoSaid'. A law counts once. -/
mutual
def uptoBulk {H : Type} : DataW H → Nat
  | .lit (.string bytes) => bytes.length + 1
  | .lit _ => 1
  | .nil => 1
  | .ptr d => uptoBulk d + 1
  | .slice elems spare => uptoBulkAll elems + uptoBulkAll spare + 1
  | .agg parts => uptoBulkAll parts + 1
  | .iface _ d => uptoBulk d + 1
  | .map entries => uptoBulkEntries entries + 1
  | .held _ => 1
def uptoBulkAll {H : Type} : List (DataW H) → Nat
  | [] => 0
  | d :: r => uptoBulk d + uptoBulkAll r
def uptoBulkEntries {H : Type} : List (Lit × DataW H) → Nat
  | [] => 0
  | x :: r => uptoBulkEntry x + uptoBulkEntries r
def uptoBulkEntry {H : Type} : Lit × DataW H → Nat
  | (.string bytes, d) => bytes.length + uptoBulk d + 1
  | (_, d) => uptoBulk d + 1
 end
def uptoSmall : (H : Type) → List (DataW H) → Bool := fun _ ds => decide (uptoBulkAll ds ≤ 1048576)
def OpenSpec.upto (s : _root_.Go.ChangeSpec) : _root_.Go.OpenSpec := { _root_.Go.OpenSpec.ofChange s with cond := some uptoSmall }

/-- 'probecardlaw18.TransitionsCapture', WHERE WHAT IT READS IS OF BULK AT MOST 1048576: true; the input reads as it did. -/
def transitionsCaptureUptoRow : OpenClaim := { program := "ytekbgkainigfnaagreatdoor", sum := "b8d3f74ea5ea3a5363b59d5b94cd3f639a7a71b2a5bd5d3b1ed1702707957fa7", func := "probecard/probecardlaw18.TransitionsCapture", spec := "transitionsCapture", inPlace := ["internal/bytealg.IndexByteString", "internal/bytealg.IndexString"], unfollowed := true, recurses := true, named := ["probecard/logic.fanins", "internal/bytealg.MaxLen"], apart := false, laid := [("probecard/logic.fanins", laid_probecard_logic_fanins)], narrowed := true }
def TransitionsCaptureUptoSaid : Prop := transitionsCaptureUptoRow.holds Tryz.pinned (OpenSpec.upto transitionsCaptureSpec)

/-- 'probecardlaw18.TransitionsShift', WHERE WHAT IT READS IS OF BULK AT MOST 1048576: true; the input reads as it did. -/
def transitionsShiftUptoRow : OpenClaim := { program := "ytekbgkainigfnaagreatdoor", sum := "b8d3f74ea5ea3a5363b59d5b94cd3f639a7a71b2a5bd5d3b1ed1702707957fa7", func := "probecard/probecardlaw18.TransitionsShift", spec := "transitionsShift", inPlace := ["internal/bytealg.IndexByteString", "internal/bytealg.IndexString"], unfollowed := true, recurses := true, named := ["probecard/logic.fanins", "internal/bytealg.MaxLen"], apart := false, laid := [("probecard/logic.fanins", laid_probecard_logic_fanins)], narrowed := true }
def TransitionsShiftUptoSaid : Prop := transitionsShiftUptoRow.holds Tryz.pinned (OpenSpec.upto transitionsShiftSpec)

/-- 'probecardlaw18.TransitionsLaunches', WHERE WHAT IT READS IS OF BULK AT MOST 1048576: true; the input reads as it did. -/
def transitionsLaunchesUptoRow : OpenClaim := { program := "ytekbgkainigfnaagreatdoor", sum := "b8d3f74ea5ea3a5363b59d5b94cd3f639a7a71b2a5bd5d3b1ed1702707957fa7", func := "probecard/probecardlaw18.TransitionsLaunches", spec := "transitionsLaunches", inPlace := ["internal/bytealg.IndexByteString", "internal/bytealg.IndexString"], unfollowed := true, recurses := true, named := ["probecard/logic.fanins", "internal/bytealg.MaxLen"], apart := false, laid := [("probecard/logic.fanins", laid_probecard_logic_fanins)], narrowed := true }
def TransitionsLaunchesUptoSaid : Prop := transitionsLaunchesUptoRow.holds Tryz.pinned (OpenSpec.upto transitionsLaunchesSpec)

/-- 'probecardlaw18.TransitionsDetects', WHERE WHAT IT READS IS OF BULK AT MOST 1048576: true; the input reads as it did. -/
def transitionsDetectsUptoRow : OpenClaim := { program := "ytekbgkainigfnaagreatdoor", sum := "b8d3f74ea5ea3a5363b59d5b94cd3f639a7a71b2a5bd5d3b1ed1702707957fa7", func := "probecard/probecardlaw18.TransitionsDetects", spec := "transitionsDetects", inPlace := ["internal/bytealg.IndexByteString", "internal/bytealg.IndexString"], unfollowed := true, recurses := true, named := ["probecard/logic.fanins", "internal/bytealg.MaxLen"], apart := false, laid := [("probecard/logic.fanins", laid_probecard_logic_fanins)], narrowed := true }
def TransitionsDetectsUptoSaid : Prop := transitionsDetectsUptoRow.holds Tryz.pinned (OpenSpec.upto transitionsDetectsSpec)

/-- 'probecardlaw18.TransitionsAll', WHERE WHAT IT READS IS OF BULK AT MOST 1048576: true; the input reads as it did. -/
def transitionsAllUptoRow : OpenClaim := { program := "ytekbgkainigfnaagreatdoor", sum := "b8d3f74ea5ea3a5363b59d5b94cd3f639a7a71b2a5bd5d3b1ed1702707957fa7", func := "probecard/probecardlaw18.TransitionsAll", spec := "transitionsAll", inPlace := ["internal/bytealg.IndexByteString", "internal/bytealg.IndexString"], unfollowed := true, recurses := true, named := ["probecard/logic.fanins", "internal/bytealg.MaxLen"], apart := false, laid := [("probecard/logic.fanins", laid_probecard_logic_fanins)], narrowed := true }
def TransitionsAllUptoSaid : Prop := transitionsAllUptoRow.holds Tryz.pinned (OpenSpec.upto transitionsAllSpec)

/-- 'probecardlaw13.InjectRun', WHERE WHAT IT READS IS OF BULK AT MOST 1048576: true; the input reads as it did. -/
def injectRunUptoRow : OpenClaim := { program := "ytekbgkainigfnaagreatdoor", sum := "b8d3f74ea5ea3a5363b59d5b94cd3f639a7a71b2a5bd5d3b1ed1702707957fa7", func := "probecard/probecardlaw13.InjectRun", spec := "injectRun", inPlace := ["internal/bytealg.IndexByteString", "internal/bytealg.IndexString"], unfollowed := true, recurses := true, named := ["probecard/logic.fanins", "internal/strconv.uint64pow10", "math/bits.deBruijn32tab", "math/bits.deBruijn64tab", "internal/bytealg.MaxLen"], apart := false, laid := [("math/bits.deBruijn32tab", laid_math_bits_deBruijn32tab), ("math/bits.deBruijn64tab", laid_math_bits_deBruijn64tab), ("internal/strconv.uint64pow10", laid_internal_strconv_uint64pow10), ("probecard/logic.fanins", laid_probecard_logic_fanins)], narrowed := true }
def InjectRunUptoSaid : Prop := injectRunUptoRow.holds Tryz.pinned (OpenSpec.upto injectRunSpec)

/-- 'probecardlaw13.InjectDetects', WHERE WHAT IT READS IS OF BULK AT MOST 1048576: true; the input reads as it did. -/
def injectDetectsUptoRow : OpenClaim := { program := "ytekbgkainigfnaagreatdoor", sum := "b8d3f74ea5ea3a5363b59d5b94cd3f639a7a71b2a5bd5d3b1ed1702707957fa7", func := "probecard/probecardlaw13.InjectDetects", spec := "injectDetects", inPlace := ["internal/bytealg.IndexByteString", "internal/bytealg.IndexString"], unfollowed := true, recurses := true, named := ["probecard/logic.fanins", "internal/strconv.uint64pow10", "math/bits.deBruijn32tab", "math/bits.deBruijn64tab", "internal/bytealg.MaxLen"], apart := false, laid := [("math/bits.deBruijn32tab", laid_math_bits_deBruijn32tab), ("math/bits.deBruijn64tab", laid_math_bits_deBruijn64tab), ("internal/strconv.uint64pow10", laid_internal_strconv_uint64pow10), ("probecard/logic.fanins", laid_probecard_logic_fanins)], narrowed := true }
def InjectDetectsUptoSaid : Prop := injectDetectsUptoRow.holds Tryz.pinned (OpenSpec.upto injectDetectsSpec)

/-- 'probecardlaw13.InjectMore', WHERE WHAT IT READS IS OF BULK AT MOST 1048576: true; the input reads as it did. -/
def injectMoreUptoRow : OpenClaim := { program := "ytekbgkainigfnaagreatdoor", sum := "b8d3f74ea5ea3a5363b59d5b94cd3f639a7a71b2a5bd5d3b1ed1702707957fa7", func := "probecard/probecardlaw13.InjectMore", spec := "injectMore", inPlace := ["internal/bytealg.IndexByteString", "internal/bytealg.IndexString"], unfollowed := true, recurses := true, named := ["probecard/logic.fanins", "internal/strconv.uint64pow10", "math/bits.deBruijn32tab", "math/bits.deBruijn64tab", "internal/bytealg.MaxLen"], apart := false, laid := [("math/bits.deBruijn32tab", laid_math_bits_deBruijn32tab), ("math/bits.deBruijn64tab", laid_math_bits_deBruijn64tab), ("internal/strconv.uint64pow10", laid_internal_strconv_uint64pow10), ("probecard/logic.fanins", laid_probecard_logic_fanins)], narrowed := true }
def InjectMoreUptoSaid : Prop := injectMoreUptoRow.holds Tryz.pinned (OpenSpec.upto injectMoreSpec)

/-- 'probecardlaw13.InjectSlow', WHERE WHAT IT READS IS OF BULK AT MOST 1048576: true; the input reads as it did. -/
def injectSlowUptoRow : OpenClaim := { program := "ytekbgkainigfnaagreatdoor", sum := "b8d3f74ea5ea3a5363b59d5b94cd3f639a7a71b2a5bd5d3b1ed1702707957fa7", func := "probecard/probecardlaw13.InjectSlow", spec := "injectSlow", inPlace := ["internal/bytealg.IndexByteString", "internal/bytealg.IndexString"], unfollowed := true, recurses := true, named := ["probecard/logic.fanins", "internal/strconv.uint64pow10", "math/bits.deBruijn32tab", "math/bits.deBruijn64tab", "internal/bytealg.MaxLen"], apart := false, laid := [("math/bits.deBruijn32tab", laid_math_bits_deBruijn32tab), ("math/bits.deBruijn64tab", laid_math_bits_deBruijn64tab), ("internal/strconv.uint64pow10", laid_internal_strconv_uint64pow10), ("probecard/logic.fanins", laid_probecard_logic_fanins)], narrowed := true }
def InjectSlowUptoSaid : Prop := injectSlowUptoRow.holds Tryz.pinned (OpenSpec.upto injectSlowSpec)

/-- 'probecardlaw13.InjectPair', WHERE WHAT IT READS IS OF BULK AT MOST 1048576: true; the input reads as it did. -/
def injectPairUptoRow : OpenClaim := { program := "ytekbgkainigfnaagreatdoor", sum := "b8d3f74ea5ea3a5363b59d5b94cd3f639a7a71b2a5bd5d3b1ed1702707957fa7", func := "probecard/probecardlaw13.InjectPair", spec := "injectPair", inPlace := ["internal/bytealg.IndexByteString", "internal/bytealg.IndexString"], unfollowed := true, recurses := true, named := ["probecard/logic.fanins", "internal/strconv.uint64pow10", "math/bits.deBruijn32tab", "math/bits.deBruijn64tab", "internal/bytealg.MaxLen"], apart := false, laid := [("math/bits.deBruijn32tab", laid_math_bits_deBruijn32tab), ("math/bits.deBruijn64tab", laid_math_bits_deBruijn64tab), ("internal/strconv.uint64pow10", laid_internal_strconv_uint64pow10), ("probecard/logic.fanins", laid_probecard_logic_fanins)], narrowed := true }
def InjectPairUptoSaid : Prop := injectPairUptoRow.holds Tryz.pinned (OpenSpec.upto injectPairSpec)

end Rows
end Go.Proofs.YtekbgkainigfnaaGreatDoor
