/-
  NARROWER THAN 'FOR EVERY INPUT', by the rows' own cells (each row's printed sentence says how): TreesTrims: laid · TreesTexts: laid · TreesKnown: laid · TreesBlocked: laid · TreesErrors: laid · PodemsFinds: laid · PodemsStops: laid · PodemsErrors: laid · PodemsAll: laid · PodemsKnown: laid.
  DERIVED. THE GIVEN ROWS OF THIS SEAT. 10 by the template 'for every input the law returns true; each argument reads behind the call as it read before'; 0 by the template 'total and deterministic' (their statements: YtpaopccohkldlaaGreatDoorTotals.lean).
  GIVEN WITH THE SEED: the statements are not yours to turn. If you find one false, say at which input.
  Laid BY PROGRAM, IN A SANDBOX (cutbox-rows.mjs): the forced cells as the released guide's own fill.sh prints them over the translation 4c3c0e56c369ccb8… (all of the seat's roots in one cut). By AI agents, Wed Nov 11 2026. No macro, syntax, notation, axiom, sorry.
-/
import Derived.Test.YtpaopccohkldlaaGreatDoorChecked
import GoSem.Claim
import GoSem.ClaimJoined
import GoSem.ClaimMapViews
import Derived.JoinedTies
import Derived.KernelRfl
namespace Go.Proofs.YtpaopccohkldlaaGreatDoor
/- THE CELL 'sum', in the pinned program and in every row, IS THE sha256 OF THE DUMP (.gsa) THAT YtpaopccohkldlaaGreatDoorProg.lean LOADS. Nothing in Lean hashes anything: it is a label: what it is worth is what the hold of that sum in a sandbox is worth. -/
noncomputable def Tryz.pinned : Pinned := { name := "ytpaopccohkldlaagreatdoor", sum := "4c3c0e56c369ccb8cfab442b336b44e814da1c3c66ac9524c5dcb669af327aa4", checked := Tryz.checked }
namespace Rows
def none {H : Type} : Left H := { results := [], args := [] }

/- WHAT THE LISTED PACKAGE-LEVEL VARIABLES READ AS WHEN THE CALL BEGINS. Each datum BY PROGRAM (the guide's laid-datum.mjs) off the statement by which the dump's own 'gosem.cut.vars' lays the variable. In a bare row this is a premise. The card (YtpaopccohkldlaaGreatDoorCards.lean) ties it to the program's text. -/
def laid_math_bits_deBruijn32tab {H : Type} : DataW H := .agg [.lit (.int .u8 0), .lit (.int .u8 1), .lit (.int .u8 28), .lit (.int .u8 2), .lit (.int .u8 29), .lit (.int .u8 14), .lit (.int .u8 24), .lit (.int .u8 3), .lit (.int .u8 30), .lit (.int .u8 22), .lit (.int .u8 20), .lit (.int .u8 15), .lit (.int .u8 25), .lit (.int .u8 17), .lit (.int .u8 4), .lit (.int .u8 8), .lit (.int .u8 31), .lit (.int .u8 27), .lit (.int .u8 13), .lit (.int .u8 23), .lit (.int .u8 21), .lit (.int .u8 19), .lit (.int .u8 16), .lit (.int .u8 7), .lit (.int .u8 26), .lit (.int .u8 12), .lit (.int .u8 18), .lit (.int .u8 6), .lit (.int .u8 11), .lit (.int .u8 5), .lit (.int .u8 10), .lit (.int .u8 9)]
def laid_math_bits_deBruijn64tab {H : Type} : DataW H := .agg [.lit (.int .u8 0), .lit (.int .u8 1), .lit (.int .u8 56), .lit (.int .u8 2), .lit (.int .u8 57), .lit (.int .u8 49), .lit (.int .u8 28), .lit (.int .u8 3), .lit (.int .u8 61), .lit (.int .u8 58), .lit (.int .u8 42), .lit (.int .u8 50), .lit (.int .u8 38), .lit (.int .u8 29), .lit (.int .u8 17), .lit (.int .u8 4), .lit (.int .u8 62), .lit (.int .u8 47), .lit (.int .u8 59), .lit (.int .u8 36), .lit (.int .u8 45), .lit (.int .u8 43), .lit (.int .u8 51), .lit (.int .u8 22), .lit (.int .u8 53), .lit (.int .u8 39), .lit (.int .u8 33), .lit (.int .u8 30), .lit (.int .u8 24), .lit (.int .u8 18), .lit (.int .u8 12), .lit (.int .u8 5), .lit (.int .u8 63), .lit (.int .u8 55), .lit (.int .u8 48), .lit (.int .u8 27), .lit (.int .u8 60), .lit (.int .u8 41), .lit (.int .u8 37), .lit (.int .u8 16), .lit (.int .u8 46), .lit (.int .u8 35), .lit (.int .u8 44), .lit (.int .u8 21), .lit (.int .u8 52), .lit (.int .u8 32), .lit (.int .u8 23), .lit (.int .u8 11), .lit (.int .u8 54), .lit (.int .u8 26), .lit (.int .u8 40), .lit (.int .u8 15), .lit (.int .u8 34), .lit (.int .u8 20), .lit (.int .u8 31), .lit (.int .u8 10), .lit (.int .u8 25), .lit (.int .u8 14), .lit (.int .u8 19), .lit (.int .u8 9), .lit (.int .u8 13), .lit (.int .u8 8), .lit (.int .u8 7), .lit (.int .u8 6)]
def laid_internal_strconv_uint64pow10 {H : Type} : DataW H := .agg [.lit (.int .u64 1), .lit (.int .u64 10), .lit (.int .u64 100), .lit (.int .u64 1000), .lit (.int .u64 10000), .lit (.int .u64 100000), .lit (.int .u64 1000000), .lit (.int .u64 10000000), .lit (.int .u64 100000000), .lit (.int .u64 1000000000), .lit (.int .u64 10000000000), .lit (.int .u64 100000000000), .lit (.int .u64 1000000000000), .lit (.int .u64 10000000000000), .lit (.int .u64 100000000000000), .lit (.int .u64 1000000000000000), .lit (.int .u64 10000000000000000), .lit (.int .u64 100000000000000000), .lit (.int .u64 1000000000000000000), .lit (.int .u64 10000000000000000000)]
def laid_strconv_ErrRange {H : Type} : DataW H := .iface "*errors.errorString" (.ptr (.agg [.lit (.string [118, 97, 108, 117, 101, 32, 111, 117, 116, 32, 111, 102, 32, 114, 97, 110, 103, 101])]))
def laid_strconv_ErrSyntax {H : Type} : DataW H := .iface "*errors.errorString" (.ptr (.agg [.lit (.string [105, 110, 118, 97, 108, 105, 100, 32, 115, 121, 110, 116, 97, 120])]))
def laid_probecard_logic_fanins {H : Type} : DataW H := .agg [.agg [.lit (.int .i64 0), .lit (.int .i64 0)], .agg [.lit (.int .i64 0), .lit (.int .i64 0)], .agg [.lit (.int .i64 0), .lit (.int .i64 0)], .agg [.lit (.int .i64 1), .lit (.int .i64 1)], .agg [.lit (.int .i64 1), .lit (.int .i64 1)], .agg [.lit (.int .i64 2), .lit (.int .i64 16)], .agg [.lit (.int .i64 2), .lit (.int .i64 16)], .agg [.lit (.int .i64 2), .lit (.int .i64 16)], .agg [.lit (.int .i64 2), .lit (.int .i64 16)], .agg [.lit (.int .i64 2), .lit (.int .i64 16)], .agg [.lit (.int .i64 2), .lit (.int .i64 16)], .agg [.lit (.int .i64 3), .lit (.int .i64 3)], .agg [.lit (.int .i64 2), .lit (.int .i64 2)], .agg [.lit (.int .i64 1), .lit (.int .i64 16)], .agg [.lit (.int .i64 1), .lit (.int .i64 1)], .agg [.lit (.int .i64 0), .lit (.int .i64 0)]]
def laid_probecard_trees_leaf {H : Type} : DataW H := .agg [.lit (.int .i64 (-1)), .lit (.int .i64 0), .lit (.int .i64 0)]
def laid_probecard_scoaps_unit {H : Type} : DataW H := .agg [.lit (.int .i64 1), .lit (.int .i64 1)]
def laid_probecard_scoaps_never {H : Type} : DataW H := .agg [.lit (.int .i64 1073741824), .lit (.int .i64 1073741824)]

/-- 'probecardlaw26.TreesTrims': WHATEVER THE INPUT: true; the input reads as it did. -/
def treesTrimsSpec : ChangeSpec := { name := "treesTrims", fn := fun _ => fun
  | [d1, d2, d3] => { results := [.lit (.bool true)], args := [d1, d2, d3] }
  | _ => none }
def treesTrimsRow : OpenClaim := { program := "ytpaopccohkldlaagreatdoor", sum := "4c3c0e56c369ccb8cfab442b336b44e814da1c3c66ac9524c5dcb669af327aa4", func := "probecard/probecardlaw26.TreesTrims", spec := "treesTrims", inPlace := ["internal/bytealg.IndexByteString", "internal/bytealg.IndexString", "internal/abi.NoEscape"], unfollowed := true, recurses := true, named := ["probecard/logic.fanins", "probecard/trees.leaf", "strconv.ErrSyntax", "strconv.ErrRange", "internal/strconv.uint64pow10", "math/bits.deBruijn32tab", "math/bits.deBruijn64tab", "internal/bytealg.MaxLen"], apart := false, laid := [("math/bits.deBruijn32tab", laid_math_bits_deBruijn32tab), ("math/bits.deBruijn64tab", laid_math_bits_deBruijn64tab), ("internal/strconv.uint64pow10", laid_internal_strconv_uint64pow10), ("strconv.ErrRange", laid_strconv_ErrRange), ("strconv.ErrSyntax", laid_strconv_ErrSyntax), ("probecard/logic.fanins", laid_probecard_logic_fanins), ("probecard/trees.leaf", laid_probecard_trees_leaf)] }
def TreesTrimsSaid : Prop := treesTrimsRow.holds Tryz.pinned (OpenSpec.ofChange treesTrimsSpec)

/-- ITS FALSE NEIGHBOUR: 'it returns false'. Refute it at one input. -/
def treesTrimsWrong : ChangeSpec := { name := "treesTrims", fn := fun _ => fun
  | [d1, d2, d3] => { results := [.lit (.bool false)], args := [d1, d2, d3] }
  | _ => none }
def TreesTrimsWrongFalsely : Prop := treesTrimsRow.holds Tryz.pinned (OpenSpec.ofChange treesTrimsWrong)

/-- 'probecardlaw26.TreesTexts': WHATEVER THE INPUT: true; the input reads as it did. -/
def treesTextsSpec : ChangeSpec := { name := "treesTexts", fn := fun _ => fun
  | [d1, d2, d3] => { results := [.lit (.bool true)], args := [d1, d2, d3] }
  | _ => none }
def treesTextsRow : OpenClaim := { program := "ytpaopccohkldlaagreatdoor", sum := "4c3c0e56c369ccb8cfab442b336b44e814da1c3c66ac9524c5dcb669af327aa4", func := "probecard/probecardlaw26.TreesTexts", spec := "treesTexts", inPlace := ["internal/bytealg.IndexByteString", "internal/bytealg.IndexString", "internal/abi.NoEscape"], unfollowed := true, recurses := true, named := ["probecard/logic.fanins", "probecard/trees.leaf", "strconv.ErrSyntax", "strconv.ErrRange", "internal/strconv.uint64pow10", "math/bits.deBruijn32tab", "math/bits.deBruijn64tab", "internal/bytealg.MaxLen"], apart := false, laid := [("math/bits.deBruijn32tab", laid_math_bits_deBruijn32tab), ("math/bits.deBruijn64tab", laid_math_bits_deBruijn64tab), ("internal/strconv.uint64pow10", laid_internal_strconv_uint64pow10), ("strconv.ErrRange", laid_strconv_ErrRange), ("strconv.ErrSyntax", laid_strconv_ErrSyntax), ("probecard/logic.fanins", laid_probecard_logic_fanins), ("probecard/trees.leaf", laid_probecard_trees_leaf)] }
def TreesTextsSaid : Prop := treesTextsRow.holds Tryz.pinned (OpenSpec.ofChange treesTextsSpec)

/-- ITS FALSE NEIGHBOUR: 'it returns false'. Refute it at one input. -/
def treesTextsWrong : ChangeSpec := { name := "treesTexts", fn := fun _ => fun
  | [d1, d2, d3] => { results := [.lit (.bool false)], args := [d1, d2, d3] }
  | _ => none }
def TreesTextsWrongFalsely : Prop := treesTextsRow.holds Tryz.pinned (OpenSpec.ofChange treesTextsWrong)

/-- 'probecardlaw26.TreesKnown': WHATEVER THE INPUT: true; the input reads as it did. -/
def treesKnownSpec : ChangeSpec := { name := "treesKnown", fn := fun _ => fun
  | [] => { results := [.lit (.bool true)], args := [] }
  | _ => none }
def treesKnownRow : OpenClaim := { program := "ytpaopccohkldlaagreatdoor", sum := "4c3c0e56c369ccb8cfab442b336b44e814da1c3c66ac9524c5dcb669af327aa4", func := "probecard/probecardlaw26.TreesKnown", spec := "treesKnown", inPlace := ["internal/abi.NoEscape", "internal/bytealg.IndexByteString", "internal/bytealg.IndexString"], unfollowed := true, recurses := true, named := ["probecard/trees.leaf", "internal/strconv.uint64pow10", "math/bits.deBruijn32tab", "math/bits.deBruijn64tab", "probecard/logic.fanins", "strconv.ErrSyntax", "strconv.ErrRange", "internal/bytealg.MaxLen"], apart := false, laid := [("math/bits.deBruijn32tab", laid_math_bits_deBruijn32tab), ("math/bits.deBruijn64tab", laid_math_bits_deBruijn64tab), ("internal/strconv.uint64pow10", laid_internal_strconv_uint64pow10), ("strconv.ErrRange", laid_strconv_ErrRange), ("strconv.ErrSyntax", laid_strconv_ErrSyntax), ("probecard/logic.fanins", laid_probecard_logic_fanins), ("probecard/trees.leaf", laid_probecard_trees_leaf)] }
def TreesKnownSaid : Prop := treesKnownRow.holds Tryz.pinned (OpenSpec.ofChange treesKnownSpec)

/-- ITS FALSE NEIGHBOUR: 'it returns false'. Refute it at one input. -/
def treesKnownWrong : ChangeSpec := { name := "treesKnown", fn := fun _ => fun
  | [] => { results := [.lit (.bool false)], args := [] }
  | _ => none }
def TreesKnownWrongFalsely : Prop := treesKnownRow.holds Tryz.pinned (OpenSpec.ofChange treesKnownWrong)

/-- 'probecardlaw26.TreesBlocked': WHATEVER THE INPUT: true; the input reads as it did. -/
def treesBlockedSpec : ChangeSpec := { name := "treesBlocked", fn := fun _ => fun
  | [d1, d2, d3] => { results := [.lit (.bool true)], args := [d1, d2, d3] }
  | _ => none }
def treesBlockedRow : OpenClaim := { program := "ytpaopccohkldlaagreatdoor", sum := "4c3c0e56c369ccb8cfab442b336b44e814da1c3c66ac9524c5dcb669af327aa4", func := "probecard/probecardlaw26.TreesBlocked", spec := "treesBlocked", inPlace := ["internal/bytealg.IndexByteString", "internal/bytealg.IndexString", "internal/abi.NoEscape"], unfollowed := true, recurses := true, named := ["probecard/logic.fanins", "probecard/trees.leaf", "strconv.ErrSyntax", "strconv.ErrRange", "internal/strconv.uint64pow10", "math/bits.deBruijn32tab", "math/bits.deBruijn64tab", "internal/bytealg.MaxLen"], apart := false, laid := [("math/bits.deBruijn32tab", laid_math_bits_deBruijn32tab), ("math/bits.deBruijn64tab", laid_math_bits_deBruijn64tab), ("internal/strconv.uint64pow10", laid_internal_strconv_uint64pow10), ("strconv.ErrRange", laid_strconv_ErrRange), ("strconv.ErrSyntax", laid_strconv_ErrSyntax), ("probecard/logic.fanins", laid_probecard_logic_fanins), ("probecard/trees.leaf", laid_probecard_trees_leaf)] }
def TreesBlockedSaid : Prop := treesBlockedRow.holds Tryz.pinned (OpenSpec.ofChange treesBlockedSpec)

/-- ITS FALSE NEIGHBOUR: 'it returns false'. Refute it at one input. -/
def treesBlockedWrong : ChangeSpec := { name := "treesBlocked", fn := fun _ => fun
  | [d1, d2, d3] => { results := [.lit (.bool false)], args := [d1, d2, d3] }
  | _ => none }
def TreesBlockedWrongFalsely : Prop := treesBlockedRow.holds Tryz.pinned (OpenSpec.ofChange treesBlockedWrong)

/-- 'probecardlaw26.TreesErrors': WHATEVER THE INPUT: true; the input reads as it did. -/
def treesErrorsSpec : ChangeSpec := { name := "treesErrors", fn := fun _ => fun
  | [d1, d2, d3] => { results := [.lit (.bool true)], args := [d1, d2, d3] }
  | _ => none }
def treesErrorsRow : OpenClaim := { program := "ytpaopccohkldlaagreatdoor", sum := "4c3c0e56c369ccb8cfab442b336b44e814da1c3c66ac9524c5dcb669af327aa4", func := "probecard/probecardlaw26.TreesErrors", spec := "treesErrors", inPlace := ["internal/bytealg.IndexByteString", "internal/bytealg.IndexString", "internal/abi.NoEscape"], unfollowed := true, recurses := true, named := ["probecard/logic.fanins", "probecard/trees.leaf", "strconv.ErrSyntax", "strconv.ErrRange", "internal/strconv.uint64pow10", "math/bits.deBruijn32tab", "math/bits.deBruijn64tab", "internal/bytealg.MaxLen"], apart := false, laid := [("math/bits.deBruijn32tab", laid_math_bits_deBruijn32tab), ("math/bits.deBruijn64tab", laid_math_bits_deBruijn64tab), ("internal/strconv.uint64pow10", laid_internal_strconv_uint64pow10), ("strconv.ErrRange", laid_strconv_ErrRange), ("strconv.ErrSyntax", laid_strconv_ErrSyntax), ("probecard/logic.fanins", laid_probecard_logic_fanins), ("probecard/trees.leaf", laid_probecard_trees_leaf)] }
def TreesErrorsSaid : Prop := treesErrorsRow.holds Tryz.pinned (OpenSpec.ofChange treesErrorsSpec)

/-- ITS FALSE NEIGHBOUR: 'it returns false'. Refute it at one input. -/
def treesErrorsWrong : ChangeSpec := { name := "treesErrors", fn := fun _ => fun
  | [d1, d2, d3] => { results := [.lit (.bool false)], args := [d1, d2, d3] }
  | _ => none }
def TreesErrorsWrongFalsely : Prop := treesErrorsRow.holds Tryz.pinned (OpenSpec.ofChange treesErrorsWrong)

/-- 'probecardlaw27.PodemsFinds': WHATEVER THE INPUT: true; the input reads as it did. -/
def podemsFindsSpec : ChangeSpec := { name := "podemsFinds", fn := fun _ => fun
  | [d1, d2] => { results := [.lit (.bool true)], args := [d1, d2] }
  | _ => none }
def podemsFindsRow : OpenClaim := { program := "ytpaopccohkldlaagreatdoor", sum := "4c3c0e56c369ccb8cfab442b336b44e814da1c3c66ac9524c5dcb669af327aa4", func := "probecard/probecardlaw27.PodemsFinds", spec := "podemsFinds", inPlace := ["internal/bytealg.IndexByteString", "internal/bytealg.IndexString"], unfollowed := true, recurses := true, named := ["probecard/logic.fanins", "probecard/scoaps.never", "probecard/scoaps.unit", "probecard/trees.leaf", "internal/bytealg.MaxLen"], apart := false, laid := [("probecard/logic.fanins", laid_probecard_logic_fanins), ("probecard/scoaps.unit", laid_probecard_scoaps_unit), ("probecard/scoaps.never", laid_probecard_scoaps_never), ("probecard/trees.leaf", laid_probecard_trees_leaf)] }
def PodemsFindsSaid : Prop := podemsFindsRow.holds Tryz.pinned (OpenSpec.ofChange podemsFindsSpec)

/-- ITS FALSE NEIGHBOUR: 'it returns false'. Refute it at one input. -/
def podemsFindsWrong : ChangeSpec := { name := "podemsFinds", fn := fun _ => fun
  | [d1, d2] => { results := [.lit (.bool false)], args := [d1, d2] }
  | _ => none }
def PodemsFindsWrongFalsely : Prop := podemsFindsRow.holds Tryz.pinned (OpenSpec.ofChange podemsFindsWrong)

/-- 'probecardlaw27.PodemsStops': WHATEVER THE INPUT: true; the input reads as it did. -/
def podemsStopsSpec : ChangeSpec := { name := "podemsStops", fn := fun _ => fun
  | [d1, d2, d3] => { results := [.lit (.bool true)], args := [d1, d2, d3] }
  | _ => none }
def podemsStopsRow : OpenClaim := { program := "ytpaopccohkldlaagreatdoor", sum := "4c3c0e56c369ccb8cfab442b336b44e814da1c3c66ac9524c5dcb669af327aa4", func := "probecard/probecardlaw27.PodemsStops", spec := "podemsStops", inPlace := ["internal/bytealg.IndexByteString", "internal/bytealg.IndexString"], unfollowed := true, recurses := true, named := ["probecard/logic.fanins", "probecard/scoaps.never", "probecard/scoaps.unit", "probecard/trees.leaf", "internal/bytealg.MaxLen"], apart := false, laid := [("probecard/logic.fanins", laid_probecard_logic_fanins), ("probecard/scoaps.unit", laid_probecard_scoaps_unit), ("probecard/scoaps.never", laid_probecard_scoaps_never), ("probecard/trees.leaf", laid_probecard_trees_leaf)] }
def PodemsStopsSaid : Prop := podemsStopsRow.holds Tryz.pinned (OpenSpec.ofChange podemsStopsSpec)

/-- ITS FALSE NEIGHBOUR: 'it returns false'. Refute it at one input. -/
def podemsStopsWrong : ChangeSpec := { name := "podemsStops", fn := fun _ => fun
  | [d1, d2, d3] => { results := [.lit (.bool false)], args := [d1, d2, d3] }
  | _ => none }
def PodemsStopsWrongFalsely : Prop := podemsStopsRow.holds Tryz.pinned (OpenSpec.ofChange podemsStopsWrong)

/-- 'probecardlaw27.PodemsErrors': WHATEVER THE INPUT: true; the input reads as it did. -/
def podemsErrorsSpec : ChangeSpec := { name := "podemsErrors", fn := fun _ => fun
  | [d1, d2, d3] => { results := [.lit (.bool true)], args := [d1, d2, d3] }
  | _ => none }
def podemsErrorsRow : OpenClaim := { program := "ytpaopccohkldlaagreatdoor", sum := "4c3c0e56c369ccb8cfab442b336b44e814da1c3c66ac9524c5dcb669af327aa4", func := "probecard/probecardlaw27.PodemsErrors", spec := "podemsErrors", inPlace := ["internal/bytealg.IndexByteString", "internal/bytealg.IndexString"], unfollowed := true, recurses := true, named := ["probecard/logic.fanins", "probecard/scoaps.never", "probecard/scoaps.unit", "probecard/trees.leaf", "internal/bytealg.MaxLen"], apart := false, laid := [("probecard/logic.fanins", laid_probecard_logic_fanins), ("probecard/scoaps.unit", laid_probecard_scoaps_unit), ("probecard/scoaps.never", laid_probecard_scoaps_never), ("probecard/trees.leaf", laid_probecard_trees_leaf)] }
def PodemsErrorsSaid : Prop := podemsErrorsRow.holds Tryz.pinned (OpenSpec.ofChange podemsErrorsSpec)

/-- ITS FALSE NEIGHBOUR: 'it returns false'. Refute it at one input. -/
def podemsErrorsWrong : ChangeSpec := { name := "podemsErrors", fn := fun _ => fun
  | [d1, d2, d3] => { results := [.lit (.bool false)], args := [d1, d2, d3] }
  | _ => none }
def PodemsErrorsWrongFalsely : Prop := podemsErrorsRow.holds Tryz.pinned (OpenSpec.ofChange podemsErrorsWrong)

/-- 'probecardlaw27.PodemsAll': WHATEVER THE INPUT: true; the input reads as it did. -/
def podemsAllSpec : ChangeSpec := { name := "podemsAll", fn := fun _ => fun
  | [d1, d2, d3] => { results := [.lit (.bool true)], args := [d1, d2, d3] }
  | _ => none }
def podemsAllRow : OpenClaim := { program := "ytpaopccohkldlaagreatdoor", sum := "4c3c0e56c369ccb8cfab442b336b44e814da1c3c66ac9524c5dcb669af327aa4", func := "probecard/probecardlaw27.PodemsAll", spec := "podemsAll", inPlace := ["internal/bytealg.IndexByteString", "internal/bytealg.IndexString"], unfollowed := true, recurses := true, named := ["probecard/logic.fanins", "probecard/scoaps.never", "probecard/scoaps.unit", "probecard/trees.leaf", "internal/bytealg.MaxLen"], apart := false, laid := [("probecard/logic.fanins", laid_probecard_logic_fanins), ("probecard/scoaps.unit", laid_probecard_scoaps_unit), ("probecard/scoaps.never", laid_probecard_scoaps_never), ("probecard/trees.leaf", laid_probecard_trees_leaf)] }
def PodemsAllSaid : Prop := podemsAllRow.holds Tryz.pinned (OpenSpec.ofChange podemsAllSpec)

/-- ITS FALSE NEIGHBOUR: 'it returns false'. Refute it at one input. -/
def podemsAllWrong : ChangeSpec := { name := "podemsAll", fn := fun _ => fun
  | [d1, d2, d3] => { results := [.lit (.bool false)], args := [d1, d2, d3] }
  | _ => none }
def PodemsAllWrongFalsely : Prop := podemsAllRow.holds Tryz.pinned (OpenSpec.ofChange podemsAllWrong)

/-- 'probecardlaw27.PodemsKnown': WHATEVER THE INPUT: true; the input reads as it did. -/
def podemsKnownSpec : ChangeSpec := { name := "podemsKnown", fn := fun _ => fun
  | [] => { results := [.lit (.bool true)], args := [] }
  | _ => none }
def podemsKnownRow : OpenClaim := { program := "ytpaopccohkldlaagreatdoor", sum := "4c3c0e56c369ccb8cfab442b336b44e814da1c3c66ac9524c5dcb669af327aa4", func := "probecard/probecardlaw27.PodemsKnown", spec := "podemsKnown", inPlace := ["internal/bytealg.IndexByteString", "internal/bytealg.IndexString"], unfollowed := true, recurses := true, named := ["probecard/logic.fanins", "probecard/scoaps.never", "probecard/scoaps.unit", "probecard/trees.leaf", "internal/bytealg.MaxLen"], apart := false, laid := [("probecard/logic.fanins", laid_probecard_logic_fanins), ("probecard/scoaps.unit", laid_probecard_scoaps_unit), ("probecard/scoaps.never", laid_probecard_scoaps_never), ("probecard/trees.leaf", laid_probecard_trees_leaf)] }
def PodemsKnownSaid : Prop := podemsKnownRow.holds Tryz.pinned (OpenSpec.ofChange podemsKnownSpec)

/-- ITS FALSE NEIGHBOUR: 'it returns false'. Refute it at one input. -/
def podemsKnownWrong : ChangeSpec := { name := "podemsKnown", fn := fun _ => fun
  | [] => { results := [.lit (.bool false)], args := [] }
  | _ => none }
def PodemsKnownWrongFalsely : Prop := podemsKnownRow.holds Tryz.pinned (OpenSpec.ofChange podemsKnownWrong)

/- THE SECOND FORM. 'bulk': how many values and letters a reading holds, each counted each time it is reached (what is shared counts as often as it is met; a slice's spare places count too). A statement '..UptoSaid' is the law's where the arguments, and the package variables that the reading takes, are together of bulk at most 1048576: NARROWER than '..Said'. Prove '..Said' where nothing that the law and all that it calls make is longer than what came in: it says more and counts as full. Else prove '..UptoSaid'. A law counts once. -/
mutual
def uptoBulk {H : Type} : DataW H → Nat
  | .lit (.string bytes) => bytes.length + 1
  | .lit _ => 1
  | .nil => 1
  | .ptr d => uptoBulk d + 1
  | .slice elems spare => uptoBulkAll elems + uptoBulkAll spare + 1
  | .agg parts => uptoBulkAll parts + 1
  | .iface _ d => uptoBulk d + 1
  | .map entries => uptoBulkEntries entries + 1
  | .held _ => 1
def uptoBulkAll {H : Type} : List (DataW H) → Nat
  | [] => 0
  | d :: r => uptoBulk d + uptoBulkAll r
def uptoBulkEntries {H : Type} : List (Lit × DataW H) → Nat
  | [] => 0
  | x :: r => uptoBulkEntry x + uptoBulkEntries r
def uptoBulkEntry {H : Type} : Lit × DataW H → Nat
  | (.string bytes, d) => bytes.length + uptoBulk d + 1
  | (_, d) => uptoBulk d + 1
 end
def uptoSmall : (H : Type) → List (DataW H) → Bool := fun _ ds => decide (uptoBulkAll ds ≤ 1048576)
def OpenSpec.upto (s : _root_.Go.ChangeSpec) : _root_.Go.OpenSpec := { _root_.Go.OpenSpec.ofChange s with cond := some uptoSmall }

/-- 'probecardlaw26.TreesTrims', WHERE WHAT IT READS IS OF BULK AT MOST 1048576: true; the input reads as it did. -/
def treesTrimsUptoRow : OpenClaim := { program := "ytpaopccohkldlaagreatdoor", sum := "4c3c0e56c369ccb8cfab442b336b44e814da1c3c66ac9524c5dcb669af327aa4", func := "probecard/probecardlaw26.TreesTrims", spec := "treesTrims", inPlace := ["internal/bytealg.IndexByteString", "internal/bytealg.IndexString", "internal/abi.NoEscape"], unfollowed := true, recurses := true, named := ["probecard/logic.fanins", "probecard/trees.leaf", "strconv.ErrSyntax", "strconv.ErrRange", "internal/strconv.uint64pow10", "math/bits.deBruijn32tab", "math/bits.deBruijn64tab", "internal/bytealg.MaxLen"], apart := false, laid := [("math/bits.deBruijn32tab", laid_math_bits_deBruijn32tab), ("math/bits.deBruijn64tab", laid_math_bits_deBruijn64tab), ("internal/strconv.uint64pow10", laid_internal_strconv_uint64pow10), ("strconv.ErrRange", laid_strconv_ErrRange), ("strconv.ErrSyntax", laid_strconv_ErrSyntax), ("probecard/logic.fanins", laid_probecard_logic_fanins), ("probecard/trees.leaf", laid_probecard_trees_leaf)], narrowed := true }
def TreesTrimsUptoSaid : Prop := treesTrimsUptoRow.holds Tryz.pinned (OpenSpec.upto treesTrimsSpec)

/-- 'probecardlaw26.TreesTexts', WHERE WHAT IT READS IS OF BULK AT MOST 1048576: true; the input reads as it did. -/
def treesTextsUptoRow : OpenClaim := { program := "ytpaopccohkldlaagreatdoor", sum := "4c3c0e56c369ccb8cfab442b336b44e814da1c3c66ac9524c5dcb669af327aa4", func := "probecard/probecardlaw26.TreesTexts", spec := "treesTexts", inPlace := ["internal/bytealg.IndexByteString", "internal/bytealg.IndexString", "internal/abi.NoEscape"], unfollowed := true, recurses := true, named := ["probecard/logic.fanins", "probecard/trees.leaf", "strconv.ErrSyntax", "strconv.ErrRange", "internal/strconv.uint64pow10", "math/bits.deBruijn32tab", "math/bits.deBruijn64tab", "internal/bytealg.MaxLen"], apart := false, laid := [("math/bits.deBruijn32tab", laid_math_bits_deBruijn32tab), ("math/bits.deBruijn64tab", laid_math_bits_deBruijn64tab), ("internal/strconv.uint64pow10", laid_internal_strconv_uint64pow10), ("strconv.ErrRange", laid_strconv_ErrRange), ("strconv.ErrSyntax", laid_strconv_ErrSyntax), ("probecard/logic.fanins", laid_probecard_logic_fanins), ("probecard/trees.leaf", laid_probecard_trees_leaf)], narrowed := true }
def TreesTextsUptoSaid : Prop := treesTextsUptoRow.holds Tryz.pinned (OpenSpec.upto treesTextsSpec)

/-- 'probecardlaw26.TreesKnown', WHERE WHAT IT READS IS OF BULK AT MOST 1048576: true; the input reads as it did. -/
def treesKnownUptoRow : OpenClaim := { program := "ytpaopccohkldlaagreatdoor", sum := "4c3c0e56c369ccb8cfab442b336b44e814da1c3c66ac9524c5dcb669af327aa4", func := "probecard/probecardlaw26.TreesKnown", spec := "treesKnown", inPlace := ["internal/abi.NoEscape", "internal/bytealg.IndexByteString", "internal/bytealg.IndexString"], unfollowed := true, recurses := true, named := ["probecard/trees.leaf", "internal/strconv.uint64pow10", "math/bits.deBruijn32tab", "math/bits.deBruijn64tab", "probecard/logic.fanins", "strconv.ErrSyntax", "strconv.ErrRange", "internal/bytealg.MaxLen"], apart := false, laid := [("math/bits.deBruijn32tab", laid_math_bits_deBruijn32tab), ("math/bits.deBruijn64tab", laid_math_bits_deBruijn64tab), ("internal/strconv.uint64pow10", laid_internal_strconv_uint64pow10), ("strconv.ErrRange", laid_strconv_ErrRange), ("strconv.ErrSyntax", laid_strconv_ErrSyntax), ("probecard/logic.fanins", laid_probecard_logic_fanins), ("probecard/trees.leaf", laid_probecard_trees_leaf)], narrowed := true }
def TreesKnownUptoSaid : Prop := treesKnownUptoRow.holds Tryz.pinned (OpenSpec.upto treesKnownSpec)

/-- 'probecardlaw26.TreesBlocked', WHERE WHAT IT READS IS OF BULK AT MOST 1048576: true; the input reads as it did. -/
def treesBlockedUptoRow : OpenClaim := { program := "ytpaopccohkldlaagreatdoor", sum := "4c3c0e56c369ccb8cfab442b336b44e814da1c3c66ac9524c5dcb669af327aa4", func := "probecard/probecardlaw26.TreesBlocked", spec := "treesBlocked", inPlace := ["internal/bytealg.IndexByteString", "internal/bytealg.IndexString", "internal/abi.NoEscape"], unfollowed := true, recurses := true, named := ["probecard/logic.fanins", "probecard/trees.leaf", "strconv.ErrSyntax", "strconv.ErrRange", "internal/strconv.uint64pow10", "math/bits.deBruijn32tab", "math/bits.deBruijn64tab", "internal/bytealg.MaxLen"], apart := false, laid := [("math/bits.deBruijn32tab", laid_math_bits_deBruijn32tab), ("math/bits.deBruijn64tab", laid_math_bits_deBruijn64tab), ("internal/strconv.uint64pow10", laid_internal_strconv_uint64pow10), ("strconv.ErrRange", laid_strconv_ErrRange), ("strconv.ErrSyntax", laid_strconv_ErrSyntax), ("probecard/logic.fanins", laid_probecard_logic_fanins), ("probecard/trees.leaf", laid_probecard_trees_leaf)], narrowed := true }
def TreesBlockedUptoSaid : Prop := treesBlockedUptoRow.holds Tryz.pinned (OpenSpec.upto treesBlockedSpec)

/-- 'probecardlaw26.TreesErrors', WHERE WHAT IT READS IS OF BULK AT MOST 1048576: true; the input reads as it did. -/
def treesErrorsUptoRow : OpenClaim := { program := "ytpaopccohkldlaagreatdoor", sum := "4c3c0e56c369ccb8cfab442b336b44e814da1c3c66ac9524c5dcb669af327aa4", func := "probecard/probecardlaw26.TreesErrors", spec := "treesErrors", inPlace := ["internal/bytealg.IndexByteString", "internal/bytealg.IndexString", "internal/abi.NoEscape"], unfollowed := true, recurses := true, named := ["probecard/logic.fanins", "probecard/trees.leaf", "strconv.ErrSyntax", "strconv.ErrRange", "internal/strconv.uint64pow10", "math/bits.deBruijn32tab", "math/bits.deBruijn64tab", "internal/bytealg.MaxLen"], apart := false, laid := [("math/bits.deBruijn32tab", laid_math_bits_deBruijn32tab), ("math/bits.deBruijn64tab", laid_math_bits_deBruijn64tab), ("internal/strconv.uint64pow10", laid_internal_strconv_uint64pow10), ("strconv.ErrRange", laid_strconv_ErrRange), ("strconv.ErrSyntax", laid_strconv_ErrSyntax), ("probecard/logic.fanins", laid_probecard_logic_fanins), ("probecard/trees.leaf", laid_probecard_trees_leaf)], narrowed := true }
def TreesErrorsUptoSaid : Prop := treesErrorsUptoRow.holds Tryz.pinned (OpenSpec.upto treesErrorsSpec)

/-- 'probecardlaw27.PodemsFinds', WHERE WHAT IT READS IS OF BULK AT MOST 1048576: true; the input reads as it did. -/
def podemsFindsUptoRow : OpenClaim := { program := "ytpaopccohkldlaagreatdoor", sum := "4c3c0e56c369ccb8cfab442b336b44e814da1c3c66ac9524c5dcb669af327aa4", func := "probecard/probecardlaw27.PodemsFinds", spec := "podemsFinds", inPlace := ["internal/bytealg.IndexByteString", "internal/bytealg.IndexString"], unfollowed := true, recurses := true, named := ["probecard/logic.fanins", "probecard/scoaps.never", "probecard/scoaps.unit", "probecard/trees.leaf", "internal/bytealg.MaxLen"], apart := false, laid := [("probecard/logic.fanins", laid_probecard_logic_fanins), ("probecard/scoaps.unit", laid_probecard_scoaps_unit), ("probecard/scoaps.never", laid_probecard_scoaps_never), ("probecard/trees.leaf", laid_probecard_trees_leaf)], narrowed := true }
def PodemsFindsUptoSaid : Prop := podemsFindsUptoRow.holds Tryz.pinned (OpenSpec.upto podemsFindsSpec)

/-- 'probecardlaw27.PodemsStops', WHERE WHAT IT READS IS OF BULK AT MOST 1048576: true; the input reads as it did. -/
def podemsStopsUptoRow : OpenClaim := { program := "ytpaopccohkldlaagreatdoor", sum := "4c3c0e56c369ccb8cfab442b336b44e814da1c3c66ac9524c5dcb669af327aa4", func := "probecard/probecardlaw27.PodemsStops", spec := "podemsStops", inPlace := ["internal/bytealg.IndexByteString", "internal/bytealg.IndexString"], unfollowed := true, recurses := true, named := ["probecard/logic.fanins", "probecard/scoaps.never", "probecard/scoaps.unit", "probecard/trees.leaf", "internal/bytealg.MaxLen"], apart := false, laid := [("probecard/logic.fanins", laid_probecard_logic_fanins), ("probecard/scoaps.unit", laid_probecard_scoaps_unit), ("probecard/scoaps.never", laid_probecard_scoaps_never), ("probecard/trees.leaf", laid_probecard_trees_leaf)], narrowed := true }
def PodemsStopsUptoSaid : Prop := podemsStopsUptoRow.holds Tryz.pinned (OpenSpec.upto podemsStopsSpec)

/-- 'probecardlaw27.PodemsErrors', WHERE WHAT IT READS IS OF BULK AT MOST 1048576: true; the input reads as it did. -/
def podemsErrorsUptoRow : OpenClaim := { program := "ytpaopccohkldlaagreatdoor", sum := "4c3c0e56c369ccb8cfab442b336b44e814da1c3c66ac9524c5dcb669af327aa4", func := "probecard/probecardlaw27.PodemsErrors", spec := "podemsErrors", inPlace := ["internal/bytealg.IndexByteString", "internal/bytealg.IndexString"], unfollowed := true, recurses := true, named := ["probecard/logic.fanins", "probecard/scoaps.never", "probecard/scoaps.unit", "probecard/trees.leaf", "internal/bytealg.MaxLen"], apart := false, laid := [("probecard/logic.fanins", laid_probecard_logic_fanins), ("probecard/scoaps.unit", laid_probecard_scoaps_unit), ("probecard/scoaps.never", laid_probecard_scoaps_never), ("probecard/trees.leaf", laid_probecard_trees_leaf)], narrowed := true }
def PodemsErrorsUptoSaid : Prop := podemsErrorsUptoRow.holds Tryz.pinned (OpenSpec.upto podemsErrorsSpec)

/-- 'probecardlaw27.PodemsAll', WHERE WHAT IT READS IS OF BULK AT MOST 1048576: true; the input reads as it did. -/
def podemsAllUptoRow : OpenClaim := { program := "ytpaopccohkldlaagreatdoor", sum := "4c3c0e56c369ccb8cfab442b336b44e814da1c3c66ac9524c5dcb669af327aa4", func := "probecard/probecardlaw27.PodemsAll", spec := "podemsAll", inPlace := ["internal/bytealg.IndexByteString", "internal/bytealg.IndexString"], unfollowed := true, recurses := true, named := ["probecard/logic.fanins", "probecard/scoaps.never", "probecard/scoaps.unit", "probecard/trees.leaf", "internal/bytealg.MaxLen"], apart := false, laid := [("probecard/logic.fanins", laid_probecard_logic_fanins), ("probecard/scoaps.unit", laid_probecard_scoaps_unit), ("probecard/scoaps.never", laid_probecard_scoaps_never), ("probecard/trees.leaf", laid_probecard_trees_leaf)], narrowed := true }
def PodemsAllUptoSaid : Prop := podemsAllUptoRow.holds Tryz.pinned (OpenSpec.upto podemsAllSpec)

/-- 'probecardlaw27.PodemsKnown', WHERE WHAT IT READS IS OF BULK AT MOST 1048576: true; the input reads as it did. -/
def podemsKnownUptoRow : OpenClaim := { program := "ytpaopccohkldlaagreatdoor", sum := "4c3c0e56c369ccb8cfab442b336b44e814da1c3c66ac9524c5dcb669af327aa4", func := "probecard/probecardlaw27.PodemsKnown", spec := "podemsKnown", inPlace := ["internal/bytealg.IndexByteString", "internal/bytealg.IndexString"], unfollowed := true, recurses := true, named := ["probecard/logic.fanins", "probecard/scoaps.never", "probecard/scoaps.unit", "probecard/trees.leaf", "internal/bytealg.MaxLen"], apart := false, laid := [("probecard/logic.fanins", laid_probecard_logic_fanins), ("probecard/scoaps.unit", laid_probecard_scoaps_unit), ("probecard/scoaps.never", laid_probecard_scoaps_never), ("probecard/trees.leaf", laid_probecard_trees_leaf)], narrowed := true }
def PodemsKnownUptoSaid : Prop := podemsKnownUptoRow.holds Tryz.pinned (OpenSpec.upto podemsKnownSpec)

end Rows
end Go.Proofs.YtpaopccohkldlaaGreatDoor
