/-
  NARROWER THAN 'FOR EVERY INPUT', by the rows' own cells (each row's printed sentence says how): NetlistsRenumbered: laid · ConesErrors: laid · ConesSets: laid · ConesDominators: laid · ConesRegions: laid · ConesMeets: laid · ConesAgain: laid · ConesBlock: laid.
  DERIVED. THE GIVEN ROWS OF THIS SEAT. 8 by the template 'for every input the law returns true; each argument reads behind the call as it read before'; 0 by the template 'total and deterministic' (their statements: YtcmapbecfpcnfaaDoorTotals.lean).
  GIVEN WITH THE SEED: the statements are not yours to turn. If you find one false, say at which input.
  Laid BY PROGRAM, IN A SANDBOX (cutbox-rows.mjs): the forced cells as the released guide's own fill.sh prints them over the translation b37e08f8983bb4f3… (all of the seat's roots in one cut). By AI agents, Wed Nov 11 2026. No macro, syntax, notation, axiom, sorry.
-/
import Derived.Test.YtcmapbecfpcnfaaDoorChecked
import GoSem.Claim
import GoSem.ClaimJoined
import GoSem.ClaimMapViews
import Derived.JoinedTies
import Derived.KernelRfl
namespace Go.Proofs.YtcmapbecfpcnfaaDoor
/- THE CELL 'sum', in the pinned program and in every row, IS THE sha256 OF THE DUMP (.gsa) THAT YtcmapbecfpcnfaaDoorProg.lean LOADS. Nothing in Lean hashes anything: it is a label: what it is worth is what the hold of that sum in a sandbox is worth. -/
noncomputable def Tryd.pinned : Pinned := { name := "ytcmapbecfpcnfaadoor", sum := "b37e08f8983bb4f3f6d9e5b1dba807bbad22557a33ff97304e0591f4e6721325", checked := Tryd.checked }
namespace Rows
def none {H : Type} : Left H := { results := [], args := [] }

/- WHAT THE LISTED PACKAGE-LEVEL VARIABLES READ AS WHEN THE CALL BEGINS. Each datum BY PROGRAM (the guide's laid-datum.mjs) off the statement by which the dump's own 'gosem.cut.vars' lays the variable. In a bare row this is a premise. The card (YtcmapbecfpcnfaaDoorCards.lean) ties it to the program's text. -/
def laid_probecard_logic_fanins {H : Type} : DataW H := .agg [.agg [.lit (.int .i64 0), .lit (.int .i64 0)], .agg [.lit (.int .i64 0), .lit (.int .i64 0)], .agg [.lit (.int .i64 0), .lit (.int .i64 0)], .agg [.lit (.int .i64 1), .lit (.int .i64 1)], .agg [.lit (.int .i64 1), .lit (.int .i64 1)], .agg [.lit (.int .i64 2), .lit (.int .i64 16)], .agg [.lit (.int .i64 2), .lit (.int .i64 16)], .agg [.lit (.int .i64 2), .lit (.int .i64 16)], .agg [.lit (.int .i64 2), .lit (.int .i64 16)], .agg [.lit (.int .i64 2), .lit (.int .i64 16)], .agg [.lit (.int .i64 2), .lit (.int .i64 16)], .agg [.lit (.int .i64 3), .lit (.int .i64 3)], .agg [.lit (.int .i64 2), .lit (.int .i64 2)], .agg [.lit (.int .i64 1), .lit (.int .i64 16)], .agg [.lit (.int .i64 1), .lit (.int .i64 1)], .agg [.lit (.int .i64 0), .lit (.int .i64 0)]]

/-- 'probecardlaw03.NetlistsRenumbered': WHATEVER THE INPUT: true; the input reads as it did. -/
def netlistsRenumberedSpec : ChangeSpec := { name := "netlistsRenumbered", fn := fun _ => fun
  | [d1, d2] => { results := [.lit (.bool true)], args := [d1, d2] }
  | _ => none }
def netlistsRenumberedRow : OpenClaim := { program := "ytcmapbecfpcnfaadoor", sum := "b37e08f8983bb4f3f6d9e5b1dba807bbad22557a33ff97304e0591f4e6721325", func := "probecard/probecardlaw03.NetlistsRenumbered", spec := "netlistsRenumbered", inPlace := ["internal/bytealg.IndexByteString", "internal/bytealg.IndexString"], unfollowed := true, recurses := true, named := ["probecard/logic.fanins", "internal/bytealg.MaxLen"], apart := false, laid := [("probecard/logic.fanins", laid_probecard_logic_fanins)] }
def NetlistsRenumberedSaid : Prop := netlistsRenumberedRow.holds Tryd.pinned (OpenSpec.ofChange netlistsRenumberedSpec)

/-- ITS FALSE NEIGHBOUR: 'it returns false'. Refute it at one input. -/
def netlistsRenumberedWrong : ChangeSpec := { name := "netlistsRenumbered", fn := fun _ => fun
  | [d1, d2] => { results := [.lit (.bool false)], args := [d1, d2] }
  | _ => none }
def NetlistsRenumberedWrongFalsely : Prop := netlistsRenumberedRow.holds Tryd.pinned (OpenSpec.ofChange netlistsRenumberedWrong)

/-- 'probecardlaw05.ConesErrors': WHATEVER THE INPUT: true; the input reads as it did. -/
def conesErrorsSpec : ChangeSpec := { name := "conesErrors", fn := fun _ => fun
  | [d1, d2] => { results := [.lit (.bool true)], args := [d1, d2] }
  | _ => none }
def conesErrorsRow : OpenClaim := { program := "ytcmapbecfpcnfaadoor", sum := "b37e08f8983bb4f3f6d9e5b1dba807bbad22557a33ff97304e0591f4e6721325", func := "probecard/probecardlaw05.ConesErrors", spec := "conesErrors", inPlace := ["internal/bytealg.IndexByteString", "internal/bytealg.IndexString"], unfollowed := true, recurses := true, named := ["probecard/logic.fanins", "internal/bytealg.MaxLen"], apart := false, laid := [("probecard/logic.fanins", laid_probecard_logic_fanins)] }
def ConesErrorsSaid : Prop := conesErrorsRow.holds Tryd.pinned (OpenSpec.ofChange conesErrorsSpec)

/-- ITS FALSE NEIGHBOUR: 'it returns false'. Refute it at one input. -/
def conesErrorsWrong : ChangeSpec := { name := "conesErrors", fn := fun _ => fun
  | [d1, d2] => { results := [.lit (.bool false)], args := [d1, d2] }
  | _ => none }
def ConesErrorsWrongFalsely : Prop := conesErrorsRow.holds Tryd.pinned (OpenSpec.ofChange conesErrorsWrong)

/-- 'probecardlaw05.ConesSets': WHATEVER THE INPUT: true; the input reads as it did. -/
def conesSetsSpec : ChangeSpec := { name := "conesSets", fn := fun _ => fun
  | [d1, d2] => { results := [.lit (.bool true)], args := [d1, d2] }
  | _ => none }
def conesSetsRow : OpenClaim := { program := "ytcmapbecfpcnfaadoor", sum := "b37e08f8983bb4f3f6d9e5b1dba807bbad22557a33ff97304e0591f4e6721325", func := "probecard/probecardlaw05.ConesSets", spec := "conesSets", inPlace := ["internal/bytealg.IndexByteString", "internal/bytealg.IndexString"], unfollowed := true, recurses := true, named := ["probecard/logic.fanins", "internal/bytealg.MaxLen"], apart := false, laid := [("probecard/logic.fanins", laid_probecard_logic_fanins)] }
def ConesSetsSaid : Prop := conesSetsRow.holds Tryd.pinned (OpenSpec.ofChange conesSetsSpec)

/-- ITS FALSE NEIGHBOUR: 'it returns false'. Refute it at one input. -/
def conesSetsWrong : ChangeSpec := { name := "conesSets", fn := fun _ => fun
  | [d1, d2] => { results := [.lit (.bool false)], args := [d1, d2] }
  | _ => none }
def ConesSetsWrongFalsely : Prop := conesSetsRow.holds Tryd.pinned (OpenSpec.ofChange conesSetsWrong)

/-- 'probecardlaw05.ConesDominators': WHATEVER THE INPUT: true; the input reads as it did. -/
def conesDominatorsSpec : ChangeSpec := { name := "conesDominators", fn := fun _ => fun
  | [d1, d2] => { results := [.lit (.bool true)], args := [d1, d2] }
  | _ => none }
def conesDominatorsRow : OpenClaim := { program := "ytcmapbecfpcnfaadoor", sum := "b37e08f8983bb4f3f6d9e5b1dba807bbad22557a33ff97304e0591f4e6721325", func := "probecard/probecardlaw05.ConesDominators", spec := "conesDominators", inPlace := ["internal/bytealg.IndexByteString", "internal/bytealg.IndexString"], unfollowed := true, recurses := true, named := ["probecard/logic.fanins", "internal/bytealg.MaxLen"], apart := false, laid := [("probecard/logic.fanins", laid_probecard_logic_fanins)] }
def ConesDominatorsSaid : Prop := conesDominatorsRow.holds Tryd.pinned (OpenSpec.ofChange conesDominatorsSpec)

/-- ITS FALSE NEIGHBOUR: 'it returns false'. Refute it at one input. -/
def conesDominatorsWrong : ChangeSpec := { name := "conesDominators", fn := fun _ => fun
  | [d1, d2] => { results := [.lit (.bool false)], args := [d1, d2] }
  | _ => none }
def ConesDominatorsWrongFalsely : Prop := conesDominatorsRow.holds Tryd.pinned (OpenSpec.ofChange conesDominatorsWrong)

/-- 'probecardlaw05.ConesRegions': WHATEVER THE INPUT: true; the input reads as it did. -/
def conesRegionsSpec : ChangeSpec := { name := "conesRegions", fn := fun _ => fun
  | [d] => { results := [.lit (.bool true)], args := [d] }
  | _ => none }
def conesRegionsRow : OpenClaim := { program := "ytcmapbecfpcnfaadoor", sum := "b37e08f8983bb4f3f6d9e5b1dba807bbad22557a33ff97304e0591f4e6721325", func := "probecard/probecardlaw05.ConesRegions", spec := "conesRegions", inPlace := ["internal/bytealg.IndexByteString", "internal/bytealg.IndexString"], unfollowed := true, recurses := true, named := ["probecard/logic.fanins", "internal/bytealg.MaxLen"], apart := false, laid := [("probecard/logic.fanins", laid_probecard_logic_fanins)] }
def ConesRegionsSaid : Prop := conesRegionsRow.holds Tryd.pinned (OpenSpec.ofChange conesRegionsSpec)

/-- ITS FALSE NEIGHBOUR: 'it returns false'. Refute it at one input. -/
def conesRegionsWrong : ChangeSpec := { name := "conesRegions", fn := fun _ => fun
  | [d] => { results := [.lit (.bool false)], args := [d] }
  | _ => none }
def ConesRegionsWrongFalsely : Prop := conesRegionsRow.holds Tryd.pinned (OpenSpec.ofChange conesRegionsWrong)

/-- 'probecardlaw05.ConesMeets': WHATEVER THE INPUT: true; the input reads as it did. -/
def conesMeetsSpec : ChangeSpec := { name := "conesMeets", fn := fun _ => fun
  | [d1, d2] => { results := [.lit (.bool true)], args := [d1, d2] }
  | _ => none }
def conesMeetsRow : OpenClaim := { program := "ytcmapbecfpcnfaadoor", sum := "b37e08f8983bb4f3f6d9e5b1dba807bbad22557a33ff97304e0591f4e6721325", func := "probecard/probecardlaw05.ConesMeets", spec := "conesMeets", inPlace := ["internal/bytealg.IndexByteString", "internal/bytealg.IndexString"], unfollowed := true, recurses := true, named := ["probecard/logic.fanins", "internal/bytealg.MaxLen"], apart := false, laid := [("probecard/logic.fanins", laid_probecard_logic_fanins)] }
def ConesMeetsSaid : Prop := conesMeetsRow.holds Tryd.pinned (OpenSpec.ofChange conesMeetsSpec)

/-- ITS FALSE NEIGHBOUR: 'it returns false'. Refute it at one input. -/
def conesMeetsWrong : ChangeSpec := { name := "conesMeets", fn := fun _ => fun
  | [d1, d2] => { results := [.lit (.bool false)], args := [d1, d2] }
  | _ => none }
def ConesMeetsWrongFalsely : Prop := conesMeetsRow.holds Tryd.pinned (OpenSpec.ofChange conesMeetsWrong)

/-- 'probecardlaw05.ConesAgain': WHATEVER THE INPUT: true; the input reads as it did. -/
def conesAgainSpec : ChangeSpec := { name := "conesAgain", fn := fun _ => fun
  | [d1, d2] => { results := [.lit (.bool true)], args := [d1, d2] }
  | _ => none }
def conesAgainRow : OpenClaim := { program := "ytcmapbecfpcnfaadoor", sum := "b37e08f8983bb4f3f6d9e5b1dba807bbad22557a33ff97304e0591f4e6721325", func := "probecard/probecardlaw05.ConesAgain", spec := "conesAgain", inPlace := ["internal/bytealg.IndexByteString", "internal/bytealg.IndexString"], unfollowed := true, recurses := true, named := ["probecard/logic.fanins", "internal/bytealg.MaxLen"], apart := false, laid := [("probecard/logic.fanins", laid_probecard_logic_fanins)] }
def ConesAgainSaid : Prop := conesAgainRow.holds Tryd.pinned (OpenSpec.ofChange conesAgainSpec)

/-- ITS FALSE NEIGHBOUR: 'it returns false'. Refute it at one input. -/
def conesAgainWrong : ChangeSpec := { name := "conesAgain", fn := fun _ => fun
  | [d1, d2] => { results := [.lit (.bool false)], args := [d1, d2] }
  | _ => none }
def ConesAgainWrongFalsely : Prop := conesAgainRow.holds Tryd.pinned (OpenSpec.ofChange conesAgainWrong)

/-- 'probecardlaw05.ConesBlock': WHATEVER THE INPUT: true; the input reads as it did. -/
def conesBlockSpec : ChangeSpec := { name := "conesBlock", fn := fun _ => fun
  | [d1, d2, d3] => { results := [.lit (.bool true)], args := [d1, d2, d3] }
  | _ => none }
def conesBlockRow : OpenClaim := { program := "ytcmapbecfpcnfaadoor", sum := "b37e08f8983bb4f3f6d9e5b1dba807bbad22557a33ff97304e0591f4e6721325", func := "probecard/probecardlaw05.ConesBlock", spec := "conesBlock", inPlace := ["internal/bytealg.IndexByteString", "internal/bytealg.IndexString"], unfollowed := true, recurses := true, named := ["probecard/logic.fanins", "internal/bytealg.MaxLen"], apart := false, laid := [("probecard/logic.fanins", laid_probecard_logic_fanins)] }
def ConesBlockSaid : Prop := conesBlockRow.holds Tryd.pinned (OpenSpec.ofChange conesBlockSpec)

/-- ITS FALSE NEIGHBOUR: 'it returns false'. Refute it at one input. -/
def conesBlockWrong : ChangeSpec := { name := "conesBlock", fn := fun _ => fun
  | [d1, d2, d3] => { results := [.lit (.bool false)], args := [d1, d2, d3] }
  | _ => none }
def ConesBlockWrongFalsely : Prop := conesBlockRow.holds Tryd.pinned (OpenSpec.ofChange conesBlockWrong)

/- THE SECOND FORM. 'bulk': how many values and letters a reading holds, each counted each time it is reached (what is shared counts as often as it is met; a slice's spare places count too). A statement '..UptoSaid' is the law's where the arguments, and the package variables that the reading takes, are together of bulk at most 1048576: NARROWER than '..Said'. Prove '..Said' where nothing that the law and all that it calls make is longer than what came in: it says more and counts as full. Else prove '..UptoSaid'. A law counts once. -/
mutual
def uptoBulk {H : Type} : DataW H → Nat
  | .lit (.string bytes) => bytes.length + 1
  | .lit _ => 1
  | .nil => 1
  | .ptr d => uptoBulk d + 1
  | .slice elems spare => uptoBulkAll elems + uptoBulkAll spare + 1
  | .agg parts => uptoBulkAll parts + 1
  | .iface _ d => uptoBulk d + 1
  | .map entries => uptoBulkEntries entries + 1
  | .held _ => 1
def uptoBulkAll {H : Type} : List (DataW H) → Nat
  | [] => 0
  | d :: r => uptoBulk d + uptoBulkAll r
def uptoBulkEntries {H : Type} : List (Lit × DataW H) → Nat
  | [] => 0
  | x :: r => uptoBulkEntry x + uptoBulkEntries r
def uptoBulkEntry {H : Type} : Lit × DataW H → Nat
  | (.string bytes, d) => bytes.length + uptoBulk d + 1
  | (_, d) => uptoBulk d + 1
 end
def uptoSmall : (H : Type) → List (DataW H) → Bool := fun _ ds => decide (uptoBulkAll ds ≤ 1048576)
def OpenSpec.upto (s : _root_.Go.ChangeSpec) : _root_.Go.OpenSpec := { _root_.Go.OpenSpec.ofChange s with cond := some uptoSmall }

/-- 'probecardlaw03.NetlistsRenumbered', WHERE WHAT IT READS IS OF BULK AT MOST 1048576: true; the input reads as it did. -/
def netlistsRenumberedUptoRow : OpenClaim := { program := "ytcmapbecfpcnfaadoor", sum := "b37e08f8983bb4f3f6d9e5b1dba807bbad22557a33ff97304e0591f4e6721325", func := "probecard/probecardlaw03.NetlistsRenumbered", spec := "netlistsRenumbered", inPlace := ["internal/bytealg.IndexByteString", "internal/bytealg.IndexString"], unfollowed := true, recurses := true, named := ["probecard/logic.fanins", "internal/bytealg.MaxLen"], apart := false, laid := [("probecard/logic.fanins", laid_probecard_logic_fanins)], narrowed := true }
def NetlistsRenumberedUptoSaid : Prop := netlistsRenumberedUptoRow.holds Tryd.pinned (OpenSpec.upto netlistsRenumberedSpec)

/-- 'probecardlaw05.ConesErrors', WHERE WHAT IT READS IS OF BULK AT MOST 1048576: true; the input reads as it did. -/
def conesErrorsUptoRow : OpenClaim := { program := "ytcmapbecfpcnfaadoor", sum := "b37e08f8983bb4f3f6d9e5b1dba807bbad22557a33ff97304e0591f4e6721325", func := "probecard/probecardlaw05.ConesErrors", spec := "conesErrors", inPlace := ["internal/bytealg.IndexByteString", "internal/bytealg.IndexString"], unfollowed := true, recurses := true, named := ["probecard/logic.fanins", "internal/bytealg.MaxLen"], apart := false, laid := [("probecard/logic.fanins", laid_probecard_logic_fanins)], narrowed := true }
def ConesErrorsUptoSaid : Prop := conesErrorsUptoRow.holds Tryd.pinned (OpenSpec.upto conesErrorsSpec)

/-- 'probecardlaw05.ConesSets', WHERE WHAT IT READS IS OF BULK AT MOST 1048576: true; the input reads as it did. -/
def conesSetsUptoRow : OpenClaim := { program := "ytcmapbecfpcnfaadoor", sum := "b37e08f8983bb4f3f6d9e5b1dba807bbad22557a33ff97304e0591f4e6721325", func := "probecard/probecardlaw05.ConesSets", spec := "conesSets", inPlace := ["internal/bytealg.IndexByteString", "internal/bytealg.IndexString"], unfollowed := true, recurses := true, named := ["probecard/logic.fanins", "internal/bytealg.MaxLen"], apart := false, laid := [("probecard/logic.fanins", laid_probecard_logic_fanins)], narrowed := true }
def ConesSetsUptoSaid : Prop := conesSetsUptoRow.holds Tryd.pinned (OpenSpec.upto conesSetsSpec)

/-- 'probecardlaw05.ConesDominators', WHERE WHAT IT READS IS OF BULK AT MOST 1048576: true; the input reads as it did. -/
def conesDominatorsUptoRow : OpenClaim := { program := "ytcmapbecfpcnfaadoor", sum := "b37e08f8983bb4f3f6d9e5b1dba807bbad22557a33ff97304e0591f4e6721325", func := "probecard/probecardlaw05.ConesDominators", spec := "conesDominators", inPlace := ["internal/bytealg.IndexByteString", "internal/bytealg.IndexString"], unfollowed := true, recurses := true, named := ["probecard/logic.fanins", "internal/bytealg.MaxLen"], apart := false, laid := [("probecard/logic.fanins", laid_probecard_logic_fanins)], narrowed := true }
def ConesDominatorsUptoSaid : Prop := conesDominatorsUptoRow.holds Tryd.pinned (OpenSpec.upto conesDominatorsSpec)

/-- 'probecardlaw05.ConesRegions', WHERE WHAT IT READS IS OF BULK AT MOST 1048576: true; the input reads as it did. -/
def conesRegionsUptoRow : OpenClaim := { program := "ytcmapbecfpcnfaadoor", sum := "b37e08f8983bb4f3f6d9e5b1dba807bbad22557a33ff97304e0591f4e6721325", func := "probecard/probecardlaw05.ConesRegions", spec := "conesRegions", inPlace := ["internal/bytealg.IndexByteString", "internal/bytealg.IndexString"], unfollowed := true, recurses := true, named := ["probecard/logic.fanins", "internal/bytealg.MaxLen"], apart := false, laid := [("probecard/logic.fanins", laid_probecard_logic_fanins)], narrowed := true }
def ConesRegionsUptoSaid : Prop := conesRegionsUptoRow.holds Tryd.pinned (OpenSpec.upto conesRegionsSpec)

/-- 'probecardlaw05.ConesMeets', WHERE WHAT IT READS IS OF BULK AT MOST 1048576: true; the input reads as it did. -/
def conesMeetsUptoRow : OpenClaim := { program := "ytcmapbecfpcnfaadoor", sum := "b37e08f8983bb4f3f6d9e5b1dba807bbad22557a33ff97304e0591f4e6721325", func := "probecard/probecardlaw05.ConesMeets", spec := "conesMeets", inPlace := ["internal/bytealg.IndexByteString", "internal/bytealg.IndexString"], unfollowed := true, recurses := true, named := ["probecard/logic.fanins", "internal/bytealg.MaxLen"], apart := false, laid := [("probecard/logic.fanins", laid_probecard_logic_fanins)], narrowed := true }
def ConesMeetsUptoSaid : Prop := conesMeetsUptoRow.holds Tryd.pinned (OpenSpec.upto conesMeetsSpec)

/-- 'probecardlaw05.ConesAgain', WHERE WHAT IT READS IS OF BULK AT MOST 1048576: true; the input reads as it did. -/
def conesAgainUptoRow : OpenClaim := { program := "ytcmapbecfpcnfaadoor", sum := "b37e08f8983bb4f3f6d9e5b1dba807bbad22557a33ff97304e0591f4e6721325", func := "probecard/probecardlaw05.ConesAgain", spec := "conesAgain", inPlace := ["internal/bytealg.IndexByteString", "internal/bytealg.IndexString"], unfollowed := true, recurses := true, named := ["probecard/logic.fanins", "internal/bytealg.MaxLen"], apart := false, laid := [("probecard/logic.fanins", laid_probecard_logic_fanins)], narrowed := true }
def ConesAgainUptoSaid : Prop := conesAgainUptoRow.holds Tryd.pinned (OpenSpec.upto conesAgainSpec)

/-- 'probecardlaw05.ConesBlock', WHERE WHAT IT READS IS OF BULK AT MOST 1048576: true; the input reads as it did. -/
def conesBlockUptoRow : OpenClaim := { program := "ytcmapbecfpcnfaadoor", sum := "b37e08f8983bb4f3f6d9e5b1dba807bbad22557a33ff97304e0591f4e6721325", func := "probecard/probecardlaw05.ConesBlock", spec := "conesBlock", inPlace := ["internal/bytealg.IndexByteString", "internal/bytealg.IndexString"], unfollowed := true, recurses := true, named := ["probecard/logic.fanins", "internal/bytealg.MaxLen"], apart := false, laid := [("probecard/logic.fanins", laid_probecard_logic_fanins)], narrowed := true }
def ConesBlockUptoSaid : Prop := conesBlockUptoRow.holds Tryd.pinned (OpenSpec.upto conesBlockSpec)

end Rows
end Go.Proofs.YtcmapbecfpcnfaaDoor
