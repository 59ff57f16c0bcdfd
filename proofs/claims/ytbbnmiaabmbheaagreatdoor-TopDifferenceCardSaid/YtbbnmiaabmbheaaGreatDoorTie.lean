/-
  DERIVED. GIVEN WITH THE SEED: THE PROGRAM's TIES (one call each: nine closed facts by the kernel) AND EACH ROW's TIE, after the 31st guide's Derived/Test/Toyas{Tie, Card}.lean. No idea stands in it: it is a product of the set-up. Laid BY PROGRAM, IN A SANDBOX (cutbox-door.mjs). By AI agents, Wed Nov 11 2026. No macro, syntax, notation, axiom, sorry.
-/
import Derived.Test.YtbbnmiaabmbheaaGreatDoorRows
import Derived.LaidByTextLater
import Derived.SevenTiedAt
import Derived.LaidSub
import Derived.LaidOnce
namespace Go.Proofs.YtbbnmiaabmbheaaGreatDoor
open Go
set_option maxRecDepth 100000
theorem seatTie1 : Tryz.prog.laidByTextLater [("math/bits.deBruijn32tab", Rows.laid_math_bits_deBruijn32tab), ("math/bits.deBruijn64tab", Rows.laid_math_bits_deBruijn64tab), ("internal/strconv.uint64pow10", Rows.laid_internal_strconv_uint64pow10), ("strconv.ErrRange", Rows.laid_strconv_ErrRange), ("strconv.ErrSyntax", Rows.laid_strconv_ErrSyntax), ("probecard/logic.fanins", Rows.laid_probecard_logic_fanins), ("probecard/benches.kinds", Rows.laid_probecard_benches_kinds), ("probecard/scoaps.unit", Rows.laid_probecard_scoaps_unit), ("probecard/scoaps.never", Rows.laid_probecard_scoaps_never)] [.data, .data, .data, .sentinel, .sentinel, .data, .widerDeep, .data, .data] true :=
  Program.laidByTextLater_by_one 98 8 65 (by kernel_rfl) (by kernel_rfl) (by kernel_rfl) (by kernel_rfl) (by kernel_rfl) (by kernel_rfl) (fun _ _ => by kernel_rfl)
theorem noOwnUnsafe : Tryz.pinned.checked.prog.headLifts.contains "ownunsafe" = false := by kernel_rfl
theorem tie : Tryz.prog.laidByTextLater [("probecard/logic.fanins", Rows.laid_probecard_logic_fanins), ("probecard/scoaps.unit", Rows.laid_probecard_scoaps_unit), ("probecard/scoaps.never", Rows.laid_probecard_scoaps_never)] [.data, .data, .data] true :=
  Program.laidByTextLater.sub seatTie1 ["probecard/logic.fanins", "probecard/scoaps.unit", "probecard/scoaps.never"] (by kernel_rfl) (by kernel_rfl)
theorem topSeeds_row_tie : Rows.topSeedsRow.laidByTextAt .later Tryz.pinned [.data, .data, .data] true :=
  OpenClaim.laidByTextAt_later rfl rfl tie noOwnUnsafe
theorem tie2 : Tryz.prog.laidByTextLater [("math/bits.deBruijn32tab", Rows.laid_math_bits_deBruijn32tab), ("math/bits.deBruijn64tab", Rows.laid_math_bits_deBruijn64tab), ("probecard/logic.fanins", Rows.laid_probecard_logic_fanins), ("probecard/scoaps.unit", Rows.laid_probecard_scoaps_unit), ("probecard/scoaps.never", Rows.laid_probecard_scoaps_never)] [.data, .data, .data, .data, .data] true :=
  Program.laidByTextLater.sub seatTie1 ["math/bits.deBruijn32tab", "math/bits.deBruijn64tab", "probecard/logic.fanins", "probecard/scoaps.unit", "probecard/scoaps.never"] (by kernel_rfl) (by kernel_rfl)
theorem topSelection_row_tie : Rows.topSelectionRow.laidByTextAt .later Tryz.pinned [.data, .data, .data, .data, .data] true :=
  OpenClaim.laidByTextAt_later rfl rfl tie2 noOwnUnsafe
theorem tie3 : Tryz.prog.laidByTextLater [("math/bits.deBruijn32tab", Rows.laid_math_bits_deBruijn32tab), ("math/bits.deBruijn64tab", Rows.laid_math_bits_deBruijn64tab), ("internal/strconv.uint64pow10", Rows.laid_internal_strconv_uint64pow10), ("strconv.ErrRange", Rows.laid_strconv_ErrRange), ("strconv.ErrSyntax", Rows.laid_strconv_ErrSyntax), ("probecard/logic.fanins", Rows.laid_probecard_logic_fanins), ("probecard/benches.kinds", Rows.laid_probecard_benches_kinds)] [.data, .data, .data, .sentinel, .sentinel, .data, .widerDeep] true :=
  Program.laidByTextLater.sub seatTie1 ["math/bits.deBruijn32tab", "math/bits.deBruijn64tab", "internal/strconv.uint64pow10", "strconv.ErrRange", "strconv.ErrSyntax", "probecard/logic.fanins", "probecard/benches.kinds"] (by kernel_rfl) (by kernel_rfl)
theorem topDifference_row_tie : Rows.topDifferenceRow.laidByTextAt .later Tryz.pinned [.data, .data, .data, .sentinel, .sentinel, .data, .widerDeep] true :=
  OpenClaim.laidByTextAt_later rfl rfl tie3 noOwnUnsafe
theorem topSeedsUpto_row_tie : Rows.topSeedsUptoRow.laidByTextAt .later Tryz.pinned [.data, .data, .data] true :=
  OpenClaim.laidByTextAt_later rfl rfl tie noOwnUnsafe
theorem topSelectionUpto_row_tie : Rows.topSelectionUptoRow.laidByTextAt .later Tryz.pinned [.data, .data, .data, .data, .data] true :=
  OpenClaim.laidByTextAt_later rfl rfl tie2 noOwnUnsafe
theorem topDifferenceUpto_row_tie : Rows.topDifferenceUptoRow.laidByTextAt .later Tryz.pinned [.data, .data, .data, .sentinel, .sentinel, .data, .widerDeep] true :=
  OpenClaim.laidByTextAt_later rfl rfl tie3 noOwnUnsafe
end Go.Proofs.YtbbnmiaabmbheaaGreatDoor
