/-
  DERIVED. GIVEN WITH THE SEED: THE CARDS: each row of YtbbnmiaabmbheaaGreatDoorRows.lean that lists a variable, with what it lists TIED to the program's text (the seventh form; the later family's looks); each row that meets fmt, with fmt's text TOLD by the authors' own Lean function (tested against real Go, not proved from fmt's source: count such statements apart). THE CARD IS WHAT COUNTS. Prove the row's statement (the work); the ties are given (YtbbnmiaabmbheaaGreatDoorTie.lean); close each card by the builder's one call (the guide's Derived/Test/ToyasCard.lean, 'card_holds'). Laid BY PROGRAM, IN A SANDBOX (cutbox-door.mjs). By AI agents, Wed Nov 11 2026. No macro, syntax, notation, axiom, sorry.
-/
import Derived.Test.YtbbnmiaabmbheaaGreatDoorRows
import GoSem.ClaimSeven
namespace Go.Proofs.YtbbnmiaabmbheaaGreatDoor
namespace Rows

/-- THE TIED CARD OF 'probecardtop.TopSeeds'. -/
def topSeedsCard : Claim7 := { stood := { row := topSeedsRow, standIns := [], harness := (true, "68338bc8c57f83b05c3a5d7eecfd4f6214ebd523093354a6a7c9d51d792da40e"), looks := true }, kinds := [], alts := [], laidByText := true, laidKinds := [.data, .data, .data], laidTests := true, laidLooks := .later }
def TopSeedsCardSaid : Prop := Claim7.holds Tryz.pinned (.plain (OpenSpec.ofChange topSeedsSpec)) topSeedsCard

/-- THE TIED CARD OF 'probecardtop.TopSelection'. -/
def topSelectionCard : Claim7 := { stood := { row := topSelectionRow, standIns := [], harness := (true, "68338bc8c57f83b05c3a5d7eecfd4f6214ebd523093354a6a7c9d51d792da40e"), looks := true }, kinds := [], alts := [], laidByText := true, laidKinds := [.data, .data, .data, .data, .data], laidTests := true, laidLooks := .later }
def TopSelectionCardSaid : Prop := Claim7.holds Tryz.pinned (.plain (OpenSpec.ofChange topSelectionSpec)) topSelectionCard

/-- THE TIED CARD OF 'probecardtop.TopDifference'. -/
def topDifferenceCard : Claim7 := { stood := { row := topDifferenceRow, standIns := [], harness := (true, "68338bc8c57f83b05c3a5d7eecfd4f6214ebd523093354a6a7c9d51d792da40e"), looks := true }, kinds := [], alts := [], laidByText := true, laidKinds := [.data, .data, .data, .sentinel, .sentinel, .data, .widerDeep], laidTests := true, laidLooks := .later }
def TopDifferenceCardSaid : Prop := Claim7.holds Tryz.pinned (.plain (OpenSpec.ofChange topDifferenceSpec)) topDifferenceCard

/-- THE SECOND FORM's CARD OF 'probecardtop.TopSeeds'. -/
def topSeedsUptoCard : Claim7 := { stood := { row := topSeedsUptoRow, standIns := [], harness := (true, "68338bc8c57f83b05c3a5d7eecfd4f6214ebd523093354a6a7c9d51d792da40e"), looks := true }, kinds := [], alts := [], laidByText := true, laidKinds := [.data, .data, .data], laidTests := true, laidLooks := .later }
def TopSeedsUptoCardSaid : Prop := Claim7.holds Tryz.pinned (.plain (OpenSpec.upto topSeedsSpec)) topSeedsUptoCard

/-- THE SECOND FORM's CARD OF 'probecardtop.TopSelection'. -/
def topSelectionUptoCard : Claim7 := { stood := { row := topSelectionUptoRow, standIns := [], harness := (true, "68338bc8c57f83b05c3a5d7eecfd4f6214ebd523093354a6a7c9d51d792da40e"), looks := true }, kinds := [], alts := [], laidByText := true, laidKinds := [.data, .data, .data, .data, .data], laidTests := true, laidLooks := .later }
def TopSelectionUptoCardSaid : Prop := Claim7.holds Tryz.pinned (.plain (OpenSpec.upto topSelectionSpec)) topSelectionUptoCard

/-- THE SECOND FORM's CARD OF 'probecardtop.TopDifference'. -/
def topDifferenceUptoCard : Claim7 := { stood := { row := topDifferenceUptoRow, standIns := [], harness := (true, "68338bc8c57f83b05c3a5d7eecfd4f6214ebd523093354a6a7c9d51d792da40e"), looks := true }, kinds := [], alts := [], laidByText := true, laidKinds := [.data, .data, .data, .sentinel, .sentinel, .data, .widerDeep], laidTests := true, laidLooks := .later }
def TopDifferenceUptoCardSaid : Prop := Claim7.holds Tryz.pinned (.plain (OpenSpec.upto topDifferenceSpec)) topDifferenceUptoCard
end Rows
end Go.Proofs.YtbbnmiaabmbheaaGreatDoor
