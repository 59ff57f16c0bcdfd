/-
  DERIVED. GIVEN WITH THE SEED: THE CARDS: each row of YtpaopccohkldlaaGreatDoorRows.lean that lists a variable, with what it lists TIED to the program's text (the seventh form; the later family's looks); each row that meets fmt, with fmt's text TOLD by the authors' own Lean function (tested against real Go, not proved from fmt's source: count such statements apart). THE CARD IS WHAT COUNTS. Prove the row's statement (the work); the ties are given (YtpaopccohkldlaaGreatDoorTie.lean); close each card by the builder's one call (the guide's Derived/Test/ToyasCard.lean, 'card_holds'). Laid BY PROGRAM, IN A SANDBOX (cutbox-door.mjs). By AI agents, Wed Nov 11 2026. No macro, syntax, notation, axiom, sorry.
-/
import Derived.Test.YtpaopccohkldlaaGreatDoorRows
import GoSem.ClaimSeven
namespace Go.Proofs.YtpaopccohkldlaaGreatDoor
namespace Rows

/-- THE TIED CARD OF 'probecardlaw26.TreesTrims'. -/
def treesTrimsCard : Claim7 := { stood := { row := treesTrimsRow, standIns := [], harness := (true, "f190c5cd117b001681f6b87a585c2545fc5c91a8f72a937b8ac00315c65cf9a1"), looks := true }, kinds := [], alts := [], laidByText := true, laidKinds := [.data, .data, .data, .sentinel, .sentinel, .data, .data], laidTests := true, laidLooks := .later }
def TreesTrimsCardSaid : Prop := Claim7.holds Tryz.pinned (.plain (OpenSpec.ofChange treesTrimsSpec)) treesTrimsCard

/-- THE TIED CARD OF 'probecardlaw26.TreesTexts'. -/
def treesTextsCard : Claim7 := { stood := { row := treesTextsRow, standIns := [], harness := (true, "f190c5cd117b001681f6b87a585c2545fc5c91a8f72a937b8ac00315c65cf9a1"), looks := true }, kinds := [], alts := [], laidByText := true, laidKinds := [.data, .data, .data, .sentinel, .sentinel, .data, .data], laidTests := true, laidLooks := .later }
def TreesTextsCardSaid : Prop := Claim7.holds Tryz.pinned (.plain (OpenSpec.ofChange treesTextsSpec)) treesTextsCard

/-- THE TIED CARD OF 'probecardlaw26.TreesKnown'. -/
def treesKnownCard : Claim7 := { stood := { row := treesKnownRow, standIns := [], harness := (true, "f190c5cd117b001681f6b87a585c2545fc5c91a8f72a937b8ac00315c65cf9a1"), looks := true }, kinds := [], alts := [], laidByText := true, laidKinds := [.data, .data, .data, .sentinel, .sentinel, .data, .data], laidTests := true, laidLooks := .later }
def TreesKnownCardSaid : Prop := Claim7.holds Tryz.pinned (.plain (OpenSpec.ofChange treesKnownSpec)) treesKnownCard

/-- THE TIED CARD OF 'probecardlaw26.TreesBlocked'. -/
def treesBlockedCard : Claim7 := { stood := { row := treesBlockedRow, standIns := [], harness := (true, "f190c5cd117b001681f6b87a585c2545fc5c91a8f72a937b8ac00315c65cf9a1"), looks := true }, kinds := [], alts := [], laidByText := true, laidKinds := [.data, .data, .data, .sentinel, .sentinel, .data, .data], laidTests := true, laidLooks := .later }
def TreesBlockedCardSaid : Prop := Claim7.holds Tryz.pinned (.plain (OpenSpec.ofChange treesBlockedSpec)) treesBlockedCard

/-- THE TIED CARD OF 'probecardlaw26.TreesErrors'. -/
def treesErrorsCard : Claim7 := { stood := { row := treesErrorsRow, standIns := [], harness := (true, "f190c5cd117b001681f6b87a585c2545fc5c91a8f72a937b8ac00315c65cf9a1"), looks := true }, kinds := [], alts := [], laidByText := true, laidKinds := [.data, .data, .data, .sentinel, .sentinel, .data, .data], laidTests := true, laidLooks := .later }
def TreesErrorsCardSaid : Prop := Claim7.holds Tryz.pinned (.plain (OpenSpec.ofChange treesErrorsSpec)) treesErrorsCard

/-- THE TIED CARD OF 'probecardlaw27.PodemsFinds'. -/
def podemsFindsCard : Claim7 := { stood := { row := podemsFindsRow, standIns := [], harness := (true, "f190c5cd117b001681f6b87a585c2545fc5c91a8f72a937b8ac00315c65cf9a1"), looks := true }, kinds := [], alts := [], laidByText := true, laidKinds := [.data, .data, .data, .data], laidTests := true, laidLooks := .later }
def PodemsFindsCardSaid : Prop := Claim7.holds Tryz.pinned (.plain (OpenSpec.ofChange podemsFindsSpec)) podemsFindsCard

/-- THE TIED CARD OF 'probecardlaw27.PodemsStops'. -/
def podemsStopsCard : Claim7 := { stood := { row := podemsStopsRow, standIns := [], harness := (true, "f190c5cd117b001681f6b87a585c2545fc5c91a8f72a937b8ac00315c65cf9a1"), looks := true }, kinds := [], alts := [], laidByText := true, laidKinds := [.data, .data, .data, .data], laidTests := true, laidLooks := .later }
def PodemsStopsCardSaid : Prop := Claim7.holds Tryz.pinned (.plain (OpenSpec.ofChange podemsStopsSpec)) podemsStopsCard

/-- THE TIED CARD OF 'probecardlaw27.PodemsErrors'. -/
def podemsErrorsCard : Claim7 := { stood := { row := podemsErrorsRow, standIns := [], harness := (true, "f190c5cd117b001681f6b87a585c2545fc5c91a8f72a937b8ac00315c65cf9a1"), looks := true }, kinds := [], alts := [], laidByText := true, laidKinds := [.data, .data, .data, .data], laidTests := true, laidLooks := .later }
def PodemsErrorsCardSaid : Prop := Claim7.holds Tryz.pinned (.plain (OpenSpec.ofChange podemsErrorsSpec)) podemsErrorsCard

/-- THE TIED CARD OF 'probecardlaw27.PodemsAll'. -/
def podemsAllCard : Claim7 := { stood := { row := podemsAllRow, standIns := [], harness := (true, "f190c5cd117b001681f6b87a585c2545fc5c91a8f72a937b8ac00315c65cf9a1"), looks := true }, kinds := [], alts := [], laidByText := true, laidKinds := [.data, .data, .data, .data], laidTests := true, laidLooks := .later }
def PodemsAllCardSaid : Prop := Claim7.holds Tryz.pinned (.plain (OpenSpec.ofChange podemsAllSpec)) podemsAllCard

/-- THE TIED CARD OF 'probecardlaw27.PodemsKnown'. -/
def podemsKnownCard : Claim7 := { stood := { row := podemsKnownRow, standIns := [], harness := (true, "f190c5cd117b001681f6b87a585c2545fc5c91a8f72a937b8ac00315c65cf9a1"), looks := true }, kinds := [], alts := [], laidByText := true, laidKinds := [.data, .data, .data, .data], laidTests := true, laidLooks := .later }
def PodemsKnownCardSaid : Prop := Claim7.holds Tryz.pinned (.plain (OpenSpec.ofChange podemsKnownSpec)) podemsKnownCard

/-- THE SECOND FORM's CARD OF 'probecardlaw26.TreesTrims'. -/
def treesTrimsUptoCard : Claim7 := { stood := { row := treesTrimsUptoRow, standIns := [], harness := (true, "f190c5cd117b001681f6b87a585c2545fc5c91a8f72a937b8ac00315c65cf9a1"), looks := true }, kinds := [], alts := [], laidByText := true, laidKinds := [.data, .data, .data, .sentinel, .sentinel, .data, .data], laidTests := true, laidLooks := .later }
def TreesTrimsUptoCardSaid : Prop := Claim7.holds Tryz.pinned (.plain (OpenSpec.upto treesTrimsSpec)) treesTrimsUptoCard

/-- THE SECOND FORM's CARD OF 'probecardlaw26.TreesTexts'. -/
def treesTextsUptoCard : Claim7 := { stood := { row := treesTextsUptoRow, standIns := [], harness := (true, "f190c5cd117b001681f6b87a585c2545fc5c91a8f72a937b8ac00315c65cf9a1"), looks := true }, kinds := [], alts := [], laidByText := true, laidKinds := [.data, .data, .data, .sentinel, .sentinel, .data, .data], laidTests := true, laidLooks := .later }
def TreesTextsUptoCardSaid : Prop := Claim7.holds Tryz.pinned (.plain (OpenSpec.upto treesTextsSpec)) treesTextsUptoCard

/-- THE SECOND FORM's CARD OF 'probecardlaw26.TreesKnown'. -/
def treesKnownUptoCard : Claim7 := { stood := { row := treesKnownUptoRow, standIns := [], harness := (true, "f190c5cd117b001681f6b87a585c2545fc5c91a8f72a937b8ac00315c65cf9a1"), looks := true }, kinds := [], alts := [], laidByText := true, laidKinds := [.data, .data, .data, .sentinel, .sentinel, .data, .data], laidTests := true, laidLooks := .later }
def TreesKnownUptoCardSaid : Prop := Claim7.holds Tryz.pinned (.plain (OpenSpec.upto treesKnownSpec)) treesKnownUptoCard

/-- THE SECOND FORM's CARD OF 'probecardlaw26.TreesBlocked'. -/
def treesBlockedUptoCard : Claim7 := { stood := { row := treesBlockedUptoRow, standIns := [], harness := (true, "f190c5cd117b001681f6b87a585c2545fc5c91a8f72a937b8ac00315c65cf9a1"), looks := true }, kinds := [], alts := [], laidByText := true, laidKinds := [.data, .data, .data, .sentinel, .sentinel, .data, .data], laidTests := true, laidLooks := .later }
def TreesBlockedUptoCardSaid : Prop := Claim7.holds Tryz.pinned (.plain (OpenSpec.upto treesBlockedSpec)) treesBlockedUptoCard

/-- THE SECOND FORM's CARD OF 'probecardlaw26.TreesErrors'. -/
def treesErrorsUptoCard : Claim7 := { stood := { row := treesErrorsUptoRow, standIns := [], harness := (true, "f190c5cd117b001681f6b87a585c2545fc5c91a8f72a937b8ac00315c65cf9a1"), looks := true }, kinds := [], alts := [], laidByText := true, laidKinds := [.data, .data, .data, .sentinel, .sentinel, .data, .data], laidTests := true, laidLooks := .later }
def TreesErrorsUptoCardSaid : Prop := Claim7.holds Tryz.pinned (.plain (OpenSpec.upto treesErrorsSpec)) treesErrorsUptoCard

/-- THE SECOND FORM's CARD OF 'probecardlaw27.PodemsFinds'. -/
def podemsFindsUptoCard : Claim7 := { stood := { row := podemsFindsUptoRow, standIns := [], harness := (true, "f190c5cd117b001681f6b87a585c2545fc5c91a8f72a937b8ac00315c65cf9a1"), looks := true }, kinds := [], alts := [], laidByText := true, laidKinds := [.data, .data, .data, .data], laidTests := true, laidLooks := .later }
def PodemsFindsUptoCardSaid : Prop := Claim7.holds Tryz.pinned (.plain (OpenSpec.upto podemsFindsSpec)) podemsFindsUptoCard

/-- THE SECOND FORM's CARD OF 'probecardlaw27.PodemsStops'. -/
def podemsStopsUptoCard : Claim7 := { stood := { row := podemsStopsUptoRow, standIns := [], harness := (true, "f190c5cd117b001681f6b87a585c2545fc5c91a8f72a937b8ac00315c65cf9a1"), looks := true }, kinds := [], alts := [], laidByText := true, laidKinds := [.data, .data, .data, .data], laidTests := true, laidLooks := .later }
def PodemsStopsUptoCardSaid : Prop := Claim7.holds Tryz.pinned (.plain (OpenSpec.upto podemsStopsSpec)) podemsStopsUptoCard

/-- THE SECOND FORM's CARD OF 'probecardlaw27.PodemsErrors'. -/
def podemsErrorsUptoCard : Claim7 := { stood := { row := podemsErrorsUptoRow, standIns := [], harness := (true, "f190c5cd117b001681f6b87a585c2545fc5c91a8f72a937b8ac00315c65cf9a1"), looks := true }, kinds := [], alts := [], laidByText := true, laidKinds := [.data, .data, .data, .data], laidTests := true, laidLooks := .later }
def PodemsErrorsUptoCardSaid : Prop := Claim7.holds Tryz.pinned (.plain (OpenSpec.upto podemsErrorsSpec)) podemsErrorsUptoCard

/-- THE SECOND FORM's CARD OF 'probecardlaw27.PodemsAll'. -/
def podemsAllUptoCard : Claim7 := { stood := { row := podemsAllUptoRow, standIns := [], harness := (true, "f190c5cd117b001681f6b87a585c2545fc5c91a8f72a937b8ac00315c65cf9a1"), looks := true }, kinds := [], alts := [], laidByText := true, laidKinds := [.data, .data, .data, .data], laidTests := true, laidLooks := .later }
def PodemsAllUptoCardSaid : Prop := Claim7.holds Tryz.pinned (.plain (OpenSpec.upto podemsAllSpec)) podemsAllUptoCard

/-- THE SECOND FORM's CARD OF 'probecardlaw27.PodemsKnown'. -/
def podemsKnownUptoCard : Claim7 := { stood := { row := podemsKnownUptoRow, standIns := [], harness := (true, "f190c5cd117b001681f6b87a585c2545fc5c91a8f72a937b8ac00315c65cf9a1"), looks := true }, kinds := [], alts := [], laidByText := true, laidKinds := [.data, .data, .data, .data], laidTests := true, laidLooks := .later }
def PodemsKnownUptoCardSaid : Prop := Claim7.holds Tryz.pinned (.plain (OpenSpec.upto podemsKnownSpec)) podemsKnownUptoCard
end Rows
end Go.Proofs.YtpaopccohkldlaaGreatDoor
