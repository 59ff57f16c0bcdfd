/-
  DERIVED. GIVEN WITH THE SEED: THE CARDS: each row of YtcmblmkbdenakaaGreatDoorRows.lean that lists a variable, with what it lists TIED to the program's text (the seventh form; the later family's looks); each row that meets fmt, with fmt's text TOLD by the authors' own Lean function (tested against real Go, not proved from fmt's source: count such statements apart). THE CARD IS WHAT COUNTS. Prove the row's statement (the work); the ties are given (YtcmblmkbdenakaaGreatDoorTie.lean); close each card by the builder's one call (the guide's Derived/Test/ToyasCard.lean, 'card_holds'). Laid BY PROGRAM, IN A SANDBOX (cutbox-door.mjs). By AI agents, Wed Nov 11 2026. No macro, syntax, notation, axiom, sorry.
-/
import Derived.Test.YtcmblmkbdenakaaGreatDoorRows
import GoSem.ClaimSeven
namespace Go.Proofs.YtcmblmkbdenakaaGreatDoor
namespace Rows

/-- THE TIED CARD OF 'probecardlaw23.ScoapsKnown'. -/
def scoapsKnownCard : Claim7 := { stood := { row := scoapsKnownRow, standIns := [], harness := (true, "d4cf50d62fd8f82a829fb38a699aa666e77cabd7128fbafcf671e71b6bb771bc"), looks := false }, kinds := [], alts := [], laidByText := true, laidKinds := [.data, .data, .data], laidTests := true, laidLooks := .later }
def ScoapsKnownCardSaid : Prop := Claim7.holds Tryz.pinned (.plain (OpenSpec.ofChange scoapsKnownSpec)) scoapsKnownCard

/-- THE TIED CARD OF 'probecardlaw23.ScoapsReaches'. -/
def scoapsReachesCard : Claim7 := { stood := { row := scoapsReachesRow, standIns := [], harness := (true, "d4cf50d62fd8f82a829fb38a699aa666e77cabd7128fbafcf671e71b6bb771bc"), looks := false }, kinds := [], alts := [], laidByText := true, laidKinds := [.data, .data, .data], laidTests := true, laidLooks := .later }
def ScoapsReachesCardSaid : Prop := Claim7.holds Tryz.pinned (.plain (OpenSpec.ofChange scoapsReachesSpec)) scoapsReachesCard

/-- THE TIED CARD OF 'probecardlaw23.ScoapsSequences'. -/
def scoapsSequencesCard : Claim7 := { stood := { row := scoapsSequencesRow, standIns := [], harness := (true, "d4cf50d62fd8f82a829fb38a699aa666e77cabd7128fbafcf671e71b6bb771bc"), looks := false }, kinds := [], alts := [], laidByText := true, laidKinds := [.data, .data, .data], laidTests := true, laidLooks := .later }
def ScoapsSequencesCardSaid : Prop := Claim7.holds Tryz.pinned (.plain (OpenSpec.ofChange scoapsSequencesSpec)) scoapsSequencesCard

/-- THE SECOND FORM's CARD OF 'probecardlaw23.ScoapsKnown'. -/
def scoapsKnownUptoCard : Claim7 := { stood := { row := scoapsKnownUptoRow, standIns := [], harness := (true, "d4cf50d62fd8f82a829fb38a699aa666e77cabd7128fbafcf671e71b6bb771bc"), looks := false }, kinds := [], alts := [], laidByText := true, laidKinds := [.data, .data, .data], laidTests := true, laidLooks := .later }
def ScoapsKnownUptoCardSaid : Prop := Claim7.holds Tryz.pinned (.plain (OpenSpec.upto scoapsKnownSpec)) scoapsKnownUptoCard

/-- THE SECOND FORM's CARD OF 'probecardlaw23.ScoapsReaches'. -/
def scoapsReachesUptoCard : Claim7 := { stood := { row := scoapsReachesUptoRow, standIns := [], harness := (true, "d4cf50d62fd8f82a829fb38a699aa666e77cabd7128fbafcf671e71b6bb771bc"), looks := false }, kinds := [], alts := [], laidByText := true, laidKinds := [.data, .data, .data], laidTests := true, laidLooks := .later }
def ScoapsReachesUptoCardSaid : Prop := Claim7.holds Tryz.pinned (.plain (OpenSpec.upto scoapsReachesSpec)) scoapsReachesUptoCard

/-- THE SECOND FORM's CARD OF 'probecardlaw23.ScoapsSequences'. -/
def scoapsSequencesUptoCard : Claim7 := { stood := { row := scoapsSequencesUptoRow, standIns := [], harness := (true, "d4cf50d62fd8f82a829fb38a699aa666e77cabd7128fbafcf671e71b6bb771bc"), looks := false }, kinds := [], alts := [], laidByText := true, laidKinds := [.data, .data, .data], laidTests := true, laidLooks := .later }
def ScoapsSequencesUptoCardSaid : Prop := Claim7.holds Tryz.pinned (.plain (OpenSpec.upto scoapsSequencesSpec)) scoapsSequencesUptoCard
end Rows
end Go.Proofs.YtcmblmkbdenakaaGreatDoor
