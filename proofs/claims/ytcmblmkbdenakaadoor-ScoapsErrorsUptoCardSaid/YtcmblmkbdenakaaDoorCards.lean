/-
  DERIVED. GIVEN WITH THE SEED: THE CARDS: each row of YtcmblmkbdenakaaDoorRows.lean that lists a variable, with what it lists TIED to the program's text (the seventh form; the later family's looks); each row that meets fmt, with fmt's text TOLD by the authors' own Lean function (tested against real Go, not proved from fmt's source: count such statements apart). THE CARD IS WHAT COUNTS. Prove the row's statement (the work); the ties are given (YtcmblmkbdenakaaDoorTie.lean); close each card by the builder's one call (the guide's Derived/Test/ToyasCard.lean, 'card_holds'). Laid BY PROGRAM, IN A SANDBOX (cutbox-door.mjs). By AI agents, Wed Nov 11 2026. No macro, syntax, notation, axiom, sorry.
-/
import Derived.Test.YtcmblmkbdenakaaDoorRows
import GoSem.ClaimSeven
namespace Go.Proofs.YtcmblmkbdenakaaDoor
namespace Rows

/-- THE TIED CARD OF 'probecardlaw23.ScoapsGate'. -/
def scoapsGateCard : Claim7 := { stood := { row := scoapsGateRow, standIns := [], harness := (true, "35d53bf4d87b6ac563cb4c0a4852e110f2d4a1f2ee5fff62dba4b92526cccb69"), looks := false }, kinds := [], alts := [], laidByText := true, laidKinds := [.data, .data, .data], laidTests := true, laidLooks := .later }
def ScoapsGateCardSaid : Prop := Claim7.holds Tryd.pinned (.plain (OpenSpec.ofChange scoapsGateSpec)) scoapsGateCard

/-- THE TIED CARD OF 'probecardlaw23.ScoapsObserves'. -/
def scoapsObservesCard : Claim7 := { stood := { row := scoapsObservesRow, standIns := [], harness := (true, "35d53bf4d87b6ac563cb4c0a4852e110f2d4a1f2ee5fff62dba4b92526cccb69"), looks := false }, kinds := [], alts := [], laidByText := true, laidKinds := [.data, .data, .data], laidTests := true, laidLooks := .later }
def ScoapsObservesCardSaid : Prop := Claim7.holds Tryd.pinned (.plain (OpenSpec.ofChange scoapsObservesSpec)) scoapsObservesCard

/-- THE TIED CARD OF 'probecardlaw23.ScoapsControls'. -/
def scoapsControlsCard : Claim7 := { stood := { row := scoapsControlsRow, standIns := [], harness := (true, "35d53bf4d87b6ac563cb4c0a4852e110f2d4a1f2ee5fff62dba4b92526cccb69"), looks := false }, kinds := [], alts := [], laidByText := true, laidKinds := [.data, .data, .data], laidTests := true, laidLooks := .later }
def ScoapsControlsCardSaid : Prop := Claim7.holds Tryd.pinned (.plain (OpenSpec.ofChange scoapsControlsSpec)) scoapsControlsCard

/-- THE TIED CARD OF 'probecardlaw23.ScoapsErrors'. -/
def scoapsErrorsCard : Claim7 := { stood := { row := scoapsErrorsRow, standIns := [], harness := (true, "35d53bf4d87b6ac563cb4c0a4852e110f2d4a1f2ee5fff62dba4b92526cccb69"), looks := false }, kinds := [], alts := [], laidByText := true, laidKinds := [.data, .data, .data], laidTests := true, laidLooks := .later }
def ScoapsErrorsCardSaid : Prop := Claim7.holds Tryd.pinned (.plain (OpenSpec.ofChange scoapsErrorsSpec)) scoapsErrorsCard

/-- THE SECOND FORM's CARD OF 'probecardlaw23.ScoapsGate'. -/
def scoapsGateUptoCard : Claim7 := { stood := { row := scoapsGateUptoRow, standIns := [], harness := (true, "35d53bf4d87b6ac563cb4c0a4852e110f2d4a1f2ee5fff62dba4b92526cccb69"), looks := false }, kinds := [], alts := [], laidByText := true, laidKinds := [.data, .data, .data], laidTests := true, laidLooks := .later }
def ScoapsGateUptoCardSaid : Prop := Claim7.holds Tryd.pinned (.plain (OpenSpec.upto scoapsGateSpec)) scoapsGateUptoCard

/-- THE SECOND FORM's CARD OF 'probecardlaw23.ScoapsObserves'. -/
def scoapsObservesUptoCard : Claim7 := { stood := { row := scoapsObservesUptoRow, standIns := [], harness := (true, "35d53bf4d87b6ac563cb4c0a4852e110f2d4a1f2ee5fff62dba4b92526cccb69"), looks := false }, kinds := [], alts := [], laidByText := true, laidKinds := [.data, .data, .data], laidTests := true, laidLooks := .later }
def ScoapsObservesUptoCardSaid : Prop := Claim7.holds Tryd.pinned (.plain (OpenSpec.upto scoapsObservesSpec)) scoapsObservesUptoCard

/-- THE SECOND FORM's CARD OF 'probecardlaw23.ScoapsControls'. -/
def scoapsControlsUptoCard : Claim7 := { stood := { row := scoapsControlsUptoRow, standIns := [], harness := (true, "35d53bf4d87b6ac563cb4c0a4852e110f2d4a1f2ee5fff62dba4b92526cccb69"), looks := false }, kinds := [], alts := [], laidByText := true, laidKinds := [.data, .data, .data], laidTests := true, laidLooks := .later }
def ScoapsControlsUptoCardSaid : Prop := Claim7.holds Tryd.pinned (.plain (OpenSpec.upto scoapsControlsSpec)) scoapsControlsUptoCard

/-- THE SECOND FORM's CARD OF 'probecardlaw23.ScoapsErrors'. -/
def scoapsErrorsUptoCard : Claim7 := { stood := { row := scoapsErrorsUptoRow, standIns := [], harness := (true, "35d53bf4d87b6ac563cb4c0a4852e110f2d4a1f2ee5fff62dba4b92526cccb69"), looks := false }, kinds := [], alts := [], laidByText := true, laidKinds := [.data, .data, .data], laidTests := true, laidLooks := .later }
def ScoapsErrorsUptoCardSaid : Prop := Claim7.holds Tryd.pinned (.plain (OpenSpec.upto scoapsErrorsSpec)) scoapsErrorsUptoCard
end Rows
end Go.Proofs.YtcmblmkbdenakaaDoor
