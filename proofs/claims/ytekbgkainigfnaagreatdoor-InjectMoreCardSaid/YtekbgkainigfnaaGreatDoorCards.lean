/-
  DERIVED. GIVEN WITH THE SEED: THE CARDS: each row of YtekbgkainigfnaaGreatDoorRows.lean that lists a variable, with what it lists TIED to the program's text (the seventh form; the later family's looks); each row that meets fmt, with fmt's text TOLD by the authors' own Lean function (tested against real Go, not proved from fmt's source: count such statements apart). THE CARD IS WHAT COUNTS. Prove the row's statement (the work); the ties are given (YtekbgkainigfnaaGreatDoorTie.lean); close each card by the builder's one call (the guide's Derived/Test/ToyasCard.lean, 'card_holds'). Laid BY PROGRAM, IN A SANDBOX (cutbox-door.mjs). By AI agents, Wed Nov 11 2026. No macro, syntax, notation, axiom, sorry.
-/
import Derived.Test.YtekbgkainigfnaaGreatDoorRows
import GoSem.ClaimSeven
namespace Go.Proofs.YtekbgkainigfnaaGreatDoor
namespace Rows

/-- THE TIED CARD OF 'probecardlaw18.TransitionsCapture'. -/
def transitionsCaptureCard : Claim7 := { stood := { row := transitionsCaptureRow, standIns := [], harness := (true, "abc1ea43d340adcc3b8720a689554dc1d8444ebe1945dc0a1cfc2d004466767d"), looks := false }, kinds := [], alts := [], laidByText := true, laidKinds := [.data], laidTests := true, laidLooks := .later }
def TransitionsCaptureCardSaid : Prop := Claim7.holds Tryz.pinned (.plain (OpenSpec.ofChange transitionsCaptureSpec)) transitionsCaptureCard

/-- THE TIED CARD OF 'probecardlaw18.TransitionsShift'. -/
def transitionsShiftCard : Claim7 := { stood := { row := transitionsShiftRow, standIns := [], harness := (true, "abc1ea43d340adcc3b8720a689554dc1d8444ebe1945dc0a1cfc2d004466767d"), looks := false }, kinds := [], alts := [], laidByText := true, laidKinds := [.data], laidTests := true, laidLooks := .later }
def TransitionsShiftCardSaid : Prop := Claim7.holds Tryz.pinned (.plain (OpenSpec.ofChange transitionsShiftSpec)) transitionsShiftCard

/-- THE TIED CARD OF 'probecardlaw18.TransitionsLaunches'. -/
def transitionsLaunchesCard : Claim7 := { stood := { row := transitionsLaunchesRow, standIns := [], harness := (true, "abc1ea43d340adcc3b8720a689554dc1d8444ebe1945dc0a1cfc2d004466767d"), looks := false }, kinds := [], alts := [], laidByText := true, laidKinds := [.data], laidTests := true, laidLooks := .later }
def TransitionsLaunchesCardSaid : Prop := Claim7.holds Tryz.pinned (.plain (OpenSpec.ofChange transitionsLaunchesSpec)) transitionsLaunchesCard

/-- THE TIED CARD OF 'probecardlaw18.TransitionsDetects'. -/
def transitionsDetectsCard : Claim7 := { stood := { row := transitionsDetectsRow, standIns := [], harness := (true, "abc1ea43d340adcc3b8720a689554dc1d8444ebe1945dc0a1cfc2d004466767d"), looks := false }, kinds := [], alts := [], laidByText := true, laidKinds := [.data], laidTests := true, laidLooks := .later }
def TransitionsDetectsCardSaid : Prop := Claim7.holds Tryz.pinned (.plain (OpenSpec.ofChange transitionsDetectsSpec)) transitionsDetectsCard

/-- THE TIED CARD OF 'probecardlaw18.TransitionsAll'. -/
def transitionsAllCard : Claim7 := { stood := { row := transitionsAllRow, standIns := [], harness := (true, "abc1ea43d340adcc3b8720a689554dc1d8444ebe1945dc0a1cfc2d004466767d"), looks := false }, kinds := [], alts := [], laidByText := true, laidKinds := [.data], laidTests := true, laidLooks := .later }
def TransitionsAllCardSaid : Prop := Claim7.holds Tryz.pinned (.plain (OpenSpec.ofChange transitionsAllSpec)) transitionsAllCard

/-- THE TIED CARD OF 'probecardlaw13.InjectRun'. -/
def injectRunCard : Claim7 := { stood := { row := injectRunRow, standIns := [], harness := (true, "abc1ea43d340adcc3b8720a689554dc1d8444ebe1945dc0a1cfc2d004466767d"), looks := false }, kinds := [], alts := [], laidByText := true, laidKinds := [.data, .data, .data, .data], laidTests := true, laidLooks := .later }
def InjectRunCardSaid : Prop := Claim7.holds Tryz.pinned (.plain (OpenSpec.ofChange injectRunSpec)) injectRunCard

/-- THE TIED CARD OF 'probecardlaw13.InjectDetects'. -/
def injectDetectsCard : Claim7 := { stood := { row := injectDetectsRow, standIns := [], harness := (true, "abc1ea43d340adcc3b8720a689554dc1d8444ebe1945dc0a1cfc2d004466767d"), looks := false }, kinds := [], alts := [], laidByText := true, laidKinds := [.data, .data, .data, .data], laidTests := true, laidLooks := .later }
def InjectDetectsCardSaid : Prop := Claim7.holds Tryz.pinned (.plain (OpenSpec.ofChange injectDetectsSpec)) injectDetectsCard

/-- THE TIED CARD OF 'probecardlaw13.InjectMore'. -/
def injectMoreCard : Claim7 := { stood := { row := injectMoreRow, standIns := [], harness := (true, "abc1ea43d340adcc3b8720a689554dc1d8444ebe1945dc0a1cfc2d004466767d"), looks := false }, kinds := [], alts := [], laidByText := true, laidKinds := [.data, .data, .data, .data], laidTests := true, laidLooks := .later }
def InjectMoreCardSaid : Prop := Claim7.holds Tryz.pinned (.plain (OpenSpec.ofChange injectMoreSpec)) injectMoreCard

/-- THE TIED CARD OF 'probecardlaw13.InjectSlow'. -/
def injectSlowCard : Claim7 := { stood := { row := injectSlowRow, standIns := [], harness := (true, "abc1ea43d340adcc3b8720a689554dc1d8444ebe1945dc0a1cfc2d004466767d"), looks := false }, kinds := [], alts := [], laidByText := true, laidKinds := [.data, .data, .data, .data], laidTests := true, laidLooks := .later }
def InjectSlowCardSaid : Prop := Claim7.holds Tryz.pinned (.plain (OpenSpec.ofChange injectSlowSpec)) injectSlowCard

/-- THE TIED CARD OF 'probecardlaw13.InjectPair'. -/
def injectPairCard : Claim7 := { stood := { row := injectPairRow, standIns := [], harness := (true, "abc1ea43d340adcc3b8720a689554dc1d8444ebe1945dc0a1cfc2d004466767d"), looks := false }, kinds := [], alts := [], laidByText := true, laidKinds := [.data, .data, .data, .data], laidTests := true, laidLooks := .later }
def InjectPairCardSaid : Prop := Claim7.holds Tryz.pinned (.plain (OpenSpec.ofChange injectPairSpec)) injectPairCard

/-- THE SECOND FORM's CARD OF 'probecardlaw18.TransitionsCapture'. -/
def transitionsCaptureUptoCard : Claim7 := { stood := { row := transitionsCaptureUptoRow, standIns := [], harness := (true, "abc1ea43d340adcc3b8720a689554dc1d8444ebe1945dc0a1cfc2d004466767d"), looks := false }, kinds := [], alts := [], laidByText := true, laidKinds := [.data], laidTests := true, laidLooks := .later }
def TransitionsCaptureUptoCardSaid : Prop := Claim7.holds Tryz.pinned (.plain (OpenSpec.upto transitionsCaptureSpec)) transitionsCaptureUptoCard

/-- THE SECOND FORM's CARD OF 'probecardlaw18.TransitionsShift'. -/
def transitionsShiftUptoCard : Claim7 := { stood := { row := transitionsShiftUptoRow, standIns := [], harness := (true, "abc1ea43d340adcc3b8720a689554dc1d8444ebe1945dc0a1cfc2d004466767d"), looks := false }, kinds := [], alts := [], laidByText := true, laidKinds := [.data], laidTests := true, laidLooks := .later }
def TransitionsShiftUptoCardSaid : Prop := Claim7.holds Tryz.pinned (.plain (OpenSpec.upto transitionsShiftSpec)) transitionsShiftUptoCard

/-- THE SECOND FORM's CARD OF 'probecardlaw18.TransitionsLaunches'. -/
def transitionsLaunchesUptoCard : Claim7 := { stood := { row := transitionsLaunchesUptoRow, standIns := [], harness := (true, "abc1ea43d340adcc3b8720a689554dc1d8444ebe1945dc0a1cfc2d004466767d"), looks := false }, kinds := [], alts := [], laidByText := true, laidKinds := [.data], laidTests := true, laidLooks := .later }
def TransitionsLaunchesUptoCardSaid : Prop := Claim7.holds Tryz.pinned (.plain (OpenSpec.upto transitionsLaunchesSpec)) transitionsLaunchesUptoCard

/-- THE SECOND FORM's CARD OF 'probecardlaw18.TransitionsDetects'. -/
def transitionsDetectsUptoCard : Claim7 := { stood := { row := transitionsDetectsUptoRow, standIns := [], harness := (true, "abc1ea43d340adcc3b8720a689554dc1d8444ebe1945dc0a1cfc2d004466767d"), looks := false }, kinds := [], alts := [], laidByText := true, laidKinds := [.data], laidTests := true, laidLooks := .later }
def TransitionsDetectsUptoCardSaid : Prop := Claim7.holds Tryz.pinned (.plain (OpenSpec.upto transitionsDetectsSpec)) transitionsDetectsUptoCard

/-- THE SECOND FORM's CARD OF 'probecardlaw18.TransitionsAll'. -/
def transitionsAllUptoCard : Claim7 := { stood := { row := transitionsAllUptoRow, standIns := [], harness := (true, "abc1ea43d340adcc3b8720a689554dc1d8444ebe1945dc0a1cfc2d004466767d"), looks := false }, kinds := [], alts := [], laidByText := true, laidKinds := [.data], laidTests := true, laidLooks := .later }
def TransitionsAllUptoCardSaid : Prop := Claim7.holds Tryz.pinned (.plain (OpenSpec.upto transitionsAllSpec)) transitionsAllUptoCard

/-- THE SECOND FORM's CARD OF 'probecardlaw13.InjectRun'. -/
def injectRunUptoCard : Claim7 := { stood := { row := injectRunUptoRow, standIns := [], harness := (true, "abc1ea43d340adcc3b8720a689554dc1d8444ebe1945dc0a1cfc2d004466767d"), looks := false }, kinds := [], alts := [], laidByText := true, laidKinds := [.data, .data, .data, .data], laidTests := true, laidLooks := .later }
def InjectRunUptoCardSaid : Prop := Claim7.holds Tryz.pinned (.plain (OpenSpec.upto injectRunSpec)) injectRunUptoCard

/-- THE SECOND FORM's CARD OF 'probecardlaw13.InjectDetects'. -/
def injectDetectsUptoCard : Claim7 := { stood := { row := injectDetectsUptoRow, standIns := [], harness := (true, "abc1ea43d340adcc3b8720a689554dc1d8444ebe1945dc0a1cfc2d004466767d"), looks := false }, kinds := [], alts := [], laidByText := true, laidKinds := [.data, .data, .data, .data], laidTests := true, laidLooks := .later }
def InjectDetectsUptoCardSaid : Prop := Claim7.holds Tryz.pinned (.plain (OpenSpec.upto injectDetectsSpec)) injectDetectsUptoCard

/-- THE SECOND FORM's CARD OF 'probecardlaw13.InjectMore'. -/
def injectMoreUptoCard : Claim7 := { stood := { row := injectMoreUptoRow, standIns := [], harness := (true, "abc1ea43d340adcc3b8720a689554dc1d8444ebe1945dc0a1cfc2d004466767d"), looks := false }, kinds := [], alts := [], laidByText := true, laidKinds := [.data, .data, .data, .data], laidTests := true, laidLooks := .later }
def InjectMoreUptoCardSaid : Prop := Claim7.holds Tryz.pinned (.plain (OpenSpec.upto injectMoreSpec)) injectMoreUptoCard

/-- THE SECOND FORM's CARD OF 'probecardlaw13.InjectSlow'. -/
def injectSlowUptoCard : Claim7 := { stood := { row := injectSlowUptoRow, standIns := [], harness := (true, "abc1ea43d340adcc3b8720a689554dc1d8444ebe1945dc0a1cfc2d004466767d"), looks := false }, kinds := [], alts := [], laidByText := true, laidKinds := [.data, .data, .data, .data], laidTests := true, laidLooks := .later }
def InjectSlowUptoCardSaid : Prop := Claim7.holds Tryz.pinned (.plain (OpenSpec.upto injectSlowSpec)) injectSlowUptoCard

/-- THE SECOND FORM's CARD OF 'probecardlaw13.InjectPair'. -/
def injectPairUptoCard : Claim7 := { stood := { row := injectPairUptoRow, standIns := [], harness := (true, "abc1ea43d340adcc3b8720a689554dc1d8444ebe1945dc0a1cfc2d004466767d"), looks := false }, kinds := [], alts := [], laidByText := true, laidKinds := [.data, .data, .data, .data], laidTests := true, laidLooks := .later }
def InjectPairUptoCardSaid : Prop := Claim7.holds Tryz.pinned (.plain (OpenSpec.upto injectPairSpec)) injectPairUptoCard
end Rows
end Go.Proofs.YtekbgkainigfnaaGreatDoor
