/-
  DERIVED. GIVEN WITH THE SEED: THE CARDS: each row of YtmbgmfenlededaaGreatDoorRows.lean that lists a variable, with what it lists TIED to the program's text (the seventh form; the later family's looks); each row that meets fmt, with fmt's text TOLD by the authors' own Lean function (tested against real Go, not proved from fmt's source: count such statements apart). THE CARD IS WHAT COUNTS. Prove the row's statement (the work); the ties are given (YtmbgmfenlededaaGreatDoorTie.lean); close each card by the builder's one call (the guide's Derived/Test/ToyasCard.lean, 'card_holds'). Laid BY PROGRAM, IN A SANDBOX (cutbox-door.mjs). By AI agents, Wed Nov 11 2026. No macro, syntax, notation, axiom, sorry.
-/
import Derived.Test.YtmbgmfenlededaaGreatDoorRows
import GoSem.ClaimSeven
namespace Go.Proofs.YtmbgmfenlededaaGreatDoor
namespace Rows

/-- THE TIED CARD OF 'probecardlaw07.WordsEval'. -/
def wordsEvalCard : Claim7 := { stood := { row := wordsEvalRow, standIns := [], harness := (true, "fdbd2d1b8da0c546a7df4e9e4d18cf085de006782280686e0a3fe2a64a8d2087"), looks := false }, kinds := [], alts := [], laidByText := true, laidKinds := [.data, .data], laidTests := true, laidLooks := .later }
def WordsEvalCardSaid : Prop := Claim7.holds Tryz.pinned (.plain (OpenSpec.ofChange wordsEvalSpec)) wordsEvalCard

/-- THE TIED CARD OF 'probecardlaw07.WordsPairs'. -/
def wordsPairsCard : Claim7 := { stood := { row := wordsPairsRow, standIns := [], harness := (true, "fdbd2d1b8da0c546a7df4e9e4d18cf085de006782280686e0a3fe2a64a8d2087"), looks := false }, kinds := [], alts := [], laidByText := true, laidKinds := [.data, .data], laidTests := true, laidLooks := .later }
def WordsPairsCardSaid : Prop := Claim7.holds Tryz.pinned (.plain (OpenSpec.ofChange wordsPairsSpec)) wordsPairsCard

/-- THE TIED CARD OF 'probecardlaw07.WordsRun'. -/
def wordsRunCard : Claim7 := { stood := { row := wordsRunRow, standIns := [], harness := (true, "fdbd2d1b8da0c546a7df4e9e4d18cf085de006782280686e0a3fe2a64a8d2087"), looks := false }, kinds := [], alts := [], laidByText := true, laidKinds := [.data, .data], laidTests := true, laidLooks := .later }
def WordsRunCardSaid : Prop := Claim7.holds Tryz.pinned (.plain (OpenSpec.ofChange wordsRunSpec)) wordsRunCard

/-- THE SECOND FORM's CARD OF 'probecardlaw07.WordsEval'. -/
def wordsEvalUptoCard : Claim7 := { stood := { row := wordsEvalUptoRow, standIns := [], harness := (true, "fdbd2d1b8da0c546a7df4e9e4d18cf085de006782280686e0a3fe2a64a8d2087"), looks := false }, kinds := [], alts := [], laidByText := true, laidKinds := [.data, .data], laidTests := true, laidLooks := .later }
def WordsEvalUptoCardSaid : Prop := Claim7.holds Tryz.pinned (.plain (OpenSpec.upto wordsEvalSpec)) wordsEvalUptoCard

/-- THE SECOND FORM's CARD OF 'probecardlaw07.WordsPairs'. -/
def wordsPairsUptoCard : Claim7 := { stood := { row := wordsPairsUptoRow, standIns := [], harness := (true, "fdbd2d1b8da0c546a7df4e9e4d18cf085de006782280686e0a3fe2a64a8d2087"), looks := false }, kinds := [], alts := [], laidByText := true, laidKinds := [.data, .data], laidTests := true, laidLooks := .later }
def WordsPairsUptoCardSaid : Prop := Claim7.holds Tryz.pinned (.plain (OpenSpec.upto wordsPairsSpec)) wordsPairsUptoCard

/-- THE SECOND FORM's CARD OF 'probecardlaw07.WordsRun'. -/
def wordsRunUptoCard : Claim7 := { stood := { row := wordsRunUptoRow, standIns := [], harness := (true, "fdbd2d1b8da0c546a7df4e9e4d18cf085de006782280686e0a3fe2a64a8d2087"), looks := false }, kinds := [], alts := [], laidByText := true, laidKinds := [.data, .data], laidTests := true, laidLooks := .later }
def WordsRunUptoCardSaid : Prop := Claim7.holds Tryz.pinned (.plain (OpenSpec.upto wordsRunSpec)) wordsRunUptoCard
end Rows
end Go.Proofs.YtmbgmfenlededaaGreatDoor
