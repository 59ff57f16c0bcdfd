/-
  DERIVED. GIVEN WITH THE SEED: THE CARDS: each row of YtlmniacemoohpaaGreatDoorRows.lean that lists a variable, with what it lists TIED to the program's text (the seventh form; the later family's looks); each row that meets fmt, with fmt's text TOLD by the authors' own Lean function (tested against real Go, not proved from fmt's source: count such statements apart). THE CARD IS WHAT COUNTS. Prove the row's statement (the work); the ties are given (YtlmniacemoohpaaGreatDoorTie.lean); close each card by the builder's one call (the guide's Derived/Test/ToyasCard.lean, 'card_holds'). Laid BY PROGRAM, IN A SANDBOX (cutbox-door.mjs). By AI agents, Wed Nov 11 2026. No macro, syntax, notation, axiom, sorry.
-/
import Derived.Test.YtlmniacemoohpaaGreatDoorRows
import GoSem.ClaimSeven
namespace Go.Proofs.YtlmniacemoohpaaGreatDoor
namespace Rows

/-- THE TIED CARD OF 'probecardlaw19.BridgesDetects'. -/
def bridgesDetectsCard : Claim7 := { stood := { row := bridgesDetectsRow, standIns := [], harness := (true, "e7f7249ec469dea465e3e7baca209a050975bab47c0b866e784ab228fccb13ea"), looks := false }, kinds := [], alts := [], laidByText := true, laidKinds := [.data], laidTests := true, laidLooks := .later }
def BridgesDetectsCardSaid : Prop := Claim7.holds Tryz.pinned (.plain (OpenSpec.ofChange bridgesDetectsSpec)) bridgesDetectsCard

/-- THE TIED CARD OF 'probecardlaw19.BridgesStuck'. -/
def bridgesStuckCard : Claim7 := { stood := { row := bridgesStuckRow, standIns := [], harness := (true, "e7f7249ec469dea465e3e7baca209a050975bab47c0b866e784ab228fccb13ea"), looks := false }, kinds := [], alts := [], laidByText := true, laidKinds := [.data], laidTests := true, laidLooks := .later }
def BridgesStuckCardSaid : Prop := Claim7.holds Tryz.pinned (.plain (OpenSpec.ofChange bridgesStuckSpec)) bridgesStuckCard

/-- THE TIED CARD OF 'probecardlaw19.BridgesQuiescent'. -/
def bridgesQuiescentCard : Claim7 := { stood := { row := bridgesQuiescentRow, standIns := [], harness := (true, "e7f7249ec469dea465e3e7baca209a050975bab47c0b866e784ab228fccb13ea"), looks := false }, kinds := [], alts := [], laidByText := true, laidKinds := [.data], laidTests := true, laidLooks := .later }
def BridgesQuiescentCardSaid : Prop := Claim7.holds Tryz.pinned (.plain (OpenSpec.ofChange bridgesQuiescentSpec)) bridgesQuiescentCard

/-- THE TIED CARD OF 'probecardlaw19.BridgesFeedback'. -/
def bridgesFeedbackCard : Claim7 := { stood := { row := bridgesFeedbackRow, standIns := [], harness := (true, "e7f7249ec469dea465e3e7baca209a050975bab47c0b866e784ab228fccb13ea"), looks := false }, kinds := [], alts := [], laidByText := true, laidKinds := [.data], laidTests := true, laidLooks := .later }
def BridgesFeedbackCardSaid : Prop := Claim7.holds Tryz.pinned (.plain (OpenSpec.ofChange bridgesFeedbackSpec)) bridgesFeedbackCard

/-- THE TIED CARD OF 'probecardlaw19.BridgesPairs'. -/
def bridgesPairsCard : Claim7 := { stood := { row := bridgesPairsRow, standIns := [], harness := (true, "e7f7249ec469dea465e3e7baca209a050975bab47c0b866e784ab228fccb13ea"), looks := false }, kinds := [], alts := [], laidByText := true, laidKinds := [.data], laidTests := true, laidLooks := .later }
def BridgesPairsCardSaid : Prop := Claim7.holds Tryz.pinned (.plain (OpenSpec.ofChange bridgesPairsSpec)) bridgesPairsCard

/-- THE TIED CARD OF 'probecardlaw20.PathsCount'. -/
def pathsCountCard : Claim7 := { stood := { row := pathsCountRow, standIns := [], harness := (true, "e7f7249ec469dea465e3e7baca209a050975bab47c0b866e784ab228fccb13ea"), looks := false }, kinds := [], alts := [], laidByText := true, laidKinds := [.data], laidTests := true, laidLooks := .later }
def PathsCountCardSaid : Prop := Claim7.holds Tryz.pinned (.plain (OpenSpec.ofChange pathsCountSpec)) pathsCountCard

/-- THE TIED CARD OF 'probecardlaw20.PathsLongest'. -/
def pathsLongestCard : Claim7 := { stood := { row := pathsLongestRow, standIns := [], harness := (true, "e7f7249ec469dea465e3e7baca209a050975bab47c0b866e784ab228fccb13ea"), looks := false }, kinds := [], alts := [], laidByText := true, laidKinds := [.data], laidTests := true, laidLooks := .later }
def PathsLongestCardSaid : Prop := Claim7.holds Tryz.pinned (.plain (OpenSpec.ofChange pathsLongestSpec)) pathsLongestCard

/-- THE TIED CARD OF 'probecardlaw20.PathsCheck'. -/
def pathsCheckCard : Claim7 := { stood := { row := pathsCheckRow, standIns := [], harness := (true, "e7f7249ec469dea465e3e7baca209a050975bab47c0b866e784ab228fccb13ea"), looks := false }, kinds := [], alts := [], laidByText := true, laidKinds := [.data], laidTests := true, laidLooks := .later }
def PathsCheckCardSaid : Prop := Claim7.holds Tryz.pinned (.plain (OpenSpec.ofChange pathsCheckSpec)) pathsCheckCard

/-- THE TIED CARD OF 'probecardlaw20.PathsSteady'. -/
def pathsSteadyCard : Claim7 := { stood := { row := pathsSteadyRow, standIns := [], harness := (true, "e7f7249ec469dea465e3e7baca209a050975bab47c0b866e784ab228fccb13ea"), looks := false }, kinds := [], alts := [], laidByText := true, laidKinds := [.data], laidTests := true, laidLooks := .later }
def PathsSteadyCardSaid : Prop := Claim7.holds Tryz.pinned (.plain (OpenSpec.ofChange pathsSteadySpec)) pathsSteadyCard

/-- THE TIED CARD OF 'probecardlaw20.PathsRules'. -/
def pathsRulesCard : Claim7 := { stood := { row := pathsRulesRow, standIns := [], harness := (true, "e7f7249ec469dea465e3e7baca209a050975bab47c0b866e784ab228fccb13ea"), looks := false }, kinds := [], alts := [], laidByText := true, laidKinds := [.data], laidTests := true, laidLooks := .later }
def PathsRulesCardSaid : Prop := Claim7.holds Tryz.pinned (.plain (OpenSpec.ofChange pathsRulesSpec)) pathsRulesCard

/-- THE TIED CARD OF 'probecardlaw20.PathsTests'. -/
def pathsTestsCard : Claim7 := { stood := { row := pathsTestsRow, standIns := [], harness := (true, "e7f7249ec469dea465e3e7baca209a050975bab47c0b866e784ab228fccb13ea"), looks := false }, kinds := [], alts := [], laidByText := true, laidKinds := [.data], laidTests := true, laidLooks := .later }
def PathsTestsCardSaid : Prop := Claim7.holds Tryz.pinned (.plain (OpenSpec.ofChange pathsTestsSpec)) pathsTestsCard

/-- THE TIED CARD OF 'probecardlaw20.PathsKinds'. -/
def pathsKindsCard : Claim7 := { stood := { row := pathsKindsRow, standIns := [], harness := (true, "e7f7249ec469dea465e3e7baca209a050975bab47c0b866e784ab228fccb13ea"), looks := false }, kinds := [], alts := [], laidByText := true, laidKinds := [.data], laidTests := true, laidLooks := .later }
def PathsKindsCardSaid : Prop := Claim7.holds Tryz.pinned (.plain (OpenSpec.ofChange pathsKindsSpec)) pathsKindsCard

/-- THE SECOND FORM's CARD OF 'probecardlaw19.BridgesDetects'. -/
def bridgesDetectsUptoCard : Claim7 := { stood := { row := bridgesDetectsUptoRow, standIns := [], harness := (true, "e7f7249ec469dea465e3e7baca209a050975bab47c0b866e784ab228fccb13ea"), looks := false }, kinds := [], alts := [], laidByText := true, laidKinds := [.data], laidTests := true, laidLooks := .later }
def BridgesDetectsUptoCardSaid : Prop := Claim7.holds Tryz.pinned (.plain (OpenSpec.upto bridgesDetectsSpec)) bridgesDetectsUptoCard

/-- THE SECOND FORM's CARD OF 'probecardlaw19.BridgesStuck'. -/
def bridgesStuckUptoCard : Claim7 := { stood := { row := bridgesStuckUptoRow, standIns := [], harness := (true, "e7f7249ec469dea465e3e7baca209a050975bab47c0b866e784ab228fccb13ea"), looks := false }, kinds := [], alts := [], laidByText := true, laidKinds := [.data], laidTests := true, laidLooks := .later }
def BridgesStuckUptoCardSaid : Prop := Claim7.holds Tryz.pinned (.plain (OpenSpec.upto bridgesStuckSpec)) bridgesStuckUptoCard

/-- THE SECOND FORM's CARD OF 'probecardlaw19.BridgesQuiescent'. -/
def bridgesQuiescentUptoCard : Claim7 := { stood := { row := bridgesQuiescentUptoRow, standIns := [], harness := (true, "e7f7249ec469dea465e3e7baca209a050975bab47c0b866e784ab228fccb13ea"), looks := false }, kinds := [], alts := [], laidByText := true, laidKinds := [.data], laidTests := true, laidLooks := .later }
def BridgesQuiescentUptoCardSaid : Prop := Claim7.holds Tryz.pinned (.plain (OpenSpec.upto bridgesQuiescentSpec)) bridgesQuiescentUptoCard

/-- THE SECOND FORM's CARD OF 'probecardlaw19.BridgesFeedback'. -/
def bridgesFeedbackUptoCard : Claim7 := { stood := { row := bridgesFeedbackUptoRow, standIns := [], harness := (true, "e7f7249ec469dea465e3e7baca209a050975bab47c0b866e784ab228fccb13ea"), looks := false }, kinds := [], alts := [], laidByText := true, laidKinds := [.data], laidTests := true, laidLooks := .later }
def BridgesFeedbackUptoCardSaid : Prop := Claim7.holds Tryz.pinned (.plain (OpenSpec.upto bridgesFeedbackSpec)) bridgesFeedbackUptoCard

/-- THE SECOND FORM's CARD OF 'probecardlaw19.BridgesPairs'. -/
def bridgesPairsUptoCard : Claim7 := { stood := { row := bridgesPairsUptoRow, standIns := [], harness := (true, "e7f7249ec469dea465e3e7baca209a050975bab47c0b866e784ab228fccb13ea"), looks := false }, kinds := [], alts := [], laidByText := true, laidKinds := [.data], laidTests := true, laidLooks := .later }
def BridgesPairsUptoCardSaid : Prop := Claim7.holds Tryz.pinned (.plain (OpenSpec.upto bridgesPairsSpec)) bridgesPairsUptoCard

/-- THE SECOND FORM's CARD OF 'probecardlaw20.PathsCount'. -/
def pathsCountUptoCard : Claim7 := { stood := { row := pathsCountUptoRow, standIns := [], harness := (true, "e7f7249ec469dea465e3e7baca209a050975bab47c0b866e784ab228fccb13ea"), looks := false }, kinds := [], alts := [], laidByText := true, laidKinds := [.data], laidTests := true, laidLooks := .later }
def PathsCountUptoCardSaid : Prop := Claim7.holds Tryz.pinned (.plain (OpenSpec.upto pathsCountSpec)) pathsCountUptoCard

/-- THE SECOND FORM's CARD OF 'probecardlaw20.PathsLongest'. -/
def pathsLongestUptoCard : Claim7 := { stood := { row := pathsLongestUptoRow, standIns := [], harness := (true, "e7f7249ec469dea465e3e7baca209a050975bab47c0b866e784ab228fccb13ea"), looks := false }, kinds := [], alts := [], laidByText := true, laidKinds := [.data], laidTests := true, laidLooks := .later }
def PathsLongestUptoCardSaid : Prop := Claim7.holds Tryz.pinned (.plain (OpenSpec.upto pathsLongestSpec)) pathsLongestUptoCard

/-- THE SECOND FORM's CARD OF 'probecardlaw20.PathsCheck'. -/
def pathsCheckUptoCard : Claim7 := { stood := { row := pathsCheckUptoRow, standIns := [], harness := (true, "e7f7249ec469dea465e3e7baca209a050975bab47c0b866e784ab228fccb13ea"), looks := false }, kinds := [], alts := [], laidByText := true, laidKinds := [.data], laidTests := true, laidLooks := .later }
def PathsCheckUptoCardSaid : Prop := Claim7.holds Tryz.pinned (.plain (OpenSpec.upto pathsCheckSpec)) pathsCheckUptoCard

/-- THE SECOND FORM's CARD OF 'probecardlaw20.PathsSteady'. -/
def pathsSteadyUptoCard : Claim7 := { stood := { row := pathsSteadyUptoRow, standIns := [], harness := (true, "e7f7249ec469dea465e3e7baca209a050975bab47c0b866e784ab228fccb13ea"), looks := false }, kinds := [], alts := [], laidByText := true, laidKinds := [.data], laidTests := true, laidLooks := .later }
def PathsSteadyUptoCardSaid : Prop := Claim7.holds Tryz.pinned (.plain (OpenSpec.upto pathsSteadySpec)) pathsSteadyUptoCard

/-- THE SECOND FORM's CARD OF 'probecardlaw20.PathsRules'. -/
def pathsRulesUptoCard : Claim7 := { stood := { row := pathsRulesUptoRow, standIns := [], harness := (true, "e7f7249ec469dea465e3e7baca209a050975bab47c0b866e784ab228fccb13ea"), looks := false }, kinds := [], alts := [], laidByText := true, laidKinds := [.data], laidTests := true, laidLooks := .later }
def PathsRulesUptoCardSaid : Prop := Claim7.holds Tryz.pinned (.plain (OpenSpec.upto pathsRulesSpec)) pathsRulesUptoCard

/-- THE SECOND FORM's CARD OF 'probecardlaw20.PathsTests'. -/
def pathsTestsUptoCard : Claim7 := { stood := { row := pathsTestsUptoRow, standIns := [], harness := (true, "e7f7249ec469dea465e3e7baca209a050975bab47c0b866e784ab228fccb13ea"), looks := false }, kinds := [], alts := [], laidByText := true, laidKinds := [.data], laidTests := true, laidLooks := .later }
def PathsTestsUptoCardSaid : Prop := Claim7.holds Tryz.pinned (.plain (OpenSpec.upto pathsTestsSpec)) pathsTestsUptoCard

/-- THE SECOND FORM's CARD OF 'probecardlaw20.PathsKinds'. -/
def pathsKindsUptoCard : Claim7 := { stood := { row := pathsKindsUptoRow, standIns := [], harness := (true, "e7f7249ec469dea465e3e7baca209a050975bab47c0b866e784ab228fccb13ea"), looks := false }, kinds := [], alts := [], laidByText := true, laidKinds := [.data], laidTests := true, laidLooks := .later }
def PathsKindsUptoCardSaid : Prop := Claim7.holds Tryz.pinned (.plain (OpenSpec.upto pathsKindsSpec)) pathsKindsUptoCard
end Rows
end Go.Proofs.YtlmniacemoohpaaGreatDoor
