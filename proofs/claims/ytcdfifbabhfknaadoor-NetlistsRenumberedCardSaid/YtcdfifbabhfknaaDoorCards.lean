/-
  DERIVED. GIVEN WITH THE SEED: THE CARDS: each row of YtcdfifbabhfknaaDoorRows.lean that lists a variable, with what it lists TIED to the program's text (the seventh form; the later family's looks); each row that meets fmt, with fmt's text TOLD by the authors' own Lean function (tested against real Go, not proved from fmt's source: count such statements apart). THE CARD IS WHAT COUNTS. Prove the row's statement (the work); the ties are given (YtcdfifbabhfknaaDoorTie.lean); close each card by the builder's one call (the guide's Derived/Test/ToyasCard.lean, 'card_holds'). Laid BY PROGRAM, IN A SANDBOX (cutbox-door.mjs). By AI agents, Wed Nov 11 2026. No macro, syntax, notation, axiom, sorry.
-/
import Derived.Test.YtcdfifbabhfknaaDoorRows
import GoSem.ClaimSeven
namespace Go.Proofs.YtcdfifbabhfknaaDoor
namespace Rows

/-- THE TIED CARD OF 'probecardlaw03.NetlistsCheck'. -/
def netlistsCheckCard : Claim7 := { stood := { row := netlistsCheckRow, standIns := [], harness := (true, "852869022615f2910285852ad5bd7d4823edb972160dd035935179f480eaa199"), looks := false }, kinds := [], alts := [], laidByText := true, laidKinds := [.data], laidTests := true, laidLooks := .later }
def NetlistsCheckCardSaid : Prop := Claim7.holds Tryd.pinned (.plain (OpenSpec.ofChange netlistsCheckSpec)) netlistsCheckCard

/-- THE TIED CARD OF 'probecardlaw03.NetlistsLists'. -/
def netlistsListsCard : Claim7 := { stood := { row := netlistsListsRow, standIns := [], harness := (true, "852869022615f2910285852ad5bd7d4823edb972160dd035935179f480eaa199"), looks := false }, kinds := [], alts := [], laidByText := true, laidKinds := [.data], laidTests := true, laidLooks := .later }
def NetlistsListsCardSaid : Prop := Claim7.holds Tryd.pinned (.plain (OpenSpec.ofChange netlistsListsSpec)) netlistsListsCard

/-- THE TIED CARD OF 'probecardlaw03.NetlistsOrder'. -/
def netlistsOrderCard : Claim7 := { stood := { row := netlistsOrderRow, standIns := [], harness := (true, "852869022615f2910285852ad5bd7d4823edb972160dd035935179f480eaa199"), looks := false }, kinds := [], alts := [], laidByText := true, laidKinds := [.data], laidTests := true, laidLooks := .later }
def NetlistsOrderCardSaid : Prop := Claim7.holds Tryd.pinned (.plain (OpenSpec.ofChange netlistsOrderSpec)) netlistsOrderCard

/-- THE TIED CARD OF 'probecardlaw03.NetlistsLoops'. -/
def netlistsLoopsCard : Claim7 := { stood := { row := netlistsLoopsRow, standIns := [], harness := (true, "852869022615f2910285852ad5bd7d4823edb972160dd035935179f480eaa199"), looks := false }, kinds := [], alts := [], laidByText := true, laidKinds := [.data], laidTests := true, laidLooks := .later }
def NetlistsLoopsCardSaid : Prop := Claim7.holds Tryd.pinned (.plain (OpenSpec.ofChange netlistsLoopsSpec)) netlistsLoopsCard

/-- THE TIED CARD OF 'probecardlaw03.NetlistsRenumbered'. -/
def netlistsRenumberedCard : Claim7 := { stood := { row := netlistsRenumberedRow, standIns := [], harness := (true, "852869022615f2910285852ad5bd7d4823edb972160dd035935179f480eaa199"), looks := false }, kinds := [], alts := [], laidByText := true, laidKinds := [.data], laidTests := true, laidLooks := .later }
def NetlistsRenumberedCardSaid : Prop := Claim7.holds Tryd.pinned (.plain (OpenSpec.ofChange netlistsRenumberedSpec)) netlistsRenumberedCard

/-- THE TIED CARD OF 'probecardlaw03.NetlistsSpoil'. -/
def netlistsSpoilCard : Claim7 := { stood := { row := netlistsSpoilRow, standIns := [], harness := (true, "852869022615f2910285852ad5bd7d4823edb972160dd035935179f480eaa199"), looks := false }, kinds := [], alts := [], laidByText := true, laidKinds := [.data], laidTests := true, laidLooks := .later }
def NetlistsSpoilCardSaid : Prop := Claim7.holds Tryd.pinned (.plain (OpenSpec.ofChange netlistsSpoilSpec)) netlistsSpoilCard

/-- THE TIED CARD OF 'probecardlaw03.NetlistsNames'. -/
def netlistsNamesCard : Claim7 := { stood := { row := netlistsNamesRow, standIns := [], harness := (true, "852869022615f2910285852ad5bd7d4823edb972160dd035935179f480eaa199"), looks := false }, kinds := [], alts := [], laidByText := true, laidKinds := [.data], laidTests := true, laidLooks := .later }
def NetlistsNamesCardSaid : Prop := Claim7.holds Tryd.pinned (.plain (OpenSpec.ofChange netlistsNamesSpec)) netlistsNamesCard

/-- THE TIED CARD OF 'probecardlaw03.NetlistsCopy'. -/
def netlistsCopyCard : Claim7 := { stood := { row := netlistsCopyRow, standIns := [], harness := (true, "852869022615f2910285852ad5bd7d4823edb972160dd035935179f480eaa199"), looks := false }, kinds := [], alts := [], laidByText := true, laidKinds := [.data], laidTests := true, laidLooks := .later }
def NetlistsCopyCardSaid : Prop := Claim7.holds Tryd.pinned (.plain (OpenSpec.ofChange netlistsCopySpec)) netlistsCopyCard

/-- THE SECOND FORM's CARD OF 'probecardlaw03.NetlistsCheck'. -/
def netlistsCheckUptoCard : Claim7 := { stood := { row := netlistsCheckUptoRow, standIns := [], harness := (true, "852869022615f2910285852ad5bd7d4823edb972160dd035935179f480eaa199"), looks := false }, kinds := [], alts := [], laidByText := true, laidKinds := [.data], laidTests := true, laidLooks := .later }
def NetlistsCheckUptoCardSaid : Prop := Claim7.holds Tryd.pinned (.plain (OpenSpec.upto netlistsCheckSpec)) netlistsCheckUptoCard

/-- THE SECOND FORM's CARD OF 'probecardlaw03.NetlistsLists'. -/
def netlistsListsUptoCard : Claim7 := { stood := { row := netlistsListsUptoRow, standIns := [], harness := (true, "852869022615f2910285852ad5bd7d4823edb972160dd035935179f480eaa199"), looks := false }, kinds := [], alts := [], laidByText := true, laidKinds := [.data], laidTests := true, laidLooks := .later }
def NetlistsListsUptoCardSaid : Prop := Claim7.holds Tryd.pinned (.plain (OpenSpec.upto netlistsListsSpec)) netlistsListsUptoCard

/-- THE SECOND FORM's CARD OF 'probecardlaw03.NetlistsOrder'. -/
def netlistsOrderUptoCard : Claim7 := { stood := { row := netlistsOrderUptoRow, standIns := [], harness := (true, "852869022615f2910285852ad5bd7d4823edb972160dd035935179f480eaa199"), looks := false }, kinds := [], alts := [], laidByText := true, laidKinds := [.data], laidTests := true, laidLooks := .later }
def NetlistsOrderUptoCardSaid : Prop := Claim7.holds Tryd.pinned (.plain (OpenSpec.upto netlistsOrderSpec)) netlistsOrderUptoCard

/-- THE SECOND FORM's CARD OF 'probecardlaw03.NetlistsLoops'. -/
def netlistsLoopsUptoCard : Claim7 := { stood := { row := netlistsLoopsUptoRow, standIns := [], harness := (true, "852869022615f2910285852ad5bd7d4823edb972160dd035935179f480eaa199"), looks := false }, kinds := [], alts := [], laidByText := true, laidKinds := [.data], laidTests := true, laidLooks := .later }
def NetlistsLoopsUptoCardSaid : Prop := Claim7.holds Tryd.pinned (.plain (OpenSpec.upto netlistsLoopsSpec)) netlistsLoopsUptoCard

/-- THE SECOND FORM's CARD OF 'probecardlaw03.NetlistsRenumbered'. -/
def netlistsRenumberedUptoCard : Claim7 := { stood := { row := netlistsRenumberedUptoRow, standIns := [], harness := (true, "852869022615f2910285852ad5bd7d4823edb972160dd035935179f480eaa199"), looks := false }, kinds := [], alts := [], laidByText := true, laidKinds := [.data], laidTests := true, laidLooks := .later }
def NetlistsRenumberedUptoCardSaid : Prop := Claim7.holds Tryd.pinned (.plain (OpenSpec.upto netlistsRenumberedSpec)) netlistsRenumberedUptoCard

/-- THE SECOND FORM's CARD OF 'probecardlaw03.NetlistsSpoil'. -/
def netlistsSpoilUptoCard : Claim7 := { stood := { row := netlistsSpoilUptoRow, standIns := [], harness := (true, "852869022615f2910285852ad5bd7d4823edb972160dd035935179f480eaa199"), looks := false }, kinds := [], alts := [], laidByText := true, laidKinds := [.data], laidTests := true, laidLooks := .later }
def NetlistsSpoilUptoCardSaid : Prop := Claim7.holds Tryd.pinned (.plain (OpenSpec.upto netlistsSpoilSpec)) netlistsSpoilUptoCard

/-- THE SECOND FORM's CARD OF 'probecardlaw03.NetlistsNames'. -/
def netlistsNamesUptoCard : Claim7 := { stood := { row := netlistsNamesUptoRow, standIns := [], harness := (true, "852869022615f2910285852ad5bd7d4823edb972160dd035935179f480eaa199"), looks := false }, kinds := [], alts := [], laidByText := true, laidKinds := [.data], laidTests := true, laidLooks := .later }
def NetlistsNamesUptoCardSaid : Prop := Claim7.holds Tryd.pinned (.plain (OpenSpec.upto netlistsNamesSpec)) netlistsNamesUptoCard

/-- THE SECOND FORM's CARD OF 'probecardlaw03.NetlistsCopy'. -/
def netlistsCopyUptoCard : Claim7 := { stood := { row := netlistsCopyUptoRow, standIns := [], harness := (true, "852869022615f2910285852ad5bd7d4823edb972160dd035935179f480eaa199"), looks := false }, kinds := [], alts := [], laidByText := true, laidKinds := [.data], laidTests := true, laidLooks := .later }
def NetlistsCopyUptoCardSaid : Prop := Claim7.holds Tryd.pinned (.plain (OpenSpec.upto netlistsCopySpec)) netlistsCopyUptoCard
end Rows
end Go.Proofs.YtcdfifbabhfknaaDoor
