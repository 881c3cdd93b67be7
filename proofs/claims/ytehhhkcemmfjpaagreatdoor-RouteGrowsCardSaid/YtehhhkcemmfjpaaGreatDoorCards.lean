/-
  DERIVED. GIVEN WITH THE SEED: THE CARDS: each row of YtehhhkcemmfjpaaGreatDoorRows.lean that lists a variable, with what it lists TIED to the program's text (the seventh form; the later family's looks); each row that meets fmt, with fmt's text TOLD by the authors' own Lean function (tested against real Go, not proved from fmt's source: count such statements apart). THE CARD IS WHAT COUNTS. Prove the row's statement (the work); the ties are given (YtehhhkcemmfjpaaGreatDoorTie.lean); close each card by the builder's one call (the guide's Derived/Test/ToyasCard.lean, 'card_holds'). Laid BY PROGRAM, IN A SANDBOX (cutbox-door.mjs). By AI agents, Wed Nov 11 2026. No macro, syntax, notation, axiom, sorry.
-/
import Derived.Test.YtehhhkcemmfjpaaGreatDoorRows
import GoSem.ClaimSeven
namespace Go.Proofs.YtehhhkcemmfjpaaGreatDoor
namespace Rows

/-- THE TIED CARD OF 'staithlaw07.BindActs'. -/
def bindActsCard : Claim7 := { stood := { row := bindActsRow, standIns := [], harness := (true, "942d7b6e014881ccf807c4f167beb6036eeacfc8547e93a8ea1b8e4ad89c75c9"), looks := true }, kinds := [], alts := [], laidByText := true, laidKinds := [.data, .pinned], laidTests := true, laidLooks := .later }
def BindActsCardSaid : Prop := Claim7.holds Tryz.pinned (.plain (OpenSpec.ofChange bindActsSpec)) bindActsCard

/-- THE TIED CARD OF 'staithlaw07.BindHolds'. -/
def bindHoldsCard : Claim7 := { stood := { row := bindHoldsRow, standIns := [], harness := (true, "942d7b6e014881ccf807c4f167beb6036eeacfc8547e93a8ea1b8e4ad89c75c9"), looks := true }, kinds := [], alts := [], laidByText := true, laidKinds := [.data, .pinned], laidTests := true, laidLooks := .later }
def BindHoldsCardSaid : Prop := Claim7.holds Tryz.pinned (.plain (OpenSpec.ofChange bindHoldsSpec)) bindHoldsCard

/-- THE TIED CARD OF 'staithlaw07.BindUndoes'. -/
def bindUndoesCard : Claim7 := { stood := { row := bindUndoesRow, standIns := [], harness := (true, "942d7b6e014881ccf807c4f167beb6036eeacfc8547e93a8ea1b8e4ad89c75c9"), looks := true }, kinds := [], alts := [], laidByText := true, laidKinds := [.data, .pinned], laidTests := true, laidLooks := .later }
def BindUndoesCardSaid : Prop := Claim7.holds Tryz.pinned (.plain (OpenSpec.ofChange bindUndoesSpec)) bindUndoesCard

/-- THE TIED CARD OF 'staithlaw08.RouteQueues'. -/
def routeQueuesCard : Claim7 := { stood := { row := routeQueuesRow, standIns := [], harness := (true, "942d7b6e014881ccf807c4f167beb6036eeacfc8547e93a8ea1b8e4ad89c75c9"), looks := true }, kinds := [], alts := [], laidByText := true, laidKinds := [.data, .pinned], laidTests := true, laidLooks := .later }
def RouteQueuesCardSaid : Prop := Claim7.holds Tryz.pinned (.plain (OpenSpec.ofChange routeQueuesSpec)) routeQueuesCard

/-- THE TIED CARD OF 'staithlaw08.RouteFits'. -/
def routeFitsCard : Claim7 := { stood := { row := routeFitsRow, standIns := [], harness := (true, "942d7b6e014881ccf807c4f167beb6036eeacfc8547e93a8ea1b8e4ad89c75c9"), looks := true }, kinds := [], alts := [], laidByText := true, laidKinds := [.data, .pinned], laidTests := true, laidLooks := .later }
def RouteFitsCardSaid : Prop := Claim7.holds Tryz.pinned (.plain (OpenSpec.ofChange routeFitsSpec)) routeFitsCard

/-- THE TIED CARD OF 'staithlaw08.RouteSames'. -/
def routeSamesCard : Claim7 := { stood := { row := routeSamesRow, standIns := [], harness := (true, "942d7b6e014881ccf807c4f167beb6036eeacfc8547e93a8ea1b8e4ad89c75c9"), looks := true }, kinds := [], alts := [], laidByText := true, laidKinds := [.data, .pinned], laidTests := true, laidLooks := .later }
def RouteSamesCardSaid : Prop := Claim7.holds Tryz.pinned (.plain (OpenSpec.ofChange routeSamesSpec)) routeSamesCard

/-- THE TIED CARD OF 'staithlaw08.RouteGrows'. -/
def routeGrowsCard : Claim7 := { stood := { row := routeGrowsRow, standIns := [], harness := (true, "942d7b6e014881ccf807c4f167beb6036eeacfc8547e93a8ea1b8e4ad89c75c9"), looks := true }, kinds := [], alts := [], laidByText := true, laidKinds := [.data, .pinned], laidTests := true, laidLooks := .later }
def RouteGrowsCardSaid : Prop := Claim7.holds Tryz.pinned (.plain (OpenSpec.ofChange routeGrowsSpec)) routeGrowsCard

/-- THE SECOND FORM's CARD OF 'staithlaw07.BindActs'. -/
def bindActsUptoCard : Claim7 := { stood := { row := bindActsUptoRow, standIns := [], harness := (true, "942d7b6e014881ccf807c4f167beb6036eeacfc8547e93a8ea1b8e4ad89c75c9"), looks := true }, kinds := [], alts := [], laidByText := true, laidKinds := [.data, .pinned], laidTests := true, laidLooks := .later }
def BindActsUptoCardSaid : Prop := Claim7.holds Tryz.pinned (.plain (OpenSpec.upto bindActsSpec)) bindActsUptoCard

/-- THE SECOND FORM's CARD OF 'staithlaw07.BindHolds'. -/
def bindHoldsUptoCard : Claim7 := { stood := { row := bindHoldsUptoRow, standIns := [], harness := (true, "942d7b6e014881ccf807c4f167beb6036eeacfc8547e93a8ea1b8e4ad89c75c9"), looks := true }, kinds := [], alts := [], laidByText := true, laidKinds := [.data, .pinned], laidTests := true, laidLooks := .later }
def BindHoldsUptoCardSaid : Prop := Claim7.holds Tryz.pinned (.plain (OpenSpec.upto bindHoldsSpec)) bindHoldsUptoCard

/-- THE SECOND FORM's CARD OF 'staithlaw07.BindUndoes'. -/
def bindUndoesUptoCard : Claim7 := { stood := { row := bindUndoesUptoRow, standIns := [], harness := (true, "942d7b6e014881ccf807c4f167beb6036eeacfc8547e93a8ea1b8e4ad89c75c9"), looks := true }, kinds := [], alts := [], laidByText := true, laidKinds := [.data, .pinned], laidTests := true, laidLooks := .later }
def BindUndoesUptoCardSaid : Prop := Claim7.holds Tryz.pinned (.plain (OpenSpec.upto bindUndoesSpec)) bindUndoesUptoCard

/-- THE SECOND FORM's CARD OF 'staithlaw08.RouteQueues'. -/
def routeQueuesUptoCard : Claim7 := { stood := { row := routeQueuesUptoRow, standIns := [], harness := (true, "942d7b6e014881ccf807c4f167beb6036eeacfc8547e93a8ea1b8e4ad89c75c9"), looks := true }, kinds := [], alts := [], laidByText := true, laidKinds := [.data, .pinned], laidTests := true, laidLooks := .later }
def RouteQueuesUptoCardSaid : Prop := Claim7.holds Tryz.pinned (.plain (OpenSpec.upto routeQueuesSpec)) routeQueuesUptoCard

/-- THE SECOND FORM's CARD OF 'staithlaw08.RouteFits'. -/
def routeFitsUptoCard : Claim7 := { stood := { row := routeFitsUptoRow, standIns := [], harness := (true, "942d7b6e014881ccf807c4f167beb6036eeacfc8547e93a8ea1b8e4ad89c75c9"), looks := true }, kinds := [], alts := [], laidByText := true, laidKinds := [.data, .pinned], laidTests := true, laidLooks := .later }
def RouteFitsUptoCardSaid : Prop := Claim7.holds Tryz.pinned (.plain (OpenSpec.upto routeFitsSpec)) routeFitsUptoCard

/-- THE SECOND FORM's CARD OF 'staithlaw08.RouteSames'. -/
def routeSamesUptoCard : Claim7 := { stood := { row := routeSamesUptoRow, standIns := [], harness := (true, "942d7b6e014881ccf807c4f167beb6036eeacfc8547e93a8ea1b8e4ad89c75c9"), looks := true }, kinds := [], alts := [], laidByText := true, laidKinds := [.data, .pinned], laidTests := true, laidLooks := .later }
def RouteSamesUptoCardSaid : Prop := Claim7.holds Tryz.pinned (.plain (OpenSpec.upto routeSamesSpec)) routeSamesUptoCard

/-- THE SECOND FORM's CARD OF 'staithlaw08.RouteGrows'. -/
def routeGrowsUptoCard : Claim7 := { stood := { row := routeGrowsUptoRow, standIns := [], harness := (true, "942d7b6e014881ccf807c4f167beb6036eeacfc8547e93a8ea1b8e4ad89c75c9"), looks := true }, kinds := [], alts := [], laidByText := true, laidKinds := [.data, .pinned], laidTests := true, laidLooks := .later }
def RouteGrowsUptoCardSaid : Prop := Claim7.holds Tryz.pinned (.plain (OpenSpec.upto routeGrowsSpec)) routeGrowsUptoCard
end Rows
end Go.Proofs.YtehhhkcemmfjpaaGreatDoor
