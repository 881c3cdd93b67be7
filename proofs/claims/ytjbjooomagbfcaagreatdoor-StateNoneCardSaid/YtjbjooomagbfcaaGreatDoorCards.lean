/-
  DERIVED. GIVEN WITH THE SEED: THE CARDS: each row of YtjbjooomagbfcaaGreatDoorRows.lean that lists a variable, with what it lists TIED to the program's text (the seventh form; the later family's looks); each row that meets fmt, with fmt's text TOLD by the authors' own Lean function (tested against real Go, not proved from fmt's source: count such statements apart). THE CARD IS WHAT COUNTS. Prove the row's statement (the work); the ties are given (YtjbjooomagbfcaaGreatDoorTie.lean); close each card by the builder's one call (the guide's Derived/Test/ToyasCard.lean, 'card_holds'). Laid BY PROGRAM, IN A SANDBOX (cutbox-door.mjs). By AI agents, Wed Nov 11 2026. No macro, syntax, notation, axiom, sorry.
-/
import Derived.Test.YtjbjooomagbfcaaGreatDoorRows
import GoSem.ClaimSeven
namespace Go.Proofs.YtjbjooomagbfcaaGreatDoor
namespace Rows

/-- THE TIED CARD OF 'staithlaw14.StateActs'. -/
def stateActsCard : Claim7 := { stood := { row := stateActsRow, standIns := [], harness := (true, "e1e60eb00dbd0d986393316734f430765bd9e797c3608d151904d9ba3d7bd898"), looks := true }, kinds := [], alts := [], laidByText := true, laidKinds := [.data, .data, .pinned], laidTests := true, laidLooks := .later }
def StateActsCardSaid : Prop := Claim7.holds Tryz.pinned (.plain (OpenSpec.ofChange stateActsSpec)) stateActsCard

/-- THE TIED CARD OF 'staithlaw14.StateBoots'. -/
def stateBootsCard : Claim7 := { stood := { row := stateBootsRow, standIns := [], harness := (true, "e1e60eb00dbd0d986393316734f430765bd9e797c3608d151904d9ba3d7bd898"), looks := true }, kinds := [], alts := [], laidByText := true, laidKinds := [.data, .data, .pinned], laidTests := true, laidLooks := .later }
def StateBootsCardSaid : Prop := Claim7.holds Tryz.pinned (.plain (OpenSpec.ofChange stateBootsSpec)) stateBootsCard

/-- THE TIED CARD OF 'staithlaw14.StateRoutes'. -/
def stateRoutesCard : Claim7 := { stood := { row := stateRoutesRow, standIns := [], harness := (true, "e1e60eb00dbd0d986393316734f430765bd9e797c3608d151904d9ba3d7bd898"), looks := true }, kinds := [], alts := [], laidByText := true, laidKinds := [.data, .data, .pinned], laidTests := true, laidLooks := .later }
def StateRoutesCardSaid : Prop := Claim7.holds Tryz.pinned (.plain (OpenSpec.ofChange stateRoutesSpec)) stateRoutesCard

/-- THE TIED CARD OF 'staithlaw14.StateOnce'. -/
def stateOnceCard : Claim7 := { stood := { row := stateOnceRow, standIns := [], harness := (true, "e1e60eb00dbd0d986393316734f430765bd9e797c3608d151904d9ba3d7bd898"), looks := true }, kinds := [], alts := [], laidByText := true, laidKinds := [.data, .data, .pinned], laidTests := true, laidLooks := .later }
def StateOnceCardSaid : Prop := Claim7.holds Tryz.pinned (.plain (OpenSpec.ofChange stateOnceSpec)) stateOnceCard

/-- THE TIED CARD OF 'staithlaw14.StateNone'. -/
def stateNoneCard : Claim7 := { stood := { row := stateNoneRow, standIns := [], harness := (true, "e1e60eb00dbd0d986393316734f430765bd9e797c3608d151904d9ba3d7bd898"), looks := true }, kinds := [], alts := [], laidByText := true, laidKinds := [.data, .data, .pinned], laidTests := true, laidLooks := .later }
def StateNoneCardSaid : Prop := Claim7.holds Tryz.pinned (.plain (OpenSpec.ofChange stateNoneSpec)) stateNoneCard

/-- THE TIED CARD OF 'staithlaw14.StateFroms'. -/
def stateFromsCard : Claim7 := { stood := { row := stateFromsRow, standIns := [], harness := (true, "e1e60eb00dbd0d986393316734f430765bd9e797c3608d151904d9ba3d7bd898"), looks := true }, kinds := [], alts := [], laidByText := true, laidKinds := [.data, .data, .pinned], laidTests := true, laidLooks := .later }
def StateFromsCardSaid : Prop := Claim7.holds Tryz.pinned (.plain (OpenSpec.ofChange stateFromsSpec)) stateFromsCard

/-- THE SECOND FORM's CARD OF 'staithlaw14.StateActs'. -/
def stateActsUptoCard : Claim7 := { stood := { row := stateActsUptoRow, standIns := [], harness := (true, "e1e60eb00dbd0d986393316734f430765bd9e797c3608d151904d9ba3d7bd898"), looks := true }, kinds := [], alts := [], laidByText := true, laidKinds := [.data, .data, .pinned], laidTests := true, laidLooks := .later }
def StateActsUptoCardSaid : Prop := Claim7.holds Tryz.pinned (.plain (OpenSpec.upto stateActsSpec)) stateActsUptoCard

/-- THE SECOND FORM's CARD OF 'staithlaw14.StateBoots'. -/
def stateBootsUptoCard : Claim7 := { stood := { row := stateBootsUptoRow, standIns := [], harness := (true, "e1e60eb00dbd0d986393316734f430765bd9e797c3608d151904d9ba3d7bd898"), looks := true }, kinds := [], alts := [], laidByText := true, laidKinds := [.data, .data, .pinned], laidTests := true, laidLooks := .later }
def StateBootsUptoCardSaid : Prop := Claim7.holds Tryz.pinned (.plain (OpenSpec.upto stateBootsSpec)) stateBootsUptoCard

/-- THE SECOND FORM's CARD OF 'staithlaw14.StateRoutes'. -/
def stateRoutesUptoCard : Claim7 := { stood := { row := stateRoutesUptoRow, standIns := [], harness := (true, "e1e60eb00dbd0d986393316734f430765bd9e797c3608d151904d9ba3d7bd898"), looks := true }, kinds := [], alts := [], laidByText := true, laidKinds := [.data, .data, .pinned], laidTests := true, laidLooks := .later }
def StateRoutesUptoCardSaid : Prop := Claim7.holds Tryz.pinned (.plain (OpenSpec.upto stateRoutesSpec)) stateRoutesUptoCard

/-- THE SECOND FORM's CARD OF 'staithlaw14.StateOnce'. -/
def stateOnceUptoCard : Claim7 := { stood := { row := stateOnceUptoRow, standIns := [], harness := (true, "e1e60eb00dbd0d986393316734f430765bd9e797c3608d151904d9ba3d7bd898"), looks := true }, kinds := [], alts := [], laidByText := true, laidKinds := [.data, .data, .pinned], laidTests := true, laidLooks := .later }
def StateOnceUptoCardSaid : Prop := Claim7.holds Tryz.pinned (.plain (OpenSpec.upto stateOnceSpec)) stateOnceUptoCard

/-- THE SECOND FORM's CARD OF 'staithlaw14.StateNone'. -/
def stateNoneUptoCard : Claim7 := { stood := { row := stateNoneUptoRow, standIns := [], harness := (true, "e1e60eb00dbd0d986393316734f430765bd9e797c3608d151904d9ba3d7bd898"), looks := true }, kinds := [], alts := [], laidByText := true, laidKinds := [.data, .data, .pinned], laidTests := true, laidLooks := .later }
def StateNoneUptoCardSaid : Prop := Claim7.holds Tryz.pinned (.plain (OpenSpec.upto stateNoneSpec)) stateNoneUptoCard

/-- THE SECOND FORM's CARD OF 'staithlaw14.StateFroms'. -/
def stateFromsUptoCard : Claim7 := { stood := { row := stateFromsUptoRow, standIns := [], harness := (true, "e1e60eb00dbd0d986393316734f430765bd9e797c3608d151904d9ba3d7bd898"), looks := true }, kinds := [], alts := [], laidByText := true, laidKinds := [.data, .data, .pinned], laidTests := true, laidLooks := .later }
def StateFromsUptoCardSaid : Prop := Claim7.holds Tryz.pinned (.plain (OpenSpec.upto stateFromsSpec)) stateFromsUptoCard
end Rows
end Go.Proofs.YtjbjooomagbfcaaGreatDoor
