/-
  DERIVED. GIVEN WITH THE SEED: THE CARDS: each row of YtehhhkcemmfjpaaDoorRows.lean that lists a variable, with what it lists TIED to the program's text (the seventh form; the later family's looks); each row that meets fmt, with fmt's text TOLD by the authors' own Lean function (tested against real Go, not proved from fmt's source: count such statements apart). THE CARD IS WHAT COUNTS. Prove the row's statement (the work); the ties are given (YtehhhkcemmfjpaaDoorTie.lean); close each card by the builder's one call (the guide's Derived/Test/ToyasCard.lean, 'card_holds'). Laid BY PROGRAM, IN A SANDBOX (cutbox-door.mjs). By AI agents, Wed Nov 11 2026. No macro, syntax, notation, axiom, sorry.
-/
import Derived.Test.YtehhhkcemmfjpaaDoorRows
import GoSem.ClaimSeven
namespace Go.Proofs.YtehhhkcemmfjpaaDoor
namespace Rows

/-- THE TIED CARD OF 'staithlaw07.BindFull'. -/
def bindFullCard : Claim7 := { stood := { row := bindFullRow, standIns := [], harness := (true, "5bbf5076f02516af2826d2005cd76ec6512d92f8202a7118d385ead027d10d8b"), looks := true }, kinds := [], alts := [], laidByText := true, laidKinds := [.data, .pinned], laidTests := true, laidLooks := .later }
def BindFullCardSaid : Prop := Claim7.holds Tryd.pinned (.plain (OpenSpec.ofChange bindFullSpec)) bindFullCard

/-- THE TIED CARD OF 'staithlaw07.BindNone'. -/
def bindNoneCard : Claim7 := { stood := { row := bindNoneRow, standIns := [], harness := (true, "5bbf5076f02516af2826d2005cd76ec6512d92f8202a7118d385ead027d10d8b"), looks := true }, kinds := [], alts := [], laidByText := true, laidKinds := [.data, .pinned], laidTests := true, laidLooks := .later }
def BindNoneCardSaid : Prop := Claim7.holds Tryd.pinned (.plain (OpenSpec.ofChange bindNoneSpec)) bindNoneCard

/-- THE TIED CARD OF 'staithlaw08.RouteKinds'. -/
def routeKindsCard : Claim7 := { stood := { row := routeKindsRow, standIns := [], harness := (true, "5bbf5076f02516af2826d2005cd76ec6512d92f8202a7118d385ead027d10d8b"), looks := true }, kinds := [], alts := [], laidByText := true, laidKinds := [.data, .pinned], laidTests := true, laidLooks := .later }
def RouteKindsCardSaid : Prop := Claim7.holds Tryd.pinned (.plain (OpenSpec.ofChange routeKindsSpec)) routeKindsCard

/-- THE SECOND FORM's CARD OF 'staithlaw07.BindFull'. -/
def bindFullUptoCard : Claim7 := { stood := { row := bindFullUptoRow, standIns := [], harness := (true, "5bbf5076f02516af2826d2005cd76ec6512d92f8202a7118d385ead027d10d8b"), looks := true }, kinds := [], alts := [], laidByText := true, laidKinds := [.data, .pinned], laidTests := true, laidLooks := .later }
def BindFullUptoCardSaid : Prop := Claim7.holds Tryd.pinned (.plain (OpenSpec.upto bindFullSpec)) bindFullUptoCard

/-- THE SECOND FORM's CARD OF 'staithlaw07.BindNone'. -/
def bindNoneUptoCard : Claim7 := { stood := { row := bindNoneUptoRow, standIns := [], harness := (true, "5bbf5076f02516af2826d2005cd76ec6512d92f8202a7118d385ead027d10d8b"), looks := true }, kinds := [], alts := [], laidByText := true, laidKinds := [.data, .pinned], laidTests := true, laidLooks := .later }
def BindNoneUptoCardSaid : Prop := Claim7.holds Tryd.pinned (.plain (OpenSpec.upto bindNoneSpec)) bindNoneUptoCard

/-- THE SECOND FORM's CARD OF 'staithlaw08.RouteKinds'. -/
def routeKindsUptoCard : Claim7 := { stood := { row := routeKindsUptoRow, standIns := [], harness := (true, "5bbf5076f02516af2826d2005cd76ec6512d92f8202a7118d385ead027d10d8b"), looks := true }, kinds := [], alts := [], laidByText := true, laidKinds := [.data, .pinned], laidTests := true, laidLooks := .later }
def RouteKindsUptoCardSaid : Prop := Claim7.holds Tryd.pinned (.plain (OpenSpec.upto routeKindsSpec)) routeKindsUptoCard
end Rows
end Go.Proofs.YtehhhkcemmfjpaaDoor
