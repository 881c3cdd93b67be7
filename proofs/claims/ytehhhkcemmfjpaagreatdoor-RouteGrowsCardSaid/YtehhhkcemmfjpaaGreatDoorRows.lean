/-
  NARROWER THAN 'FOR EVERY INPUT', by the rows' own cells (each row's printed sentence says how): BindActs: laid · BindHolds: laid · BindUndoes: laid · RouteQueues: laid · RouteFits: laid · RouteSames: laid · RouteGrows: laid.
  DERIVED. THE GIVEN ROWS OF THIS SEAT. 7 by the template 'for every input the law returns true; each argument reads behind the call as it read before'; 0 by the template 'total and deterministic' (their statements: YtehhhkcemmfjpaaGreatDoorTotals.lean).
  GIVEN WITH THE SEED: the statements are not yours to turn. If you find one false, say at which input.
  Laid BY PROGRAM, IN A SANDBOX (cutbox-rows.mjs): the forced cells as the released guide's own fill.sh prints them over the translation 55334d0d55a933d6… (all of the seat's roots in one cut). By AI agents, Wed Nov 11 2026. No macro, syntax, notation, axiom, sorry.
-/
import Derived.Test.YtehhhkcemmfjpaaGreatDoorChecked
import GoSem.PinnedTables
import GoSem.Claim
import GoSem.ClaimJoined
import GoSem.ClaimMapViews
import Derived.JoinedTies
import Derived.KernelRfl
namespace Go.Proofs.YtehhhkcemmfjpaaGreatDoor
/- THE CELL 'sum', in the pinned program and in every row, IS THE sha256 OF THE DUMP (.gsa) THAT YtehhhkcemmfjpaaGreatDoorProg.lean LOADS. Nothing in Lean hashes anything: it is a label: what it is worth is what the hold of that sum in a sandbox is worth. -/
noncomputable def Tryz.pinned : Pinned := { name := "ytehhhkcemmfjpaagreatdoor", sum := "55334d0d55a933d66c4137fad80ebabbca3cf002668fd614637867d4c482b964", checked := Tryz.checked }
namespace Rows
def none {H : Type} : Left H := { results := [], args := [] }

/- WHAT THE LISTED PACKAGE-LEVEL VARIABLES READ AS WHEN THE CALL BEGINS. Each datum BY PROGRAM (the guide's laid-datum.mjs) off the statement by which the dump's own 'gosem.cut.vars' lays the variable. In a bare row this is a premise. The card (YtehhhkcemmfjpaaGreatDoorCards.lean) ties it to the program's text. -/
def laid_unicode_utf8_acceptRanges {H : Type} : DataW H := .agg [.agg [.lit (.int .u8 128), .lit (.int .u8 191)], .agg [.lit (.int .u8 160), .lit (.int .u8 191)], .agg [.lit (.int .u8 128), .lit (.int .u8 159)], .agg [.lit (.int .u8 144), .lit (.int .u8 191)], .agg [.lit (.int .u8 128), .lit (.int .u8 143)], .agg [.lit (.int .u8 0), .lit (.int .u8 0)], .agg [.lit (.int .u8 0), .lit (.int .u8 0)], .agg [.lit (.int .u8 0), .lit (.int .u8 0)], .agg [.lit (.int .u8 0), .lit (.int .u8 0)], .agg [.lit (.int .u8 0), .lit (.int .u8 0)], .agg [.lit (.int .u8 0), .lit (.int .u8 0)], .agg [.lit (.int .u8 0), .lit (.int .u8 0)], .agg [.lit (.int .u8 0), .lit (.int .u8 0)], .agg [.lit (.int .u8 0), .lit (.int .u8 0)], .agg [.lit (.int .u8 0), .lit (.int .u8 0)], .agg [.lit (.int .u8 0), .lit (.int .u8 0)]]
/-- One of Go's own tables, pinned by name: the form's constant. -/
def laid_unicode_utf8_first : DataW Unit := Go.Pinned.utf8First

/-- 'staithlaw07.BindActs': WHATEVER THE INPUT: true; the input reads as it did. -/
def bindActsSpec : ChangeSpec := { name := "bindActs", fn := fun _ => fun
  | [d] => { results := [.lit (.bool true)], args := [d] }
  | _ => none }
def bindActsRow : OpenClaim := { program := "ytehhhkcemmfjpaagreatdoor", sum := "55334d0d55a933d66c4137fad80ebabbca3cf002668fd614637867d4c482b964", func := "staith/staithlaw07.BindActs", spec := "bindActs", inPlace := ["internal/bytealg.IndexByteString", "internal/bytealg.IndexString"], unfollowed := true, recurses := true, named := ["unicode/utf8.first", "unicode/utf8.acceptRanges", "internal/bytealg.MaxLen"], plainKeys := false, apart := false, laid := [("unicode/utf8.acceptRanges", laid_unicode_utf8_acceptRanges), ("unicode/utf8.first", laid_unicode_utf8_first)] }
def BindActsSaid : Prop := bindActsRow.holds Tryz.pinned (OpenSpec.ofChange bindActsSpec)

/-- ITS FALSE NEIGHBOUR: 'it returns false'. Refute it at one input. -/
def bindActsWrong : ChangeSpec := { name := "bindActs", fn := fun _ => fun
  | [d] => { results := [.lit (.bool false)], args := [d] }
  | _ => none }
def BindActsWrongFalsely : Prop := bindActsRow.holds Tryz.pinned (OpenSpec.ofChange bindActsWrong)

/-- 'staithlaw07.BindHolds': WHATEVER THE INPUT: true; the input reads as it did. -/
def bindHoldsSpec : ChangeSpec := { name := "bindHolds", fn := fun _ => fun
  | [d] => { results := [.lit (.bool true)], args := [d] }
  | _ => none }
def bindHoldsRow : OpenClaim := { program := "ytehhhkcemmfjpaagreatdoor", sum := "55334d0d55a933d66c4137fad80ebabbca3cf002668fd614637867d4c482b964", func := "staith/staithlaw07.BindHolds", spec := "bindHolds", inPlace := ["internal/bytealg.IndexByteString", "internal/bytealg.IndexString"], unfollowed := true, recurses := true, named := ["unicode/utf8.first", "unicode/utf8.acceptRanges", "internal/bytealg.MaxLen"], plainKeys := false, apart := false, laid := [("unicode/utf8.acceptRanges", laid_unicode_utf8_acceptRanges), ("unicode/utf8.first", laid_unicode_utf8_first)] }
def BindHoldsSaid : Prop := bindHoldsRow.holds Tryz.pinned (OpenSpec.ofChange bindHoldsSpec)

/-- ITS FALSE NEIGHBOUR: 'it returns false'. Refute it at one input. -/
def bindHoldsWrong : ChangeSpec := { name := "bindHolds", fn := fun _ => fun
  | [d] => { results := [.lit (.bool false)], args := [d] }
  | _ => none }
def BindHoldsWrongFalsely : Prop := bindHoldsRow.holds Tryz.pinned (OpenSpec.ofChange bindHoldsWrong)

/-- 'staithlaw07.BindUndoes': WHATEVER THE INPUT: true; the input reads as it did. -/
def bindUndoesSpec : ChangeSpec := { name := "bindUndoes", fn := fun _ => fun
  | [d1, d2] => { results := [.lit (.bool true)], args := [d1, d2] }
  | _ => none }
def bindUndoesRow : OpenClaim := { program := "ytehhhkcemmfjpaagreatdoor", sum := "55334d0d55a933d66c4137fad80ebabbca3cf002668fd614637867d4c482b964", func := "staith/staithlaw07.BindUndoes", spec := "bindUndoes", inPlace := ["internal/bytealg.IndexByteString", "internal/bytealg.IndexString", "maps.clone"], unfollowed := true, recurses := true, named := ["unicode/utf8.first", "unicode/utf8.acceptRanges", "internal/bytealg.MaxLen"], plainKeys := false, apart := false, laid := [("unicode/utf8.acceptRanges", laid_unicode_utf8_acceptRanges), ("unicode/utf8.first", laid_unicode_utf8_first)] }
def BindUndoesSaid : Prop := bindUndoesRow.holds Tryz.pinned (OpenSpec.ofChange bindUndoesSpec)

/-- ITS FALSE NEIGHBOUR: 'it returns false'. Refute it at one input. -/
def bindUndoesWrong : ChangeSpec := { name := "bindUndoes", fn := fun _ => fun
  | [d1, d2] => { results := [.lit (.bool false)], args := [d1, d2] }
  | _ => none }
def BindUndoesWrongFalsely : Prop := bindUndoesRow.holds Tryz.pinned (OpenSpec.ofChange bindUndoesWrong)

/-- 'staithlaw08.RouteQueues': WHATEVER THE INPUT: true; the input reads as it did. -/
def routeQueuesSpec : ChangeSpec := { name := "routeQueues", fn := fun _ => fun
  | [d1, d2, d3] => { results := [.lit (.bool true)], args := [d1, d2, d3] }
  | _ => none }
def routeQueuesRow : OpenClaim := { program := "ytehhhkcemmfjpaagreatdoor", sum := "55334d0d55a933d66c4137fad80ebabbca3cf002668fd614637867d4c482b964", func := "staith/staithlaw08.RouteQueues", spec := "routeQueues", inPlace := ["internal/bytealg.IndexByteString", "internal/bytealg.IndexString"], unfollowed := true, recurses := true, named := ["unicode/utf8.first", "unicode/utf8.acceptRanges", "internal/bytealg.MaxLen"], plainKeys := false, apart := false, laid := [("unicode/utf8.acceptRanges", laid_unicode_utf8_acceptRanges), ("unicode/utf8.first", laid_unicode_utf8_first)] }
def RouteQueuesSaid : Prop := routeQueuesRow.holds Tryz.pinned (OpenSpec.ofChange routeQueuesSpec)

/-- ITS FALSE NEIGHBOUR: 'it returns false'. Refute it at one input. -/
def routeQueuesWrong : ChangeSpec := { name := "routeQueues", fn := fun _ => fun
  | [d1, d2, d3] => { results := [.lit (.bool false)], args := [d1, d2, d3] }
  | _ => none }
def RouteQueuesWrongFalsely : Prop := routeQueuesRow.holds Tryz.pinned (OpenSpec.ofChange routeQueuesWrong)

/-- 'staithlaw08.RouteFits': WHATEVER THE INPUT: true; the input reads as it did. -/
def routeFitsSpec : ChangeSpec := { name := "routeFits", fn := fun _ => fun
  | [d1, d2, d3] => { results := [.lit (.bool true)], args := [d1, d2, d3] }
  | _ => none }
def routeFitsRow : OpenClaim := { program := "ytehhhkcemmfjpaagreatdoor", sum := "55334d0d55a933d66c4137fad80ebabbca3cf002668fd614637867d4c482b964", func := "staith/staithlaw08.RouteFits", spec := "routeFits", inPlace := ["internal/bytealg.IndexByteString", "internal/bytealg.IndexString"], unfollowed := true, recurses := true, named := ["unicode/utf8.first", "unicode/utf8.acceptRanges", "internal/bytealg.MaxLen"], plainKeys := false, apart := false, laid := [("unicode/utf8.acceptRanges", laid_unicode_utf8_acceptRanges), ("unicode/utf8.first", laid_unicode_utf8_first)] }
def RouteFitsSaid : Prop := routeFitsRow.holds Tryz.pinned (OpenSpec.ofChange routeFitsSpec)

/-- ITS FALSE NEIGHBOUR: 'it returns false'. Refute it at one input. -/
def routeFitsWrong : ChangeSpec := { name := "routeFits", fn := fun _ => fun
  | [d1, d2, d3] => { results := [.lit (.bool false)], args := [d1, d2, d3] }
  | _ => none }
def RouteFitsWrongFalsely : Prop := routeFitsRow.holds Tryz.pinned (OpenSpec.ofChange routeFitsWrong)

/-- 'staithlaw08.RouteSames': WHATEVER THE INPUT: true; the input reads as it did. -/
def routeSamesSpec : ChangeSpec := { name := "routeSames", fn := fun _ => fun
  | [d1, d2, d3] => { results := [.lit (.bool true)], args := [d1, d2, d3] }
  | _ => none }
def routeSamesRow : OpenClaim := { program := "ytehhhkcemmfjpaagreatdoor", sum := "55334d0d55a933d66c4137fad80ebabbca3cf002668fd614637867d4c482b964", func := "staith/staithlaw08.RouteSames", spec := "routeSames", inPlace := ["internal/bytealg.IndexByteString", "internal/bytealg.IndexString"], unfollowed := true, recurses := true, named := ["unicode/utf8.first", "unicode/utf8.acceptRanges", "internal/bytealg.MaxLen"], plainKeys := false, apart := false, laid := [("unicode/utf8.acceptRanges", laid_unicode_utf8_acceptRanges), ("unicode/utf8.first", laid_unicode_utf8_first)] }
def RouteSamesSaid : Prop := routeSamesRow.holds Tryz.pinned (OpenSpec.ofChange routeSamesSpec)

/-- ITS FALSE NEIGHBOUR: 'it returns false'. Refute it at one input. -/
def routeSamesWrong : ChangeSpec := { name := "routeSames", fn := fun _ => fun
  | [d1, d2, d3] => { results := [.lit (.bool false)], args := [d1, d2, d3] }
  | _ => none }
def RouteSamesWrongFalsely : Prop := routeSamesRow.holds Tryz.pinned (OpenSpec.ofChange routeSamesWrong)

/-- 'staithlaw08.RouteGrows': WHATEVER THE INPUT: true; the input reads as it did. -/
def routeGrowsSpec : ChangeSpec := { name := "routeGrows", fn := fun _ => fun
  | [d1, d2, d3] => { results := [.lit (.bool true)], args := [d1, d2, d3] }
  | _ => none }
def routeGrowsRow : OpenClaim := { program := "ytehhhkcemmfjpaagreatdoor", sum := "55334d0d55a933d66c4137fad80ebabbca3cf002668fd614637867d4c482b964", func := "staith/staithlaw08.RouteGrows", spec := "routeGrows", inPlace := ["internal/bytealg.IndexByteString", "internal/bytealg.IndexString", "maps.clone"], unfollowed := true, recurses := true, named := ["unicode/utf8.first", "unicode/utf8.acceptRanges", "internal/bytealg.MaxLen"], plainKeys := false, apart := false, laid := [("unicode/utf8.acceptRanges", laid_unicode_utf8_acceptRanges), ("unicode/utf8.first", laid_unicode_utf8_first)] }
def RouteGrowsSaid : Prop := routeGrowsRow.holds Tryz.pinned (OpenSpec.ofChange routeGrowsSpec)

/-- ITS FALSE NEIGHBOUR: 'it returns false'. Refute it at one input. -/
def routeGrowsWrong : ChangeSpec := { name := "routeGrows", fn := fun _ => fun
  | [d1, d2, d3] => { results := [.lit (.bool false)], args := [d1, d2, d3] }
  | _ => none }
def RouteGrowsWrongFalsely : Prop := routeGrowsRow.holds Tryz.pinned (OpenSpec.ofChange routeGrowsWrong)

/- THE SECOND FORM. 'bulk': how many values and letters a reading holds, each counted each time it is reached (what is shared counts as often as it is met; a slice's spare places count too). A statement '..UptoSaid' is the law's where the arguments, and the package variables that the reading takes, are together of bulk at most 1048576: NARROWER than '..Said'. Prove '..Said' where nothing that the law and all that it calls make is longer than what came in: it says more and counts as full. Else prove '..UptoSaid'. A law counts once. -/
mutual
def uptoBulk {H : Type} : DataW H → Nat
  | .lit (.string bytes) => bytes.length + 1
  | .lit _ => 1
  | .nil => 1
  | .ptr d => uptoBulk d + 1
  | .slice elems spare => uptoBulkAll elems + uptoBulkAll spare + 1
  | .agg parts => uptoBulkAll parts + 1
  | .iface _ d => uptoBulk d + 1
  | .map entries => uptoBulkEntries entries + 1
  | .held _ => 1
def uptoBulkAll {H : Type} : List (DataW H) → Nat
  | [] => 0
  | d :: r => uptoBulk d + uptoBulkAll r
def uptoBulkEntries {H : Type} : List (Lit × DataW H) → Nat
  | [] => 0
  | x :: r => uptoBulkEntry x + uptoBulkEntries r
def uptoBulkEntry {H : Type} : Lit × DataW H → Nat
  | (.string bytes, d) => bytes.length + uptoBulk d + 1
  | (_, d) => uptoBulk d + 1
 end
def uptoSmall : (H : Type) → List (DataW H) → Bool := fun _ ds => decide (uptoBulkAll ds ≤ 1048576)
def OpenSpec.upto (s : _root_.Go.ChangeSpec) : _root_.Go.OpenSpec := { _root_.Go.OpenSpec.ofChange s with cond := some uptoSmall }

/-- 'staithlaw07.BindActs', WHERE WHAT IT READS IS OF BULK AT MOST 1048576: true; the input reads as it did. -/
def bindActsUptoRow : OpenClaim := { program := "ytehhhkcemmfjpaagreatdoor", sum := "55334d0d55a933d66c4137fad80ebabbca3cf002668fd614637867d4c482b964", func := "staith/staithlaw07.BindActs", spec := "bindActs", inPlace := ["internal/bytealg.IndexByteString", "internal/bytealg.IndexString"], unfollowed := true, recurses := true, named := ["unicode/utf8.first", "unicode/utf8.acceptRanges", "internal/bytealg.MaxLen"], plainKeys := false, apart := false, laid := [("unicode/utf8.acceptRanges", laid_unicode_utf8_acceptRanges), ("unicode/utf8.first", laid_unicode_utf8_first)], narrowed := true }
def BindActsUptoSaid : Prop := bindActsUptoRow.holds Tryz.pinned (OpenSpec.upto bindActsSpec)

/-- 'staithlaw07.BindHolds', WHERE WHAT IT READS IS OF BULK AT MOST 1048576: true; the input reads as it did. -/
def bindHoldsUptoRow : OpenClaim := { program := "ytehhhkcemmfjpaagreatdoor", sum := "55334d0d55a933d66c4137fad80ebabbca3cf002668fd614637867d4c482b964", func := "staith/staithlaw07.BindHolds", spec := "bindHolds", inPlace := ["internal/bytealg.IndexByteString", "internal/bytealg.IndexString"], unfollowed := true, recurses := true, named := ["unicode/utf8.first", "unicode/utf8.acceptRanges", "internal/bytealg.MaxLen"], plainKeys := false, apart := false, laid := [("unicode/utf8.acceptRanges", laid_unicode_utf8_acceptRanges), ("unicode/utf8.first", laid_unicode_utf8_first)], narrowed := true }
def BindHoldsUptoSaid : Prop := bindHoldsUptoRow.holds Tryz.pinned (OpenSpec.upto bindHoldsSpec)

/-- 'staithlaw07.BindUndoes', WHERE WHAT IT READS IS OF BULK AT MOST 1048576: true; the input reads as it did. -/
def bindUndoesUptoRow : OpenClaim := { program := "ytehhhkcemmfjpaagreatdoor", sum := "55334d0d55a933d66c4137fad80ebabbca3cf002668fd614637867d4c482b964", func := "staith/staithlaw07.BindUndoes", spec := "bindUndoes", inPlace := ["internal/bytealg.IndexByteString", "internal/bytealg.IndexString", "maps.clone"], unfollowed := true, recurses := true, named := ["unicode/utf8.first", "unicode/utf8.acceptRanges", "internal/bytealg.MaxLen"], plainKeys := false, apart := false, laid := [("unicode/utf8.acceptRanges", laid_unicode_utf8_acceptRanges), ("unicode/utf8.first", laid_unicode_utf8_first)], narrowed := true }
def BindUndoesUptoSaid : Prop := bindUndoesUptoRow.holds Tryz.pinned (OpenSpec.upto bindUndoesSpec)

/-- 'staithlaw08.RouteQueues', WHERE WHAT IT READS IS OF BULK AT MOST 1048576: true; the input reads as it did. -/
def routeQueuesUptoRow : OpenClaim := { program := "ytehhhkcemmfjpaagreatdoor", sum := "55334d0d55a933d66c4137fad80ebabbca3cf002668fd614637867d4c482b964", func := "staith/staithlaw08.RouteQueues", spec := "routeQueues", inPlace := ["internal/bytealg.IndexByteString", "internal/bytealg.IndexString"], unfollowed := true, recurses := true, named := ["unicode/utf8.first", "unicode/utf8.acceptRanges", "internal/bytealg.MaxLen"], plainKeys := false, apart := false, laid := [("unicode/utf8.acceptRanges", laid_unicode_utf8_acceptRanges), ("unicode/utf8.first", laid_unicode_utf8_first)], narrowed := true }
def RouteQueuesUptoSaid : Prop := routeQueuesUptoRow.holds Tryz.pinned (OpenSpec.upto routeQueuesSpec)

/-- 'staithlaw08.RouteFits', WHERE WHAT IT READS IS OF BULK AT MOST 1048576: true; the input reads as it did. -/
def routeFitsUptoRow : OpenClaim := { program := "ytehhhkcemmfjpaagreatdoor", sum := "55334d0d55a933d66c4137fad80ebabbca3cf002668fd614637867d4c482b964", func := "staith/staithlaw08.RouteFits", spec := "routeFits", inPlace := ["internal/bytealg.IndexByteString", "internal/bytealg.IndexString"], unfollowed := true, recurses := true, named := ["unicode/utf8.first", "unicode/utf8.acceptRanges", "internal/bytealg.MaxLen"], plainKeys := false, apart := false, laid := [("unicode/utf8.acceptRanges", laid_unicode_utf8_acceptRanges), ("unicode/utf8.first", laid_unicode_utf8_first)], narrowed := true }
def RouteFitsUptoSaid : Prop := routeFitsUptoRow.holds Tryz.pinned (OpenSpec.upto routeFitsSpec)

/-- 'staithlaw08.RouteSames', WHERE WHAT IT READS IS OF BULK AT MOST 1048576: true; the input reads as it did. -/
def routeSamesUptoRow : OpenClaim := { program := "ytehhhkcemmfjpaagreatdoor", sum := "55334d0d55a933d66c4137fad80ebabbca3cf002668fd614637867d4c482b964", func := "staith/staithlaw08.RouteSames", spec := "routeSames", inPlace := ["internal/bytealg.IndexByteString", "internal/bytealg.IndexString"], unfollowed := true, recurses := true, named := ["unicode/utf8.first", "unicode/utf8.acceptRanges", "internal/bytealg.MaxLen"], plainKeys := false, apart := false, laid := [("unicode/utf8.acceptRanges", laid_unicode_utf8_acceptRanges), ("unicode/utf8.first", laid_unicode_utf8_first)], narrowed := true }
def RouteSamesUptoSaid : Prop := routeSamesUptoRow.holds Tryz.pinned (OpenSpec.upto routeSamesSpec)

/-- 'staithlaw08.RouteGrows', WHERE WHAT IT READS IS OF BULK AT MOST 1048576: true; the input reads as it did. -/
def routeGrowsUptoRow : OpenClaim := { program := "ytehhhkcemmfjpaagreatdoor", sum := "55334d0d55a933d66c4137fad80ebabbca3cf002668fd614637867d4c482b964", func := "staith/staithlaw08.RouteGrows", spec := "routeGrows", inPlace := ["internal/bytealg.IndexByteString", "internal/bytealg.IndexString", "maps.clone"], unfollowed := true, recurses := true, named := ["unicode/utf8.first", "unicode/utf8.acceptRanges", "internal/bytealg.MaxLen"], plainKeys := false, apart := false, laid := [("unicode/utf8.acceptRanges", laid_unicode_utf8_acceptRanges), ("unicode/utf8.first", laid_unicode_utf8_first)], narrowed := true }
def RouteGrowsUptoSaid : Prop := routeGrowsUptoRow.holds Tryz.pinned (OpenSpec.upto routeGrowsSpec)

end Rows
end Go.Proofs.YtehhhkcemmfjpaaGreatDoor
