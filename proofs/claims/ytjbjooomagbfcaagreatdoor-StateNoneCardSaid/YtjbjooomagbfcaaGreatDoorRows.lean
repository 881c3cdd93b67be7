/-
  NARROWER THAN 'FOR EVERY INPUT', by the rows' own cells (each row's printed sentence says how): StateActs: laid · StateBoots: laid · StateRoutes: laid · StateOnce: laid · StateNone: laid · StateFroms: laid.
  DERIVED. THE GIVEN ROWS OF THIS SEAT. 6 by the template 'for every input the law returns true; each argument reads behind the call as it read before'; 0 by the template 'total and deterministic' (their statements: YtjbjooomagbfcaaGreatDoorTotals.lean).
  GIVEN WITH THE SEED: the statements are not yours to turn. If you find one false, say at which input.
  Laid BY PROGRAM, IN A SANDBOX (cutbox-rows.mjs): the forced cells as the released guide's own fill.sh prints them over the translation 0a3e3dffcee00b8e… (all of the seat's roots in one cut). By AI agents, Wed Nov 11 2026. No macro, syntax, notation, axiom, sorry.
-/
import Derived.Test.YtjbjooomagbfcaaGreatDoorChecked
import GoSem.PinnedTables
import GoSem.Claim
import GoSem.ClaimJoined
import GoSem.ClaimMapViews
import Derived.JoinedTies
import Derived.KernelRfl
namespace Go.Proofs.YtjbjooomagbfcaaGreatDoor
/- THE CELL 'sum', in the pinned program and in every row, IS THE sha256 OF THE DUMP (.gsa) THAT YtjbjooomagbfcaaGreatDoorProg.lean LOADS. Nothing in Lean hashes anything: it is a label: what it is worth is what the hold of that sum in a sandbox is worth. -/
noncomputable def Tryz.pinned : Pinned := { name := "ytjbjooomagbfcaagreatdoor", sum := "0a3e3dffcee00b8e6f24a0b35bff32ffcfd581a4ab2cb39202ffeac55175cb8e", checked := Tryz.checked }
namespace Rows
def none {H : Type} : Left H := { results := [], args := [] }

/- WHAT THE LISTED PACKAGE-LEVEL VARIABLES READ AS WHEN THE CALL BEGINS. Each datum BY PROGRAM (the guide's laid-datum.mjs) off the statement by which the dump's own 'gosem.cut.vars' lays the variable. In a bare row this is a premise. The card (YtjbjooomagbfcaaGreatDoorCards.lean) ties it to the program's text. -/
def laid_unicode_utf8_acceptRanges {H : Type} : DataW H := .agg [.agg [.lit (.int .u8 128), .lit (.int .u8 191)], .agg [.lit (.int .u8 160), .lit (.int .u8 191)], .agg [.lit (.int .u8 128), .lit (.int .u8 159)], .agg [.lit (.int .u8 144), .lit (.int .u8 191)], .agg [.lit (.int .u8 128), .lit (.int .u8 143)], .agg [.lit (.int .u8 0), .lit (.int .u8 0)], .agg [.lit (.int .u8 0), .lit (.int .u8 0)], .agg [.lit (.int .u8 0), .lit (.int .u8 0)], .agg [.lit (.int .u8 0), .lit (.int .u8 0)], .agg [.lit (.int .u8 0), .lit (.int .u8 0)], .agg [.lit (.int .u8 0), .lit (.int .u8 0)], .agg [.lit (.int .u8 0), .lit (.int .u8 0)], .agg [.lit (.int .u8 0), .lit (.int .u8 0)], .agg [.lit (.int .u8 0), .lit (.int .u8 0)], .agg [.lit (.int .u8 0), .lit (.int .u8 0)], .agg [.lit (.int .u8 0), .lit (.int .u8 0)]]
def laid_staith_act_shapes {H : Type} : DataW H := .agg [.lit (.string [45]), .lit (.string [110, 99]), .lit (.string [110]), .lit (.string [120]), .lit (.string [110]), .lit (.string [98]), .lit (.string [98]), .lit (.string [109]), .lit (.string [110]), .lit (.string [110, 116]), .lit (.string [110, 116]), .lit (.string [111, 99]), .lit (.string [])]
/-- One of Go's own tables, pinned by name: the form's constant. -/
def laid_unicode_utf8_first : DataW Unit := Go.Pinned.utf8First

/-- 'staithlaw14.StateActs': WHATEVER THE INPUT: true; the input reads as it did. -/
def stateActsSpec : ChangeSpec := { name := "stateActs", fn := fun _ => fun
  | [d1, d2, d3] => { results := [.lit (.bool true)], args := [d1, d2, d3] }
  | _ => none }
def stateActsRow : OpenClaim := { program := "ytjbjooomagbfcaagreatdoor", sum := "0a3e3dffcee00b8e6f24a0b35bff32ffcfd581a4ab2cb39202ffeac55175cb8e", func := "staith/staithlaw14.StateActs", spec := "stateActs", inPlace := ["internal/bytealg.IndexByteString", "internal/bytealg.IndexString", "slices.overlaps[staith/api.Item]"], unfollowed := true, recurses := true, named := ["staith/act.shapes", "unicode/utf8.first", "unicode/utf8.acceptRanges", "internal/bytealg.MaxLen"], plainKeys := false, apart := false, laid := [("unicode/utf8.acceptRanges", laid_unicode_utf8_acceptRanges), ("staith/act.shapes", laid_staith_act_shapes), ("unicode/utf8.first", laid_unicode_utf8_first)] }
def StateActsSaid : Prop := stateActsRow.holds Tryz.pinned (OpenSpec.ofChange stateActsSpec)

/-- ITS FALSE NEIGHBOUR: 'it returns false'. Refute it at one input. -/
def stateActsWrong : ChangeSpec := { name := "stateActs", fn := fun _ => fun
  | [d1, d2, d3] => { results := [.lit (.bool false)], args := [d1, d2, d3] }
  | _ => none }
def StateActsWrongFalsely : Prop := stateActsRow.holds Tryz.pinned (OpenSpec.ofChange stateActsWrong)

/-- 'staithlaw14.StateBoots': WHATEVER THE INPUT: true; the input reads as it did. -/
def stateBootsSpec : ChangeSpec := { name := "stateBoots", fn := fun _ => fun
  | [d1, d2] => { results := [.lit (.bool true)], args := [d1, d2] }
  | _ => none }
def stateBootsRow : OpenClaim := { program := "ytjbjooomagbfcaagreatdoor", sum := "0a3e3dffcee00b8e6f24a0b35bff32ffcfd581a4ab2cb39202ffeac55175cb8e", func := "staith/staithlaw14.StateBoots", spec := "stateBoots", inPlace := ["internal/bytealg.IndexByteString", "internal/bytealg.IndexString", "slices.overlaps[staith/api.Item]"], unfollowed := true, recurses := true, named := ["staith/act.shapes", "unicode/utf8.first", "unicode/utf8.acceptRanges", "internal/bytealg.MaxLen"], plainKeys := false, apart := false, laid := [("unicode/utf8.acceptRanges", laid_unicode_utf8_acceptRanges), ("staith/act.shapes", laid_staith_act_shapes), ("unicode/utf8.first", laid_unicode_utf8_first)] }
def StateBootsSaid : Prop := stateBootsRow.holds Tryz.pinned (OpenSpec.ofChange stateBootsSpec)

/-- ITS FALSE NEIGHBOUR: 'it returns false'. Refute it at one input. -/
def stateBootsWrong : ChangeSpec := { name := "stateBoots", fn := fun _ => fun
  | [d1, d2] => { results := [.lit (.bool false)], args := [d1, d2] }
  | _ => none }
def StateBootsWrongFalsely : Prop := stateBootsRow.holds Tryz.pinned (OpenSpec.ofChange stateBootsWrong)

/-- 'staithlaw14.StateRoutes': WHATEVER THE INPUT: true; the input reads as it did. -/
def stateRoutesSpec : ChangeSpec := { name := "stateRoutes", fn := fun _ => fun
  | [d1, d2, d3] => { results := [.lit (.bool true)], args := [d1, d2, d3] }
  | _ => none }
def stateRoutesRow : OpenClaim := { program := "ytjbjooomagbfcaagreatdoor", sum := "0a3e3dffcee00b8e6f24a0b35bff32ffcfd581a4ab2cb39202ffeac55175cb8e", func := "staith/staithlaw14.StateRoutes", spec := "stateRoutes", inPlace := ["internal/bytealg.IndexByteString", "internal/bytealg.IndexString", "slices.overlaps[staith/api.Item]"], unfollowed := true, recurses := true, named := ["staith/act.shapes", "unicode/utf8.first", "unicode/utf8.acceptRanges", "internal/bytealg.MaxLen"], plainKeys := false, apart := false, laid := [("unicode/utf8.acceptRanges", laid_unicode_utf8_acceptRanges), ("staith/act.shapes", laid_staith_act_shapes), ("unicode/utf8.first", laid_unicode_utf8_first)] }
def StateRoutesSaid : Prop := stateRoutesRow.holds Tryz.pinned (OpenSpec.ofChange stateRoutesSpec)

/-- ITS FALSE NEIGHBOUR: 'it returns false'. Refute it at one input. -/
def stateRoutesWrong : ChangeSpec := { name := "stateRoutes", fn := fun _ => fun
  | [d1, d2, d3] => { results := [.lit (.bool false)], args := [d1, d2, d3] }
  | _ => none }
def StateRoutesWrongFalsely : Prop := stateRoutesRow.holds Tryz.pinned (OpenSpec.ofChange stateRoutesWrong)

/-- 'staithlaw14.StateOnce': WHATEVER THE INPUT: true; the input reads as it did. -/
def stateOnceSpec : ChangeSpec := { name := "stateOnce", fn := fun _ => fun
  | [d1, d2] => { results := [.lit (.bool true)], args := [d1, d2] }
  | _ => none }
def stateOnceRow : OpenClaim := { program := "ytjbjooomagbfcaagreatdoor", sum := "0a3e3dffcee00b8e6f24a0b35bff32ffcfd581a4ab2cb39202ffeac55175cb8e", func := "staith/staithlaw14.StateOnce", spec := "stateOnce", inPlace := ["internal/bytealg.IndexByteString", "internal/bytealg.IndexString", "slices.overlaps[staith/api.Item]", "maps.clone"], unfollowed := true, recurses := true, named := ["staith/act.shapes", "unicode/utf8.first", "unicode/utf8.acceptRanges", "internal/bytealg.MaxLen"], plainKeys := false, apart := false, laid := [("unicode/utf8.acceptRanges", laid_unicode_utf8_acceptRanges), ("staith/act.shapes", laid_staith_act_shapes), ("unicode/utf8.first", laid_unicode_utf8_first)] }
def StateOnceSaid : Prop := stateOnceRow.holds Tryz.pinned (OpenSpec.ofChange stateOnceSpec)

/-- ITS FALSE NEIGHBOUR: 'it returns false'. Refute it at one input. -/
def stateOnceWrong : ChangeSpec := { name := "stateOnce", fn := fun _ => fun
  | [d1, d2] => { results := [.lit (.bool false)], args := [d1, d2] }
  | _ => none }
def StateOnceWrongFalsely : Prop := stateOnceRow.holds Tryz.pinned (OpenSpec.ofChange stateOnceWrong)

/-- 'staithlaw14.StateNone': WHATEVER THE INPUT: true; the input reads as it did. -/
def stateNoneSpec : ChangeSpec := { name := "stateNone", fn := fun _ => fun
  | [d] => { results := [.lit (.bool true)], args := [d] }
  | _ => none }
def stateNoneRow : OpenClaim := { program := "ytjbjooomagbfcaagreatdoor", sum := "0a3e3dffcee00b8e6f24a0b35bff32ffcfd581a4ab2cb39202ffeac55175cb8e", func := "staith/staithlaw14.StateNone", spec := "stateNone", inPlace := ["internal/bytealg.IndexByteString", "internal/bytealg.IndexString", "slices.overlaps[staith/api.Item]", "maps.clone"], unfollowed := true, recurses := true, named := ["staith/act.shapes", "unicode/utf8.first", "unicode/utf8.acceptRanges", "internal/bytealg.MaxLen"], plainKeys := false, apart := false, laid := [("unicode/utf8.acceptRanges", laid_unicode_utf8_acceptRanges), ("staith/act.shapes", laid_staith_act_shapes), ("unicode/utf8.first", laid_unicode_utf8_first)] }
def StateNoneSaid : Prop := stateNoneRow.holds Tryz.pinned (OpenSpec.ofChange stateNoneSpec)

/-- ITS FALSE NEIGHBOUR: 'it returns false'. Refute it at one input. -/
def stateNoneWrong : ChangeSpec := { name := "stateNone", fn := fun _ => fun
  | [d] => { results := [.lit (.bool false)], args := [d] }
  | _ => none }
def StateNoneWrongFalsely : Prop := stateNoneRow.holds Tryz.pinned (OpenSpec.ofChange stateNoneWrong)

/-- 'staithlaw14.StateFroms': WHATEVER THE INPUT: true; the input reads as it did. -/
def stateFromsSpec : ChangeSpec := { name := "stateFroms", fn := fun _ => fun
  | [d1, d2, d3] => { results := [.lit (.bool true)], args := [d1, d2, d3] }
  | _ => none }
def stateFromsRow : OpenClaim := { program := "ytjbjooomagbfcaagreatdoor", sum := "0a3e3dffcee00b8e6f24a0b35bff32ffcfd581a4ab2cb39202ffeac55175cb8e", func := "staith/staithlaw14.StateFroms", spec := "stateFroms", inPlace := ["internal/bytealg.IndexByteString", "internal/bytealg.IndexString", "slices.overlaps[staith/api.Item]"], unfollowed := true, recurses := true, named := ["staith/act.shapes", "unicode/utf8.first", "unicode/utf8.acceptRanges", "internal/bytealg.MaxLen"], plainKeys := false, apart := false, laid := [("unicode/utf8.acceptRanges", laid_unicode_utf8_acceptRanges), ("staith/act.shapes", laid_staith_act_shapes), ("unicode/utf8.first", laid_unicode_utf8_first)] }
def StateFromsSaid : Prop := stateFromsRow.holds Tryz.pinned (OpenSpec.ofChange stateFromsSpec)

/-- ITS FALSE NEIGHBOUR: 'it returns false'. Refute it at one input. -/
def stateFromsWrong : ChangeSpec := { name := "stateFroms", fn := fun _ => fun
  | [d1, d2, d3] => { results := [.lit (.bool false)], args := [d1, d2, d3] }
  | _ => none }
def StateFromsWrongFalsely : Prop := stateFromsRow.holds Tryz.pinned (OpenSpec.ofChange stateFromsWrong)

/- THE SECOND FORM. 'bulk': how many values and letters a reading holds, each counted each time it is reached (what is shared counts as often as it is met; a slice's spare places count too). A statement '..UptoSaid' is the law's where the arguments, and the package variables that the reading takes, are together of bulk at most 1048576: NARROWER than '..Said'. Prove '..Said' where nothing that the law and all that it calls make is longer than what came in: it says more and counts as full. Else prove '..UptoSaid'. A law counts once. -/
mutual
def uptoBulk {H : Type} : DataW H → Nat
  | .lit (.string bytes) => bytes.length + 1
  | .lit _ => 1
  | .nil => 1
  | .ptr d => uptoBulk d + 1
  | .slice elems spare => uptoBulkAll elems + uptoBulkAll spare + 1
  | .agg parts => uptoBulkAll parts + 1
  | .iface _ d => uptoBulk d + 1
  | .map entries => uptoBulkEntries entries + 1
  | .held _ => 1
def uptoBulkAll {H : Type} : List (DataW H) → Nat
  | [] => 0
  | d :: r => uptoBulk d + uptoBulkAll r
def uptoBulkEntries {H : Type} : List (Lit × DataW H) → Nat
  | [] => 0
  | x :: r => uptoBulkEntry x + uptoBulkEntries r
def uptoBulkEntry {H : Type} : Lit × DataW H → Nat
  | (.string bytes, d) => bytes.length + uptoBulk d + 1
  | (_, d) => uptoBulk d + 1
 end
def uptoSmall : (H : Type) → List (DataW H) → Bool := fun _ ds => decide (uptoBulkAll ds ≤ 1048576)
def OpenSpec.upto (s : _root_.Go.ChangeSpec) : _root_.Go.OpenSpec := { _root_.Go.OpenSpec.ofChange s with cond := some uptoSmall }

/-- 'staithlaw14.StateActs', WHERE WHAT IT READS IS OF BULK AT MOST 1048576: true; the input reads as it did. -/
def stateActsUptoRow : OpenClaim := { program := "ytjbjooomagbfcaagreatdoor", sum := "0a3e3dffcee00b8e6f24a0b35bff32ffcfd581a4ab2cb39202ffeac55175cb8e", func := "staith/staithlaw14.StateActs", spec := "stateActs", inPlace := ["internal/bytealg.IndexByteString", "internal/bytealg.IndexString", "slices.overlaps[staith/api.Item]"], unfollowed := true, recurses := true, named := ["staith/act.shapes", "unicode/utf8.first", "unicode/utf8.acceptRanges", "internal/bytealg.MaxLen"], plainKeys := false, apart := false, laid := [("unicode/utf8.acceptRanges", laid_unicode_utf8_acceptRanges), ("staith/act.shapes", laid_staith_act_shapes), ("unicode/utf8.first", laid_unicode_utf8_first)], narrowed := true }
def StateActsUptoSaid : Prop := stateActsUptoRow.holds Tryz.pinned (OpenSpec.upto stateActsSpec)

/-- 'staithlaw14.StateBoots', WHERE WHAT IT READS IS OF BULK AT MOST 1048576: true; the input reads as it did. -/
def stateBootsUptoRow : OpenClaim := { program := "ytjbjooomagbfcaagreatdoor", sum := "0a3e3dffcee00b8e6f24a0b35bff32ffcfd581a4ab2cb39202ffeac55175cb8e", func := "staith/staithlaw14.StateBoots", spec := "stateBoots", inPlace := ["internal/bytealg.IndexByteString", "internal/bytealg.IndexString", "slices.overlaps[staith/api.Item]"], unfollowed := true, recurses := true, named := ["staith/act.shapes", "unicode/utf8.first", "unicode/utf8.acceptRanges", "internal/bytealg.MaxLen"], plainKeys := false, apart := false, laid := [("unicode/utf8.acceptRanges", laid_unicode_utf8_acceptRanges), ("staith/act.shapes", laid_staith_act_shapes), ("unicode/utf8.first", laid_unicode_utf8_first)], narrowed := true }
def StateBootsUptoSaid : Prop := stateBootsUptoRow.holds Tryz.pinned (OpenSpec.upto stateBootsSpec)

/-- 'staithlaw14.StateRoutes', WHERE WHAT IT READS IS OF BULK AT MOST 1048576: true; the input reads as it did. -/
def stateRoutesUptoRow : OpenClaim := { program := "ytjbjooomagbfcaagreatdoor", sum := "0a3e3dffcee00b8e6f24a0b35bff32ffcfd581a4ab2cb39202ffeac55175cb8e", func := "staith/staithlaw14.StateRoutes", spec := "stateRoutes", inPlace := ["internal/bytealg.IndexByteString", "internal/bytealg.IndexString", "slices.overlaps[staith/api.Item]"], unfollowed := true, recurses := true, named := ["staith/act.shapes", "unicode/utf8.first", "unicode/utf8.acceptRanges", "internal/bytealg.MaxLen"], plainKeys := false, apart := false, laid := [("unicode/utf8.acceptRanges", laid_unicode_utf8_acceptRanges), ("staith/act.shapes", laid_staith_act_shapes), ("unicode/utf8.first", laid_unicode_utf8_first)], narrowed := true }
def StateRoutesUptoSaid : Prop := stateRoutesUptoRow.holds Tryz.pinned (OpenSpec.upto stateRoutesSpec)

/-- 'staithlaw14.StateOnce', WHERE WHAT IT READS IS OF BULK AT MOST 1048576: true; the input reads as it did. -/
def stateOnceUptoRow : OpenClaim := { program := "ytjbjooomagbfcaagreatdoor", sum := "0a3e3dffcee00b8e6f24a0b35bff32ffcfd581a4ab2cb39202ffeac55175cb8e", func := "staith/staithlaw14.StateOnce", spec := "stateOnce", inPlace := ["internal/bytealg.IndexByteString", "internal/bytealg.IndexString", "slices.overlaps[staith/api.Item]", "maps.clone"], unfollowed := true, recurses := true, named := ["staith/act.shapes", "unicode/utf8.first", "unicode/utf8.acceptRanges", "internal/bytealg.MaxLen"], plainKeys := false, apart := false, laid := [("unicode/utf8.acceptRanges", laid_unicode_utf8_acceptRanges), ("staith/act.shapes", laid_staith_act_shapes), ("unicode/utf8.first", laid_unicode_utf8_first)], narrowed := true }
def StateOnceUptoSaid : Prop := stateOnceUptoRow.holds Tryz.pinned (OpenSpec.upto stateOnceSpec)

/-- 'staithlaw14.StateNone', WHERE WHAT IT READS IS OF BULK AT MOST 1048576: true; the input reads as it did. -/
def stateNoneUptoRow : OpenClaim := { program := "ytjbjooomagbfcaagreatdoor", sum := "0a3e3dffcee00b8e6f24a0b35bff32ffcfd581a4ab2cb39202ffeac55175cb8e", func := "staith/staithlaw14.StateNone", spec := "stateNone", inPlace := ["internal/bytealg.IndexByteString", "internal/bytealg.IndexString", "slices.overlaps[staith/api.Item]", "maps.clone"], unfollowed := true, recurses := true, named := ["staith/act.shapes", "unicode/utf8.first", "unicode/utf8.acceptRanges", "internal/bytealg.MaxLen"], plainKeys := false, apart := false, laid := [("unicode/utf8.acceptRanges", laid_unicode_utf8_acceptRanges), ("staith/act.shapes", laid_staith_act_shapes), ("unicode/utf8.first", laid_unicode_utf8_first)], narrowed := true }
def StateNoneUptoSaid : Prop := stateNoneUptoRow.holds Tryz.pinned (OpenSpec.upto stateNoneSpec)

/-- 'staithlaw14.StateFroms', WHERE WHAT IT READS IS OF BULK AT MOST 1048576: true; the input reads as it did. -/
def stateFromsUptoRow : OpenClaim := { program := "ytjbjooomagbfcaagreatdoor", sum := "0a3e3dffcee00b8e6f24a0b35bff32ffcfd581a4ab2cb39202ffeac55175cb8e", func := "staith/staithlaw14.StateFroms", spec := "stateFroms", inPlace := ["internal/bytealg.IndexByteString", "internal/bytealg.IndexString", "slices.overlaps[staith/api.Item]"], unfollowed := true, recurses := true, named := ["staith/act.shapes", "unicode/utf8.first", "unicode/utf8.acceptRanges", "internal/bytealg.MaxLen"], plainKeys := false, apart := false, laid := [("unicode/utf8.acceptRanges", laid_unicode_utf8_acceptRanges), ("staith/act.shapes", laid_staith_act_shapes), ("unicode/utf8.first", laid_unicode_utf8_first)], narrowed := true }
def StateFromsUptoSaid : Prop := stateFromsUptoRow.holds Tryz.pinned (OpenSpec.upto stateFromsSpec)

end Rows
end Go.Proofs.YtjbjooomagbfcaaGreatDoor
