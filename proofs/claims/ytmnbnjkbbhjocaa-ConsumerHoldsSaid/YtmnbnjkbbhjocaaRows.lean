/-
  No cell of these rows narrows 'for every input' (looked for: loops, veiled, ifaces, maps, wideKeys, modest, calm, conditions, laid).
  DERIVED. THE GIVEN ROWS OF THIS SEAT. 5 by the template 'for every input the law returns true; each argument reads behind the call as it read before'; 0 by the template 'total and deterministic' (their statements: YtmnbnjkbbhjocaaTotals.lean).
  GIVEN WITH THE SEED: the statements are not yours to turn. If you find one false, say at which input.
  Laid BY PROGRAM, IN A SANDBOX (cutbox-rows.mjs): the forced cells as the released guide's own fill.sh prints them over the translation efbad7af2be5be54… (all of the seat's roots in one cut). By AI agents, Wed Nov 11 2026. No macro, syntax, notation, axiom, sorry.
-/
import Derived.Test.YtmnbnjkbbhjocaaChecked
import GoSem.Claim
import GoSem.ClaimJoined
import GoSem.ClaimMapViews
import Derived.JoinedTies
import Derived.KernelRfl
namespace Go.Proofs.Ytmnbnjkbbhjocaa
/- THE CELL 'sum', in the pinned program and in every row, IS THE sha256 OF THE DUMP (.gsa) THAT YtmnbnjkbbhjocaaProg.lean LOADS. Nothing in Lean hashes anything: it is a label: what it is worth is what the hold of that sum in a sandbox is worth. -/
noncomputable def Try.pinned : Pinned := { name := "ytmnbnjkbbhjocaa", sum := "efbad7af2be5be54f575fbfae2b32ae21a00c571fd795feaf9f7d61e7f24effb", checked := Try.checked }
namespace Rows
def none {H : Type} : Left H := { results := [], args := [] }

/-- 'staithlaw17.ConsumerTurns': WHATEVER THE INPUT: true; the input reads as it did. -/
def consumerTurnsSpec : ChangeSpec := { name := "consumerTurns", fn := fun _ => fun
  | [d1, d2] => { results := [.lit (.bool true)], args := [d1, d2] }
  | _ => none }
def consumerTurnsRow : OpenClaim := { program := "ytmnbnjkbbhjocaa", sum := "efbad7af2be5be54f575fbfae2b32ae21a00c571fd795feaf9f7d61e7f24effb", func := "staith/staithlaw17.ConsumerTurns", spec := "consumerTurns", unfollowed := true, recurses := true, apart := false }
def ConsumerTurnsSaid : Prop := consumerTurnsRow.holds Try.pinned (OpenSpec.ofChange consumerTurnsSpec)

/-- ITS FALSE NEIGHBOUR: 'it returns false'. Refute it at one input. -/
def consumerTurnsWrong : ChangeSpec := { name := "consumerTurns", fn := fun _ => fun
  | [d1, d2] => { results := [.lit (.bool false)], args := [d1, d2] }
  | _ => none }
def ConsumerTurnsWrongFalsely : Prop := consumerTurnsRow.holds Try.pinned (OpenSpec.ofChange consumerTurnsWrong)

/-- 'staithlaw17.ConsumerActs': WHATEVER THE INPUT: true; the input reads as it did. -/
def consumerActsSpec : ChangeSpec := { name := "consumerActs", fn := fun _ => fun
  | [d] => { results := [.lit (.bool true)], args := [d] }
  | _ => none }
def consumerActsRow : OpenClaim := { program := "ytmnbnjkbbhjocaa", sum := "efbad7af2be5be54f575fbfae2b32ae21a00c571fd795feaf9f7d61e7f24effb", func := "staith/staithlaw17.ConsumerActs", spec := "consumerActs", unfollowed := true, recurses := true, apart := false }
def ConsumerActsSaid : Prop := consumerActsRow.holds Try.pinned (OpenSpec.ofChange consumerActsSpec)

/-- ITS FALSE NEIGHBOUR: 'it returns false'. Refute it at one input. -/
def consumerActsWrong : ChangeSpec := { name := "consumerActs", fn := fun _ => fun
  | [d] => { results := [.lit (.bool false)], args := [d] }
  | _ => none }
def ConsumerActsWrongFalsely : Prop := consumerActsRow.holds Try.pinned (OpenSpec.ofChange consumerActsWrong)

/-- 'staithlaw17.ConsumerHolds': WHATEVER THE INPUT: true; the input reads as it did. -/
def consumerHoldsSpec : ChangeSpec := { name := "consumerHolds", fn := fun _ => fun
  | [d] => { results := [.lit (.bool true)], args := [d] }
  | _ => none }
def consumerHoldsRow : OpenClaim := { program := "ytmnbnjkbbhjocaa", sum := "efbad7af2be5be54f575fbfae2b32ae21a00c571fd795feaf9f7d61e7f24effb", func := "staith/staithlaw17.ConsumerHolds", spec := "consumerHolds", unfollowed := true, recurses := true, apart := false }
def ConsumerHoldsSaid : Prop := consumerHoldsRow.holds Try.pinned (OpenSpec.ofChange consumerHoldsSpec)

/-- ITS FALSE NEIGHBOUR: 'it returns false'. Refute it at one input. -/
def consumerHoldsWrong : ChangeSpec := { name := "consumerHolds", fn := fun _ => fun
  | [d] => { results := [.lit (.bool false)], args := [d] }
  | _ => none }
def ConsumerHoldsWrongFalsely : Prop := consumerHoldsRow.holds Try.pinned (OpenSpec.ofChange consumerHoldsWrong)

/-- 'staithlaw17.ConsumerNone': WHATEVER THE INPUT: true; the input reads as it did. -/
def consumerNoneSpec : ChangeSpec := { name := "consumerNone", fn := fun _ => fun
  | [d] => { results := [.lit (.bool true)], args := [d] }
  | _ => none }
def consumerNoneRow : OpenClaim := { program := "ytmnbnjkbbhjocaa", sum := "efbad7af2be5be54f575fbfae2b32ae21a00c571fd795feaf9f7d61e7f24effb", func := "staith/staithlaw17.ConsumerNone", spec := "consumerNone", unfollowed := true, recurses := true, apart := false }
def ConsumerNoneSaid : Prop := consumerNoneRow.holds Try.pinned (OpenSpec.ofChange consumerNoneSpec)

/-- ITS FALSE NEIGHBOUR: 'it returns false'. Refute it at one input. -/
def consumerNoneWrong : ChangeSpec := { name := "consumerNone", fn := fun _ => fun
  | [d] => { results := [.lit (.bool false)], args := [d] }
  | _ => none }
def ConsumerNoneWrongFalsely : Prop := consumerNoneRow.holds Try.pinned (OpenSpec.ofChange consumerNoneWrong)

/-- 'staithlaw17.ConsumerForgets': WHATEVER THE INPUT: true; the input reads as it did. -/
def consumerForgetsSpec : ChangeSpec := { name := "consumerForgets", fn := fun _ => fun
  | [d1, d2] => { results := [.lit (.bool true)], args := [d1, d2] }
  | _ => none }
def consumerForgetsRow : OpenClaim := { program := "ytmnbnjkbbhjocaa", sum := "efbad7af2be5be54f575fbfae2b32ae21a00c571fd795feaf9f7d61e7f24effb", func := "staith/staithlaw17.ConsumerForgets", spec := "consumerForgets", unfollowed := true, recurses := true, apart := false }
def ConsumerForgetsSaid : Prop := consumerForgetsRow.holds Try.pinned (OpenSpec.ofChange consumerForgetsSpec)

/-- ITS FALSE NEIGHBOUR: 'it returns false'. Refute it at one input. -/
def consumerForgetsWrong : ChangeSpec := { name := "consumerForgets", fn := fun _ => fun
  | [d1, d2] => { results := [.lit (.bool false)], args := [d1, d2] }
  | _ => none }
def ConsumerForgetsWrongFalsely : Prop := consumerForgetsRow.holds Try.pinned (OpenSpec.ofChange consumerForgetsWrong)

/- THE SECOND FORM. 'bulk': how many values and letters a reading holds, each counted each time it is reached (what is shared counts as often as it is met; a slice's spare places count too). A statement '..UptoSaid' is the law's where the arguments, and the package variables that the reading takes, are together of bulk at most 1048576: NARROWER than '..Said'. Prove '..Said' where nothing that the law and all that it calls make is longer than what came in: it says more and counts as full. Else prove '..UptoSaid'. A law counts once. -/
mutual
def uptoBulk {H : Type} : DataW H → Nat
  | .lit (.string bytes) => bytes.length + 1
  | .lit _ => 1
  | .nil => 1
  | .ptr d => uptoBulk d + 1
  | .slice elems spare => uptoBulkAll elems + uptoBulkAll spare + 1
  | .agg parts => uptoBulkAll parts + 1
  | .iface _ d => uptoBulk d + 1
  | .map entries => uptoBulkEntries entries + 1
  | .held _ => 1
def uptoBulkAll {H : Type} : List (DataW H) → Nat
  | [] => 0
  | d :: r => uptoBulk d + uptoBulkAll r
def uptoBulkEntries {H : Type} : List (Lit × DataW H) → Nat
  | [] => 0
  | x :: r => uptoBulkEntry x + uptoBulkEntries r
def uptoBulkEntry {H : Type} : Lit × DataW H → Nat
  | (.string bytes, d) => bytes.length + uptoBulk d + 1
  | (_, d) => uptoBulk d + 1
 end
def uptoSmall : (H : Type) → List (DataW H) → Bool := fun _ ds => decide (uptoBulkAll ds ≤ 1048576)
def OpenSpec.upto (s : _root_.Go.ChangeSpec) : _root_.Go.OpenSpec := { _root_.Go.OpenSpec.ofChange s with cond := some uptoSmall }

/-- 'staithlaw17.ConsumerTurns', WHERE WHAT IT READS IS OF BULK AT MOST 1048576: true; the input reads as it did. -/
def consumerTurnsUptoRow : OpenClaim := { program := "ytmnbnjkbbhjocaa", sum := "efbad7af2be5be54f575fbfae2b32ae21a00c571fd795feaf9f7d61e7f24effb", func := "staith/staithlaw17.ConsumerTurns", spec := "consumerTurns", unfollowed := true, recurses := true, apart := false, narrowed := true }
def ConsumerTurnsUptoSaid : Prop := consumerTurnsUptoRow.holds Try.pinned (OpenSpec.upto consumerTurnsSpec)

/-- 'staithlaw17.ConsumerActs', WHERE WHAT IT READS IS OF BULK AT MOST 1048576: true; the input reads as it did. -/
def consumerActsUptoRow : OpenClaim := { program := "ytmnbnjkbbhjocaa", sum := "efbad7af2be5be54f575fbfae2b32ae21a00c571fd795feaf9f7d61e7f24effb", func := "staith/staithlaw17.ConsumerActs", spec := "consumerActs", unfollowed := true, recurses := true, apart := false, narrowed := true }
def ConsumerActsUptoSaid : Prop := consumerActsUptoRow.holds Try.pinned (OpenSpec.upto consumerActsSpec)

/-- 'staithlaw17.ConsumerHolds', WHERE WHAT IT READS IS OF BULK AT MOST 1048576: true; the input reads as it did. -/
def consumerHoldsUptoRow : OpenClaim := { program := "ytmnbnjkbbhjocaa", sum := "efbad7af2be5be54f575fbfae2b32ae21a00c571fd795feaf9f7d61e7f24effb", func := "staith/staithlaw17.ConsumerHolds", spec := "consumerHolds", unfollowed := true, recurses := true, apart := false, narrowed := true }
def ConsumerHoldsUptoSaid : Prop := consumerHoldsUptoRow.holds Try.pinned (OpenSpec.upto consumerHoldsSpec)

/-- 'staithlaw17.ConsumerNone', WHERE WHAT IT READS IS OF BULK AT MOST 1048576: true; the input reads as it did. -/
def consumerNoneUptoRow : OpenClaim := { program := "ytmnbnjkbbhjocaa", sum := "efbad7af2be5be54f575fbfae2b32ae21a00c571fd795feaf9f7d61e7f24effb", func := "staith/staithlaw17.ConsumerNone", spec := "consumerNone", unfollowed := true, recurses := true, apart := false, narrowed := true }
def ConsumerNoneUptoSaid : Prop := consumerNoneUptoRow.holds Try.pinned (OpenSpec.upto consumerNoneSpec)

/-- 'staithlaw17.ConsumerForgets', WHERE WHAT IT READS IS OF BULK AT MOST 1048576: true; the input reads as it did. -/
def consumerForgetsUptoRow : OpenClaim := { program := "ytmnbnjkbbhjocaa", sum := "efbad7af2be5be54f575fbfae2b32ae21a00c571fd795feaf9f7d61e7f24effb", func := "staith/staithlaw17.ConsumerForgets", spec := "consumerForgets", unfollowed := true, recurses := true, apart := false, narrowed := true }
def ConsumerForgetsUptoSaid : Prop := consumerForgetsUptoRow.holds Try.pinned (OpenSpec.upto consumerForgetsSpec)

end Rows
end Go.Proofs.Ytmnbnjkbbhjocaa
