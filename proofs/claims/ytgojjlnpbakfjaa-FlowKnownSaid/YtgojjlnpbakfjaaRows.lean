/-
  No cell of these rows narrows 'for every input' (looked for: loops, veiled, ifaces, maps, wideKeys, modest, calm, conditions, laid).
  DERIVED. THE GIVEN ROWS OF THIS SEAT. 7 by the template 'for every input the law returns true; each argument reads behind the call as it read before'; 0 by the template 'total and deterministic' (their statements: YtgojjlnpbakfjaaTotals.lean).
  GIVEN WITH THE SEED: the statements are not yours to turn. If you find one false, say at which input.
  Laid BY PROGRAM, IN A SANDBOX (cutbox-rows.mjs): the forced cells as the released guide's own fill.sh prints them over the translation 96306ab82ac654d4… (all of the seat's roots in one cut). By AI agents, Wed Nov 11 2026. No macro, syntax, notation, axiom, sorry.
-/
import Derived.Test.YtgojjlnpbakfjaaChecked
import GoSem.Claim
import GoSem.ClaimJoined
import GoSem.ClaimMapViews
import Derived.JoinedTies
import Derived.KernelRfl
namespace Go.Proofs.Ytgojjlnpbakfjaa
/- THE CELL 'sum', in the pinned program and in every row, IS THE sha256 OF THE DUMP (.gsa) THAT YtgojjlnpbakfjaaProg.lean LOADS. Nothing in Lean hashes anything: it is a label: what it is worth is what the hold of that sum in a sandbox is worth. -/
noncomputable def Try.pinned : Pinned := { name := "ytgojjlnpbakfjaa", sum := "96306ab82ac654d40c9f0adeb2c8766500dbd6ea5865ef87592d421b3990673b", checked := Try.checked }
namespace Rows
def none {H : Type} : Left H := { results := [], args := [] }

/-- 'majordomolaw05.FlowMaxes': WHATEVER THE INPUT: true; the input reads as it did. -/
def flowMaxesSpec : ChangeSpec := { name := "flowMaxes", fn := fun _ => fun
  | [d1, d2, d3] => { results := [.lit (.bool true)], args := [d1, d2, d3] }
  | _ => none }
def flowMaxesRow : OpenClaim := { program := "ytgojjlnpbakfjaa", sum := "96306ab82ac654d40c9f0adeb2c8766500dbd6ea5865ef87592d421b3990673b", func := "majordomo/majordomolaw05.FlowMaxes", spec := "flowMaxes", unfollowed := true, recurses := true, apart := false }
def FlowMaxesSaid : Prop := flowMaxesRow.holds Try.pinned (OpenSpec.ofChange flowMaxesSpec)

/-- ITS FALSE NEIGHBOUR: 'it returns false'. Refute it at one input. -/
def flowMaxesWrong : ChangeSpec := { name := "flowMaxes", fn := fun _ => fun
  | [d1, d2, d3] => { results := [.lit (.bool false)], args := [d1, d2, d3] }
  | _ => none }
def FlowMaxesWrongFalsely : Prop := flowMaxesRow.holds Try.pinned (OpenSpec.ofChange flowMaxesWrong)

/-- 'majordomolaw05.FlowCuts': WHATEVER THE INPUT: true; the input reads as it did. -/
def flowCutsSpec : ChangeSpec := { name := "flowCuts", fn := fun _ => fun
  | [d1, d2, d3] => { results := [.lit (.bool true)], args := [d1, d2, d3] }
  | _ => none }
def flowCutsRow : OpenClaim := { program := "ytgojjlnpbakfjaa", sum := "96306ab82ac654d40c9f0adeb2c8766500dbd6ea5865ef87592d421b3990673b", func := "majordomo/majordomolaw05.FlowCuts", spec := "flowCuts", unfollowed := true, recurses := true, apart := false }
def FlowCutsSaid : Prop := flowCutsRow.holds Try.pinned (OpenSpec.ofChange flowCutsSpec)

/-- ITS FALSE NEIGHBOUR: 'it returns false'. Refute it at one input. -/
def flowCutsWrong : ChangeSpec := { name := "flowCuts", fn := fun _ => fun
  | [d1, d2, d3] => { results := [.lit (.bool false)], args := [d1, d2, d3] }
  | _ => none }
def FlowCutsWrongFalsely : Prop := flowCutsRow.holds Try.pinned (OpenSpec.ofChange flowCutsWrong)

/-- 'majordomolaw05.FlowKnown': WHATEVER THE INPUT: true; the input reads as it did. -/
def flowKnownSpec : ChangeSpec := { name := "flowKnown", fn := fun _ => fun
  | [] => { results := [.lit (.bool true)], args := [] }
  | _ => none }
def flowKnownRow : OpenClaim := { program := "ytgojjlnpbakfjaa", sum := "96306ab82ac654d40c9f0adeb2c8766500dbd6ea5865ef87592d421b3990673b", func := "majordomo/majordomolaw05.FlowKnown", spec := "flowKnown", unfollowed := true, recurses := true, apart := false }
def FlowKnownSaid : Prop := flowKnownRow.holds Try.pinned (OpenSpec.ofChange flowKnownSpec)

/-- ITS FALSE NEIGHBOUR: 'it returns false'. Refute it at one input. -/
def flowKnownWrong : ChangeSpec := { name := "flowKnown", fn := fun _ => fun
  | [] => { results := [.lit (.bool false)], args := [] }
  | _ => none }
def FlowKnownWrongFalsely : Prop := flowKnownRow.holds Try.pinned (OpenSpec.ofChange flowKnownWrong)

/-- 'majordomolaw05.FlowChecks': WHATEVER THE INPUT: true; the input reads as it did. -/
def flowChecksSpec : ChangeSpec := { name := "flowChecks", fn := fun _ => fun
  | [d1, d2, d3, d4, d5] => { results := [.lit (.bool true)], args := [d1, d2, d3, d4, d5] }
  | _ => none }
def flowChecksRow : OpenClaim := { program := "ytgojjlnpbakfjaa", sum := "96306ab82ac654d40c9f0adeb2c8766500dbd6ea5865ef87592d421b3990673b", func := "majordomo/majordomolaw05.FlowChecks", spec := "flowChecks", unfollowed := true, recurses := true, apart := false }
def FlowChecksSaid : Prop := flowChecksRow.holds Try.pinned (OpenSpec.ofChange flowChecksSpec)

/-- ITS FALSE NEIGHBOUR: 'it returns false'. Refute it at one input. -/
def flowChecksWrong : ChangeSpec := { name := "flowChecks", fn := fun _ => fun
  | [d1, d2, d3, d4, d5] => { results := [.lit (.bool false)], args := [d1, d2, d3, d4, d5] }
  | _ => none }
def FlowChecksWrongFalsely : Prop := flowChecksRow.holds Try.pinned (OpenSpec.ofChange flowChecksWrong)

/-- 'majordomolaw05.FlowBound': WHATEVER THE INPUT: true; the input reads as it did. -/
def flowBoundSpec : ChangeSpec := { name := "flowBound", fn := fun _ => fun
  | [d1, d2, d3, d4, d5] => { results := [.lit (.bool true)], args := [d1, d2, d3, d4, d5] }
  | _ => none }
def flowBoundRow : OpenClaim := { program := "ytgojjlnpbakfjaa", sum := "96306ab82ac654d40c9f0adeb2c8766500dbd6ea5865ef87592d421b3990673b", func := "majordomo/majordomolaw05.FlowBound", spec := "flowBound", unfollowed := true, recurses := true, apart := false }
def FlowBoundSaid : Prop := flowBoundRow.holds Try.pinned (OpenSpec.ofChange flowBoundSpec)

/-- ITS FALSE NEIGHBOUR: 'it returns false'. Refute it at one input. -/
def flowBoundWrong : ChangeSpec := { name := "flowBound", fn := fun _ => fun
  | [d1, d2, d3, d4, d5] => { results := [.lit (.bool false)], args := [d1, d2, d3, d4, d5] }
  | _ => none }
def FlowBoundWrongFalsely : Prop := flowBoundRow.holds Try.pinned (OpenSpec.ofChange flowBoundWrong)

/-- 'majordomolaw05.FlowDual': WHATEVER THE INPUT: true; the input reads as it did. -/
def flowDualSpec : ChangeSpec := { name := "flowDual", fn := fun _ => fun
  | [d1, d2, d3, d4, d5] => { results := [.lit (.bool true)], args := [d1, d2, d3, d4, d5] }
  | _ => none }
def flowDualRow : OpenClaim := { program := "ytgojjlnpbakfjaa", sum := "96306ab82ac654d40c9f0adeb2c8766500dbd6ea5865ef87592d421b3990673b", func := "majordomo/majordomolaw05.FlowDual", spec := "flowDual", unfollowed := true, recurses := true, apart := false }
def FlowDualSaid : Prop := flowDualRow.holds Try.pinned (OpenSpec.ofChange flowDualSpec)

/-- ITS FALSE NEIGHBOUR: 'it returns false'. Refute it at one input. -/
def flowDualWrong : ChangeSpec := { name := "flowDual", fn := fun _ => fun
  | [d1, d2, d3, d4, d5] => { results := [.lit (.bool false)], args := [d1, d2, d3, d4, d5] }
  | _ => none }
def FlowDualWrongFalsely : Prop := flowDualRow.holds Try.pinned (OpenSpec.ofChange flowDualWrong)

/-- 'majordomolaw05.FlowTurns': WHATEVER THE INPUT: true; the input reads as it did. -/
def flowTurnsSpec : ChangeSpec := { name := "flowTurns", fn := fun _ => fun
  | [d1, d2, d3, d4, d5, d6] => { results := [.lit (.bool true)], args := [d1, d2, d3, d4, d5, d6] }
  | _ => none }
def flowTurnsRow : OpenClaim := { program := "ytgojjlnpbakfjaa", sum := "96306ab82ac654d40c9f0adeb2c8766500dbd6ea5865ef87592d421b3990673b", func := "majordomo/majordomolaw05.FlowTurns", spec := "flowTurns", unfollowed := true, recurses := true, apart := false }
def FlowTurnsSaid : Prop := flowTurnsRow.holds Try.pinned (OpenSpec.ofChange flowTurnsSpec)

/-- ITS FALSE NEIGHBOUR: 'it returns false'. Refute it at one input. -/
def flowTurnsWrong : ChangeSpec := { name := "flowTurns", fn := fun _ => fun
  | [d1, d2, d3, d4, d5, d6] => { results := [.lit (.bool false)], args := [d1, d2, d3, d4, d5, d6] }
  | _ => none }
def FlowTurnsWrongFalsely : Prop := flowTurnsRow.holds Try.pinned (OpenSpec.ofChange flowTurnsWrong)

/- THE SECOND FORM. 'bulk': how many values and letters a reading holds, each counted each time it is reached (what is shared counts as often as it is met; a slice's spare places count too). A statement '..UptoSaid' is the law's where the arguments, and the package variables that the reading takes, are together of bulk at most 1048576: NARROWER than '..Said'. Prove '..Said' where nothing that the law and all that it calls make is longer than what came in: it says more and counts as full. Else prove '..UptoSaid'. A law counts once. -/
mutual
def uptoBulk {H : Type} : DataW H → Nat
  | .lit (.string bytes) => bytes.length + 1
  | .lit _ => 1
  | .nil => 1
  | .ptr d => uptoBulk d + 1
  | .slice elems spare => uptoBulkAll elems + uptoBulkAll spare + 1
  | .agg parts => uptoBulkAll parts + 1
  | .iface _ d => uptoBulk d + 1
  | .map entries => uptoBulkEntries entries + 1
  | .held _ => 1
def uptoBulkAll {H : Type} : List (DataW H) → Nat
  | [] => 0
  | d :: r => uptoBulk d + uptoBulkAll r
def uptoBulkEntries {H : Type} : List (Lit × DataW H) → Nat
  | [] => 0
  | x :: r => uptoBulkEntry x + uptoBulkEntries r
def uptoBulkEntry {H : Type} : Lit × DataW H → Nat
  | (.string bytes, d) => bytes.length + uptoBulk d + 1
  | (_, d) => uptoBulk d + 1
 end
def uptoSmall : (H : Type) → List (DataW H) → Bool := fun _ ds => decide (uptoBulkAll ds ≤ 1048576)
def OpenSpec.upto (s : _root_.Go.ChangeSpec) : _root_.Go.OpenSpec := { _root_.Go.OpenSpec.ofChange s with cond := some uptoSmall }

/-- 'majordomolaw05.FlowMaxes', WHERE WHAT IT READS IS OF BULK AT MOST 1048576: true; the input reads as it did. -/
def flowMaxesUptoRow : OpenClaim := { program := "ytgojjlnpbakfjaa", sum := "96306ab82ac654d40c9f0adeb2c8766500dbd6ea5865ef87592d421b3990673b", func := "majordomo/majordomolaw05.FlowMaxes", spec := "flowMaxes", unfollowed := true, recurses := true, apart := false, narrowed := true }
def FlowMaxesUptoSaid : Prop := flowMaxesUptoRow.holds Try.pinned (OpenSpec.upto flowMaxesSpec)

/-- 'majordomolaw05.FlowCuts', WHERE WHAT IT READS IS OF BULK AT MOST 1048576: true; the input reads as it did. -/
def flowCutsUptoRow : OpenClaim := { program := "ytgojjlnpbakfjaa", sum := "96306ab82ac654d40c9f0adeb2c8766500dbd6ea5865ef87592d421b3990673b", func := "majordomo/majordomolaw05.FlowCuts", spec := "flowCuts", unfollowed := true, recurses := true, apart := false, narrowed := true }
def FlowCutsUptoSaid : Prop := flowCutsUptoRow.holds Try.pinned (OpenSpec.upto flowCutsSpec)

/-- 'majordomolaw05.FlowKnown', WHERE WHAT IT READS IS OF BULK AT MOST 1048576: true; the input reads as it did. -/
def flowKnownUptoRow : OpenClaim := { program := "ytgojjlnpbakfjaa", sum := "96306ab82ac654d40c9f0adeb2c8766500dbd6ea5865ef87592d421b3990673b", func := "majordomo/majordomolaw05.FlowKnown", spec := "flowKnown", unfollowed := true, recurses := true, apart := false, narrowed := true }
def FlowKnownUptoSaid : Prop := flowKnownUptoRow.holds Try.pinned (OpenSpec.upto flowKnownSpec)

/-- 'majordomolaw05.FlowChecks', WHERE WHAT IT READS IS OF BULK AT MOST 1048576: true; the input reads as it did. -/
def flowChecksUptoRow : OpenClaim := { program := "ytgojjlnpbakfjaa", sum := "96306ab82ac654d40c9f0adeb2c8766500dbd6ea5865ef87592d421b3990673b", func := "majordomo/majordomolaw05.FlowChecks", spec := "flowChecks", unfollowed := true, recurses := true, apart := false, narrowed := true }
def FlowChecksUptoSaid : Prop := flowChecksUptoRow.holds Try.pinned (OpenSpec.upto flowChecksSpec)

/-- 'majordomolaw05.FlowBound', WHERE WHAT IT READS IS OF BULK AT MOST 1048576: true; the input reads as it did. -/
def flowBoundUptoRow : OpenClaim := { program := "ytgojjlnpbakfjaa", sum := "96306ab82ac654d40c9f0adeb2c8766500dbd6ea5865ef87592d421b3990673b", func := "majordomo/majordomolaw05.FlowBound", spec := "flowBound", unfollowed := true, recurses := true, apart := false, narrowed := true }
def FlowBoundUptoSaid : Prop := flowBoundUptoRow.holds Try.pinned (OpenSpec.upto flowBoundSpec)

/-- 'majordomolaw05.FlowDual', WHERE WHAT IT READS IS OF BULK AT MOST 1048576: true; the input reads as it did. -/
def flowDualUptoRow : OpenClaim := { program := "ytgojjlnpbakfjaa", sum := "96306ab82ac654d40c9f0adeb2c8766500dbd6ea5865ef87592d421b3990673b", func := "majordomo/majordomolaw05.FlowDual", spec := "flowDual", unfollowed := true, recurses := true, apart := false, narrowed := true }
def FlowDualUptoSaid : Prop := flowDualUptoRow.holds Try.pinned (OpenSpec.upto flowDualSpec)

/-- 'majordomolaw05.FlowTurns', WHERE WHAT IT READS IS OF BULK AT MOST 1048576: true; the input reads as it did. -/
def flowTurnsUptoRow : OpenClaim := { program := "ytgojjlnpbakfjaa", sum := "96306ab82ac654d40c9f0adeb2c8766500dbd6ea5865ef87592d421b3990673b", func := "majordomo/majordomolaw05.FlowTurns", spec := "flowTurns", unfollowed := true, recurses := true, apart := false, narrowed := true }
def FlowTurnsUptoSaid : Prop := flowTurnsUptoRow.holds Try.pinned (OpenSpec.upto flowTurnsSpec)

end Rows
end Go.Proofs.Ytgojjlnpbakfjaa
