/-
  No cell of these rows narrows 'for every input' (looked for: loops, veiled, ifaces, maps, wideKeys, modest, calm, conditions, laid).
  DERIVED. THE GIVEN ROWS OF THIS SEAT. 7 by the template 'for every input the law returns true; each argument reads behind the call as it read before'; 0 by the template 'total and deterministic' (their statements: YtojpbmaojbejjaaTotals.lean).
  GIVEN WITH THE SEED: the statements are not yours to turn. If you find one false, say at which input.
  Laid BY PROGRAM, IN A SANDBOX (cutbox-rows.mjs): the forced cells as the released guide's own fill.sh prints them over the translation ac2d701713d4eab8… (all of the seat's roots in one cut). By AI agents, Wed Nov 11 2026. No macro, syntax, notation, axiom, sorry.
-/
import Derived.Test.YtojpbmaojbejjaaChecked
import GoSem.Claim
import GoSem.ClaimJoined
import GoSem.ClaimMapViews
import Derived.JoinedTies
import Derived.KernelRfl
namespace Go.Proofs.Ytojpbmaojbejjaa
/- THE CELL 'sum', in the pinned program and in every row, IS THE sha256 OF THE DUMP (.gsa) THAT YtojpbmaojbejjaaProg.lean LOADS. Nothing in Lean hashes anything: it is a label: what it is worth is what the hold of that sum in a sandbox is worth. -/
noncomputable def Try.pinned : Pinned := { name := "ytojpbmaojbejjaa", sum := "ac2d701713d4eab8ca1b70ef57b13f23e29181519d0de87f49635aa354d9a79e", checked := Try.checked }
namespace Rows
def none {H : Type} : Left H := { results := [], args := [] }

/-- 'majordomolaw07.BreakerTimes': WHATEVER THE INPUT: true; the input reads as it did. -/
def breakerTimesSpec : ChangeSpec := { name := "breakerTimes", fn := fun _ => fun
  | [d1, d2, d3, d4] => { results := [.lit (.bool true)], args := [d1, d2, d3, d4] }
  | _ => none }
def breakerTimesRow : OpenClaim := { program := "ytojpbmaojbejjaa", sum := "ac2d701713d4eab8ca1b70ef57b13f23e29181519d0de87f49635aa354d9a79e", func := "majordomo/majordomolaw07.BreakerTimes", spec := "breakerTimes", unfollowed := true, recurses := true, apart := false }
def BreakerTimesSaid : Prop := breakerTimesRow.holds Try.pinned (OpenSpec.ofChange breakerTimesSpec)

/-- ITS FALSE NEIGHBOUR: 'it returns false'. Refute it at one input. -/
def breakerTimesWrong : ChangeSpec := { name := "breakerTimes", fn := fun _ => fun
  | [d1, d2, d3, d4] => { results := [.lit (.bool false)], args := [d1, d2, d3, d4] }
  | _ => none }
def BreakerTimesWrongFalsely : Prop := breakerTimesRow.holds Try.pinned (OpenSpec.ofChange breakerTimesWrong)

/-- 'majordomolaw07.BreakerGalois': WHATEVER THE INPUT: true; the input reads as it did. -/
def breakerGaloisSpec : ChangeSpec := { name := "breakerGalois", fn := fun _ => fun
  | [d1, d2, d3] => { results := [.lit (.bool true)], args := [d1, d2, d3] }
  | _ => none }
def breakerGaloisRow : OpenClaim := { program := "ytojpbmaojbejjaa", sum := "ac2d701713d4eab8ca1b70ef57b13f23e29181519d0de87f49635aa354d9a79e", func := "majordomo/majordomolaw07.BreakerGalois", spec := "breakerGalois", unfollowed := true, recurses := true, apart := false }
def BreakerGaloisSaid : Prop := breakerGaloisRow.holds Try.pinned (OpenSpec.ofChange breakerGaloisSpec)

/-- ITS FALSE NEIGHBOUR: 'it returns false'. Refute it at one input. -/
def breakerGaloisWrong : ChangeSpec := { name := "breakerGalois", fn := fun _ => fun
  | [d1, d2, d3] => { results := [.lit (.bool false)], args := [d1, d2, d3] }
  | _ => none }
def BreakerGaloisWrongFalsely : Prop := breakerGaloisRow.holds Try.pinned (OpenSpec.ofChange breakerGaloisWrong)

/-- 'majordomolaw07.BreakerKnown': WHATEVER THE INPUT: true; the input reads as it did. -/
def breakerKnownSpec : ChangeSpec := { name := "breakerKnown", fn := fun _ => fun
  | [] => { results := [.lit (.bool true)], args := [] }
  | _ => none }
def breakerKnownRow : OpenClaim := { program := "ytojpbmaojbejjaa", sum := "ac2d701713d4eab8ca1b70ef57b13f23e29181519d0de87f49635aa354d9a79e", func := "majordomo/majordomolaw07.BreakerKnown", spec := "breakerKnown", unfollowed := true, recurses := true, apart := false }
def BreakerKnownSaid : Prop := breakerKnownRow.holds Try.pinned (OpenSpec.ofChange breakerKnownSpec)

/-- ITS FALSE NEIGHBOUR: 'it returns false'. Refute it at one input. -/
def breakerKnownWrong : ChangeSpec := { name := "breakerKnown", fn := fun _ => fun
  | [] => { results := [.lit (.bool false)], args := [] }
  | _ => none }
def BreakerKnownWrongFalsely : Prop := breakerKnownRow.holds Try.pinned (OpenSpec.ofChange breakerKnownWrong)

/-- 'majordomolaw07.BreakerCourses': WHATEVER THE INPUT: true; the input reads as it did. -/
def breakerCoursesSpec : ChangeSpec := { name := "breakerCourses", fn := fun _ => fun
  | [d1, d2, d3, d4] => { results := [.lit (.bool true)], args := [d1, d2, d3, d4] }
  | _ => none }
def breakerCoursesRow : OpenClaim := { program := "ytojpbmaojbejjaa", sum := "ac2d701713d4eab8ca1b70ef57b13f23e29181519d0de87f49635aa354d9a79e", func := "majordomo/majordomolaw07.BreakerCourses", spec := "breakerCourses", unfollowed := true, recurses := true, apart := false }
def BreakerCoursesSaid : Prop := breakerCoursesRow.holds Try.pinned (OpenSpec.ofChange breakerCoursesSpec)

/-- ITS FALSE NEIGHBOUR: 'it returns false'. Refute it at one input. -/
def breakerCoursesWrong : ChangeSpec := { name := "breakerCourses", fn := fun _ => fun
  | [d1, d2, d3, d4] => { results := [.lit (.bool false)], args := [d1, d2, d3, d4] }
  | _ => none }
def BreakerCoursesWrongFalsely : Prop := breakerCoursesRow.holds Try.pinned (OpenSpec.ofChange breakerCoursesWrong)

/-- 'majordomolaw07.BreakerLower': WHATEVER THE INPUT: true; the input reads as it did. -/
def breakerLowerSpec : ChangeSpec := { name := "breakerLower", fn := fun _ => fun
  | [d1, d2, d3, d4] => { results := [.lit (.bool true)], args := [d1, d2, d3, d4] }
  | _ => none }
def breakerLowerRow : OpenClaim := { program := "ytojpbmaojbejjaa", sum := "ac2d701713d4eab8ca1b70ef57b13f23e29181519d0de87f49635aa354d9a79e", func := "majordomo/majordomolaw07.BreakerLower", spec := "breakerLower", unfollowed := true, recurses := true, apart := false }
def BreakerLowerSaid : Prop := breakerLowerRow.holds Try.pinned (OpenSpec.ofChange breakerLowerSpec)

/-- ITS FALSE NEIGHBOUR: 'it returns false'. Refute it at one input. -/
def breakerLowerWrong : ChangeSpec := { name := "breakerLower", fn := fun _ => fun
  | [d1, d2, d3, d4] => { results := [.lit (.bool false)], args := [d1, d2, d3, d4] }
  | _ => none }
def BreakerLowerWrongFalsely : Prop := breakerLowerRow.holds Try.pinned (OpenSpec.ofChange breakerLowerWrong)

/-- 'majordomolaw07.BreakerParts': WHATEVER THE INPUT: true; the input reads as it did. -/
def breakerPartsSpec : ChangeSpec := { name := "breakerParts", fn := fun _ => fun
  | [d1, d2, d3] => { results := [.lit (.bool true)], args := [d1, d2, d3] }
  | _ => none }
def breakerPartsRow : OpenClaim := { program := "ytojpbmaojbejjaa", sum := "ac2d701713d4eab8ca1b70ef57b13f23e29181519d0de87f49635aa354d9a79e", func := "majordomo/majordomolaw07.BreakerParts", spec := "breakerParts", unfollowed := true, recurses := true, apart := false }
def BreakerPartsSaid : Prop := breakerPartsRow.holds Try.pinned (OpenSpec.ofChange breakerPartsSpec)

/-- ITS FALSE NEIGHBOUR: 'it returns false'. Refute it at one input. -/
def breakerPartsWrong : ChangeSpec := { name := "breakerParts", fn := fun _ => fun
  | [d1, d2, d3] => { results := [.lit (.bool false)], args := [d1, d2, d3] }
  | _ => none }
def BreakerPartsWrongFalsely : Prop := breakerPartsRow.holds Try.pinned (OpenSpec.ofChange breakerPartsWrong)

/-- 'majordomolaw07.BreakerSteady': WHATEVER THE INPUT: true; the input reads as it did. -/
def breakerSteadySpec : ChangeSpec := { name := "breakerSteady", fn := fun _ => fun
  | [d1, d2] => { results := [.lit (.bool true)], args := [d1, d2] }
  | _ => none }
def breakerSteadyRow : OpenClaim := { program := "ytojpbmaojbejjaa", sum := "ac2d701713d4eab8ca1b70ef57b13f23e29181519d0de87f49635aa354d9a79e", func := "majordomo/majordomolaw07.BreakerSteady", spec := "breakerSteady", unfollowed := true, recurses := true, apart := false }
def BreakerSteadySaid : Prop := breakerSteadyRow.holds Try.pinned (OpenSpec.ofChange breakerSteadySpec)

/-- ITS FALSE NEIGHBOUR: 'it returns false'. Refute it at one input. -/
def breakerSteadyWrong : ChangeSpec := { name := "breakerSteady", fn := fun _ => fun
  | [d1, d2] => { results := [.lit (.bool false)], args := [d1, d2] }
  | _ => none }
def BreakerSteadyWrongFalsely : Prop := breakerSteadyRow.holds Try.pinned (OpenSpec.ofChange breakerSteadyWrong)

/- THE SECOND FORM. 'bulk': how many values and letters a reading holds, each counted each time it is reached (what is shared counts as often as it is met; a slice's spare places count too). A statement '..UptoSaid' is the law's where the arguments, and the package variables that the reading takes, are together of bulk at most 1048576: NARROWER than '..Said'. Prove '..Said' where nothing that the law and all that it calls make is longer than what came in: it says more and counts as full. Else prove '..UptoSaid'. A law counts once. -/
mutual
def uptoBulk {H : Type} : DataW H → Nat
  | .lit (.string bytes) => bytes.length + 1
  | .lit _ => 1
  | .nil => 1
  | .ptr d => uptoBulk d + 1
  | .slice elems spare => uptoBulkAll elems + uptoBulkAll spare + 1
  | .agg parts => uptoBulkAll parts + 1
  | .iface _ d => uptoBulk d + 1
  | .map entries => uptoBulkEntries entries + 1
  | .held _ => 1
def uptoBulkAll {H : Type} : List (DataW H) → Nat
  | [] => 0
  | d :: r => uptoBulk d + uptoBulkAll r
def uptoBulkEntries {H : Type} : List (Lit × DataW H) → Nat
  | [] => 0
  | x :: r => uptoBulkEntry x + uptoBulkEntries r
def uptoBulkEntry {H : Type} : Lit × DataW H → Nat
  | (.string bytes, d) => bytes.length + uptoBulk d + 1
  | (_, d) => uptoBulk d + 1
 end
def uptoSmall : (H : Type) → List (DataW H) → Bool := fun _ ds => decide (uptoBulkAll ds ≤ 1048576)
def OpenSpec.upto (s : _root_.Go.ChangeSpec) : _root_.Go.OpenSpec := { _root_.Go.OpenSpec.ofChange s with cond := some uptoSmall }

/-- 'majordomolaw07.BreakerTimes', WHERE WHAT IT READS IS OF BULK AT MOST 1048576: true; the input reads as it did. -/
def breakerTimesUptoRow : OpenClaim := { program := "ytojpbmaojbejjaa", sum := "ac2d701713d4eab8ca1b70ef57b13f23e29181519d0de87f49635aa354d9a79e", func := "majordomo/majordomolaw07.BreakerTimes", spec := "breakerTimes", unfollowed := true, recurses := true, apart := false, narrowed := true }
def BreakerTimesUptoSaid : Prop := breakerTimesUptoRow.holds Try.pinned (OpenSpec.upto breakerTimesSpec)

/-- 'majordomolaw07.BreakerGalois', WHERE WHAT IT READS IS OF BULK AT MOST 1048576: true; the input reads as it did. -/
def breakerGaloisUptoRow : OpenClaim := { program := "ytojpbmaojbejjaa", sum := "ac2d701713d4eab8ca1b70ef57b13f23e29181519d0de87f49635aa354d9a79e", func := "majordomo/majordomolaw07.BreakerGalois", spec := "breakerGalois", unfollowed := true, recurses := true, apart := false, narrowed := true }
def BreakerGaloisUptoSaid : Prop := breakerGaloisUptoRow.holds Try.pinned (OpenSpec.upto breakerGaloisSpec)

/-- 'majordomolaw07.BreakerKnown', WHERE WHAT IT READS IS OF BULK AT MOST 1048576: true; the input reads as it did. -/
def breakerKnownUptoRow : OpenClaim := { program := "ytojpbmaojbejjaa", sum := "ac2d701713d4eab8ca1b70ef57b13f23e29181519d0de87f49635aa354d9a79e", func := "majordomo/majordomolaw07.BreakerKnown", spec := "breakerKnown", unfollowed := true, recurses := true, apart := false, narrowed := true }
def BreakerKnownUptoSaid : Prop := breakerKnownUptoRow.holds Try.pinned (OpenSpec.upto breakerKnownSpec)

/-- 'majordomolaw07.BreakerCourses', WHERE WHAT IT READS IS OF BULK AT MOST 1048576: true; the input reads as it did. -/
def breakerCoursesUptoRow : OpenClaim := { program := "ytojpbmaojbejjaa", sum := "ac2d701713d4eab8ca1b70ef57b13f23e29181519d0de87f49635aa354d9a79e", func := "majordomo/majordomolaw07.BreakerCourses", spec := "breakerCourses", unfollowed := true, recurses := true, apart := false, narrowed := true }
def BreakerCoursesUptoSaid : Prop := breakerCoursesUptoRow.holds Try.pinned (OpenSpec.upto breakerCoursesSpec)

/-- 'majordomolaw07.BreakerLower', WHERE WHAT IT READS IS OF BULK AT MOST 1048576: true; the input reads as it did. -/
def breakerLowerUptoRow : OpenClaim := { program := "ytojpbmaojbejjaa", sum := "ac2d701713d4eab8ca1b70ef57b13f23e29181519d0de87f49635aa354d9a79e", func := "majordomo/majordomolaw07.BreakerLower", spec := "breakerLower", unfollowed := true, recurses := true, apart := false, narrowed := true }
def BreakerLowerUptoSaid : Prop := breakerLowerUptoRow.holds Try.pinned (OpenSpec.upto breakerLowerSpec)

/-- 'majordomolaw07.BreakerParts', WHERE WHAT IT READS IS OF BULK AT MOST 1048576: true; the input reads as it did. -/
def breakerPartsUptoRow : OpenClaim := { program := "ytojpbmaojbejjaa", sum := "ac2d701713d4eab8ca1b70ef57b13f23e29181519d0de87f49635aa354d9a79e", func := "majordomo/majordomolaw07.BreakerParts", spec := "breakerParts", unfollowed := true, recurses := true, apart := false, narrowed := true }
def BreakerPartsUptoSaid : Prop := breakerPartsUptoRow.holds Try.pinned (OpenSpec.upto breakerPartsSpec)

/-- 'majordomolaw07.BreakerSteady', WHERE WHAT IT READS IS OF BULK AT MOST 1048576: true; the input reads as it did. -/
def breakerSteadyUptoRow : OpenClaim := { program := "ytojpbmaojbejjaa", sum := "ac2d701713d4eab8ca1b70ef57b13f23e29181519d0de87f49635aa354d9a79e", func := "majordomo/majordomolaw07.BreakerSteady", spec := "breakerSteady", unfollowed := true, recurses := true, apart := false, narrowed := true }
def BreakerSteadyUptoSaid : Prop := breakerSteadyUptoRow.holds Try.pinned (OpenSpec.upto breakerSteadySpec)

end Rows
end Go.Proofs.Ytojpbmaojbejjaa
