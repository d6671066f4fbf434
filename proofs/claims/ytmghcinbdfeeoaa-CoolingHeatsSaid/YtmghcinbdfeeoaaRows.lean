/-
  No cell of these rows narrows 'for every input' (looked for: loops, veiled, ifaces, maps, wideKeys, modest, calm, conditions, laid).
  DERIVED. THE GIVEN ROWS OF THIS SEAT. 5 by the template 'for every input the law returns true; each argument reads behind the call as it read before'; 0 by the template 'total and deterministic' (their statements: YtmghcinbdfeeoaaTotals.lean).
  GIVEN WITH THE SEED: the statements are not yours to turn. If you find one false, say at which input.
  Laid BY PROGRAM, IN A SANDBOX (cutbox-rows.mjs): the forced cells as the released guide's own fill.sh prints them over the translation 41455bfc1cdecdb1… (all of the seat's roots in one cut). By AI agents, Wed Nov 11 2026. No macro, syntax, notation, axiom, sorry.
-/
import Derived.Test.YtmghcinbdfeeoaaChecked
import GoSem.Claim
import GoSem.ClaimJoined
import GoSem.ClaimMapViews
import Derived.JoinedTies
import Derived.KernelRfl
namespace Go.Proofs.Ytmghcinbdfeeoaa
/- THE CELL 'sum', in the pinned program and in every row, IS THE sha256 OF THE DUMP (.gsa) THAT YtmghcinbdfeeoaaProg.lean LOADS. Nothing in Lean hashes anything: it is a label: what it is worth is what the hold of that sum in a sandbox is worth. -/
noncomputable def Try.pinned : Pinned := { name := "ytmghcinbdfeeoaa", sum := "41455bfc1cdecdb1517477050fb1f296cc79d0220d22a7ba7f355c74a253c3a9", checked := Try.checked }
namespace Rows
def none {H : Type} : Left H := { results := [], args := [] }

/-- 'majordomolaw15.CoolingHeats': WHATEVER THE INPUT: true; the input reads as it did. -/
def coolingHeatsSpec : ChangeSpec := { name := "coolingHeats", fn := fun _ => fun
  | [d1, d2, d3, d4] => { results := [.lit (.bool true)], args := [d1, d2, d3, d4] }
  | _ => none }
def coolingHeatsRow : OpenClaim := { program := "ytmghcinbdfeeoaa", sum := "41455bfc1cdecdb1517477050fb1f296cc79d0220d22a7ba7f355c74a253c3a9", func := "majordomo/majordomolaw15.CoolingHeats", spec := "coolingHeats", unfollowed := true, recurses := true, apart := false }
def CoolingHeatsSaid : Prop := coolingHeatsRow.holds Try.pinned (OpenSpec.ofChange coolingHeatsSpec)

/-- ITS FALSE NEIGHBOUR: 'it returns false'. Refute it at one input. -/
def coolingHeatsWrong : ChangeSpec := { name := "coolingHeats", fn := fun _ => fun
  | [d1, d2, d3, d4] => { results := [.lit (.bool false)], args := [d1, d2, d3, d4] }
  | _ => none }
def CoolingHeatsWrongFalsely : Prop := coolingHeatsRow.holds Try.pinned (OpenSpec.ofChange coolingHeatsWrong)

/-- 'majordomolaw15.CoolingCourses': WHATEVER THE INPUT: true; the input reads as it did. -/
def coolingCoursesSpec : ChangeSpec := { name := "coolingCourses", fn := fun _ => fun
  | [d1, d2, d3, d4, d5] => { results := [.lit (.bool true)], args := [d1, d2, d3, d4, d5] }
  | _ => none }
def coolingCoursesRow : OpenClaim := { program := "ytmghcinbdfeeoaa", sum := "41455bfc1cdecdb1517477050fb1f296cc79d0220d22a7ba7f355c74a253c3a9", func := "majordomo/majordomolaw15.CoolingCourses", spec := "coolingCourses", unfollowed := true, recurses := true, apart := false }
def CoolingCoursesSaid : Prop := coolingCoursesRow.holds Try.pinned (OpenSpec.ofChange coolingCoursesSpec)

/-- ITS FALSE NEIGHBOUR: 'it returns false'. Refute it at one input. -/
def coolingCoursesWrong : ChangeSpec := { name := "coolingCourses", fn := fun _ => fun
  | [d1, d2, d3, d4, d5] => { results := [.lit (.bool false)], args := [d1, d2, d3, d4, d5] }
  | _ => none }
def CoolingCoursesWrongFalsely : Prop := coolingCoursesRow.holds Try.pinned (OpenSpec.ofChange coolingCoursesWrong)

/-- 'majordomolaw15.CoolingHolds': WHATEVER THE INPUT: true; the input reads as it did. -/
def coolingHoldsSpec : ChangeSpec := { name := "coolingHolds", fn := fun _ => fun
  | [d1, d2, d3, d4] => { results := [.lit (.bool true)], args := [d1, d2, d3, d4] }
  | _ => none }
def coolingHoldsRow : OpenClaim := { program := "ytmghcinbdfeeoaa", sum := "41455bfc1cdecdb1517477050fb1f296cc79d0220d22a7ba7f355c74a253c3a9", func := "majordomo/majordomolaw15.CoolingHolds", spec := "coolingHolds", unfollowed := true, recurses := true, apart := false }
def CoolingHoldsSaid : Prop := coolingHoldsRow.holds Try.pinned (OpenSpec.ofChange coolingHoldsSpec)

/-- ITS FALSE NEIGHBOUR: 'it returns false'. Refute it at one input. -/
def coolingHoldsWrong : ChangeSpec := { name := "coolingHolds", fn := fun _ => fun
  | [d1, d2, d3, d4] => { results := [.lit (.bool false)], args := [d1, d2, d3, d4] }
  | _ => none }
def CoolingHoldsWrongFalsely : Prop := coolingHoldsRow.holds Try.pinned (OpenSpec.ofChange coolingHoldsWrong)

/-- 'majordomolaw15.CoolingRises': WHATEVER THE INPUT: true; the input reads as it did. -/
def coolingRisesSpec : ChangeSpec := { name := "coolingRises", fn := fun _ => fun
  | [d1, d2, d3, d4, d5, d6] => { results := [.lit (.bool true)], args := [d1, d2, d3, d4, d5, d6] }
  | _ => none }
def coolingRisesRow : OpenClaim := { program := "ytmghcinbdfeeoaa", sum := "41455bfc1cdecdb1517477050fb1f296cc79d0220d22a7ba7f355c74a253c3a9", func := "majordomo/majordomolaw15.CoolingRises", spec := "coolingRises", unfollowed := true, recurses := true, apart := false }
def CoolingRisesSaid : Prop := coolingRisesRow.holds Try.pinned (OpenSpec.ofChange coolingRisesSpec)

/-- ITS FALSE NEIGHBOUR: 'it returns false'. Refute it at one input. -/
def coolingRisesWrong : ChangeSpec := { name := "coolingRises", fn := fun _ => fun
  | [d1, d2, d3, d4, d5, d6] => { results := [.lit (.bool false)], args := [d1, d2, d3, d4, d5, d6] }
  | _ => none }
def CoolingRisesWrongFalsely : Prop := coolingRisesRow.holds Try.pinned (OpenSpec.ofChange coolingRisesWrong)

/-- 'majordomolaw15.CoolingKnown': WHATEVER THE INPUT: true; the input reads as it did. -/
def coolingKnownSpec : ChangeSpec := { name := "coolingKnown", fn := fun _ => fun
  | [] => { results := [.lit (.bool true)], args := [] }
  | _ => none }
def coolingKnownRow : OpenClaim := { program := "ytmghcinbdfeeoaa", sum := "41455bfc1cdecdb1517477050fb1f296cc79d0220d22a7ba7f355c74a253c3a9", func := "majordomo/majordomolaw15.CoolingKnown", spec := "coolingKnown", unfollowed := true, recurses := true, apart := false }
def CoolingKnownSaid : Prop := coolingKnownRow.holds Try.pinned (OpenSpec.ofChange coolingKnownSpec)

/-- ITS FALSE NEIGHBOUR: 'it returns false'. Refute it at one input. -/
def coolingKnownWrong : ChangeSpec := { name := "coolingKnown", fn := fun _ => fun
  | [] => { results := [.lit (.bool false)], args := [] }
  | _ => none }
def CoolingKnownWrongFalsely : Prop := coolingKnownRow.holds Try.pinned (OpenSpec.ofChange coolingKnownWrong)

/- THE SECOND FORM. 'bulk': how many values and letters a reading holds, each counted each time it is reached (what is shared counts as often as it is met; a slice's spare places count too). A statement '..UptoSaid' is the law's where the arguments, and the package variables that the reading takes, are together of bulk at most 1048576: NARROWER than '..Said'. Prove '..Said' where nothing that the law and all that it calls make is longer than what came in: it says more and counts as full. Else prove '..UptoSaid'. A law counts once. -/
mutual
def uptoBulk {H : Type} : DataW H → Nat
  | .lit (.string bytes) => bytes.length + 1
  | .lit _ => 1
  | .nil => 1
  | .ptr d => uptoBulk d + 1
  | .slice elems spare => uptoBulkAll elems + uptoBulkAll spare + 1
  | .agg parts => uptoBulkAll parts + 1
  | .iface _ d => uptoBulk d + 1
  | .map entries => uptoBulkEntries entries + 1
  | .held _ => 1
def uptoBulkAll {H : Type} : List (DataW H) → Nat
  | [] => 0
  | d :: r => uptoBulk d + uptoBulkAll r
def uptoBulkEntries {H : Type} : List (Lit × DataW H) → Nat
  | [] => 0
  | x :: r => uptoBulkEntry x + uptoBulkEntries r
def uptoBulkEntry {H : Type} : Lit × DataW H → Nat
  | (.string bytes, d) => bytes.length + uptoBulk d + 1
  | (_, d) => uptoBulk d + 1
 end
def uptoSmall : (H : Type) → List (DataW H) → Bool := fun _ ds => decide (uptoBulkAll ds ≤ 1048576)
def OpenSpec.upto (s : _root_.Go.ChangeSpec) : _root_.Go.OpenSpec := { _root_.Go.OpenSpec.ofChange s with cond := some uptoSmall }

/-- 'majordomolaw15.CoolingHeats', WHERE WHAT IT READS IS OF BULK AT MOST 1048576: true; the input reads as it did. -/
def coolingHeatsUptoRow : OpenClaim := { program := "ytmghcinbdfeeoaa", sum := "41455bfc1cdecdb1517477050fb1f296cc79d0220d22a7ba7f355c74a253c3a9", func := "majordomo/majordomolaw15.CoolingHeats", spec := "coolingHeats", unfollowed := true, recurses := true, apart := false, narrowed := true }
def CoolingHeatsUptoSaid : Prop := coolingHeatsUptoRow.holds Try.pinned (OpenSpec.upto coolingHeatsSpec)

/-- 'majordomolaw15.CoolingCourses', WHERE WHAT IT READS IS OF BULK AT MOST 1048576: true; the input reads as it did. -/
def coolingCoursesUptoRow : OpenClaim := { program := "ytmghcinbdfeeoaa", sum := "41455bfc1cdecdb1517477050fb1f296cc79d0220d22a7ba7f355c74a253c3a9", func := "majordomo/majordomolaw15.CoolingCourses", spec := "coolingCourses", unfollowed := true, recurses := true, apart := false, narrowed := true }
def CoolingCoursesUptoSaid : Prop := coolingCoursesUptoRow.holds Try.pinned (OpenSpec.upto coolingCoursesSpec)

/-- 'majordomolaw15.CoolingHolds', WHERE WHAT IT READS IS OF BULK AT MOST 1048576: true; the input reads as it did. -/
def coolingHoldsUptoRow : OpenClaim := { program := "ytmghcinbdfeeoaa", sum := "41455bfc1cdecdb1517477050fb1f296cc79d0220d22a7ba7f355c74a253c3a9", func := "majordomo/majordomolaw15.CoolingHolds", spec := "coolingHolds", unfollowed := true, recurses := true, apart := false, narrowed := true }
def CoolingHoldsUptoSaid : Prop := coolingHoldsUptoRow.holds Try.pinned (OpenSpec.upto coolingHoldsSpec)

/-- 'majordomolaw15.CoolingRises', WHERE WHAT IT READS IS OF BULK AT MOST 1048576: true; the input reads as it did. -/
def coolingRisesUptoRow : OpenClaim := { program := "ytmghcinbdfeeoaa", sum := "41455bfc1cdecdb1517477050fb1f296cc79d0220d22a7ba7f355c74a253c3a9", func := "majordomo/majordomolaw15.CoolingRises", spec := "coolingRises", unfollowed := true, recurses := true, apart := false, narrowed := true }
def CoolingRisesUptoSaid : Prop := coolingRisesUptoRow.holds Try.pinned (OpenSpec.upto coolingRisesSpec)

/-- 'majordomolaw15.CoolingKnown', WHERE WHAT IT READS IS OF BULK AT MOST 1048576: true; the input reads as it did. -/
def coolingKnownUptoRow : OpenClaim := { program := "ytmghcinbdfeeoaa", sum := "41455bfc1cdecdb1517477050fb1f296cc79d0220d22a7ba7f355c74a253c3a9", func := "majordomo/majordomolaw15.CoolingKnown", spec := "coolingKnown", unfollowed := true, recurses := true, apart := false, narrowed := true }
def CoolingKnownUptoSaid : Prop := coolingKnownUptoRow.holds Try.pinned (OpenSpec.upto coolingKnownSpec)

end Rows
end Go.Proofs.Ytmghcinbdfeeoaa
