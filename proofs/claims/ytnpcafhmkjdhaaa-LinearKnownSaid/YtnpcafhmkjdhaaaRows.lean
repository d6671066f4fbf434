/-
  No cell of these rows narrows 'for every input' (looked for: loops, veiled, ifaces, maps, wideKeys, modest, calm, conditions, laid).
  DERIVED. THE GIVEN ROWS OF THIS SEAT. 7 by the template 'for every input the law returns true; each argument reads behind the call as it read before'; 0 by the template 'total and deterministic' (their statements: YtnpcafhmkjdhaaaTotals.lean).
  GIVEN WITH THE SEED: the statements are not yours to turn. If you find one false, say at which input.
  Laid BY PROGRAM, IN A SANDBOX (cutbox-rows.mjs): the forced cells as the released guide's own fill.sh prints them over the translation aceee51a2245e4c8… (all of the seat's roots in one cut). By AI agents, Wed Nov 11 2026. No macro, syntax, notation, axiom, sorry.
-/
import Derived.Test.YtnpcafhmkjdhaaaChecked
import GoSem.Claim
import GoSem.ClaimJoined
import GoSem.ClaimMapViews
import Derived.JoinedTies
import Derived.KernelRfl
namespace Go.Proofs.Ytnpcafhmkjdhaaa
/- THE CELL 'sum', in the pinned program and in every row, IS THE sha256 OF THE DUMP (.gsa) THAT YtnpcafhmkjdhaaaProg.lean LOADS. Nothing in Lean hashes anything: it is a label: what it is worth is what the hold of that sum in a sandbox is worth. -/
noncomputable def Try.pinned : Pinned := { name := "ytnpcafhmkjdhaaa", sum := "aceee51a2245e4c8920e9fd32ee021c6491852f4aaff2b50f50628e73d538330", checked := Try.checked }
namespace Rows
def none {H : Type} : Left H := { results := [], args := [] }

/-- 'majordomolaw06.LinearClosed': WHATEVER THE INPUT: true; the input reads as it did. -/
def linearClosedSpec : ChangeSpec := { name := "linearClosed", fn := fun _ => fun
  | [d] => { results := [.lit (.bool true)], args := [d] }
  | _ => none }
def linearClosedRow : OpenClaim := { program := "ytnpcafhmkjdhaaa", sum := "aceee51a2245e4c8920e9fd32ee021c6491852f4aaff2b50f50628e73d538330", func := "majordomo/majordomolaw06.LinearClosed", spec := "linearClosed", unfollowed := true, recurses := true, apart := false }
def LinearClosedSaid : Prop := linearClosedRow.holds Try.pinned (OpenSpec.ofChange linearClosedSpec)

/-- ITS FALSE NEIGHBOUR: 'it returns false'. Refute it at one input. -/
def linearClosedWrong : ChangeSpec := { name := "linearClosed", fn := fun _ => fun
  | [d] => { results := [.lit (.bool false)], args := [d] }
  | _ => none }
def LinearClosedWrongFalsely : Prop := linearClosedRow.holds Try.pinned (OpenSpec.ofChange linearClosedWrong)

/-- 'majordomolaw06.LinearRises': WHATEVER THE INPUT: true; the input reads as it did. -/
def linearRisesSpec : ChangeSpec := { name := "linearRises", fn := fun _ => fun
  | [d1, d2, d3, d4] => { results := [.lit (.bool true)], args := [d1, d2, d3, d4] }
  | _ => none }
def linearRisesRow : OpenClaim := { program := "ytnpcafhmkjdhaaa", sum := "aceee51a2245e4c8920e9fd32ee021c6491852f4aaff2b50f50628e73d538330", func := "majordomo/majordomolaw06.LinearRises", spec := "linearRises", unfollowed := true, recurses := true, apart := false }
def LinearRisesSaid : Prop := linearRisesRow.holds Try.pinned (OpenSpec.ofChange linearRisesSpec)

/-- ITS FALSE NEIGHBOUR: 'it returns false'. Refute it at one input. -/
def linearRisesWrong : ChangeSpec := { name := "linearRises", fn := fun _ => fun
  | [d1, d2, d3, d4] => { results := [.lit (.bool false)], args := [d1, d2, d3, d4] }
  | _ => none }
def LinearRisesWrongFalsely : Prop := linearRisesRow.holds Try.pinned (OpenSpec.ofChange linearRisesWrong)

/-- 'majordomolaw06.LinearLater': WHATEVER THE INPUT: true; the input reads as it did. -/
def linearLaterSpec : ChangeSpec := { name := "linearLater", fn := fun _ => fun
  | [d1, d2] => { results := [.lit (.bool true)], args := [d1, d2] }
  | _ => none }
def linearLaterRow : OpenClaim := { program := "ytnpcafhmkjdhaaa", sum := "aceee51a2245e4c8920e9fd32ee021c6491852f4aaff2b50f50628e73d538330", func := "majordomo/majordomolaw06.LinearLater", spec := "linearLater", unfollowed := true, recurses := true, apart := false }
def LinearLaterSaid : Prop := linearLaterRow.holds Try.pinned (OpenSpec.ofChange linearLaterSpec)

/-- ITS FALSE NEIGHBOUR: 'it returns false'. Refute it at one input. -/
def linearLaterWrong : ChangeSpec := { name := "linearLater", fn := fun _ => fun
  | [d1, d2] => { results := [.lit (.bool false)], args := [d1, d2] }
  | _ => none }
def LinearLaterWrongFalsely : Prop := linearLaterRow.holds Try.pinned (OpenSpec.ofChange linearLaterWrong)

/-- 'majordomolaw06.LinearLeast': WHATEVER THE INPUT: true; the input reads as it did. -/
def linearLeastSpec : ChangeSpec := { name := "linearLeast", fn := fun _ => fun
  | [d1, d2] => { results := [.lit (.bool true)], args := [d1, d2] }
  | _ => none }
def linearLeastRow : OpenClaim := { program := "ytnpcafhmkjdhaaa", sum := "aceee51a2245e4c8920e9fd32ee021c6491852f4aaff2b50f50628e73d538330", func := "majordomo/majordomolaw06.LinearLeast", spec := "linearLeast", unfollowed := true, recurses := true, apart := false }
def LinearLeastSaid : Prop := linearLeastRow.holds Try.pinned (OpenSpec.ofChange linearLeastSpec)

/-- ITS FALSE NEIGHBOUR: 'it returns false'. Refute it at one input. -/
def linearLeastWrong : ChangeSpec := { name := "linearLeast", fn := fun _ => fun
  | [d1, d2] => { results := [.lit (.bool false)], args := [d1, d2] }
  | _ => none }
def LinearLeastWrongFalsely : Prop := linearLeastRow.holds Try.pinned (OpenSpec.ofChange linearLeastWrong)

/-- 'majordomolaw06.LinearKnown': WHATEVER THE INPUT: true; the input reads as it did. -/
def linearKnownSpec : ChangeSpec := { name := "linearKnown", fn := fun _ => fun
  | [] => { results := [.lit (.bool true)], args := [] }
  | _ => none }
def linearKnownRow : OpenClaim := { program := "ytnpcafhmkjdhaaa", sum := "aceee51a2245e4c8920e9fd32ee021c6491852f4aaff2b50f50628e73d538330", func := "majordomo/majordomolaw06.LinearKnown", spec := "linearKnown", unfollowed := true, recurses := true, apart := false }
def LinearKnownSaid : Prop := linearKnownRow.holds Try.pinned (OpenSpec.ofChange linearKnownSpec)

/-- ITS FALSE NEIGHBOUR: 'it returns false'. Refute it at one input. -/
def linearKnownWrong : ChangeSpec := { name := "linearKnown", fn := fun _ => fun
  | [] => { results := [.lit (.bool false)], args := [] }
  | _ => none }
def LinearKnownWrongFalsely : Prop := linearKnownRow.holds Try.pinned (OpenSpec.ofChange linearKnownWrong)

/-- 'majordomolaw06.LinearCourses': WHATEVER THE INPUT: true; the input reads as it did. -/
def linearCoursesSpec : ChangeSpec := { name := "linearCourses", fn := fun _ => fun
  | [d] => { results := [.lit (.bool true)], args := [d] }
  | _ => none }
def linearCoursesRow : OpenClaim := { program := "ytnpcafhmkjdhaaa", sum := "aceee51a2245e4c8920e9fd32ee021c6491852f4aaff2b50f50628e73d538330", func := "majordomo/majordomolaw06.LinearCourses", spec := "linearCourses", unfollowed := true, recurses := true, apart := false }
def LinearCoursesSaid : Prop := linearCoursesRow.holds Try.pinned (OpenSpec.ofChange linearCoursesSpec)

/-- ITS FALSE NEIGHBOUR: 'it returns false'. Refute it at one input. -/
def linearCoursesWrong : ChangeSpec := { name := "linearCourses", fn := fun _ => fun
  | [d] => { results := [.lit (.bool false)], args := [d] }
  | _ => none }
def LinearCoursesWrongFalsely : Prop := linearCoursesRow.holds Try.pinned (OpenSpec.ofChange linearCoursesWrong)

/-- 'majordomolaw06.LinearSeeks': WHATEVER THE INPUT: true; the input reads as it did. -/
def linearSeeksSpec : ChangeSpec := { name := "linearSeeks", fn := fun _ => fun
  | [d] => { results := [.lit (.bool true)], args := [d] }
  | _ => none }
def linearSeeksRow : OpenClaim := { program := "ytnpcafhmkjdhaaa", sum := "aceee51a2245e4c8920e9fd32ee021c6491852f4aaff2b50f50628e73d538330", func := "majordomo/majordomolaw06.LinearSeeks", spec := "linearSeeks", unfollowed := true, recurses := true, apart := false }
def LinearSeeksSaid : Prop := linearSeeksRow.holds Try.pinned (OpenSpec.ofChange linearSeeksSpec)

/-- ITS FALSE NEIGHBOUR: 'it returns false'. Refute it at one input. -/
def linearSeeksWrong : ChangeSpec := { name := "linearSeeks", fn := fun _ => fun
  | [d] => { results := [.lit (.bool false)], args := [d] }
  | _ => none }
def LinearSeeksWrongFalsely : Prop := linearSeeksRow.holds Try.pinned (OpenSpec.ofChange linearSeeksWrong)

/- THE SECOND FORM. 'bulk': how many values and letters a reading holds, each counted each time it is reached (what is shared counts as often as it is met; a slice's spare places count too). A statement '..UptoSaid' is the law's where the arguments, and the package variables that the reading takes, are together of bulk at most 1048576: NARROWER than '..Said'. Prove '..Said' where nothing that the law and all that it calls make is longer than what came in: it says more and counts as full. Else prove '..UptoSaid'. A law counts once. -/
mutual
def uptoBulk {H : Type} : DataW H → Nat
  | .lit (.string bytes) => bytes.length + 1
  | .lit _ => 1
  | .nil => 1
  | .ptr d => uptoBulk d + 1
  | .slice elems spare => uptoBulkAll elems + uptoBulkAll spare + 1
  | .agg parts => uptoBulkAll parts + 1
  | .iface _ d => uptoBulk d + 1
  | .map entries => uptoBulkEntries entries + 1
  | .held _ => 1
def uptoBulkAll {H : Type} : List (DataW H) → Nat
  | [] => 0
  | d :: r => uptoBulk d + uptoBulkAll r
def uptoBulkEntries {H : Type} : List (Lit × DataW H) → Nat
  | [] => 0
  | x :: r => uptoBulkEntry x + uptoBulkEntries r
def uptoBulkEntry {H : Type} : Lit × DataW H → Nat
  | (.string bytes, d) => bytes.length + uptoBulk d + 1
  | (_, d) => uptoBulk d + 1
 end
def uptoSmall : (H : Type) → List (DataW H) → Bool := fun _ ds => decide (uptoBulkAll ds ≤ 1048576)
def OpenSpec.upto (s : _root_.Go.ChangeSpec) : _root_.Go.OpenSpec := { _root_.Go.OpenSpec.ofChange s with cond := some uptoSmall }

/-- 'majordomolaw06.LinearClosed', WHERE WHAT IT READS IS OF BULK AT MOST 1048576: true; the input reads as it did. -/
def linearClosedUptoRow : OpenClaim := { program := "ytnpcafhmkjdhaaa", sum := "aceee51a2245e4c8920e9fd32ee021c6491852f4aaff2b50f50628e73d538330", func := "majordomo/majordomolaw06.LinearClosed", spec := "linearClosed", unfollowed := true, recurses := true, apart := false, narrowed := true }
def LinearClosedUptoSaid : Prop := linearClosedUptoRow.holds Try.pinned (OpenSpec.upto linearClosedSpec)

/-- 'majordomolaw06.LinearRises', WHERE WHAT IT READS IS OF BULK AT MOST 1048576: true; the input reads as it did. -/
def linearRisesUptoRow : OpenClaim := { program := "ytnpcafhmkjdhaaa", sum := "aceee51a2245e4c8920e9fd32ee021c6491852f4aaff2b50f50628e73d538330", func := "majordomo/majordomolaw06.LinearRises", spec := "linearRises", unfollowed := true, recurses := true, apart := false, narrowed := true }
def LinearRisesUptoSaid : Prop := linearRisesUptoRow.holds Try.pinned (OpenSpec.upto linearRisesSpec)

/-- 'majordomolaw06.LinearLater', WHERE WHAT IT READS IS OF BULK AT MOST 1048576: true; the input reads as it did. -/
def linearLaterUptoRow : OpenClaim := { program := "ytnpcafhmkjdhaaa", sum := "aceee51a2245e4c8920e9fd32ee021c6491852f4aaff2b50f50628e73d538330", func := "majordomo/majordomolaw06.LinearLater", spec := "linearLater", unfollowed := true, recurses := true, apart := false, narrowed := true }
def LinearLaterUptoSaid : Prop := linearLaterUptoRow.holds Try.pinned (OpenSpec.upto linearLaterSpec)

/-- 'majordomolaw06.LinearLeast', WHERE WHAT IT READS IS OF BULK AT MOST 1048576: true; the input reads as it did. -/
def linearLeastUptoRow : OpenClaim := { program := "ytnpcafhmkjdhaaa", sum := "aceee51a2245e4c8920e9fd32ee021c6491852f4aaff2b50f50628e73d538330", func := "majordomo/majordomolaw06.LinearLeast", spec := "linearLeast", unfollowed := true, recurses := true, apart := false, narrowed := true }
def LinearLeastUptoSaid : Prop := linearLeastUptoRow.holds Try.pinned (OpenSpec.upto linearLeastSpec)

/-- 'majordomolaw06.LinearKnown', WHERE WHAT IT READS IS OF BULK AT MOST 1048576: true; the input reads as it did. -/
def linearKnownUptoRow : OpenClaim := { program := "ytnpcafhmkjdhaaa", sum := "aceee51a2245e4c8920e9fd32ee021c6491852f4aaff2b50f50628e73d538330", func := "majordomo/majordomolaw06.LinearKnown", spec := "linearKnown", unfollowed := true, recurses := true, apart := false, narrowed := true }
def LinearKnownUptoSaid : Prop := linearKnownUptoRow.holds Try.pinned (OpenSpec.upto linearKnownSpec)

/-- 'majordomolaw06.LinearCourses', WHERE WHAT IT READS IS OF BULK AT MOST 1048576: true; the input reads as it did. -/
def linearCoursesUptoRow : OpenClaim := { program := "ytnpcafhmkjdhaaa", sum := "aceee51a2245e4c8920e9fd32ee021c6491852f4aaff2b50f50628e73d538330", func := "majordomo/majordomolaw06.LinearCourses", spec := "linearCourses", unfollowed := true, recurses := true, apart := false, narrowed := true }
def LinearCoursesUptoSaid : Prop := linearCoursesUptoRow.holds Try.pinned (OpenSpec.upto linearCoursesSpec)

/-- 'majordomolaw06.LinearSeeks', WHERE WHAT IT READS IS OF BULK AT MOST 1048576: true; the input reads as it did. -/
def linearSeeksUptoRow : OpenClaim := { program := "ytnpcafhmkjdhaaa", sum := "aceee51a2245e4c8920e9fd32ee021c6491852f4aaff2b50f50628e73d538330", func := "majordomo/majordomolaw06.LinearSeeks", spec := "linearSeeks", unfollowed := true, recurses := true, apart := false, narrowed := true }
def LinearSeeksUptoSaid : Prop := linearSeeksUptoRow.holds Try.pinned (OpenSpec.upto linearSeeksSpec)

end Rows
end Go.Proofs.Ytnpcafhmkjdhaaa
