/-
  No cell of these rows narrows 'for every input' (looked for: loops, veiled, ifaces, maps, wideKeys, modest, calm, conditions, laid).
  DERIVED. THE GIVEN ROWS OF THIS SEAT. 4 by the template 'for every input the law returns true; each argument reads behind the call as it read before'; 0 by the template 'total and deterministic' (their statements: YthlefdbhkbpejaaTotals.lean).
  GIVEN WITH THE SEED: the statements are not yours to turn. If you find one false, say at which input.
  Laid BY PROGRAM, IN A SANDBOX (cutbox-rows.mjs): the forced cells as the released guide's own fill.sh prints them over the translation 3495ab7b942fd0dd… (all of the seat's roots in one cut). By AI agents, Wed Nov 11 2026. No macro, syntax, notation, axiom, sorry.
-/
import Derived.Test.YthlefdbhkbpejaaChecked
import GoSem.Claim
import GoSem.ClaimJoined
import GoSem.ClaimMapViews
import Derived.JoinedTies
import Derived.KernelRfl
namespace Go.Proofs.Ythlefdbhkbpejaa
/- THE CELL 'sum', in the pinned program and in every row, IS THE sha256 OF THE DUMP (.gsa) THAT YthlefdbhkbpejaaProg.lean LOADS. Nothing in Lean hashes anything: it is a label: what it is worth is what the hold of that sum in a sandbox is worth. -/
noncomputable def Try.pinned : Pinned := { name := "ythlefdbhkbpejaa", sum := "3495ab7b942fd0dda64132e0e2dffe6564ed8f665926d85b4a499e697ce2d335", checked := Try.checked }
namespace Rows
def none {H : Type} : Left H := { results := [], args := [] }

/-- 'majordomolaw14.PowerSums': WHATEVER THE INPUT: true; the input reads as it did. -/
def powerSumsSpec : ChangeSpec := { name := "powerSums", fn := fun _ => fun
  | [d1, d2, d3] => { results := [.lit (.bool true)], args := [d1, d2, d3] }
  | _ => none }
def powerSumsRow : OpenClaim := { program := "ythlefdbhkbpejaa", sum := "3495ab7b942fd0dda64132e0e2dffe6564ed8f665926d85b4a499e697ce2d335", func := "majordomo/majordomolaw14.PowerSums", spec := "powerSums", unfollowed := true, recurses := true, apart := false }
def PowerSumsSaid : Prop := powerSumsRow.holds Try.pinned (OpenSpec.ofChange powerSumsSpec)

/-- ITS FALSE NEIGHBOUR: 'it returns false'. Refute it at one input. -/
def powerSumsWrong : ChangeSpec := { name := "powerSums", fn := fun _ => fun
  | [d1, d2, d3] => { results := [.lit (.bool false)], args := [d1, d2, d3] }
  | _ => none }
def PowerSumsWrongFalsely : Prop := powerSumsRow.holds Try.pinned (OpenSpec.ofChange powerSumsWrong)

/-- 'majordomolaw14.PowerKnown': WHATEVER THE INPUT: true; the input reads as it did. -/
def powerKnownSpec : ChangeSpec := { name := "powerKnown", fn := fun _ => fun
  | [] => { results := [.lit (.bool true)], args := [] }
  | _ => none }
def powerKnownRow : OpenClaim := { program := "ythlefdbhkbpejaa", sum := "3495ab7b942fd0dda64132e0e2dffe6564ed8f665926d85b4a499e697ce2d335", func := "majordomo/majordomolaw14.PowerKnown", spec := "powerKnown", unfollowed := true, recurses := true, apart := false }
def PowerKnownSaid : Prop := powerKnownRow.holds Try.pinned (OpenSpec.ofChange powerKnownSpec)

/-- ITS FALSE NEIGHBOUR: 'it returns false'. Refute it at one input. -/
def powerKnownWrong : ChangeSpec := { name := "powerKnown", fn := fun _ => fun
  | [] => { results := [.lit (.bool false)], args := [] }
  | _ => none }
def PowerKnownWrongFalsely : Prop := powerKnownRow.holds Try.pinned (OpenSpec.ofChange powerKnownWrong)

/-- 'majordomolaw14.PowerCarries': WHATEVER THE INPUT: true; the input reads as it did. -/
def powerCarriesSpec : ChangeSpec := { name := "powerCarries", fn := fun _ => fun
  | [d1, d2, d3] => { results := [.lit (.bool true)], args := [d1, d2, d3] }
  | _ => none }
def powerCarriesRow : OpenClaim := { program := "ythlefdbhkbpejaa", sum := "3495ab7b942fd0dda64132e0e2dffe6564ed8f665926d85b4a499e697ce2d335", func := "majordomo/majordomolaw14.PowerCarries", spec := "powerCarries", unfollowed := true, recurses := true, apart := false }
def PowerCarriesSaid : Prop := powerCarriesRow.holds Try.pinned (OpenSpec.ofChange powerCarriesSpec)

/-- ITS FALSE NEIGHBOUR: 'it returns false'. Refute it at one input. -/
def powerCarriesWrong : ChangeSpec := { name := "powerCarries", fn := fun _ => fun
  | [d1, d2, d3] => { results := [.lit (.bool false)], args := [d1, d2, d3] }
  | _ => none }
def PowerCarriesWrongFalsely : Prop := powerCarriesRow.holds Try.pinned (OpenSpec.ofChange powerCarriesWrong)

/-- 'majordomolaw14.PowerBears': WHATEVER THE INPUT: true; the input reads as it did. -/
def powerBearsSpec : ChangeSpec := { name := "powerBears", fn := fun _ => fun
  | [d1, d2, d3] => { results := [.lit (.bool true)], args := [d1, d2, d3] }
  | _ => none }
def powerBearsRow : OpenClaim := { program := "ythlefdbhkbpejaa", sum := "3495ab7b942fd0dda64132e0e2dffe6564ed8f665926d85b4a499e697ce2d335", func := "majordomo/majordomolaw14.PowerBears", spec := "powerBears", unfollowed := true, recurses := true, apart := false }
def PowerBearsSaid : Prop := powerBearsRow.holds Try.pinned (OpenSpec.ofChange powerBearsSpec)

/-- ITS FALSE NEIGHBOUR: 'it returns false'. Refute it at one input. -/
def powerBearsWrong : ChangeSpec := { name := "powerBears", fn := fun _ => fun
  | [d1, d2, d3] => { results := [.lit (.bool false)], args := [d1, d2, d3] }
  | _ => none }
def PowerBearsWrongFalsely : Prop := powerBearsRow.holds Try.pinned (OpenSpec.ofChange powerBearsWrong)

/- THE SECOND FORM. 'bulk': how many values and letters a reading holds, each counted each time it is reached (what is shared counts as often as it is met; a slice's spare places count too). A statement '..UptoSaid' is the law's where the arguments, and the package variables that the reading takes, are together of bulk at most 1048576: NARROWER than '..Said'. Prove '..Said' where nothing that the law and all that it calls make is longer than what came in: it says more and counts as full. Else prove '..UptoSaid'. A law counts once. -/
mutual
def uptoBulk {H : Type} : DataW H → Nat
  | .lit (.string bytes) => bytes.length + 1
  | .lit _ => 1
  | .nil => 1
  | .ptr d => uptoBulk d + 1
  | .slice elems spare => uptoBulkAll elems + uptoBulkAll spare + 1
  | .agg parts => uptoBulkAll parts + 1
  | .iface _ d => uptoBulk d + 1
  | .map entries => uptoBulkEntries entries + 1
  | .held _ => 1
def uptoBulkAll {H : Type} : List (DataW H) → Nat
  | [] => 0
  | d :: r => uptoBulk d + uptoBulkAll r
def uptoBulkEntries {H : Type} : List (Lit × DataW H) → Nat
  | [] => 0
  | x :: r => uptoBulkEntry x + uptoBulkEntries r
def uptoBulkEntry {H : Type} : Lit × DataW H → Nat
  | (.string bytes, d) => bytes.length + uptoBulk d + 1
  | (_, d) => uptoBulk d + 1
 end
def uptoSmall : (H : Type) → List (DataW H) → Bool := fun _ ds => decide (uptoBulkAll ds ≤ 1048576)
def OpenSpec.upto (s : _root_.Go.ChangeSpec) : _root_.Go.OpenSpec := { _root_.Go.OpenSpec.ofChange s with cond := some uptoSmall }

/-- 'majordomolaw14.PowerSums', WHERE WHAT IT READS IS OF BULK AT MOST 1048576: true; the input reads as it did. -/
def powerSumsUptoRow : OpenClaim := { program := "ythlefdbhkbpejaa", sum := "3495ab7b942fd0dda64132e0e2dffe6564ed8f665926d85b4a499e697ce2d335", func := "majordomo/majordomolaw14.PowerSums", spec := "powerSums", unfollowed := true, recurses := true, apart := false, narrowed := true }
def PowerSumsUptoSaid : Prop := powerSumsUptoRow.holds Try.pinned (OpenSpec.upto powerSumsSpec)

/-- 'majordomolaw14.PowerKnown', WHERE WHAT IT READS IS OF BULK AT MOST 1048576: true; the input reads as it did. -/
def powerKnownUptoRow : OpenClaim := { program := "ythlefdbhkbpejaa", sum := "3495ab7b942fd0dda64132e0e2dffe6564ed8f665926d85b4a499e697ce2d335", func := "majordomo/majordomolaw14.PowerKnown", spec := "powerKnown", unfollowed := true, recurses := true, apart := false, narrowed := true }
def PowerKnownUptoSaid : Prop := powerKnownUptoRow.holds Try.pinned (OpenSpec.upto powerKnownSpec)

/-- 'majordomolaw14.PowerCarries', WHERE WHAT IT READS IS OF BULK AT MOST 1048576: true; the input reads as it did. -/
def powerCarriesUptoRow : OpenClaim := { program := "ythlefdbhkbpejaa", sum := "3495ab7b942fd0dda64132e0e2dffe6564ed8f665926d85b4a499e697ce2d335", func := "majordomo/majordomolaw14.PowerCarries", spec := "powerCarries", unfollowed := true, recurses := true, apart := false, narrowed := true }
def PowerCarriesUptoSaid : Prop := powerCarriesUptoRow.holds Try.pinned (OpenSpec.upto powerCarriesSpec)

/-- 'majordomolaw14.PowerBears', WHERE WHAT IT READS IS OF BULK AT MOST 1048576: true; the input reads as it did. -/
def powerBearsUptoRow : OpenClaim := { program := "ythlefdbhkbpejaa", sum := "3495ab7b942fd0dda64132e0e2dffe6564ed8f665926d85b4a499e697ce2d335", func := "majordomo/majordomolaw14.PowerBears", spec := "powerBears", unfollowed := true, recurses := true, apart := false, narrowed := true }
def PowerBearsUptoSaid : Prop := powerBearsUptoRow.holds Try.pinned (OpenSpec.upto powerBearsSpec)

end Rows
end Go.Proofs.Ythlefdbhkbpejaa
