/-
  No cell of these rows narrows 'for every input' (looked for: loops, veiled, ifaces, maps, wideKeys, modest, calm, conditions, laid).
  DERIVED. THE GIVEN ROWS OF THIS SEAT. 7 by the template 'for every input the law returns true; each argument reads behind the call as it read before'; 0 by the template 'total and deterministic' (their statements: YtkfoclibejpbdaaTotals.lean).
  GIVEN WITH THE SEED: the statements are not yours to turn. If you find one false, say at which input.
  Laid BY PROGRAM, IN A SANDBOX (cutbox-rows.mjs): the forced cells as the released guide's own fill.sh prints them over the translation 3f7d9d85b1a14c19… (all of the seat's roots in one cut). By AI agents, Wed Nov 11 2026. No macro, syntax, notation, axiom, sorry.
-/
import Derived.Test.YtkfoclibejpbdaaChecked
import GoSem.Claim
import GoSem.ClaimJoined
import GoSem.ClaimMapViews
import Derived.JoinedTies
import Derived.KernelRfl
namespace Go.Proofs.Ytkfoclibejpbdaa
/- THE CELL 'sum', in the pinned program and in every row, IS THE sha256 OF THE DUMP (.gsa) THAT YtkfoclibejpbdaaProg.lean LOADS. Nothing in Lean hashes anything: it is a label: what it is worth is what the hold of that sum in a sandbox is worth. -/
noncomputable def Try.pinned : Pinned := { name := "ytkfoclibejpbdaa", sum := "3f7d9d85b1a14c1988714b68fa6dcfe36b580c80f0275e171d0d0143afc6ce70", checked := Try.checked }
namespace Rows
def none {H : Type} : Left H := { results := [], args := [] }

/-- 'majordomolaw25.CarrierWaits': WHATEVER THE INPUT: true; the input reads as it did. -/
def carrierWaitsSpec : ChangeSpec := { name := "carrierWaits", fn := fun _ => fun
  | [d1, d2, d3] => { results := [.lit (.bool true)], args := [d1, d2, d3] }
  | _ => none }
def carrierWaitsRow : OpenClaim := { program := "ytkfoclibejpbdaa", sum := "3f7d9d85b1a14c1988714b68fa6dcfe36b580c80f0275e171d0d0143afc6ce70", func := "majordomo/majordomolaw25.CarrierWaits", spec := "carrierWaits", unfollowed := true, recurses := true, apart := false }
def CarrierWaitsSaid : Prop := carrierWaitsRow.holds Try.pinned (OpenSpec.ofChange carrierWaitsSpec)

/-- ITS FALSE NEIGHBOUR: 'it returns false'. Refute it at one input. -/
def carrierWaitsWrong : ChangeSpec := { name := "carrierWaits", fn := fun _ => fun
  | [d1, d2, d3] => { results := [.lit (.bool false)], args := [d1, d2, d3] }
  | _ => none }
def CarrierWaitsWrongFalsely : Prop := carrierWaitsRow.holds Try.pinned (OpenSpec.ofChange carrierWaitsWrong)

/-- 'majordomolaw25.CarrierTakes': WHATEVER THE INPUT: true; the input reads as it did. -/
def carrierTakesSpec : ChangeSpec := { name := "carrierTakes", fn := fun _ => fun
  | [d1, d2] => { results := [.lit (.bool true)], args := [d1, d2] }
  | _ => none }
def carrierTakesRow : OpenClaim := { program := "ytkfoclibejpbdaa", sum := "3f7d9d85b1a14c1988714b68fa6dcfe36b580c80f0275e171d0d0143afc6ce70", func := "majordomo/majordomolaw25.CarrierTakes", spec := "carrierTakes", unfollowed := true, recurses := true, apart := false }
def CarrierTakesSaid : Prop := carrierTakesRow.holds Try.pinned (OpenSpec.ofChange carrierTakesSpec)

/-- ITS FALSE NEIGHBOUR: 'it returns false'. Refute it at one input. -/
def carrierTakesWrong : ChangeSpec := { name := "carrierTakes", fn := fun _ => fun
  | [d1, d2] => { results := [.lit (.bool false)], args := [d1, d2] }
  | _ => none }
def CarrierTakesWrongFalsely : Prop := carrierTakesRow.holds Try.pinned (OpenSpec.ofChange carrierTakesWrong)

/-- 'majordomolaw25.CarrierOrders': WHATEVER THE INPUT: true; the input reads as it did. -/
def carrierOrdersSpec : ChangeSpec := { name := "carrierOrders", fn := fun _ => fun
  | [d] => { results := [.lit (.bool true)], args := [d] }
  | _ => none }
def carrierOrdersRow : OpenClaim := { program := "ytkfoclibejpbdaa", sum := "3f7d9d85b1a14c1988714b68fa6dcfe36b580c80f0275e171d0d0143afc6ce70", func := "majordomo/majordomolaw25.CarrierOrders", spec := "carrierOrders", unfollowed := true, recurses := true, apart := false }
def CarrierOrdersSaid : Prop := carrierOrdersRow.holds Try.pinned (OpenSpec.ofChange carrierOrdersSpec)

/-- ITS FALSE NEIGHBOUR: 'it returns false'. Refute it at one input. -/
def carrierOrdersWrong : ChangeSpec := { name := "carrierOrders", fn := fun _ => fun
  | [d] => { results := [.lit (.bool false)], args := [d] }
  | _ => none }
def CarrierOrdersWrongFalsely : Prop := carrierOrdersRow.holds Try.pinned (OpenSpec.ofChange carrierOrdersWrong)

/-- 'majordomolaw25.CarrierSends': WHATEVER THE INPUT: true; the input reads as it did. -/
def carrierSendsSpec : ChangeSpec := { name := "carrierSends", fn := fun _ => fun
  | [d1, d2, d3] => { results := [.lit (.bool true)], args := [d1, d2, d3] }
  | _ => none }
def carrierSendsRow : OpenClaim := { program := "ytkfoclibejpbdaa", sum := "3f7d9d85b1a14c1988714b68fa6dcfe36b580c80f0275e171d0d0143afc6ce70", func := "majordomo/majordomolaw25.CarrierSends", spec := "carrierSends", unfollowed := true, recurses := true, apart := false }
def CarrierSendsSaid : Prop := carrierSendsRow.holds Try.pinned (OpenSpec.ofChange carrierSendsSpec)

/-- ITS FALSE NEIGHBOUR: 'it returns false'. Refute it at one input. -/
def carrierSendsWrong : ChangeSpec := { name := "carrierSends", fn := fun _ => fun
  | [d1, d2, d3] => { results := [.lit (.bool false)], args := [d1, d2, d3] }
  | _ => none }
def CarrierSendsWrongFalsely : Prop := carrierSendsRow.holds Try.pinned (OpenSpec.ofChange carrierSendsWrong)

/-- 'majordomolaw25.CarrierOwns': WHATEVER THE INPUT: true; the input reads as it did. -/
def carrierOwnsSpec : ChangeSpec := { name := "carrierOwns", fn := fun _ => fun
  | [d1, d2, d3] => { results := [.lit (.bool true)], args := [d1, d2, d3] }
  | _ => none }
def carrierOwnsRow : OpenClaim := { program := "ytkfoclibejpbdaa", sum := "3f7d9d85b1a14c1988714b68fa6dcfe36b580c80f0275e171d0d0143afc6ce70", func := "majordomo/majordomolaw25.CarrierOwns", spec := "carrierOwns", unfollowed := true, recurses := true, apart := false }
def CarrierOwnsSaid : Prop := carrierOwnsRow.holds Try.pinned (OpenSpec.ofChange carrierOwnsSpec)

/-- ITS FALSE NEIGHBOUR: 'it returns false'. Refute it at one input. -/
def carrierOwnsWrong : ChangeSpec := { name := "carrierOwns", fn := fun _ => fun
  | [d1, d2, d3] => { results := [.lit (.bool false)], args := [d1, d2, d3] }
  | _ => none }
def CarrierOwnsWrongFalsely : Prop := carrierOwnsRow.holds Try.pinned (OpenSpec.ofChange carrierOwnsWrong)

/-- 'majordomolaw25.CarrierCounts': WHATEVER THE INPUT: true; the input reads as it did. -/
def carrierCountsSpec : ChangeSpec := { name := "carrierCounts", fn := fun _ => fun
  | [d1, d2] => { results := [.lit (.bool true)], args := [d1, d2] }
  | _ => none }
def carrierCountsRow : OpenClaim := { program := "ytkfoclibejpbdaa", sum := "3f7d9d85b1a14c1988714b68fa6dcfe36b580c80f0275e171d0d0143afc6ce70", func := "majordomo/majordomolaw25.CarrierCounts", spec := "carrierCounts", unfollowed := true, recurses := true, apart := false }
def CarrierCountsSaid : Prop := carrierCountsRow.holds Try.pinned (OpenSpec.ofChange carrierCountsSpec)

/-- ITS FALSE NEIGHBOUR: 'it returns false'. Refute it at one input. -/
def carrierCountsWrong : ChangeSpec := { name := "carrierCounts", fn := fun _ => fun
  | [d1, d2] => { results := [.lit (.bool false)], args := [d1, d2] }
  | _ => none }
def CarrierCountsWrongFalsely : Prop := carrierCountsRow.holds Try.pinned (OpenSpec.ofChange carrierCountsWrong)

/-- 'majordomolaw25.CarrierKnown': WHATEVER THE INPUT: true; the input reads as it did. -/
def carrierKnownSpec : ChangeSpec := { name := "carrierKnown", fn := fun _ => fun
  | [] => { results := [.lit (.bool true)], args := [] }
  | _ => none }
def carrierKnownRow : OpenClaim := { program := "ytkfoclibejpbdaa", sum := "3f7d9d85b1a14c1988714b68fa6dcfe36b580c80f0275e171d0d0143afc6ce70", func := "majordomo/majordomolaw25.CarrierKnown", spec := "carrierKnown", unfollowed := true, recurses := true, apart := false }
def CarrierKnownSaid : Prop := carrierKnownRow.holds Try.pinned (OpenSpec.ofChange carrierKnownSpec)

/-- ITS FALSE NEIGHBOUR: 'it returns false'. Refute it at one input. -/
def carrierKnownWrong : ChangeSpec := { name := "carrierKnown", fn := fun _ => fun
  | [] => { results := [.lit (.bool false)], args := [] }
  | _ => none }
def CarrierKnownWrongFalsely : Prop := carrierKnownRow.holds Try.pinned (OpenSpec.ofChange carrierKnownWrong)

/- THE SECOND FORM. 'bulk': how many values and letters a reading holds, each counted each time it is reached (what is shared counts as often as it is met; a slice's spare places count too). A statement '..UptoSaid' is the law's where the arguments, and the package variables that the reading takes, are together of bulk at most 1048576: NARROWER than '..Said'. Prove '..Said' where nothing that the law and all that it calls make is longer than what came in: it says more and counts as full. Else prove '..UptoSaid'. A law counts once. -/
mutual
def uptoBulk {H : Type} : DataW H → Nat
  | .lit (.string bytes) => bytes.length + 1
  | .lit _ => 1
  | .nil => 1
  | .ptr d => uptoBulk d + 1
  | .slice elems spare => uptoBulkAll elems + uptoBulkAll spare + 1
  | .agg parts => uptoBulkAll parts + 1
  | .iface _ d => uptoBulk d + 1
  | .map entries => uptoBulkEntries entries + 1
  | .held _ => 1
def uptoBulkAll {H : Type} : List (DataW H) → Nat
  | [] => 0
  | d :: r => uptoBulk d + uptoBulkAll r
def uptoBulkEntries {H : Type} : List (Lit × DataW H) → Nat
  | [] => 0
  | x :: r => uptoBulkEntry x + uptoBulkEntries r
def uptoBulkEntry {H : Type} : Lit × DataW H → Nat
  | (.string bytes, d) => bytes.length + uptoBulk d + 1
  | (_, d) => uptoBulk d + 1
 end
def uptoSmall : (H : Type) → List (DataW H) → Bool := fun _ ds => decide (uptoBulkAll ds ≤ 1048576)
def OpenSpec.upto (s : _root_.Go.ChangeSpec) : _root_.Go.OpenSpec := { _root_.Go.OpenSpec.ofChange s with cond := some uptoSmall }

/-- 'majordomolaw25.CarrierWaits', WHERE WHAT IT READS IS OF BULK AT MOST 1048576: true; the input reads as it did. -/
def carrierWaitsUptoRow : OpenClaim := { program := "ytkfoclibejpbdaa", sum := "3f7d9d85b1a14c1988714b68fa6dcfe36b580c80f0275e171d0d0143afc6ce70", func := "majordomo/majordomolaw25.CarrierWaits", spec := "carrierWaits", unfollowed := true, recurses := true, apart := false, narrowed := true }
def CarrierWaitsUptoSaid : Prop := carrierWaitsUptoRow.holds Try.pinned (OpenSpec.upto carrierWaitsSpec)

/-- 'majordomolaw25.CarrierTakes', WHERE WHAT IT READS IS OF BULK AT MOST 1048576: true; the input reads as it did. -/
def carrierTakesUptoRow : OpenClaim := { program := "ytkfoclibejpbdaa", sum := "3f7d9d85b1a14c1988714b68fa6dcfe36b580c80f0275e171d0d0143afc6ce70", func := "majordomo/majordomolaw25.CarrierTakes", spec := "carrierTakes", unfollowed := true, recurses := true, apart := false, narrowed := true }
def CarrierTakesUptoSaid : Prop := carrierTakesUptoRow.holds Try.pinned (OpenSpec.upto carrierTakesSpec)

/-- 'majordomolaw25.CarrierOrders', WHERE WHAT IT READS IS OF BULK AT MOST 1048576: true; the input reads as it did. -/
def carrierOrdersUptoRow : OpenClaim := { program := "ytkfoclibejpbdaa", sum := "3f7d9d85b1a14c1988714b68fa6dcfe36b580c80f0275e171d0d0143afc6ce70", func := "majordomo/majordomolaw25.CarrierOrders", spec := "carrierOrders", unfollowed := true, recurses := true, apart := false, narrowed := true }
def CarrierOrdersUptoSaid : Prop := carrierOrdersUptoRow.holds Try.pinned (OpenSpec.upto carrierOrdersSpec)

/-- 'majordomolaw25.CarrierSends', WHERE WHAT IT READS IS OF BULK AT MOST 1048576: true; the input reads as it did. -/
def carrierSendsUptoRow : OpenClaim := { program := "ytkfoclibejpbdaa", sum := "3f7d9d85b1a14c1988714b68fa6dcfe36b580c80f0275e171d0d0143afc6ce70", func := "majordomo/majordomolaw25.CarrierSends", spec := "carrierSends", unfollowed := true, recurses := true, apart := false, narrowed := true }
def CarrierSendsUptoSaid : Prop := carrierSendsUptoRow.holds Try.pinned (OpenSpec.upto carrierSendsSpec)

/-- 'majordomolaw25.CarrierOwns', WHERE WHAT IT READS IS OF BULK AT MOST 1048576: true; the input reads as it did. -/
def carrierOwnsUptoRow : OpenClaim := { program := "ytkfoclibejpbdaa", sum := "3f7d9d85b1a14c1988714b68fa6dcfe36b580c80f0275e171d0d0143afc6ce70", func := "majordomo/majordomolaw25.CarrierOwns", spec := "carrierOwns", unfollowed := true, recurses := true, apart := false, narrowed := true }
def CarrierOwnsUptoSaid : Prop := carrierOwnsUptoRow.holds Try.pinned (OpenSpec.upto carrierOwnsSpec)

/-- 'majordomolaw25.CarrierCounts', WHERE WHAT IT READS IS OF BULK AT MOST 1048576: true; the input reads as it did. -/
def carrierCountsUptoRow : OpenClaim := { program := "ytkfoclibejpbdaa", sum := "3f7d9d85b1a14c1988714b68fa6dcfe36b580c80f0275e171d0d0143afc6ce70", func := "majordomo/majordomolaw25.CarrierCounts", spec := "carrierCounts", unfollowed := true, recurses := true, apart := false, narrowed := true }
def CarrierCountsUptoSaid : Prop := carrierCountsUptoRow.holds Try.pinned (OpenSpec.upto carrierCountsSpec)

/-- 'majordomolaw25.CarrierKnown', WHERE WHAT IT READS IS OF BULK AT MOST 1048576: true; the input reads as it did. -/
def carrierKnownUptoRow : OpenClaim := { program := "ytkfoclibejpbdaa", sum := "3f7d9d85b1a14c1988714b68fa6dcfe36b580c80f0275e171d0d0143afc6ce70", func := "majordomo/majordomolaw25.CarrierKnown", spec := "carrierKnown", unfollowed := true, recurses := true, apart := false, narrowed := true }
def CarrierKnownUptoSaid : Prop := carrierKnownUptoRow.holds Try.pinned (OpenSpec.upto carrierKnownSpec)

end Rows
end Go.Proofs.Ytkfoclibejpbdaa
