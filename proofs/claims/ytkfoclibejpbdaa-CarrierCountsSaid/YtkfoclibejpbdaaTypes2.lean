/- Chapter 25: how the laws' arguments are read: rows of bytes. -/
import Derived.Test.YtkfoclibejpbdaaTypes
namespace Go.Proofs.Ytkfoclibejpbdaa
open Go Go.RowKit Go.Deep Go.ChangeShapes Go.WideShapes Go.ChangeAt Go.Joins
variable {H : Type} {enc : TypeId × Value → H} {w : World} {base : Nat} {spare : Nat → Bool} {held : Bool}

theorem u8_wf {z : Int} (h : (Lit.int .u8 z).wf = true) : 0 ≤ z ∧ z ≤ 255 := by
  simp [Lit.wf] at h
  exact h
theorem co5 : Try.prog.cellsOf 5 = 1 := by kernel_rfl

theorem rd_bytes {n : Nat} {cs : List Value} {y : DataW H × List MemPlace} (h : DataW.trod enc Try.prog w base spare held n 48 cs = some y) :
    ∃ a k cap, ∃ zs : List Int, cs = [.slice a k cap] ∧ zs.length = k ∧ k ≤ cap ∧ cap ≤ maxLen ∧ (a = none → k = 0 ∧ cap = 0) ∧ RowsAt w.heap.size w a 1 (zs.map fun z => [.int .u8 z]) ∧ ∀ z ∈ zs, 0 ≤ z ∧ z ≤ 255 :=
  rd_flat (α := Int) (fun z => [.int .u8 z]) Try.underlying48 co5 (by omega) (fun z => 0 ≤ z ∧ z ≤ 255) (fun n cs y h => by
    obtain ⟨z, e, _, hw⟩ := DataW.trod_int Try.underlying5 h
    exact ⟨z, e, u8_wf hw⟩) h
end Go.Proofs.Ytkfoclibejpbdaa
