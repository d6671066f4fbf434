/- Chapter 25: how the laws' arguments are read: messages, carriers. -/
import Derived.Test.YtkfoclibejpbdaaOpen
import Derived.Test.YtkfoclibejpbdaaMsg
import Derived.WalkKit
namespace Go.Proofs.Ytkfoclibejpbdaa
open Go Go.RowKit Go.Deep Go.ChangeShapes Go.WideShapes Go.ChangeAt Go.Joins
variable {H : Type} {enc : TypeId × Value → H} {w : World} {base : Nat} {spare : Nat → Bool} {held : Bool}

theorem len9 {cs : List Value} (h : cs.length = 9) : ∃ c0 c1 c2 c3 c4 c5 c6 c7 c8, cs = [c0, c1, c2, c3, c4, c5, c6, c7, c8] := by
  match cs, h with
  | [c0, c1, c2, c3, c4, c5, c6, c7, c8], _ => exact ⟨_, _, _, _, _, _, _, _, _, rfl⟩

theorem co3 : Try.prog.cellsOf 3 = 1 := by kernel_rfl
theorem co25 : Try.prog.cellsOf 25 = 1 := by kernel_rfl
theorem co27 : Try.prog.cellsOf 27 = 4 := by kernel_rfl
theorem co29 : Try.prog.cellsOf 29 = 6 := by kernel_rfl
theorem co30 : Try.prog.cellsOf 30 = 1 := by kernel_rfl
theorem co32 : Try.prog.cellsOf 32 = 2 := by kernel_rfl
theorem co34 : Try.prog.cellsOf 34 = 9 := by kernel_rfl
theorem co22 : Try.prog.cellsOf 22 = 1 := by kernel_rfl
theorem co24 : Try.prog.cellsOf 24 = 1 := by kernel_rfl

theorem rd_msg (n : Nat) (cs : List Value) (y : DataW H × List MemPlace) (h : DataW.trod enc Try.prog w base spare held n 34 cs = some y) : ∃ m : Msg, cs = m.cells ∧ True := by
  obtain ⟨y0, y1, y2, n1, rfl, hl, h0, h1, h2⟩ := trod_struct3 Try.underlying34 h
  rw [co34] at hl
  obtain ⟨c0, c1, c2, c3, c4, c5, c6, c7, c8, rfl⟩ := len9 hl
  rw [co3] at h0
  rw [co29] at h1
  rw [co32] at h2
  obtain ⟨z0, z1, z2, n2, rfl, _, k0, k1, k2⟩ := trod_struct3 Try.underlying29 h1
  rw [co3] at k0 k1
  rw [co27] at k2
  obtain ⟨u0, u1, u2, u3, n3, rfl, _, g0, g1, g2, g3⟩ := trod_struct4 Try.underlying27 k2
  rw [co25] at g0
  rw [co3] at g1 g2 g3
  obtain ⟨v0, v1, n4, rfl, _, f0, f1⟩ := trod_struct2 Try.underlying32 h2
  rw [co3] at f0
  rw [co30] at f1
  obtain ⟨x0, e0, _, _⟩ := DataW.trod_int Try.underlying3 h0
  obtain ⟨x1, e1, _, _⟩ := DataW.trod_int Try.underlying3 k0
  obtain ⟨x2, e2, _, _⟩ := DataW.trod_int Try.underlying3 k1
  obtain ⟨x3, e3, _, _⟩ := DataW.trod_int Try.underlying25 g0
  obtain ⟨x4, e4, _, _⟩ := DataW.trod_int Try.underlying3 g1
  obtain ⟨x5, e5, _, _⟩ := DataW.trod_int Try.underlying3 g2
  obtain ⟨x6, e6, _, _⟩ := DataW.trod_int Try.underlying3 g3
  obtain ⟨x7, e7, _, _⟩ := DataW.trod_int Try.underlying3 f0
  obtain ⟨x8, e8, _, _⟩ := DataW.trod_int Try.underlying30 f1
  refine ⟨⟨x0, x1, x2, x3, x4, x5, x6, x7, x8⟩, ?_, trivial⟩
  simp at e0 e1 e2 e3 e4 e5 e6 e7 e8
  simp [e0, e1, e2, e3, e4, e5, e6, e7, e8]

/-- A carrier that came in. -/
theorem rd_car {n : Nat} {cs : List Value} {y : DataW H × List MemPlace} (h : DataW.trod enc Try.prog w base spare held n 24 cs = some y) :
    ∃ a k cap, ∃ ms : List Msg, cs = [.slice a k cap] ∧ ms.length = k ∧ k ≤ cap ∧ cap ≤ maxLen ∧ (a = none → k = 0 ∧ cap = 0) ∧ MsgsAt w.heap.size w a ms := by
  obtain ⟨y0, n1, rfl, hl, h0⟩ := trod_struct1 Try.underlying24 h
  rw [co24] at hl
  rw [co22] at h0
  obtain ⟨a, k, cap, ms, hcs, h1, h2, h3, h4, h5, _⟩ := rd_flat (α := Msg) Msg.cells Try.underlying22 co34 (by omega) (fun _ => True) (fun n cs y h => rd_msg n cs y h) h0
  refine ⟨a, k, cap, ms, ?_, h1, h2, h3, h4, h5⟩
  match cs, hl with
  | [c], _ => simpa using hcs
end Go.Proofs.Ytkfoclibejpbdaa
