/- Chapter 25: how the laws' arguments are read: rows of bytes, rows of calls. -/
import Derived.Test.YtkfoclibejpbdaaTypes2
namespace Go.Proofs.Ytkfoclibejpbdaa
open Go Go.RowKit Go.Deep Go.ChangeShapes Go.WideShapes Go.ChangeAt Go.Joins
variable {H : Type} {enc : TypeId × Value → H} {w : World} {base : Nat} {spare : Nat → Bool} {held : Bool}

/-- A call of the theorem's list. -/
structure LAct where
  op : Int
  at' : Int
  m : Msg
  deriving DecidableEq, Inhabited
abbrev LAct.cells (x : LAct) : List Value := .int .u8 x.op :: .int .u8 x.at' :: x.m.cells
def LAct.ok (x : LAct) : Prop := (0 ≤ x.op ∧ x.op ≤ 255) ∧ 0 ≤ x.at' ∧ x.at' ≤ 255

theorem len11 {cs : List Value} (h : cs.length = 11) : ∃ c0 c1 c2 c3 c4 c5 c6 c7 c8 c9 c10, cs = [c0, c1, c2, c3, c4, c5, c6, c7, c8, c9, c10] := by
  match cs, h with
  | [c0, c1, c2, c3, c4, c5, c6, c7, c8, c9, c10], _ => exact ⟨_, _, _, _, _, _, _, _, _, _, _, rfl⟩
theorem coAct : Try.prog.cellsOf 56 = 11 := by kernel_rfl
theorem rd_act (n : Nat) (cs : List Value) (y : DataW H × List MemPlace) (h : DataW.trod enc Try.prog w base spare held n 56 cs = some y) : ∃ x : LAct, cs = x.cells ∧ x.ok := by
  obtain ⟨y0, y1, y2, n1, rfl, hl, h0, h1, h2⟩ := trod_struct3 Try.underlying56 h
  rw [coAct] at hl
  obtain ⟨c0, c1, c2, c3, c4, c5, c6, c7, c8, c9, c10, rfl⟩ := len11 hl
  rw [co5] at h0 h1
  rw [co34] at h2
  obtain ⟨x0, e0, _, g0⟩ := DataW.trod_int Try.underlying5 h0
  obtain ⟨x1, e1, _, g1⟩ := DataW.trod_int Try.underlying5 h1
  obtain ⟨m, e2, _⟩ := rd_msg _ _ _ h2
  refine ⟨⟨x0, x1, m⟩, ?_, u8_wf g0, u8_wf g1⟩
  simp at e0 e1 e2
  simp [e0, e1, e2]
theorem rd_acts {n : Nat} {cs : List Value} {y : DataW H × List MemPlace} (h : DataW.trod enc Try.prog w base spare held n 54 cs = some y) :
    ∃ a k cap, ∃ xs : List LAct, cs = [.slice a k cap] ∧ xs.length = k ∧ k ≤ cap ∧ cap ≤ maxLen ∧ (a = none → k = 0 ∧ cap = 0) ∧ RowsAt w.heap.size w a 11 (xs.map LAct.cells) ∧ ∀ x ∈ xs, x.ok :=
  rd_flat (α := LAct) LAct.cells Try.underlying54 coAct (by omega) LAct.ok (fun n cs y h => rd_act n cs y h) h
end Go.Proofs.Ytkfoclibejpbdaa
