/- Chapter 07: how the laws' arguments are read. -/
import Derived.Test.YtojpbmaojbejjaaOpen
import Derived.Test.YtojpbmaojbejjaaLib
import Derived.WalkKit
namespace Go.Proofs.Ytojpbmaojbejjaa
open Go Go.RowKit Go.Deep Go.ChangeShapes Go.WideShapes Go.ChangeAt Go.Joins
variable {H : Type} {enc : TypeId × Value → H} {w : World} {base : Nat} {spare : Nat → Bool} {held : Bool}

theorem u8_wf {z : Int} (h : (Lit.int .u8 z).wf = true) : 0 ≤ z ∧ z ≤ 255 := by
  simp [Lit.wf] at h
  exact h
theorem coInt : Try.prog.cellsOf 3 = 1 := by kernel_rfl
theorem coU8 : Try.prog.cellsOf 5 = 1 := by kernel_rfl
theorem coBool : Try.prog.cellsOf 4 = 1 := by kernel_rfl
theorem coBrk : Try.prog.cellsOf 23 = 4 := by kernel_rfl
theorem coSt : Try.prog.cellsOf 37 = 2 := by kernel_rfl
theorem coSml : Try.prog.cellsOf 30 = 4 := by kernel_rfl

theorem len4 {cs : List Value} (h : cs.length = 4) : ∃ c0 c1 c2 c3, cs = [c0, c1, c2, c3] := by
  match cs, h with
  | [c0, c1, c2, c3], _ => exact ⟨_, _, _, _, rfl⟩
theorem len2 {cs : List Value} (h : cs.length = 2) : ∃ c0 c1, cs = [c0, c1] := by
  match cs, h with
  | [c0, c1], _ => exact ⟨_, _, rfl⟩

theorem rd_brk (n : Nat) (cs : List Value) (y : DataW H × List MemPlace) (h : DataW.trod enc Try.prog w base spare held n 23 cs = some y) : ∃ m : Brk, cs = m.cells ∧ True := by
  obtain ⟨y0, y1, y2, y3, n1, rfl, hl, h0, h1, h2, h3⟩ := trod_struct4 Try.underlying23 h
  rw [coBrk] at hl
  obtain ⟨c0, c1, c2, c3, rfl⟩ := len4 hl
  rw [coInt] at h0 h1 h2 h3
  obtain ⟨x0, e0, _, _⟩ := DataW.trod_int Try.underlying3 h0
  obtain ⟨x1, e1, _, _⟩ := DataW.trod_int Try.underlying3 h1
  obtain ⟨x2, e2, _, _⟩ := DataW.trod_int Try.underlying3 h2
  obtain ⟨x3, e3, _, _⟩ := DataW.trod_int Try.underlying3 h3
  refine ⟨⟨x0, x1, x2, x3⟩, ?_, trivial⟩
  simp at e0 e1 e2 e3
  simp [e0, e1, e2, e3]

theorem rd_st (n : Nat) (cs : List Value) (y : DataW H × List MemPlace) (h : DataW.trod enc Try.prog w base spare held n 37 cs = some y) : ∃ m : BSt, cs = m.cells ∧ True := by
  obtain ⟨y0, y1, n1, rfl, hl, h0, h1⟩ := trod_struct2 Try.underlying37 h
  rw [coSt] at hl
  obtain ⟨c0, c1, rfl⟩ := len2 hl
  rw [coInt] at h0
  rw [coBool] at h1
  obtain ⟨x0, e0, _, _⟩ := DataW.trod_int Try.underlying3 h0
  obtain ⟨x1, e1, _⟩ := DataW.trod_bool Try.underlying4 h1
  refine ⟨⟨x0, x1⟩, ?_, trivial⟩
  simp at e0 e1
  simp [e0, e1]

/-- A breaker by small numbers. -/
structure Sml where
  limit : Int
  slow : Int
  fast : Int
  heat : Int
  deriving DecidableEq, Inhabited
abbrev Sml.cells (x : Sml) : List Value := [.int .u8 x.limit, .int .u8 x.slow, .int .u8 x.fast, .int .u8 x.heat]
abbrev Sml.val (x : Sml) : Value := .agg x.cells.toArray
def Sml.ok (x : Sml) : Prop := (0 ≤ x.limit ∧ x.limit ≤ 255) ∧ (0 ≤ x.slow ∧ x.slow ≤ 255) ∧ (0 ≤ x.fast ∧ x.fast ≤ 255) ∧ 0 ≤ x.heat ∧ x.heat ≤ 255

theorem rd_sml (n : Nat) (cs : List Value) (y : DataW H × List MemPlace) (h : DataW.trod enc Try.prog w base spare held n 30 cs = some y) : ∃ m : Sml, cs = m.cells ∧ m.ok := by
  obtain ⟨y0, y1, y2, y3, n1, rfl, hl, h0, h1, h2, h3⟩ := trod_struct4 Try.underlying30 h
  rw [coSml] at hl
  obtain ⟨c0, c1, c2, c3, rfl⟩ := len4 hl
  rw [coU8] at h0 h1 h2 h3
  obtain ⟨x0, e0, _, g0⟩ := DataW.trod_int Try.underlying5 h0
  obtain ⟨x1, e1, _, g1⟩ := DataW.trod_int Try.underlying5 h1
  obtain ⟨x2, e2, _, g2⟩ := DataW.trod_int Try.underlying5 h2
  obtain ⟨x3, e3, _, g3⟩ := DataW.trod_int Try.underlying5 h3
  refine ⟨⟨x0, x1, x2, x3⟩, ?_, u8_wf g0, u8_wf g1, u8_wf g2, u8_wf g3⟩
  simp at e0 e1 e2 e3
  simp [e0, e1, e2, e3]

theorem rd_ints {n : Nat} {cs : List Value} {y : DataW H × List MemPlace} (h : DataW.trod enc Try.prog w base spare held n 43 cs = some y) :
    ∃ a k cap, ∃ zs : List Int, cs = [.slice a k cap] ∧ zs.length = k ∧ k ≤ cap ∧ cap ≤ maxLen ∧ (a = none → k = 0 ∧ cap = 0) ∧ RowsAt w.heap.size w a 1 (zs.map fun z => [.int .i64 z]) := by
  obtain ⟨a, k, cap, zs, h1, h2, h3, h4, h5, h6, _⟩ := rd_flat (α := Int) (fun z => [.int .i64 z]) Try.underlying43 coInt (by omega) (fun _ => True) (fun n cs y h => by
    obtain ⟨z, e, _, _⟩ := DataW.trod_int Try.underlying3 h
    exact ⟨z, e, trivial⟩) h
  exact ⟨a, k, cap, zs, h1, h2, h3, h4, h5, h6⟩

theorem rd_bytes {n : Nat} {cs : List Value} {y : DataW H × List MemPlace} (h : DataW.trod enc Try.prog w base spare held n 52 cs = some y) :
    ∃ a k cap, ∃ zs : List Int, cs = [.slice a k cap] ∧ zs.length = k ∧ k ≤ cap ∧ cap ≤ maxLen ∧ (a = none → k = 0 ∧ cap = 0) ∧ RowsAt w.heap.size w a 1 (zs.map fun z => [.int .u8 z]) ∧ ∀ z ∈ zs, 0 ≤ z ∧ z ≤ 255 :=
  rd_flat (α := Int) (fun z => [.int .u8 z]) Try.underlying52 coU8 (by omega) (fun z => 0 ≤ z ∧ z ≤ 255) (fun n cs y h => by
    obtain ⟨z, e, _, hw⟩ := DataW.trod_int Try.underlying5 h
    exact ⟨z, e, u8_wf hw⟩) h
end Go.Proofs.Ytojpbmaojbejjaa
