/- Chapter 05: how the laws' arguments are read. -/
import Derived.Test.YtgojjlnpbakfjaaOpen
import Derived.Test.YtgojjlnpbakfjaaNet
import Derived.WalkKit
namespace Go.Proofs.Ytgojjlnpbakfjaa
open Go Go.RowKit Go.Deep Go.ChangeShapes Go.WideShapes Go.ChangeAt Go.Joins

/-- A net as an argument. -/
structure NetV where
  n : Int
  a : Option Addr
  k : Nat
  c : Nat
  l : List Ar
abbrev NetV.cells (x : NetV) : List Value := [.int .i64 x.n, .slice x.a x.k x.c]
abbrev NetV.val (x : NetV) : Value := .agg x.cells.toArray
structure NetV.ok (x : NetV) (W : World) : Prop where
  len : x.l.length = x.k
  cap : x.k ≤ x.c
  max : x.c ≤ maxLen
  nil : x.a = none → x.k = 0 ∧ x.c = 0
  rows : RowsAt W.heap.size W x.a 3 (Ars x.l)
/-- An arc by small numbers. -/
structure Edg where
  u : Int
  v : Int
  c : Int
instance : Inhabited Edg := ⟨⟨0, 0, 0⟩⟩
abbrev Edg.cells (x : Edg) : List Value := [.int .u8 x.u, .int .u8 x.v, .int .u8 x.c]
abbrev Edgs (l : List Edg) : List (List Value) := l.map Edg.cells
def Edg.ok (x : Edg) : Prop := (0 ≤ x.u ∧ x.u ≤ 255) ∧ (0 ≤ x.v ∧ x.v ≤ 255) ∧ 0 ≤ x.c ∧ x.c ≤ 255

variable {H : Type} {enc : TypeId × Value → H} {w : World} {base : Nat} {spare : Nat → Bool} {held : Bool}
theorem u8_wf {z : Int} (h : (Lit.int .u8 z).wf = true) : 0 ≤ z ∧ z ≤ 255 := by
  simp [Lit.wf] at h
  exact h
theorem u16_wf {z : Int} (h : (Lit.int .u16 z).wf = true) : 0 ≤ z ∧ z ≤ 65535 := by
  simp [Lit.wf] at h
  exact h
theorem coInt : Try.prog.cellsOf 3 = 1 := by kernel_rfl
theorem coU8 : Try.prog.cellsOf 5 = 1 := by kernel_rfl
theorem coArc : Try.prog.cellsOf 32 = 3 := by kernel_rfl
theorem coArcs : Try.prog.cellsOf 22 = 1 := by kernel_rfl
theorem coNet : Try.prog.cellsOf 24 = 2 := by kernel_rfl
theorem coEdg : Try.prog.cellsOf 77 = 3 := by kernel_rfl
theorem len2 {cs : List Value} (h : cs.length = 2) : ∃ c0 c1, cs = [c0, c1] := by
  match cs, h with
  | [c0, c1], _ => exact ⟨_, _, rfl⟩
theorem len3 {cs : List Value} (h : cs.length = 3) : ∃ c0 c1 c2, cs = [c0, c1, c2] := by
  match cs, h with
  | [c0, c1, c2], _ => exact ⟨_, _, _, rfl⟩
theorem rd_arc (n : Nat) (cs : List Value) (y : DataW H × List MemPlace) (h : DataW.trod enc Try.prog w base spare held n 32 cs = some y) : ∃ m : Ar, cs = m.cells ∧ True := by
  obtain ⟨y0, y1, y2, n1, rfl, hl, h0, h1, h2⟩ := trod_struct3 Try.underlying32 h
  rw [coArc] at hl
  obtain ⟨c0, c1, c2, rfl⟩ := len3 hl
  rw [coInt] at h0 h1 h2
  obtain ⟨x0, e0, _, _⟩ := DataW.trod_int Try.underlying3 h0
  obtain ⟨x1, e1, _, _⟩ := DataW.trod_int Try.underlying3 h1
  obtain ⟨x2, e2, _, _⟩ := DataW.trod_int Try.underlying3 h2
  refine ⟨⟨x0, x1, x2⟩, ?_, trivial⟩
  simp at e0 e1 e2
  simp [e0, e1, e2]
theorem rd_net (n : Nat) (cs : List Value) (y : DataW H × List MemPlace) (h : DataW.trod enc Try.prog w base spare held n 24 cs = some y) : ∃ x : NetV, cs = x.cells ∧ x.ok w := by
  obtain ⟨y0, y1, n1, rfl, hl, h0, h1⟩ := trod_struct2 Try.underlying24 h
  rw [coNet] at hl
  obtain ⟨c0, c1, rfl⟩ := len2 hl
  rw [coInt] at h0
  rw [coArcs] at h1
  obtain ⟨x0, e0, _, _⟩ := DataW.trod_int Try.underlying3 h0
  obtain ⟨a, k, cap, zs, g1, g2, g3, g4, g5, g6, _⟩ := rd_flat (α := Ar) Ar.cells Try.underlying22 coArc (by omega) (fun _ => True) rd_arc h1
  simp at e0 g1
  exact ⟨⟨x0, a, k, cap, zs⟩, by simp [e0, g1], ⟨g2, g3, g4, g5, g6⟩⟩
theorem rd_ints {n : Nat} {cs : List Value} {y : DataW H × List MemPlace} (h : DataW.trod enc Try.prog w base spare held n 26 cs = some y) :
    ∃ a k cap, ∃ zs : List Int, cs = [.slice a k cap] ∧ zs.length = k ∧ k ≤ cap ∧ cap ≤ maxLen ∧ (a = none → k = 0 ∧ cap = 0) ∧ RowsAt w.heap.size w a 1 (zs.map fun z => [.int .i64 z]) := by
  obtain ⟨a, k, cap, zs, h1, h2, h3, h4, h5, h6, _⟩ := rd_flat (α := Int) (fun z => [.int .i64 z]) Try.underlying26 coInt (by omega) (fun _ => True) (fun n cs y h => by
    obtain ⟨z, e, _, _⟩ := DataW.trod_int Try.underlying3 h
    exact ⟨z, e, trivial⟩) h
  exact ⟨a, k, cap, zs, h1, h2, h3, h4, h5, h6⟩
theorem rd_bytes {n : Nat} {cs : List Value} {y : DataW H × List MemPlace} (h : DataW.trod enc Try.prog w base spare held n 49 cs = some y) :
    ∃ a k cap, ∃ zs : List Int, cs = [.slice a k cap] ∧ zs.length = k ∧ k ≤ cap ∧ cap ≤ maxLen ∧ (a = none → k = 0 ∧ cap = 0) ∧ RowsAt w.heap.size w a 1 (zs.map fun z => [.int .u8 z]) ∧ ∀ z ∈ zs, 0 ≤ z ∧ z ≤ 255 :=
  rd_flat (α := Int) (fun z => [.int .u8 z]) Try.underlying49 coU8 (by omega) (fun z => 0 ≤ z ∧ z ≤ 255) (fun n cs y h => by
    obtain ⟨z, e, _, hw⟩ := DataW.trod_int Try.underlying5 h
    exact ⟨z, e, u8_wf hw⟩) h
theorem rd_edge (n : Nat) (cs : List Value) (y : DataW H × List MemPlace) (h : DataW.trod enc Try.prog w base spare held n 77 cs = some y) : ∃ m : Edg, cs = m.cells ∧ m.ok := by
  obtain ⟨y0, y1, y2, n1, rfl, hl, h0, h1, h2⟩ := trod_struct3 Try.underlying77 h
  rw [coEdg] at hl
  obtain ⟨c0, c1, c2, rfl⟩ := len3 hl
  rw [coU8] at h0 h1 h2
  obtain ⟨x0, e0, _, w0⟩ := DataW.trod_int Try.underlying5 h0
  obtain ⟨x1, e1, _, w1⟩ := DataW.trod_int Try.underlying5 h1
  obtain ⟨x2, e2, _, w2⟩ := DataW.trod_int Try.underlying5 h2
  refine ⟨⟨x0, x1, x2⟩, ?_, u8_wf w0, u8_wf w1, u8_wf w2⟩
  simp at e0 e1 e2
  simp [e0, e1, e2]
theorem rd_edges {n : Nat} {cs : List Value} {y : DataW H × List MemPlace} (h : DataW.trod enc Try.prog w base spare held n 48 cs = some y) :
    ∃ a k cap, ∃ zs : List Edg, cs = [.slice a k cap] ∧ zs.length = k ∧ k ≤ cap ∧ cap ≤ maxLen ∧ (a = none → k = 0 ∧ cap = 0) ∧ RowsAt w.heap.size w a 3 (Edgs zs) ∧ ∀ z ∈ zs, z.ok :=
  rd_flat (α := Edg) Edg.cells Try.underlying48 coEdg (by omega) Edg.ok rd_edge h
end Go.Proofs.Ytgojjlnpbakfjaa
