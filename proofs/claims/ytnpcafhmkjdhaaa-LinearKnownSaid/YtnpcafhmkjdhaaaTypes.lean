/- Chapter 06: how the laws' arguments are read. -/
import Derived.Test.YtnpcafhmkjdhaaaOpen
import Derived.Test.YtnpcafhmkjdhaaaPlain
import Derived.WalkKit
namespace Go.Proofs.Ytnpcafhmkjdhaaa
open Go Go.RowKit Go.Deep Go.ChangeShapes Go.WideShapes Go.ChangeAt Go.Joins
section
variable {H : Type} {enc : TypeId × Value → H} {P : Program} {w : World} {base : Nat} {spare : Nat → Bool} {held : Bool}
theorem trod_struct6 {t : TypeId} {f0 f1 f2 f3 f4 f5 : Field} {fuel : Nat} {cs : List Value} {x : DataW H × List MemPlace} (ht : P.underlying t = some (.struct #[f0, f1, f2, f3, f4, f5])) (h : DataW.trod enc P w base spare held fuel t cs = some x) :
    ∃ y0 y1 y2 y3 y4 y5 n, cs.length = P.cellsOf t ∧ DataW.trod enc P w base spare held n f0.type ((cs.drop f0.offset).take (P.cellsOf f0.type)) = some y0 ∧
      DataW.trod enc P w base spare held n f1.type ((cs.drop f1.offset).take (P.cellsOf f1.type)) = some y1 ∧ DataW.trod enc P w base spare held n f2.type ((cs.drop f2.offset).take (P.cellsOf f2.type)) = some y2 ∧
      DataW.trod enc P w base spare held n f3.type ((cs.drop f3.offset).take (P.cellsOf f3.type)) = some y3 ∧ DataW.trod enc P w base spare held n f4.type ((cs.drop f4.offset).take (P.cellsOf f4.type)) = some y4 ∧
      DataW.trod enc P w base spare held n f5.type ((cs.drop f5.offset).take (P.cellsOf f5.type)) = some y5 := by
  obtain ⟨xs, n, _, rfl, hl, hlen, hf⟩ := DataW.trod_struct ht h
  match xs, hlen with
  | [y0, y1, y2, y3, y4, y5], _ => exact ⟨y0, y1, y2, y3, y4, y5, n, hl, by simpa using hf 0 f0 rfl, by simpa using hf 1 f1 rfl, by simpa using hf 2 f2 rfl, by simpa using hf 3 f3 rfl, by simpa using hf 4 f4 rfl, by simpa using hf 5 f5 rfl⟩
theorem trod_struct7 {t : TypeId} {f0 f1 f2 f3 f4 f5 f6 : Field} {fuel : Nat} {cs : List Value} {x : DataW H × List MemPlace} (ht : P.underlying t = some (.struct #[f0, f1, f2, f3, f4, f5, f6])) (h : DataW.trod enc P w base spare held fuel t cs = some x) :
    ∃ y0 y1 y2 y3 y4 y5 y6 n, cs.length = P.cellsOf t ∧ DataW.trod enc P w base spare held n f0.type ((cs.drop f0.offset).take (P.cellsOf f0.type)) = some y0 ∧
      DataW.trod enc P w base spare held n f1.type ((cs.drop f1.offset).take (P.cellsOf f1.type)) = some y1 ∧ DataW.trod enc P w base spare held n f2.type ((cs.drop f2.offset).take (P.cellsOf f2.type)) = some y2 ∧
      DataW.trod enc P w base spare held n f3.type ((cs.drop f3.offset).take (P.cellsOf f3.type)) = some y3 ∧ DataW.trod enc P w base spare held n f4.type ((cs.drop f4.offset).take (P.cellsOf f4.type)) = some y4 ∧
      DataW.trod enc P w base spare held n f5.type ((cs.drop f5.offset).take (P.cellsOf f5.type)) = some y5 ∧ DataW.trod enc P w base spare held n f6.type ((cs.drop f6.offset).take (P.cellsOf f6.type)) = some y6 := by
  obtain ⟨xs, n, _, rfl, hl, hlen, hf⟩ := DataW.trod_struct ht h
  match xs, hlen with
  | [y0, y1, y2, y3, y4, y5, y6], _ => exact ⟨y0, y1, y2, y3, y4, y5, y6, n, hl, by simpa using hf 0 f0 rfl, by simpa using hf 1 f1 rfl, by simpa using hf 2 f2 rfl, by simpa using hf 3 f3 rfl, by simpa using hf 4 f4 rfl, by simpa using hf 5 f5 rfl, by simpa using hf 6 f6 rfl⟩
theorem trod_array2 {t e : TypeId} {fuel : Nat} {cs : List Value} {x : DataW H × List MemPlace} (ht : P.underlying t = some (.array 2 e)) (h : DataW.trod enc P w base spare held fuel t cs = some x) :
    ∃ y0 y1 n, cs.length = P.cellsOf t ∧ DataW.trod enc P w base spare held n e ((cs.drop 0).take (P.cellsOf e)) = some y0 ∧ DataW.trod enc P w base spare held n e ((cs.drop (P.cellsOf e)).take (P.cellsOf e)) = some y1 := by
  obtain ⟨xs, n, _, rfl, hl, hlen, hf⟩ := DataW.trod_array ht h
  match xs, hlen with
  | [y0, y1], _ => exact ⟨y0, y1, n, hl, by simpa using hf 0 (by omega), by simpa using hf 1 (by omega)⟩
end
variable {H : Type} {enc : TypeId × Value → H} {w : World} {base : Nat} {spare : Nat → Bool} {held : Bool}
theorem u8_wf {z : Int} (h : (Lit.int .u8 z).wf = true) : 0 ≤ z ∧ z ≤ 255 := by
  simp [Lit.wf] at h
  exact h
theorem coInt : Try.prog.cellsOf 3 = 1 := by kernel_rfl
theorem coU8 : Try.prog.cellsOf 5 = 1 := by kernel_rfl
theorem coU82 : Try.prog.cellsOf 22 = 2 := by kernel_rfl
theorem coBytes : Try.prog.cellsOf 23 = 1 := by kernel_rfl
theorem coInts : Try.prog.cellsOf 32 = 1 := by kernel_rfl
theorem coIns : Try.prog.cellsOf 29 = 1 := by kernel_rfl
theorem coPrts : Try.prog.cellsOf 26 = 1 := by kernel_rfl
theorem coPrt : Try.prog.cellsOf 43 = 3 := by kernel_rfl
theorem coLin : Try.prog.cellsOf 28 = 2 := by kernel_rfl
theorem coArgs : Try.prog.cellsOf 52 = 7 := by kernel_rfl
theorem coSml : Try.prog.cellsOf 25 = 9 := by kernel_rfl
theorem len2 {cs : List Value} (h : cs.length = 2) : ∃ c0 c1, cs = [c0, c1] := by
  match cs, h with
  | [c0, c1], _ => exact ⟨_, _, rfl⟩
theorem len3 {cs : List Value} (h : cs.length = 3) : ∃ c0 c1 c2, cs = [c0, c1, c2] := by
  match cs, h with
  | [c0, c1, c2], _ => exact ⟨_, _, _, rfl⟩
theorem len7 {cs : List Value} (h : cs.length = 7) : ∃ c0 c1 c2 c3 c4 c5 c6, cs = [c0, c1, c2, c3, c4, c5, c6] := by
  match cs, h with
  | [c0, c1, c2, c3, c4, c5, c6], _ => exact ⟨_, _, _, _, _, _, _, rfl⟩
theorem len9 {cs : List Value} (h : cs.length = 9) : ∃ c0 c1 c2 c3 c4 c5 c6 c7 c8, cs = [c0, c1, c2, c3, c4, c5, c6, c7, c8] := by
  match cs, h with
  | [c0, c1, c2, c3, c4, c5, c6, c7, c8], _ => exact ⟨_, _, _, _, _, _, _, _, _, rfl⟩

theorem rd_prt (n : Nat) (cs : List Value) (y : DataW H × List MemPlace) (h : DataW.trod enc Try.prog w base spare held n 43 cs = some y) : ∃ m : Prt, cs = m.cells ∧ True := by
  obtain ⟨y0, y1, y2, n1, rfl, hl, h0, h1, h2⟩ := trod_struct3 Try.underlying43 h
  rw [coPrt] at hl
  obtain ⟨c0, c1, c2, rfl⟩ := len3 hl
  rw [coInt] at h0 h1 h2
  obtain ⟨x0, e0, _, _⟩ := DataW.trod_int Try.underlying3 h0
  obtain ⟨x1, e1, _, _⟩ := DataW.trod_int Try.underlying3 h1
  obtain ⟨x2, e2, _, _⟩ := DataW.trod_int Try.underlying3 h2
  refine ⟨⟨x0, x1, x2⟩, ?_, trivial⟩
  simp at e0 e1 e2
  simp [e0, e1, e2]
theorem rd_prts {n : Nat} {cs : List Value} {y : DataW H × List MemPlace} (h : DataW.trod enc Try.prog w base spare held n 26 cs = some y) :
    ∃ a k cap, ∃ ps : List Prt, cs = [.slice a k cap] ∧ ps.length = k ∧ k ≤ cap ∧ cap ≤ maxLen ∧ (a = none → k = 0 ∧ cap = 0) ∧ RowsAt w.heap.size w a 3 (Prts ps) := by
  obtain ⟨a, k, cap, zs, h1, h2, h3, h4, h5, h6, _⟩ := rd_flat (α := Prt) Prt.cells Try.underlying26 coPrt (by omega) (fun _ => True) rd_prt h
  exact ⟨a, k, cap, zs, h1, h2, h3, h4, h5, h6⟩
theorem rd_ints {n : Nat} {cs : List Value} {y : DataW H × List MemPlace} (h : DataW.trod enc Try.prog w base spare held n 32 cs = some y) :
    ∃ a k cap, ∃ zs : List Int, cs = [.slice a k cap] ∧ zs.length = k ∧ k ≤ cap ∧ cap ≤ maxLen ∧ (a = none → k = 0 ∧ cap = 0) ∧ RowsAt w.heap.size w a 1 (Ints zs) := by
  obtain ⟨a, k, cap, zs, h1, h2, h3, h4, h5, h6, _⟩ := rd_flat (α := Int) (fun z => [.int .i64 z]) Try.underlying32 coInt (by omega) (fun _ => True) (fun n cs y h => by
    obtain ⟨z, e, _, _⟩ := DataW.trod_int Try.underlying3 h
    exact ⟨z, e, trivial⟩) h
  exact ⟨a, k, cap, zs, h1, h2, h3, h4, h5, h6⟩
theorem rd_bytes {n : Nat} {cs : List Value} {y : DataW H × List MemPlace} (h : DataW.trod enc Try.prog w base spare held n 23 cs = some y) :
    ∃ a k cap, ∃ zs : List Int, cs = [.slice a k cap] ∧ zs.length = k ∧ k ≤ cap ∧ cap ≤ maxLen ∧ (a = none → k = 0 ∧ cap = 0) ∧ RowsAt w.heap.size w a 1 (zs.map fun z => [.int .u8 z]) ∧ ∀ z ∈ zs, 0 ≤ z ∧ z ≤ 255 :=
  rd_flat (α := Int) (fun z => [.int .u8 z]) Try.underlying23 coU8 (by omega) (fun z => 0 ≤ z ∧ z ≤ 255) (fun n cs y h => by
    obtain ⟨z, e, _, hw⟩ := DataW.trod_int Try.underlying5 h
    exact ⟨z, e, u8_wf hw⟩) h

/-- A slice as an argument may be. -/
def Hd.good (h : Hd) : Prop := h.2.1 ≤ h.2.2 ∧ h.2.2 ≤ maxLen ∧ (h.1 = none → h.2.1 = 0 ∧ h.2.2 = 0)
theorem rd_ins {n : Nat} {cs : List Value} {y : DataW H × List MemPlace} (h : DataW.trod enc Try.prog w base spare held n 29 cs = some y) :
    ∃ (a : Hd) (hs : List Hd) (ins : List (List Int)), cs = [a.val] ∧ ins.length = a.2.1 ∧ a.good ∧ InsAt w.heap.size w a.1 hs ins ∧ ∀ i, i < ins.length → (hs.getD i default).good := by
  obtain ⟨a, k, cap, ms, rows, h1, h2, h3, h4, h5, h6, h7, h8⟩ := rd_slice (α := Hd × List Int) Try.underlying29 coInts (by omega) (R := fun cs m => cs = [m.1.val] ∧ m.2.length = m.1.2.1 ∧ m.1.good ∧ RowsAt w.heap.size w m.1.1 1 (Ints m.2)) (fun n cs y h => by
    obtain ⟨a, k, cap, zs, g1, g2, g3, g4, g5, g6⟩ := rd_ints h
    exact ⟨((a, k, cap), zs), g1, g2, ⟨g3, g4, g5⟩, g6⟩) h
  have hg : ∀ i, i < k → (ms.map (·.1)).getD i default = (ms.getD i default).1 ∧ (ms.map (·.2)).getD i default = (ms.getD i default).2 := by
    intro i hi
    rw [List.getD_eq_getElem?_getD, List.getD_eq_getElem?_getD, List.getD_eq_getElem?_getD, List.getElem?_map, List.getElem?_map, List.getElem?_eq_getElem (by omega)]
    exact ⟨rfl, rfl⟩
  refine ⟨(a, k, cap), ms.map (·.1), ms.map (·.2), h1, by simpa using h2, ⟨h4, h5, h6⟩, ⟨by simp, ?_, ?_⟩, ?_⟩
  · have hrows : rows = Hds (ms.map (·.1)) := by
      apply List.ext_getElem (by simp [h2, h3])
      intro i hi1 hi2
      have := (h8 i (by omega)).1
      simpa [List.getD, List.getElem?_eq_getElem hi1, List.getElem?_eq_getElem (show i < ms.length by simpa using hi2)] using this
    rw [← hrows]
    exact h7
  · intro i hi
    have hi2 : i < k := by rw [← h2]; simpa using hi
    obtain ⟨g1, g2⟩ := hg i hi2
    rw [g1, g2]
    obtain ⟨_, q1, ⟨q2, q3, _⟩, q4⟩ := h8 i hi2
    exact ⟨q1, by unfold maxLen at q3; omega, q4⟩
  · intro i hi
    have hi2 : i < k := by rw [← h2]; simpa using hi
    rw [(hg i hi2).1]
    exact (h8 i hi2).2.2.1

/-- The argument of two laws. -/
structure Arg where
  carry : Int
  p : Hd
  ps : List Prt
  start : Int
  i : Hd
  hs : List Hd
  ins : List (List Int)
  n : Int
  tick : Int
  limit : Int
abbrev Arg.cells (x : Arg) : List Value := [.int .i64 x.carry, .slice x.p.1 x.p.2.1 x.p.2.2, .int .i64 x.start, .slice x.i.1 x.i.2.1 x.i.2.2, .int .i64 x.n, .int .i64 x.tick, .int .i64 x.limit]
abbrev Arg.val (x : Arg) : Value := .agg x.cells.toArray
structure Arg.ok (x : Arg) (w : World) : Prop where
  pl : x.ps.length = x.p.2.1
  pg : x.p.good
  pr : RowsAt w.heap.size w x.p.1 3 (Prts x.ps)
  il : x.ins.length = x.i.2.1
  ig : x.i.good
  ir : InsAt w.heap.size w x.i.1 x.hs x.ins
  hg : ∀ i, i < x.ins.length → (x.hs.getD i default).good
theorem rd_arg (n : Nat) (cs : List Value) (y : DataW H × List MemPlace) (h : DataW.trod enc Try.prog w base spare held n 52 cs = some y) : ∃ m : Arg, cs = m.cells ∧ m.ok w := by
  obtain ⟨y0, y1, y2, y3, y4, y5, n1, hl, h0, h1, h2, h3, h4, h5⟩ := trod_struct6 Try.underlying52 h
  rw [coArgs] at hl
  obtain ⟨c0, c1, c2, c3, c4, c5, c6, rfl⟩ := len7 hl
  rw [coLin] at h0
  rw [coInt] at h1 h3 h4 h5
  rw [coIns] at h2
  simp at h0 h1 h2 h3 h4 h5
  obtain ⟨z0, z1, n2, _, _, g0, g1⟩ := trod_struct2 Try.underlying28 h0
  rw [coInt] at g0
  rw [coPrts] at g1
  simp at g0 g1
  obtain ⟨x0, e0, _, _⟩ := DataW.trod_int Try.underlying3 g0
  obtain ⟨a, k, cap, ps, e1, p1, p2, p3, p4, p5⟩ := rd_prts g1
  obtain ⟨x2, e2, _, _⟩ := DataW.trod_int Try.underlying3 h1
  obtain ⟨a3, hs, ins, e3, q1, q2, q3, q4⟩ := rd_ins h2
  obtain ⟨x4, e4, _, _⟩ := DataW.trod_int Try.underlying3 h3
  obtain ⟨x5, e5, _, _⟩ := DataW.trod_int Try.underlying3 h4
  obtain ⟨x6, e6, _, _⟩ := DataW.trod_int Try.underlying3 h5
  simp at e0 e1 e2 e3 e4 e5 e6
  refine ⟨⟨x0, (a, k, cap), ps, x2, a3, hs, ins, x4, x5, x6⟩, ?_, ⟨p1, ⟨p2, p3, p4⟩, p5, q1, q2, q3, q4⟩⟩
  simp [e0, e1, e2, e3, e4, e5, e6]

/-- A line by small numbers, as an argument. -/
structure SmA extends Sml where
  a : Hd
  b : Hd
abbrev SmA.cells (x : SmA) : List Value := [.int .u8 x.carry, .int .u8 x.start, .int .u8 x.n, .int .u8 x.t0, .int .u8 x.t1, .int .u8 x.d0, .int .u8 x.d1, .slice x.a.1 x.a.2.1 x.a.2.2, .slice x.b.1 x.b.2.1 x.b.2.2]
abbrev SmA.val (x : SmA) : Value := .agg x.cells.toArray
abbrev U8s (xs : List Int) : List (List Value) := xs.map fun z => [.int .u8 z]
structure SmA.ok (x : SmA) (w : World) : Prop where
  ok : x.toSml.ok
  al : x.A.length = x.a.2.1
  ag : x.a.good
  ar : RowsAt w.heap.size w x.a.1 1 (U8s x.A)
  bl : x.B.length = x.b.2.1
  bg : x.b.good
  br : RowsAt w.heap.size w x.b.1 1 (U8s x.B)
theorem rd_sml (n : Nat) (cs : List Value) (y : DataW H × List MemPlace) (h : DataW.trod enc Try.prog w base spare held n 25 cs = some y) : ∃ m : SmA, cs = m.cells ∧ m.ok w := by
  obtain ⟨y0, y1, y2, y3, y4, y5, y6, n1, hl, h0, h1, h2, h3, h4, h5, h6⟩ := trod_struct7 Try.underlying25 h
  rw [coSml] at hl
  obtain ⟨c0, c1, c2, c3, c4, c5, c6, c7, c8, rfl⟩ := len9 hl
  rw [coU8] at h0 h1 h2
  rw [coU82] at h3 h4
  rw [coBytes] at h5 h6
  simp at h0 h1 h2 h3 h4 h5 h6
  obtain ⟨u0, u1, n2, _, s0, s1⟩ := trod_array2 Try.underlying22 h3
  obtain ⟨v0, v1, n3, _, t0, t1⟩ := trod_array2 Try.underlying22 h4
  rw [coU8] at s0 s1 t0 t1
  simp at s0 s1 t0 t1
  obtain ⟨x0, e0, _, w0⟩ := DataW.trod_int Try.underlying5 h0
  obtain ⟨x1, e1, _, w1⟩ := DataW.trod_int Try.underlying5 h1
  obtain ⟨x2, e2, _, w2⟩ := DataW.trod_int Try.underlying5 h2
  obtain ⟨x3, e3, _, w3⟩ := DataW.trod_int Try.underlying5 s0
  obtain ⟨x4, e4, _, w4⟩ := DataW.trod_int Try.underlying5 s1
  obtain ⟨x5, e5, _, w5⟩ := DataW.trod_int Try.underlying5 t0
  obtain ⟨x6, e6, _, w6⟩ := DataW.trod_int Try.underlying5 t1
  obtain ⟨a, k, cap, A, e7, p1, p2, p3, p4, p5, p6⟩ := rd_bytes h5
  obtain ⟨b, j, cb, B, e8, q1, q2, q3, q4, q5, q6⟩ := rd_bytes h6
  simp at e0 e1 e2 e3 e4 e5 e6 e7 e8
  refine ⟨⟨⟨x0, x1, x2, x3, x4, x5, x6, A, B⟩, (a, k, cap), (b, j, cb)⟩, ?_, ⟨⟨u8_wf w0, u8_wf w1, u8_wf w2, u8_wf w3, u8_wf w4, u8_wf w5, u8_wf w6, p6, q6⟩, p1, ⟨p2, p3, p4⟩, p5, q1, ⟨q2, q3, q4⟩, q5⟩⟩
  simp [e0, e1, e2, e3, e4, e5, e6, e7, e8]
end Go.Proofs.Ytnpcafhmkjdhaaa
