/- Chapter 06: arguments of a law's own in a box. -/
import Derived.Test.YtnpcafhmkjdhaaaOwn
import Derived.Test.YtnpcafhmkjdhaaaWorks
namespace Go.Proofs.Ytnpcafhmkjdhaaa
open Go Go.RowKit

theorem Arg.ok.later {x : Arg} {w w' : World} (h : x.ok w) (hb : Below w.heap.size w w') : x.ok w' := ⟨h.pl, h.pg, h.pr.later hb, h.il, h.ig, h.ir.later hb, h.hg⟩
theorem OY.base {w w0 W : World} {y : Arg} {L : Nat} (h : OY w0 W y L) (hb : Below w.heap.size w w0) : OY w W y L := ⟨h.ok, below_trans hb h.bel, h.p, h.i, h.h⟩
theorem blk_put7 {W : World} {b : Nat} {c0 c1 c2 c3 c4 c5 c6 : Value} {t : TypeId} (h : W.heap[b]? = some (.cells #[c0, c1, c2, c3, c4, c5, c6] t (0, 0))) (v0 v1 v2 v3 v4 v5 v6 : Value) :
    (((((((W.setCell ⟨b, 0, none⟩ v0).setCell ⟨b, 1, none⟩ v1).setCell ⟨b, 2, none⟩ v2).setCell ⟨b, 3, none⟩ v3).setCell ⟨b, 4, none⟩ v4).setCell ⟨b, 5, none⟩ v5).setCell ⟨b, 6, none⟩ v6).heap[b]? = some (.cells #[v0, v1, v2, v3, v4, v5, v6] t (0, 0)) := by
  have := blk_setcell (i := 6) (u := v6) (blk_setcell (i := 5) (u := v5) (blk_setcell (i := 4) (u := v4) (blk_setcell (i := 3) (u := v3) (blk_setcell (i := 2) (u := v2) (blk_setcell (i := 1) (u := v1) (blk_setcell (i := 0) (u := v0) h))))))
  simpa using this
theorem OY.put7 {w W : World} {y : Arg} {L b : Nat} (h : OY w W y L) (l1 : b < L) (l2 : w.heap.size ≤ b) (v0 v1 v2 v3 v4 v5 v6 : Value) : OY w (((((((W.setCell ⟨b, 0, none⟩ v0).setCell ⟨b, 1, none⟩ v1).setCell ⟨b, 2, none⟩ v2).setCell ⟨b, 3, none⟩ v3).setCell ⟨b, 4, none⟩ v4).setCell ⟨b, 5, none⟩ v5).setCell ⟨b, 6, none⟩ v6) y L :=
  ((((((h.set l1 l2 v0).set l1 l2 v1).set l1 l2 v2).set l1 l2 v3).set l1 l2 v4).set l1 l2 v5).set l1 l2 v6
/-- Arguments in the box B. -/
structure LA (w X : World) (B : Nat) (y : Arg) : Prop where
  box : X.heap[B]? = some (.cells y.cells.toArray 52 (0, 0))
  ok : y.ok X
  bel : Below w.heap.size w X
theorem LA.later {w X X' : World} {B : Nat} {y : Arg} (h : LA w X B y) (hb : Below X.heap.size X X') : LA w X' B y := ⟨blk_below h.box hb, h.ok.later hb, below_trans h.bel hb⟩
section
variable {w X : World} {B : Nat} {y : Arg}
theorem LA.c0 (h : LA w X B y) : X.cell? ⟨B, 0, none⟩ = some (.int .i64 y.carry) := (blk_cell h.box 0).trans rfl
theorem LA.c1 (h : LA w X B y) : X.cell? ⟨B, 1, none⟩ = some (.slice y.p.1 y.p.2.1 y.p.2.2) := (blk_cell h.box 1).trans rfl
theorem LA.c2 (h : LA w X B y) : X.cell? ⟨B, 2, none⟩ = some (.int .i64 y.start) := (blk_cell h.box 2).trans rfl
theorem LA.c3 (h : LA w X B y) : X.cell? ⟨B, 3, none⟩ = some (.slice y.i.1 y.i.2.1 y.i.2.2) := (blk_cell h.box 3).trans rfl
theorem LA.c4 (h : LA w X B y) : X.cell? ⟨B, 4, none⟩ = some (.int .i64 y.n) := (blk_cell h.box 4).trans rfl
theorem LA.c5 (h : LA w X B y) : X.cell? ⟨B, 5, none⟩ = some (.int .i64 y.tick) := (blk_cell h.box 5).trans rfl
theorem LA.c6 (h : LA w X B y) : X.cell? ⟨B, 6, none⟩ = some (.int .i64 y.limit) := (blk_cell h.box 6).trans rfl
theorem LA.pl (h : LA w X B y) : y.p.2.1 ≤ 9223372036854775807 := by have h1 := h.ok.pg.1; have h2 := h.ok.pg.2.1; unfold maxLen at h2; omega
theorem LA.il (h : LA w X B y) : y.i.2.1 ≤ 9223372036854775807 := by have h1 := h.ok.ig.1; have h2 := h.ok.ig.2.1; unfold maxLen at h2; omega
theorem LA.lt (h : LA w X B y) : B < X.heap.size := blk_lt h.box
end
end Go.Proofs.Ytnpcafhmkjdhaaa
