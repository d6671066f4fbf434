/- Chapter 06: a loop over coming, between two rounds: the boxes that the iterator reads, the marks, the loop's record. -/
import Derived.Test.YtmghcinbdfeeoaaGreatIter
namespace Go.Proofs.YtmghcinbdfeeoaaGreat
open Go Go.RowKit Go.Shelf

/-- B: the box of the line; behind it inputs, n, the inner function, marks, the loop's record (now o). -/
structure LJ (w : World) (carry : Int) (a : Option Addr) (n cap : Nat) (ai : Option Addr) (ni ci : Nat) (m : Int) (B : Nat) (o : Obj) (W : World) : Prop where
  below : Below w.heap.size w W
  base : w.heap.size ≤ B
  size : B + 6 ≤ W.heap.size
  lb : W.heap[B]? = some (.cells #[.int .i64 carry, .slice a n cap] 80 (0, 0))
  ib : W.heap[B + 1]? = some (.cells #[.slice ai ni ci] 84 (0, 0))
  nb : W.heap[B + 2]? = some (.cells #[.int .i64 m] 3 (0, 0))
  fb : W.heap[B + 3]? = some (.cells #[.func (.func 104) #[] #[.pointer (some ⟨B, 0, none⟩), .pointer (some ⟨B + 1, 0, none⟩)]] 119 (0, 0))
  marks : W.heap[B + 4]? = some (.deferred (some []))
  loop : W.heap[B + 5]? = some o

section
variable {w : World} {carry : Int} {a : Option Addr} {n cap : Nat} {ai : Option Addr} {ni ci : Nat} {m : Int} {B : Nat} {o : Obj} {W W' : World}
theorem LJ.tick (h : LJ w carry a n cap ai ni ci m B o W) (hb : Below W.heap.size W W') : LJ w carry a n cap ai ni ci m B o W' :=
  ⟨below_trans h.below hb, h.base, Nat.le_trans h.size hb.size, blk_below h.lb hb, blk_below h.ib hb, blk_below h.nb hb, blk_below h.fb hb, blk_below h.marks hb, blk_below h.loop hb⟩
theorem LJ.alloc (h : LJ w carry a n cap ai ni ci m B o W) (x : Obj) : LJ w carry a n cap ai ni ci m B o (W.alloc x) := h.tick (below_alloc (below_self W) x)
theorem LJ.put (h : LJ w carry a n cap ai ni ci m B o W) {l : Nat} (hl : l = B + 5) (o' : Obj) : LJ w carry a n cap ai ni ci m B o' (W.putObj l o') := by
  subst hl
  have hB := h.base
  have hs := h.size
  exact ⟨below_put h.below (by omega) _, h.base, by simpa using h.size, blk_put h.lb (by omega), blk_put h.ib (by omega), blk_put h.nb (by omega), blk_put h.fb (by omega), blk_put h.marks (by omega), World.putObj_heap_same (by omega)⟩
theorem LJ.set (h : LJ w carry a n cap ai ni ci m B o W) {p : Addr} (h1 : w.heap.size ≤ p.block) (h2 : p.block < B ∨ B + 6 ≤ p.block) (u : Value) : LJ w carry a n cap ai ni ci m B o (W.setCell p u) := by
  exact ⟨h.below.setCell h1 u, h.base, by simpa using h.size, blk_set h.lb (by omega) _, blk_set h.ib (by omega) _, blk_set h.nb (by omega) _, blk_set h.fb (by omega) _, blk_set h.marks (by omega) _, blk_set h.loop (by omega) _⟩
theorem LJ.read {hs : List Hd} {ins : List (List Int)} {ps : List Prt} (h : LJ w carry a n cap ai ni ci m B o W) (hm : RowsAt w.heap.size w a 3 (Prts ps)) (hmi : InsAt w.heap.size w ai hs ins) :
    W.cell? ⟨B + 1 + 1, 0, none⟩ = some (.int .i64 m) ∧ W.cell? ⟨B + 1 + 1 + 1, 0, none⟩ = some (.func (.func 104) #[] #[.pointer (some ⟨B, 0, none⟩), .pointer (some ⟨B + 1, 0, none⟩)]) ∧
      B + 1 < W.heap.size ∧ W.cell? ⟨B, 1, none⟩ = some (.slice a n cap) ∧ W.cell? ⟨B + 1, 0, none⟩ = some (.slice ai ni ci) ∧ RowsAt W.heap.size W a 3 (Prts ps) ∧ InsAt W.heap.size W ai hs ins := by
  have hs := h.size
  exact ⟨by rw [blk_cell h.nb]; rfl, by rw [blk_cell h.fb]; rfl, by omega, by rw [blk_cell h.lb]; rfl, by rw [blk_cell h.ib]; rfl, hm.later h.below, hmi.later h.below⟩
theorem LJ.new {W0 : World} {st : Obj} (hb : Below w.heap.size w W0) (hB : W0.heap.size = B) : LJ w carry a n cap ai ni ci m B st
    ((((((W0.alloc (.cells #[.int .i64 carry, .slice a n cap] 80)).alloc (.cells #[.slice ai ni ci] 84)).alloc (.cells #[.int .i64 m] 3)).alloc (.cells #[.func (.func 104) #[] #[.pointer (some ⟨B, 0, none⟩), .pointer (some ⟨B + 1, 0, none⟩)]] 119)).alloc (.deferred (some []))).alloc st) := by
  have hA : ∀ (A : World) (o : Obj) (m : Nat), A.heap.size = m → (A.alloc o).heap[m]? = some o := fun A o m h => by rw [← h]; exact blk_new A o
  have hs := hb.size
  refine ⟨below_alloc (below_alloc (below_alloc (below_alloc (below_alloc (below_alloc hb _) _) _) _) _) _, by omega, by simp; omega, ?_, ?_, ?_, ?_, ?_, ?_⟩
  · exact blk_alloc (blk_alloc (blk_alloc (blk_alloc (blk_alloc (hA _ _ _ hB) _) _) _) _) _
  · exact blk_alloc (blk_alloc (blk_alloc (blk_alloc (hA _ _ _ (by simp [hB])) _) _) _) _
  · exact blk_alloc (blk_alloc (blk_alloc (hA _ _ _ (by simp [hB])) _) _) _
  · exact blk_alloc (blk_alloc (hA _ _ _ (by simp [hB])) _) _
  · exact blk_alloc (hA _ _ _ (by simp [hB])) _
  · exact hA _ _ _ (by simp [hB])
theorem LJ.grown (h : LJ w carry a n cap ai ni ci m B o W) {base : Nat} {e : TypeId} {k : Nat} {v : Value} {q : Nat} {xs : List Value} (hr : W.ownsRow base e k v q xs) (hg : W.grownBy W' v.ownBlock) (hb : w.heap.size ≤ base) (hne : ∀ j, B ≤ j → j < B + 6 → some j ≠ v.ownBlock) : LJ w carry a n cap ai ni ci m B o W' := by
  have hs := h.size
  have hB := h.base
  exact ⟨grown_below h.below hr hg hb (by omega), h.base, Nat.le_trans hs hg.size, grown_blk hg h.lb (hne _ (by omega) (by omega)), grown_blk hg h.ib (hne _ (by omega) (by omega)), grown_blk hg h.nb (hne _ (by omega) (by omega)),
    grown_blk hg h.fb (hne _ (by omega) (by omega)), grown_blk hg h.marks (hne _ (by omega) (by omega)), grown_blk hg h.loop (hne _ (by omega) (by omega))⟩
end
end Go.Proofs.YtmghcinbdfeeoaaGreat
