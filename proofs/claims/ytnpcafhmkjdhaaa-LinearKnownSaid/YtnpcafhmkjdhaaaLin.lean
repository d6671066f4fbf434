/- Chapter 06: a line and its inputs as a law holds them. -/
import Derived.Test.YtnpcafhmkjdhaaaLeast
import Derived.Test.YtnpcafhmkjdhaaaPeak
import Derived.Test.YtnpcafhmkjdhaaaArrives
namespace Go.Proofs.Ytnpcafhmkjdhaaa
open Go Go.RowKit

def flatP (ps : List Prt) : List Value := (Prts ps).flatten
theorem prts_three (ps : List Prt) : ∀ r ∈ Prts ps, r.length = 3 := by
  intro r hr
  obtain ⟨p, _, rfl⟩ := List.mem_map.1 hr
  rfl
theorem prts_blk {W : World} {g : Nat} {ps : List Prt} {t : TypeId} (h : W.heap[g]? = some (.cells (flatP ps).toArray t (0, 0))) : RowsAt W.heap.size W (some ⟨g, 0, none⟩) 3 (Prts ps) := by
  intro i r hr
  refine ⟨g, 0, rfl, blk_lt h, fun j v hv => ?_⟩
  have := flat_get 3 (Prts ps) (prts_three ps) i r hr j v hv
  rw [blk_cell h]
  simp only [Nat.zero_add]
  simpa [flatP] using this
theorem hds_blk {W : World} {g : Nat} {hs : List Hd} {t : TypeId} (h : W.heap[g]? = some (.cells (hs.map Hd.val).toArray t (0, 0))) : RowsAt W.heap.size W (some ⟨g, 0, none⟩) 1 (Hds hs) := by
  intro i r hr
  have hg := blk_lt h
  obtain ⟨x, hx, rfl⟩ : ∃ x, hs[i]? = some x ∧ r = [x.val] := by
    rw [List.getElem?_map] at hr
    cases hxi : hs[i]? with
    | none => rw [hxi] at hr; simp at hr
    | some x => rw [hxi] at hr; exact ⟨x, rfl, by simpa using hr.symm⟩
  refine ⟨_, _, rfl, hg, fun j v hv => ?_⟩
  cases j with
  | zero =>
    rw [blk_cell h]
    have hv2 : x.val = v := by simpa using hv
    subst hv2
    simp [hx]
  | succ j => simp at hv
theorem ins_two {W : World} {a : Option Addr} {h0 h1 : Hd} {A B : List Int} (hr : RowsAt W.heap.size W a 1 (Hds [h0, h1])) (l0 : A.length = h0.2.1) (l1 : B.length = h1.2.1) (m0 : h0.2.1 ≤ 9223372036854775807) (m1 : h1.2.1 ≤ 9223372036854775807)
    (r0 : RowsAt W.heap.size W h0.1 1 (Ints A)) (r1 : RowsAt W.heap.size W h1.1 1 (Ints B)) : InsAt W.heap.size W a [h0, h1] [A, B] :=
  ⟨rfl, hr, fun i hi => by
    match i, hi with
    | 0, _ => exact ⟨l0, m0, r0⟩
    | 1, _ => exact ⟨l1, m1, r1⟩⟩
theorem ins_nil (W : World) : InsAt W.heap.size W none [] [] := ⟨rfl, RowsAt.nil _ _ _ _, fun i hi => by simp at hi⟩

/-- A line in the box B, its inputs. -/
structure Lin (w W : World) (B : Nat) (c : Int) (p i : Hd) (ps : List Prt) (hs : List Hd) (ins : List (List Int)) : Prop where
  box : W.heap[B]? = some (.cells #[.int .i64 c, .slice p.1 p.2.1 p.2.2] 28 (0, 0))
  pr : RowsAt W.heap.size W p.1 3 (Prts ps)
  ir : InsAt W.heap.size W i.1 hs ins
  bel : Below w.heap.size w W
theorem Lin.later {w W W' : World} {B : Nat} {c : Int} {p i : Hd} {ps : List Prt} {hs : List Hd} {ins : List (List Int)} (h : Lin w W B c p i ps hs ins) (hb : Below W.heap.size W W') : Lin w W' B c p i ps hs ins :=
  ⟨blk_below h.box hb, h.pr.later hb, h.ir.later hb, below_trans h.bel hb⟩
theorem Lin.c0 {w W : World} {B : Nat} {c : Int} {p i : Hd} {ps : List Prt} {hs : List Hd} {ins : List (List Int)} (h : Lin w W B c p i ps hs ins) : W.cell? ⟨B, 0, none⟩ = some (.int .i64 c) := by
  rw [blk_cell h.box]; rfl
theorem Lin.c1 {w W : World} {B : Nat} {c : Int} {p i : Hd} {ps : List Prt} {hs : List Hd} {ins : List (List Int)} (h : Lin w W B c p i ps hs ins) : W.cell? ⟨B, 1, none⟩ = some (.slice p.1 p.2.1 p.2.2) := by
  rw [blk_cell h.box]; rfl
theorem Lin.lt {w W : World} {B : Nat} {c : Int} {p i : Hd} {ps : List Prt} {hs : List Hd} {ins : List (List Int)} (h : Lin w W B c p i ps hs ins) : B < W.heap.size := blk_lt h.box
end Go.Proofs.Ytnpcafhmkjdhaaa
