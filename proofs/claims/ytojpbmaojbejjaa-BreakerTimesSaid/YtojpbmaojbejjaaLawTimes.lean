/- Chapter 07, law BreakerTimes: its walk. -/
import Derived.Test.YtojpbmaojbejjaaWorks
import Derived.Test.YtojpbmaojbejjaaRefBears
namespace Go.Proofs.Ytojpbmaojbejjaa
open Go Go.RowKit

set_option maxRecDepth 100000 in
set_option maxHeartbeats 4000000 in
theorem times_walk (b : Brk) (h x t : Int) (w : World) : Calls Try.prog 3 #[b.val, .int .i64 h, .int .i64 x, .int .i64 t] w fun e W' => e = .returned (.bool true) ∧ Below w.heap.size w W' := by
  go_enter Try.func3, Try.ntmps3
  go_wp2_with fail
  obtain ⟨A0, hA0⟩ : ∃ W' : World, (w.alloc (.cells b.cells.toArray 23)) = W' := ⟨_, rfl⟩
  have h0 : Has A0 [(w.heap.size, .cells b.cells.toArray 23 (0, 0))] := by rw [← hA0]; simpa using ((Has.nil w).new _)
  have s0 : A0.heap.size = w.heap.size + 1 := by rw [← hA0]; simp
  have b0 : Below w.heap.size w A0 := by rw [← hA0]; exact (below_alloc (below_self w) _)
  rw [hA0]
  clear hA0
  have H0 := Lib.hid h0
  have B0 := Lib.hid b0
  have l0 : w.heap.size < A0.heap.size := blk_lt h0.hd
  have k0 := blk_cell h0.hd 0
  have k1 := blk_cell h0.hd 1
  have k2 := blk_cell h0.hd 2
  have k3 := blk_cell h0.hd 3
  simp at k0 k1 k2 k3
  clear h0 b0 s0
  refine (lasts_ok b h x _).mono ?_
  rintro e W1 ⟨rfl, hb⟩
  have h' := H0.out.below hb
  have B1 := Lib.hid (below_trans B0.out hb)
  clear k0 k1 k2 k3 l0
  have k0 := blk_cell h'.hd 0
  have k1 := blk_cell h'.hd 1
  have k2 := blk_cell h'.hd 2
  have k3 := blk_cell h'.hd 3
  simp at k0 k1 k2 k3
  have l0 : w.heap.size < W1.heap.size := blk_lt h'.hd
  have H1 := Lib.hid h'
  clear h' hb H0 B0
  go_wp2_with fail
  refine (lasts_ref b h x _).mono ?_
  rintro e W2 ⟨rfl, hb⟩
  have h' := H1.out.below hb
  have B2 := Lib.hid (below_trans B1.out hb)
  clear k0 k1 k2 k3 l0
  have k0 := blk_cell h'.hd 0
  have k1 := blk_cell h'.hd 1
  have k2 := blk_cell h'.hd 2
  have k3 := blk_cell h'.hd 3
  simp at k0 k1 k2 k3
  have l0 : w.heap.size < W2.heap.size := blk_lt h'.hd
  have H2 := Lib.hid h'
  clear h' hb H1 B1
  go_wp2_with fail
  refine (cools_ok b h x _).mono ?_
  rintro e W3 ⟨rfl, hb⟩
  have h' := H2.out.below hb
  have B3 := Lib.hid (below_trans B2.out hb)
  clear k0 k1 k2 k3 l0
  have k0 := blk_cell h'.hd 0
  have k1 := blk_cell h'.hd 1
  have k2 := blk_cell h'.hd 2
  have k3 := blk_cell h'.hd 3
  simp at k0 k1 k2 k3
  have l0 : w.heap.size < W3.heap.size := blk_lt h'.hd
  have H3 := Lib.hid h'
  clear h' hb H2 B2
  go_wp2_with fail
  refine (cools_ref b h x _).mono ?_
  rintro e W4 ⟨rfl, hb⟩
  have h' := H3.out.below hb
  have B4 := Lib.hid (below_trans B3.out hb)
  clear k0 k1 k2 k3 l0
  have k0 := blk_cell h'.hd 0
  have k1 := blk_cell h'.hd 1
  have k2 := blk_cell h'.hd 2
  have k3 := blk_cell h'.hd 3
  simp at k0 k1 k2 k3
  have l0 : w.heap.size < W4.heap.size := blk_lt h'.hd
  have H4 := Lib.hid h'
  clear h' hb H3 B3
  go_wp2_with fail
  refine (bears_ok b h t _).mono ?_
  rintro e W5 ⟨rfl, hb⟩
  have h' := H4.out.below hb
  have B5 := Lib.hid (below_trans B4.out hb)
  clear k0 k1 k2 k3 l0
  have k0 := blk_cell h'.hd 0
  have k1 := blk_cell h'.hd 1
  have k2 := blk_cell h'.hd 2
  have k3 := blk_cell h'.hd 3
  simp at k0 k1 k2 k3
  have l0 : w.heap.size < W5.heap.size := blk_lt h'.hd
  have H5 := Lib.hid h'
  clear h' hb H4 B4
  go_wp2_with fail
  refine (bears_ref b h t _).mono ?_
  rintro e W6 ⟨rfl, hb⟩
  have h' := H5.out.below hb
  have B6 := Lib.hid (below_trans B5.out hb)
  clear k0 k1 k2 k3 l0
  have k0 := blk_cell h'.hd 0
  have k1 := blk_cell h'.hd 1
  have k2 := blk_cell h'.hd 2
  have k3 := blk_cell h'.hd 3
  simp at k0 k1 k2 k3
  have l0 : w.heap.size < W6.heap.size := blk_lt h'.hd
  have H6 := Lib.hid h'
  clear h' hb H5 B5
  go_wp2_with fail
  refine (works_ok _).mono ?_
  rintro e W7 ⟨rfl, hb⟩
  have B7 := Lib.hid (below_trans B6.out hb)
  clear k0 k1 k2 k3 l0 hb B6 H6
  go_wp2_with fail
  go_ret
  exact ⟨rfl, B7.out⟩
end Go.Proofs.Ytojpbmaojbejjaa
