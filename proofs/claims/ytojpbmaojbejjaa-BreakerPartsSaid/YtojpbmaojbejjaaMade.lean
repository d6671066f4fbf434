/- Chapter 07: made: a breaker and a heat by small numbers. -/
import Derived.Test.YtojpbmaojbejjaaWorks
import Derived.Test.YtojpbmaojbejjaaTypes
import Derived.Deep.RegionHeld3
namespace Go.Proofs.Ytojpbmaojbejjaa
open Go Go.RowKit

def Sml.brk (x : Sml) : Brk := ⟨0, x.limit, x.slow, x.limit + x.fast⟩
def Sml.h (x : Sml) : Int := x.heat % (x.slow + 1)

set_option maxHeartbeats 1000000 in
theorem made_ok (x : Sml) (hx : x.ok) (w : World) : Calls Try.prog 17 #[x.val] w fun e W' => e = .returned (.tuple #[x.brk.val, .int .i64 x.h]) ∧ Below w.heap.size w W' := by
  obtain ⟨limit, slow, fast, heat⟩ := x
  obtain ⟨⟨l0, l1⟩, ⟨z0, z1⟩, ⟨y0, y1⟩, h0, h1⟩ := hx
  simp only at l0 l1 z0 z1 y0 y1 h0 h1
  unfold Sml.brk Sml.h
  simp only
  go_enter Try.func17, Try.ntmps17
  go_wp2_with fail
  obtain ⟨A, hA⟩ : ∃ W' : World, (((w.alloc (.cells #[.int .u8 limit, .int .u8 slow, .int .u8 fast, .int .u8 heat] 30)).alloc (.cells #[.int .i64 0, .int .i64 0, .int .i64 0, .int .i64 0] 23)).alloc (.cells #[.int .i64 0, .int .i64 limit, .int .i64 slow, .int .i64 (limit + fast)] 23)) = W' := ⟨_, rfl⟩
  have H1 : Has A [(w.heap.size + 1 + 1, .cells #[.int .i64 0, .int .i64 limit, .int .i64 slow, .int .i64 (limit + fast)] 23 (0, 0)), (w.heap.size + 1, .cells #[.int .i64 0, .int .i64 0, .int .i64 0, .int .i64 0] 23 (0, 0)), (w.heap.size, .cells #[.int .u8 limit, .int .u8 slow, .int .u8 fast, .int .u8 heat] 30 (0, 0))] := by rw [← hA]; simpa using ((((Has.nil w).new _).new _).new _)
  have s1 : A.heap.size = w.heap.size + 1 + 1 + 1 := by rw [← hA]; simp
  have b1 : Below w.heap.size w A := by rw [← hA]; exact (below_alloc (below_alloc (below_alloc (below_self w) _) _) _)
  rw [hA]
  clear hA
  have k0 := blk_cell H1.hd 0
  have k1 := blk_cell H1.hd 1
  have k2 := blk_cell H1.hd 2
  have k3 := blk_cell H1.hd 3
  simp at k0 k1 k2 k3
  have r0 := blk_cell H1.tl.hd 0
  have r1 := blk_cell H1.tl.hd 1
  have r2 := blk_cell H1.tl.hd 2
  have r3 := blk_cell H1.tl.hd 3
  simp at r0 r1 r2 r3
  have m0 := blk_cell H1.tl.tl.hd 0
  have m1 := blk_cell H1.tl.tl.hd 1
  have m2 := blk_cell H1.tl.tl.hd 2
  have m3 := blk_cell H1.tl.tl.hd 3
  simp at m0 m1 m2 m3
  have f0 := blk_frozen H1.tl.hd 0
  have f1 := blk_frozen H1.tl.hd 1
  have f2 := blk_frozen H1.tl.hd 2
  have f3 := blk_frozen H1.tl.hd 3
  have B1 := Lib.hid b1
  have lt0 : w.heap.size + 1 < A.heap.size := blk_lt H1.tl.hd
  clear H1 s1 b1
  have hw0 : IntKind.i64.wrap heat = heat := IntWalk.i64_in _ ⟨by omega, by omega⟩
  have hw1 : IntKind.i64.wrap (slow + 1) = slow + 1 := IntWalk.i64_in _ ⟨by omega, by omega⟩
  have hn0 : ¬ slow + 1 = 0 := by omega
  have hm0 : 0 ≤ heat % (slow + 1) := Int.emod_nonneg _ (by omega)
  have hm1 : heat % (slow + 1) < slow + 1 := Int.emod_lt_of_pos _ (by omega)
  have hw2 : IntKind.i64.wrap (heat.tmod (slow + 1)) = heat % (slow + 1) := by rw [Int.tmod_eq_emod_of_nonneg h0]; exact IntWalk.i64_in _ ⟨by omega, by omega⟩
  go_region_held3 (fun w' => w'.cell? ⟨w.heap.size, 3, none⟩ = some (.int .u8 heat) ∧ w'.cell? ⟨w.heap.size + 1 + 1, 0, none⟩ = some (.int .i64 0) ∧ w'.cell? ⟨w.heap.size + 1 + 1, 1, none⟩ = some (.int .i64 limit) ∧ w'.cell? ⟨w.heap.size + 1 + 1, 2, none⟩ = some (.int .i64 slow) ∧ w'.cell? ⟨w.heap.size + 1 + 1, 3, none⟩ = some (.int .i64 (limit + fast))) (go_keep) (fail)
  clear hw0 hw1 hw2 hn0 hm0 hm1 k0 k1 k2 k3 m0 m1 m2 m3 f0 f1 f2 f3
  go_wp2_with fail
  have ht : heat.tmod (slow + 1) = heat % (slow + 1) := Int.tmod_eq_emod_of_nonneg h0
  refine bodyPost_ret (v := .tuple #[(Brk.val ⟨0, limit, slow, limit + fast⟩), .int .i64 (heat % (slow + 1))]) (by simp [results, Try.results17, go_sem, r0, r1, r2, r3, ht]) rfl ⟨rfl, ?_⟩
  exact ((((B1.out.setCell (by simp) _).setCell (by simp) _).setCell (by simp) _).setCell (by simp) _).drew
end Go.Proofs.Ytojpbmaojbejjaa
