/- Chapter 15: world.order, sorted. -/
import Derived.Test.YtmghcinbdfeeoaaGreatWorldA
namespace Go.Proofs.YtmghcinbdfeeoaaGreat
open Go Go.RowKit

def ordR (a b : Rep) : Int := orI (cmpI a.svc b.svc) (cmpI a.host b.host)
theorem ordR_iff (a b : Rep) : 0 ≤ ordR a b ↔ repLt a b = false := by
  unfold ordR orI cmpI repLt
  by_cases h1 : a.svc < b.svc
  · simp [h1]
  · by_cases h2 : b.svc < a.svc
    · have : ¬ a.svc = b.svc := by omega
      simp [h1, h2, this]
    · have : a.svc = b.svc := by omega
      by_cases h3 : a.host < b.host
      · simp [this, h3]
      · by_cases h4 : b.host < a.host <;> simp [this, h3, h4]
set_option maxHeartbeats 1000000 in
theorem order_ok (a b : Rep) (w : World) : Calls Tryz.prog 76 #[a.val, b.val] w fun e W' => e = .returned (.int .i64 (ordR a b)) ∧ Below w.heap.size w W' := by
  obtain ⟨cx, hx⟩ : ∃ c, cmpI a.svc b.svc = c := ⟨_, rfl⟩
  obtain ⟨cy, hy⟩ : ∃ c, cmpI a.host b.host = c := ⟨_, rfl⟩
  have HX := Lib.hid (And.intro hx (And.intro hy (show ordR a b = orI cx cy by unfold ordR; rw [hx, hy])))
  clear hx hy
  go_enter Tryz.func76, Tryz.ntmps76
  go_wp2_with fail
  obtain ⟨A, hA⟩ : ∃ W' : World, ((w.alloc (.cells a.cells.toArray 69)).alloc (.cells b.cells.toArray 69)) = W' := ⟨_, rfl⟩
  have H : Has A [(w.heap.size + 1, .cells b.cells.toArray 69 (0, 0)), (w.heap.size, .cells a.cells.toArray 69 (0, 0))] := by rw [← hA]; simpa using (((Has.nil w).new _).new _)
  have s : A.heap.size = w.heap.size + 1 + 1 := by rw [← hA]; simp
  have bw : Below w.heap.size w A := by rw [← hA]; exact (below_alloc (below_alloc (below_self w) _) _)
  rw [hA]
  clear hA
  have kA : A.drew.cell? ⟨w.heap.size, 0, none⟩ = some (.int .i64 a.svc) ∧ A.drew.cell? ⟨w.heap.size, 1, none⟩ = some (.int .i64 a.host) ∧ A.drew.cell? ⟨w.heap.size + 1, 0, none⟩ = some (.int .i64 b.svc) ∧ A.drew.cell? ⟨w.heap.size + 1, 1, none⟩ = some (.int .i64 b.host) :=
    ⟨(blk_cell H.tl.hd 0).trans rfl, (blk_cell H.tl.hd 1).trans rfl, (blk_cell H.hd 0).trans rfl, (blk_cell H.hd 1).trans rfl⟩
  have hN : Has (A.alloc (.cells #[.int .i64 cx, .int .i64 cy] 3)) _ := H.alloc (.cells #[.int .i64 cx, .int .i64 cy] 3)
  have kB : (A.alloc (.cells #[.int .i64 cx, .int .i64 cy] 3)).drew.cell? ⟨w.heap.size, 0, none⟩ = some (.int .i64 a.svc) ∧ (A.alloc (.cells #[.int .i64 cx, .int .i64 cy] 3)).drew.cell? ⟨w.heap.size, 1, none⟩ = some (.int .i64 a.host) ∧ (A.alloc (.cells #[.int .i64 cx, .int .i64 cy] 3)).drew.cell? ⟨w.heap.size + 1, 0, none⟩ = some (.int .i64 b.svc) ∧ (A.alloc (.cells #[.int .i64 cx, .int .i64 cy] 3)).drew.cell? ⟨w.heap.size + 1, 1, none⟩ = some (.int .i64 b.host) :=
    ⟨(blk_cell hN.tl.hd 0).trans rfl, (blk_cell hN.tl.hd 1).trans rfl, (blk_cell hN.hd 0).trans rfl, (blk_cell hN.hd 1).trans rfl⟩
  have hnew : (A.alloc (.cells #[.int .i64 cx, .int .i64 cy] 3)).drew.heap[A.heap.size]? = some (.cells #[.int .i64 cx, .int .i64 cy] 3 (0, 0)) := blk_new A _
  have HB := Lib.hid (show Below w.heap.size w (A.alloc (.cells #[.int .i64 cx, .int .i64 cy] 3)).drew from (below_alloc bw _).drew)
  clear H s bw hN
  go_region_held3 (fun w' => w'.cell? ⟨w.heap.size, 0, none⟩ = some (.int .i64 a.svc) ∧ w'.cell? ⟨w.heap.size, 1, none⟩ = some (.int .i64 a.host) ∧ w'.cell? ⟨w.heap.size + 1, 0, none⟩ = some (.int .i64 b.svc) ∧ w'.cell? ⟨w.heap.size + 1, 1, none⟩ = some (.int .i64 b.host))
    ((first | (with_reducible exact kA) | (with_reducible exact kB)))
    (first
      | (go_at_call 96; (with_reducible refine (compare_ok a.svc b.svc A.drew).mono ?_); rintro e V ⟨rfl, rfl⟩; rw [HX.out.1])
      | (go_at_call 96; (with_reducible refine (compare_ok a.host b.host A.drew).mono ?_); rintro e V ⟨rfl, rfl⟩; rw [HX.out.2.1])
      | (go_at_call 95; (with_reducible refine (or_ok A.heap.size cx cy (A.alloc (.cells #[.int .i64 cx, .int .i64 cy] 3)).drew hnew).mono ?_); rintro e V ⟨rfl, rfl⟩))
  all_goals
    clear kA kB hnew
    go_wp2_with fail
    go_ret
    exact ⟨by rw [HX.out.2.2]; rfl, HB.out⟩
end Go.Proofs.YtmghcinbdfeeoaaGreat
