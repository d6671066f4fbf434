/- Chapter 15: the reference's Linear. -/
import Derived.Test.YtmghcinbdfeeoaaRf12E
namespace Go.Proofs.Ytmghcinbdfeeoaa
open Go Go.RowKit
set_option linter.unusedSimpArgs false

theorem blk_at' {W : World} {k : Nat} (hk : k = W.heap.size) (o : Obj) : (W.alloc o).heap[k]? = some o := by subst hk; exact blk_new W o
set_option maxHeartbeats 4000000 in
theorem linref_ok (s : Site) (loop : Int) (w : World) (hs : s.At w) :
    Calls Try.prog 11 #[s.val, .int .i64 loop] w fun e W' => (lineE s loop = true → ∃ B : Nat, w.heap.size ≤ B ∧ e = .returned (.tuple #[.agg #[.int .i64 (lCar s loop), .slice (some ⟨B, 0, none⟩) 1 1], .int .i64 0]) ∧ W'.heap[B]? = some (.cells #[.int .i64 0, .int .i64 1, .int .i64 (s.loops.getD loop.toNat default).delay] 46 (0, 0))) ∧ (lineE s loop = false → e = .returned (.tuple #[.agg #[.int .i64 0, .slice none 0 0], .int .i64 1])) ∧ Below w.heap.size w W' := by
  have HI := Lib.hid hs
  have hN : s.loops.length = s.lh.2.1 := hs.loops.len
  have hNl := hs.loops.le
  have HN := Lib.hid hN
  clear hs hN
  go_enter Try.func11, Try.ntmps11
  go_wp2_with fail
  obtain ⟨A, hA⟩ : ∃ W' : World, ((w.alloc (.cells s.cells.toArray 29)).alloc (.cells #[.int .i64 0, .slice none 0 0] 41)) = W' := ⟨_, rfl⟩
  have h : Has A [(w.heap.size + 1, .cells #[.int .i64 0, .slice none 0 0] 41 (0, 0)), (w.heap.size, .cells s.cells.toArray 29 (0, 0))] := by rw [← hA]; simpa using (((Has.nil w).new _).new _)
  have z : A.heap.size = w.heap.size + 1 + 1 := by rw [← hA]; simp
  have b : Below w.heap.size w A := by rw [← hA]; exact (below_alloc (below_alloc (below_self w) _) _)
  rw [hA]
  clear hA
  have HA := Lib.hid (show A.heap[w.heap.size]? = some (.cells s.cells.toArray 29 (0, 0)) ∧ A.heap[w.heap.size + 1]? = some (.cells #[.int .i64 0, .slice none 0 0] 41 (0, 0)) ∧ Below w.heap.size w A from ⟨h.tl.hd, h.hd, b⟩)
  clear h z b
  refine (site_ref s A (HI.out.later HA.out.2.2)).mono ?_
  rintro e B ⟨rfl, hb⟩
  have HB := Lib.hid (And.intro (blk_below HA.out.1 hb) (And.intro (blk_below HA.out.2.1 hb) (below_trans HA.out.2.2 hb)))
  clear hb HA
  have d0 : B.cell? ⟨w.heap.size + 1, 0, none⟩ = some (.int .i64 0) := (blk_cell HB.out.2.1 0).trans rfl
  have d1 : B.cell? ⟨w.heap.size + 1, 1, none⟩ = some (.slice none 0 0) := (blk_cell HB.out.2.1 1).trans rfl
  have f0 := blk_frozen HB.out.2.1 0
  have f1 := blk_frozen HB.out.2.1 1
  have d2 : B.cell? ⟨w.heap.size, 2, none⟩ = some (.slice s.lh.1 s.lh.2.1 s.lh.2.2) := (blk_cell HB.out.1 2).trans rfl
  have dl := blk_lt HB.out.1
  have dm := blk_lt HB.out.2.1
  cases hok : siteOk s
  · have HE := Lib.hid (show lineE s loop = false by unfold lineE; rw [hok]; simp)
    clear hok
    go_wp2_with fail
    (try simp only [Exit.inBlock, Exit.then]); refine bodyPost_ret (results_row_tmp rfl _ _ (w.heap.size + 1) 41 #[.int .i64 0, .slice none 0 0] (0, 0) _ rfl (blk_set_two HB.out.2.1) Try.underlying41 rfl lin_info) rfl ?_
    exact ⟨fun e => (by rw [HE.out] at e; cases e), fun _ => rfl, (HB.out.2.2.setCell (by simp) _).setCell (by simp) _⟩
  · have HO := Lib.hid hok
    clear hok
    by_cases c0 : 0 ≤ loop
    · by_cases c1 : loop < (s.lh.2.1 : Int)
      · obtain ⟨k, rfl⟩ : ∃ k : Nat, loop = k := ⟨loop.toNat, by omega⟩
        have hki : k < s.loops.length := by rw [HN.out]; omega
        have HE := Lib.hid (show lineE s k = true by unfold lineE; rw [decide_eq_true c0, decide_eq_true (by omega), HO.out]; rfl)
        obtain ⟨b1, o1, q1, hb1, p0, p1⟩ := lps_at (HI.out.later HB.out.2.2).loops.rows k hki
        obtain ⟨b2, o2, q2, hb2, _, _⟩ := lps_at HI.out.loops.rows k hki
        rw [q1] at d2 q2
        injection q2 with q2
        injection q2 with q3 q4
        rw [← q3] at hb2
        have hne : b1 ≠ w.heap.size + 1 := by omega
        have hne2 : ¬ w.heap.size + 1 = b1 := by omega
        clear q3 q4
        have HL := Lib.hid (show (s.loops.getD (k : Int).toNat default) = (s.loops.getD k default) by simp)
        generalize hy : s.loops.getD k default = y at p0 p1 HL
        clear hy q1
        have kB : B.drew.cell? ⟨w.heap.size, 2, none⟩ = some (.slice (some ⟨b1, o1, none⟩) s.lh.2.1 s.lh.2.2) ∧ B.drew.cell? ⟨b1, o1 + k * 2, none⟩ = some (.int .i64 y.carry) ∧ B.drew.cell? ⟨b1, o1 + k * 2 + 1, none⟩ = some (.int .i64 y.delay) := ⟨d2, p0, p1⟩
        go_wp2_with fail
        go_region_held3 (fun W => W.cell? ⟨w.heap.size, 2, none⟩ = some (.slice (some ⟨b1, o1, none⟩) s.lh.2.1 s.lh.2.2) ∧ W.cell? ⟨b1, o1 + k * 2, none⟩ = some (.int .i64 y.carry) ∧ W.cell? ⟨b1, o1 + k * 2 + 1, none⟩ = some (.int .i64 y.delay))
          ((first | with_reducible exact kB | with_reducible go_keep))
          (fail)
        go_wp2_with fail
        have hsz := HB.out.2.2.size
        (try simp only [Exit.inBlock, Exit.then]); refine bodyPost_ret (results_row_tmp rfl _ _ (w.heap.size + 1) 41 #[.int .i64 y.carry, .slice (some ⟨B.heap.size, 0, none⟩) 1 1] (0, 0) _ rfl (blk_alloc (blk_set_two HB.out.2.1) _) Try.underlying41 rfl lin_info) rfl ?_
        refine ⟨fun _ => ⟨B.heap.size, hsz, ?_, ?_⟩, fun h => (by rw [HE.out] at h; cases h), (below_alloc ((HB.out.2.2.setCell (by simp) _).setCell (by simp) _) _).drew⟩
        · unfold lCar; rw [HL.out]; rfl
        · rw [HL.out]; exact blk_at' (by simp) _
      · have HE := Lib.hid (show lineE s loop = false by unfold lineE; rw [decide_eq_false (p := loop < (s.loops.length : Int)) (by rw [HN.out]; exact c1)]; simp)
        obtain ⟨k, rfl⟩ : ∃ k : Nat, loop = k := ⟨loop.toNat, by omega⟩
        go_wp2_with fail
        (try simp only [Exit.inBlock, Exit.then]); refine bodyPost_ret (results_row_tmp rfl _ _ (w.heap.size + 1) 41 #[.int .i64 0, .slice none 0 0] (0, 0) _ rfl (blk_set_two HB.out.2.1) Try.underlying41 rfl lin_info) rfl ?_
        exact ⟨fun e => (by rw [HE.out] at e; cases e), fun _ => rfl, (HB.out.2.2.setCell (by simp) _).setCell (by simp) _⟩
    · have HE := Lib.hid (show lineE s loop = false by unfold lineE; rw [decide_eq_false c0]; simp)
      go_wp2_with fail
      (try simp only [Exit.inBlock, Exit.then]); refine bodyPost_ret (results_row_tmp rfl _ _ (w.heap.size + 1) 41 #[.int .i64 0, .slice none 0 0] (0, 0) _ rfl (blk_set_two HB.out.2.1) Try.underlying41 rfl lin_info) rfl ?_
      exact ⟨fun e => (by rw [HE.out] at e; cases e), fun _ => rfl, (HB.out.2.2.setCell (by simp) _).setCell (by simp) _⟩
end Go.Proofs.Ytmghcinbdfeeoaa
