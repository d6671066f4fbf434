/- Chapter 15: cooling.Linear. -/
import Derived.Test.YtmghcinbdfeeoaaGreatCou
import Derived.Laws.Rows
import Derived.Laws.ResultCell
namespace Go.Proofs.YtmghcinbdfeeoaaGreat
open Go Go.RowKit
set_option linter.unusedSimpArgs false

theorem results_row_tmp {P : Program} {fn : Func} {p u : Tmp} {ty : TypeId} (h : fn.results = #[.cell p ty, .tmp u]) (tmps : Array Value) (w : World) (g : Nat) (t : TypeId) (cs : Array Value) (fr : Nat × Nat) (d : TypeDesc)
    (hp : tmps.getD p undef = .pointer (some ⟨g, 0, none⟩)) (hg : w.heap[g]? = some (.cells cs t fr))
    (hu : P.underlying ty = some d) (hd : (match d with | .struct _ | .array _ _ => true | _ => false) = true) (hi : (P.info? ty).map (·.size) = some cs.size) :
    (results fn tmps).run P w = .ok (.tuple #[.agg cs, tmps.getD u undef]) w := by
  rw [results_cell_tmp h, hp]
  simp [asAddr, run_loadVar_row w g t ty cs fr d hg hu hd hi, Result.andThen]
theorem blk_set_two {W : World} {k : Nat} {v0 v1 u0 u1 : Value} {t : TypeId} {fr : Nat × Nat} (h : W.heap[k]? = some (.cells #[v0, v1] t fr)) : ((W.setCell ⟨k, 0, none⟩ u0).setCell ⟨k, 1, none⟩ u1).heap[k]? = some (.cells #[u0, u1] t fr) := by
  simp [World.setCell, Array.getElem?_modify, h]
theorem new2 {W : World} {n : Nat} (hn : n = W.heap.size + 1) (A B : Obj) : ((W.alloc A).alloc B).heap[n]? = some B := by subst hn; exact heap_alloc2_new W A B
theorem lin_info : (Tryz.prog.info? 80).map (·.size) = some 2 := by kernel_rfl

set_option maxHeartbeats 4000000 in
theorem linear_ok (s : Site) (loop : Int) (w : World) (hs : s.At w) :
    Calls Tryz.prog 42 #[s.val, .int .i64 loop] w fun e W' => (lineE s loop = true → ∃ B : Nat, w.heap.size ≤ B ∧ e = .returned (.tuple #[.agg #[.int .i64 (lCar s loop), .slice (some ⟨B, 0, none⟩) 1 1], .int .i64 0]) ∧ W'.heap[B]? = some (.cells #[.int .i64 0, .int .i64 1, .int .i64 (s.loops.getD loop.toNat default).delay] 97 (0, 0))) ∧ (lineE s loop = false → e = .returned (.tuple #[.agg #[.int .i64 0, .slice none 0 0], .int .i64 1])) ∧ Below w.heap.size w W' := by
  have HI := Lib.hid hs
  have hN : s.loops.length = s.lh.2.1 := hs.loops.len
  have hNl := hs.loops.le
  have HN := Lib.hid hN
  clear hs hN
  by_cases c0 : 0 ≤ loop
  · by_cases c1 : loop < (s.lh.2.1 : Int)
    · obtain ⟨k, rfl⟩ : ∃ k : Nat, loop = k := ⟨loop.toNat, by omega⟩
      have hki : k < s.loops.length := by rw [HN.out]; omega
      have hE : lineE s k = siteOk s := by
        unfold lineE
        rw [decide_eq_true c0, decide_eq_true (by omega)]
        simp
      rw [hE]
      have HK := Lib.hid hki
      go_enter Tryz.func42, Tryz.ntmps42
      go_wp2_with fail
      obtain ⟨A, hA⟩ : ∃ W' : World, ((w.alloc (.cells s.cells.toArray 29)).alloc (.cells #[.int .i64 0, .slice none 0 0] 80)) = W' := ⟨_, rfl⟩
      have h : Has A [(w.heap.size + 1, .cells #[.int .i64 0, .slice none 0 0] 80 (0, 0)), (w.heap.size, .cells s.cells.toArray 29 (0, 0))] := by rw [← hA]; simpa using (((Has.nil w).new _).new _)
      have z : A.heap.size = w.heap.size + 1 + 1 := by rw [← hA]; simp
      have b : Below w.heap.size w A := by rw [← hA]; exact (below_alloc (below_alloc (below_self w) _) _)
      rw [hA]
      clear hA
      have HA := Lib.hid (show A.heap[w.heap.size]? = some (.cells s.cells.toArray 29 (0, 0)) ∧ A.heap[w.heap.size + 1]? = some (.cells #[.int .i64 0, .slice none 0 0] 80 (0, 0)) ∧ Below w.heap.size w A from ⟨h.tl.hd, h.hd, b⟩)
      clear h z b
      refine (site_ok s A (HI.out.later HA.out.2.2)).mono ?_
      rintro e B ⟨rfl, hb⟩
      have HB := Lib.hid (And.intro (blk_below HA.out.1 hb) (And.intro (blk_below HA.out.2.1 hb) (below_trans HA.out.2.2 hb)))
      clear hb HA
      cases hok : siteOk s
      · have HO := Lib.hid hok
        clear hE hok
        have d0 : B.cell? ⟨w.heap.size + 1, 0, none⟩ = some (.int .i64 0) := (blk_cell HB.out.2.1 0).trans rfl
        have d1 : B.cell? ⟨w.heap.size + 1, 1, none⟩ = some (.slice none 0 0) := (blk_cell HB.out.2.1 1).trans rfl
        have f0 := blk_frozen HB.out.2.1 0
        have f1 := blk_frozen HB.out.2.1 1
        have dl := blk_lt HB.out.2.1
        go_wp2_with fail
        (try simp only [Exit.inBlock, Exit.then]); refine bodyPost_ret (results_row_tmp rfl _ _ (w.heap.size + 1) 80 #[.int .i64 0, .slice none 0 0] (0, 0) _ rfl (blk_set_two HB.out.2.1) Tryz.underlying80 rfl lin_info) rfl ?_
        exact ⟨fun h => (by rw [HO.out] at h; cases h), fun _ => rfl, (HB.out.2.2.setCell (by simp) _).setCell (by simp) _⟩
      · have HO := Lib.hid hok
        clear hE hok
        obtain ⟨b1, o1, q1, hb1, p0, p1⟩ := lps_at (HI.out.later HB.out.2.2).loops.rows k HK.out
        have d2 : B.cell? ⟨w.heap.size, 2, none⟩ = some (.slice s.lh.1 s.lh.2.1 s.lh.2.2) := (blk_cell HB.out.1 2).trans rfl
        have d0 : B.cell? ⟨w.heap.size + 1, 0, none⟩ = some (.int .i64 0) := (blk_cell HB.out.2.1 0).trans rfl
        have d1 : B.cell? ⟨w.heap.size + 1, 1, none⟩ = some (.slice none 0 0) := (blk_cell HB.out.2.1 1).trans rfl
        have f0 := blk_frozen HB.out.2.1 0
        have f1 := blk_frozen HB.out.2.1 1
        have dl := blk_lt HB.out.1
        have dm := blk_lt HB.out.2.1
        rw [q1] at d2
        have HL := Lib.hid (show (s.loops.getD (k : Int).toNat default) = (s.loops.getD k default) by simp)
        generalize hy : s.loops.getD k default = y at p0 p1 HL
        have HQ := Lib.hid q1
        clear hy q1
        go_wp2_with fail
        have hlt := dm
        (try simp only [Exit.inBlock, Exit.then]); refine bodyPost_ret (results_row_tmp rfl _ _ (w.heap.size + 1) 80 #[.int .i64 y.carry, .slice (some ⟨B.heap.size + 1, 0, none⟩) 1 1] (0, 0) _ rfl (blk_alloc (blk_alloc (blk_set_two HB.out.2.1) _) _) Tryz.underlying80 rfl lin_info) rfl ?_
        refine ⟨fun _ => ⟨B.heap.size + 1, by omega, ?_, ?_⟩, fun h => (by rw [HO.out] at h; cases h), below_alloc (below_alloc ((HB.out.2.2.setCell (by simp) _).setCell (by simp) _) _) _⟩
        · unfold lCar; rw [HL.out]; rfl
        · rw [HL.out]; exact new2 (by simp) _ _
    · have hE : lineE s loop = false := by
        unfold lineE
        rw [decide_eq_false (p := loop < (s.loops.length : Int)) (by rw [HN.out]; exact c1)]
        simp
      have HE := Lib.hid hE
      clear hE
      obtain ⟨k, rfl⟩ : ∃ k : Nat, loop = k := ⟨loop.toNat, by omega⟩
      go_enter Tryz.func42, Tryz.ntmps42
      go_wp2_with fail
      obtain ⟨A, hA⟩ : ∃ W' : World, ((w.alloc (.cells s.cells.toArray 29)).alloc (.cells #[.int .i64 0, .slice none 0 0] 80)) = W' := ⟨_, rfl⟩
      have h : Has A [(w.heap.size + 1, .cells #[.int .i64 0, .slice none 0 0] 80 (0, 0)), (w.heap.size, .cells s.cells.toArray 29 (0, 0))] := by rw [← hA]; simpa using (((Has.nil w).new _).new _)
      have z : A.heap.size = w.heap.size + 1 + 1 := by rw [← hA]; simp
      have b : Below w.heap.size w A := by rw [← hA]; exact (below_alloc (below_alloc (below_self w) _) _)
      rw [hA]
      clear hA
      (try simp only [Exit.inBlock, Exit.then]); refine bodyPost_ret (results_row_tmp rfl _ _ (w.heap.size + 1) 80 #[.int .i64 0, .slice none 0 0] (0, 0) _ rfl h.hd Tryz.underlying80 rfl lin_info) rfl ?_
      exact ⟨fun e => (by rw [HE.out] at e; cases e), fun _ => rfl, b⟩
  · have hE : lineE s loop = false := by
      unfold lineE
      rw [decide_eq_false c0]
      simp
    have HE := Lib.hid hE
    clear hE
    go_enter Tryz.func42, Tryz.ntmps42
    go_wp2_with fail
    obtain ⟨A, hA⟩ : ∃ W' : World, ((w.alloc (.cells s.cells.toArray 29)).alloc (.cells #[.int .i64 0, .slice none 0 0] 80)) = W' := ⟨_, rfl⟩
    have h : Has A [(w.heap.size + 1, .cells #[.int .i64 0, .slice none 0 0] 80 (0, 0)), (w.heap.size, .cells s.cells.toArray 29 (0, 0))] := by rw [← hA]; simpa using (((Has.nil w).new _).new _)
    have z : A.heap.size = w.heap.size + 1 + 1 := by rw [← hA]; simp
    have b : Below w.heap.size w A := by rw [← hA]; exact (below_alloc (below_alloc (below_self w) _) _)
    rw [hA]
    clear hA
    (try simp only [Exit.inBlock, Exit.then]); refine bodyPost_ret (results_row_tmp rfl _ _ (w.heap.size + 1) 80 #[.int .i64 0, .slice none 0 0] (0, 0) _ rfl h.hd Tryz.underlying80 rfl lin_info) rfl ?_
    exact ⟨fun e => (by rw [HE.out] at e; cases e), fun _ => rfl, b⟩
end Go.Proofs.YtmghcinbdfeeoaaGreat
