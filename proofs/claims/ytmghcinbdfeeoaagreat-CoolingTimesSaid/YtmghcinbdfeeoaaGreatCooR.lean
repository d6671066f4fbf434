/- Chapter 15: the reference's Course. -/
import Derived.Test.YtmghcinbdfeeoaaGreatRf12E
import Derived.Test.YtmghcinbdfeeoaaGreatCooC
import Derived.Test.YtmghcinbdfeeoaaGreatRefD
namespace Go.Proofs.YtmghcinbdfeeoaaGreat
open Go Go.RowKit
set_option linter.unusedSimpArgs false

theorem blk_at' {W : World} {k : Nat} (hk : k = W.heap.size) (o : Obj) : (W.alloc o).heap[k]? = some o := by subst hk; exact blk_new W o
set_option maxHeartbeats 4000000 in
theorem linref_ok (s : Site) (loop : Int) (w : World) (hs : s.At w) :
    Calls Tryz.prog 29 #[s.val, .int .i64 loop] w fun e W' => (lineE s loop = true → ∃ B : Nat, w.heap.size ≤ B ∧ e = .returned (.tuple #[.agg #[.int .i64 (lCar s loop), .slice (some ⟨B, 0, none⟩) 1 1], .int .i64 0]) ∧ W'.heap[B]? = some (.cells #[.int .i64 0, .int .i64 1, .int .i64 (s.loops.getD loop.toNat default).delay] 97 (0, 0))) ∧ (lineE s loop = false → e = .returned (.tuple #[.agg #[.int .i64 0, .slice none 0 0], .int .i64 1])) ∧ Below w.heap.size w W' := by
  have HI := Lib.hid hs
  have hN : s.loops.length = s.lh.2.1 := hs.loops.len
  have hNl := hs.loops.le
  have HN := Lib.hid hN
  clear hs hN
  go_enter Tryz.func29, Tryz.ntmps29
  go_wp2_with fail
  obtain ⟨A, hA⟩ : ∃ W' : World, ((w.alloc (.cells s.cells.toArray 29)).alloc (.cells #[.int .i64 0, .slice none 0 0] 80)) = W' := ⟨_, rfl⟩
  have h : Has A [(w.heap.size + 1, .cells #[.int .i64 0, .slice none 0 0] 80 (0, 0)), (w.heap.size, .cells s.cells.toArray 29 (0, 0))] := by rw [← hA]; simpa using (((Has.nil w).new _).new _)
  have z : A.heap.size = w.heap.size + 1 + 1 := by rw [← hA]; simp
  have b : Below w.heap.size w A := by rw [← hA]; exact (below_alloc (below_alloc (below_self w) _) _)
  rw [hA]
  clear hA
  have HA := Lib.hid (show A.heap[w.heap.size]? = some (.cells s.cells.toArray 29 (0, 0)) ∧ A.heap[w.heap.size + 1]? = some (.cells #[.int .i64 0, .slice none 0 0] 80 (0, 0)) ∧ Below w.heap.size w A from ⟨h.tl.hd, h.hd, b⟩)
  clear h z b
  refine (site_ref s A (HI.out.later HA.out.2.2)).mono ?_
  rintro e B ⟨rfl, hb⟩
  have HB := Lib.hid (And.intro (blk_below HA.out.1 hb) (And.intro (blk_below HA.out.2.1 hb) (below_trans HA.out.2.2 hb)))
  clear hb HA
  have d0 : B.cell? ⟨w.heap.size + 1, 0, none⟩ = some (.int .i64 0) := (blk_cell HB.out.2.1 0).trans rfl
  have d1 : B.cell? ⟨w.heap.size + 1, 1, none⟩ = some (.slice none 0 0) := (blk_cell HB.out.2.1 1).trans rfl
  have f0 := blk_frozen HB.out.2.1 0
  have f1 := blk_frozen HB.out.2.1 1
  have d2 : B.cell? ⟨w.heap.size, 2, none⟩ = some (.slice s.lh.1 s.lh.2.1 s.lh.2.2) := (blk_cell HB.out.1 2).trans rfl
  have dl := blk_lt HB.out.1
  have dm := blk_lt HB.out.2.1
  cases hok : siteOk s
  · have HE := Lib.hid (show lineE s loop = false by unfold lineE; rw [hok]; simp)
    clear hok
    go_wp2_with fail
    (try simp only [Exit.inBlock, Exit.then]); refine bodyPost_ret (results_row_tmp rfl _ _ (w.heap.size + 1) 80 #[.int .i64 0, .slice none 0 0] (0, 0) _ rfl (blk_set_two HB.out.2.1) Tryz.underlying80 rfl lin_info) rfl ?_
    exact ⟨fun e => (by rw [HE.out] at e; cases e), fun _ => rfl, (HB.out.2.2.setCell (by simp) _).setCell (by simp) _⟩
  · have HO := Lib.hid hok
    clear hok
    by_cases c0 : 0 ≤ loop
    · by_cases c1 : loop < (s.lh.2.1 : Int)
      · obtain ⟨k, rfl⟩ : ∃ k : Nat, loop = k := ⟨loop.toNat, by omega⟩
        have hki : k < s.loops.length := by rw [HN.out]; omega
        have HE := Lib.hid (show lineE s k = true by unfold lineE; rw [decide_eq_true c0, decide_eq_true (by omega), HO.out]; rfl)
        obtain ⟨b1, o1, q1, hb1, p0, p1⟩ := lps_at (HI.out.later HB.out.2.2).loops.rows k hki
        obtain ⟨b2, o2, q2, hb2, _, _⟩ := lps_at HI.out.loops.rows k hki
        rw [q1] at d2 q2
        injection q2 with q2
        injection q2 with q3 q4
        rw [← q3] at hb2
        have hne : b1 ≠ w.heap.size + 1 := by omega
        have hne2 : ¬ w.heap.size + 1 = b1 := by omega
        clear q3 q4
        have HL := Lib.hid (show (s.loops.getD (k : Int).toNat default) = (s.loops.getD k default) by simp)
        generalize hy : s.loops.getD k default = y at p0 p1 HL
        clear hy q1
        have kB : B.drew.cell? ⟨w.heap.size, 2, none⟩ = some (.slice (some ⟨b1, o1, none⟩) s.lh.2.1 s.lh.2.2) ∧ B.drew.cell? ⟨b1, o1 + k * 2, none⟩ = some (.int .i64 y.carry) ∧ B.drew.cell? ⟨b1, o1 + k * 2 + 1, none⟩ = some (.int .i64 y.delay) := ⟨d2, p0, p1⟩
        go_wp2_with fail
        go_region_held3 (fun W => W.cell? ⟨w.heap.size, 2, none⟩ = some (.slice (some ⟨b1, o1, none⟩) s.lh.2.1 s.lh.2.2) ∧ W.cell? ⟨b1, o1 + k * 2, none⟩ = some (.int .i64 y.carry) ∧ W.cell? ⟨b1, o1 + k * 2 + 1, none⟩ = some (.int .i64 y.delay))
          ((first | with_reducible exact kB | with_reducible go_keep))
          (fail)
        go_wp2_with fail
        have hsz := HB.out.2.2.size
        (try simp only [Exit.inBlock, Exit.then]); refine bodyPost_ret (results_row_tmp rfl _ _ (w.heap.size + 1) 80 #[.int .i64 y.carry, .slice (some ⟨B.heap.size, 0, none⟩) 1 1] (0, 0) _ rfl (blk_alloc (blk_set_two HB.out.2.1) _) Tryz.underlying80 rfl lin_info) rfl ?_
        refine ⟨fun _ => ⟨B.heap.size, hsz, ?_, ?_⟩, fun h => (by rw [HE.out] at h; cases h), (below_alloc ((HB.out.2.2.setCell (by simp) _).setCell (by simp) _) _).drew⟩
        · unfold lCar; rw [HL.out]; rfl
        · rw [HL.out]; exact blk_at' (by simp) _
      · have HE := Lib.hid (show lineE s loop = false by unfold lineE; rw [decide_eq_false (p := loop < (s.loops.length : Int)) (by rw [HN.out]; exact c1)]; simp)
        obtain ⟨k, rfl⟩ : ∃ k : Nat, loop = k := ⟨loop.toNat, by omega⟩
        go_wp2_with fail
        (try simp only [Exit.inBlock, Exit.then]); refine bodyPost_ret (results_row_tmp rfl _ _ (w.heap.size + 1) 80 #[.int .i64 0, .slice none 0 0] (0, 0) _ rfl (blk_set_two HB.out.2.1) Tryz.underlying80 rfl lin_info) rfl ?_
        exact ⟨fun e => (by rw [HE.out] at e; cases e), fun _ => rfl, (HB.out.2.2.setCell (by simp) _).setCell (by simp) _⟩
    · have HE := Lib.hid (show lineE s loop = false by unfold lineE; rw [decide_eq_false c0]; simp)
      go_wp2_with fail
      (try simp only [Exit.inBlock, Exit.then]); refine bodyPost_ret (results_row_tmp rfl _ _ (w.heap.size + 1) 80 #[.int .i64 0, .slice none 0 0] (0, 0) _ rfl (blk_set_two HB.out.2.1) Tryz.underlying80 rfl lin_info) rfl ?_
      exact ⟨fun e => (by rw [HE.out] at e; cases e), fun _ => rfl, (HB.out.2.2.setCell (by simp) _).setCell (by simp) _⟩
end Go.Proofs.YtmghcinbdfeeoaaGreat

namespace Go.Proofs.YtmghcinbdfeeoaaGreat
open Go Go.RowKit
set_option linter.unusedSimpArgs false

set_option maxHeartbeats 4000000 in
theorem coolref_ok (s : Site) (loop start : Int) (h : Hd) (hs : List Int) (n : Int) (w : World) (hat : s.At w) (hh : Reads w h 1 hs.length (Ints hs)) :
    Calls Tryz.prog 16 #[s.val, .int .i64 loop, .int .i64 start, .slice h.1 h.2.1 h.2.2, .int .i64 n] w fun e W' => ∃ v, e = .returned (.tuple #[v, .int .i64 (couE s loop start hs n)]) ∧ OwnI w.heap.size W' v (couV s loop start hs n) ∧ Below w.heap.size w W' := by
  have HI := Lib.hid (And.intro hat hh)
  clear hat hh
  cases hL : lineE s loop
  · have HE := Lib.hid (show couE s loop start hs n = 1 by unfold couE; rw [if_neg (by simp [hL])])
    have HV := Lib.hid (show couV s loop start hs n = [] by unfold couV; rw [if_neg (by simp [hL])])
    have HL := Lib.hid hL
    rw [HE.out, HV.out]
    clear hL
    go_enter Tryz.func16, Tryz.ntmps16
    go_wp2_with fail
    obtain ⟨Z, hZ⟩ : ∃ W' : World, (w.alloc (.cells s.cells.toArray 29)) = W' := ⟨_, rfl⟩
    have h9 : Has Z [(w.heap.size, .cells s.cells.toArray 29 (0, 0))] := by rw [← hZ]; simpa using ((Has.nil w).new _)
    have z9 : Z.heap.size = w.heap.size + 1 := by rw [← hZ]; simp
    have b9 : Below w.heap.size w Z := by rw [← hZ]; exact (below_alloc (below_self w) _)
    rw [hZ]
    clear hZ
    have H0 := Lib.hid b9
    clear h9 z9 b9
    refine (linref_ok s loop Z (HI.out.1.later H0.out)).mono ?_
    rintro e A ⟨h1, h2, hb⟩
    obtain rfl := h2 HL.out
    have HB := Lib.hid (below_trans H0.out hb)
    clear h1 h2 hb
    go_wp2_with fail
    go_ret2
    exact ⟨_, rfl, OwnI.nil _ _, below_alloc HB.out _⟩
  · have HE := Lib.hid (show couE s loop start hs n = askedE (lCar s loop) (lPs s loop) start [hs] n by unfold couE; rw [if_pos hL])
    have HV := Lib.hid (show couV s loop start hs n = courseV (lCar s loop) (lPs s loop) [hs] start n by unfold couV; rw [if_pos hL])
    have HL := Lib.hid hL
    rw [HE.out, HV.out]
    clear hL
    go_enter Tryz.func16, Tryz.ntmps16
    go_wp2_with fail
    obtain ⟨Z, hZ⟩ : ∃ W' : World, (w.alloc (.cells s.cells.toArray 29)) = W' := ⟨_, rfl⟩
    have h9 : Has Z [(w.heap.size, .cells s.cells.toArray 29 (0, 0))] := by rw [← hZ]; simpa using ((Has.nil w).new _)
    have z9 : Z.heap.size = w.heap.size + 1 := by rw [← hZ]; simp
    have b9 : Below w.heap.size w Z := by rw [← hZ]; exact (below_alloc (below_self w) _)
    rw [hZ]
    clear hZ
    have H0 := Lib.hid b9
    clear h9 z9 b9
    refine (linref_ok s loop Z (HI.out.1.later H0.out)).mono ?_
    rintro e A ⟨h1, h2, hb⟩
    obtain ⟨B, hB, rfl, hblk⟩ := h1 HL.out
    have HB := Lib.hid (And.intro (below_trans H0.out hb) (And.intro hB hblk))
    clear h1 h2 hb hB hblk
    go_wp2_with fail
    obtain ⟨C, hC⟩ : ∃ W' : World, ((A.alloc (.cells #[.int .i64 (lCar s loop), .slice (some ⟨B, 0, none⟩) 1 1] 80)).alloc (.cells #[.slice h.1 h.2.1 h.2.2] 47)) = W' := ⟨_, rfl⟩
    have h8 : Has C [(A.heap.size + 1, .cells #[.slice h.1 h.2.1 h.2.2] 47 (0, 0)), (A.heap.size, .cells #[.int .i64 (lCar s loop), .slice (some ⟨B, 0, none⟩) 1 1] 80 (0, 0))] := by rw [← hC]; simpa using (((Has.nil A).new _).new _)
    have z8 : C.heap.size = A.heap.size + 1 + 1 := by rw [← hC]; simp
    have b8 : Below A.heap.size A C := by rw [← hC]; exact (below_alloc (below_alloc (below_self A) _) _)
    rw [hC]
    clear hC
    have hmp : RowsAt C.heap.size C (some ⟨B, 0, none⟩) 3 (Prts (lPs s loop)) := rows_one (cs := [.int .i64 0, .int .i64 1, .int .i64 (s.loops.getD loop.toNat default).delay]) (blk_below HB.out.2.2 b8) (blk_lt (blk_below HB.out.2.2 b8))
    have hmi : InsAt C.heap.size C (some ⟨A.heap.size + 1, 0, none⟩) [h] [hs] := by
      refine ⟨rfl, rows_one (cs := [.slice h.1 h.2.1 h.2.2]) h8.hd (blk_lt h8.hd), fun i hi => ?_⟩
      match i, hi with
      | 0, _ =>
        have hr := HI.out.2.later (below_trans HB.out.1 b8)
        exact ⟨hr.len, hr.le, hr.rows⟩
    have HC := Lib.hid (And.intro (below_trans HB.out.1 b8) (And.intro hmp hmi))
    clear h8 z8 b8 hmp hmi
    refine (courseref_ok (lCar s loop) (some ⟨B, 0, none⟩) 1 1 (lPs s loop) start (some ⟨A.heap.size + 1, 0, none⟩) 1 1 [h] [hs] n C rfl (by omega) HC.out.2.1 rfl (by omega) HC.out.2.2).mono ?_
    rintro e X ⟨v, rfl, ho, hb⟩
    have HX := Lib.hid (And.intro (owns_base ho HC.out.1.size) (below_trans HC.out.1 hb))
    clear ho hb
    go_wp2_with fail
    go_ret2
    exact ⟨_, rfl, HX.out⟩
theorem coolref_ok' (s : Site) (loop start : Int) (a : Option Addr) (m cap : Nat) (hs : List Int) (n : Int) (w : World) (hat : s.At w) (hh : Reads w (a, m, cap) 1 hs.length (Ints hs)) :
    Calls Tryz.prog 16 #[s.val, .int .i64 loop, .int .i64 start, .slice a m cap, .int .i64 n] w fun e W' => ∃ v, e = .returned (.tuple #[v, .int .i64 (couE s loop start hs n)]) ∧ OwnI w.heap.size W' v (couV s loop start hs n) ∧ Below w.heap.size w W' := coolref_ok s loop start (a, m, cap) hs n w hat hh
end Go.Proofs.YtmghcinbdfeeoaaGreat
