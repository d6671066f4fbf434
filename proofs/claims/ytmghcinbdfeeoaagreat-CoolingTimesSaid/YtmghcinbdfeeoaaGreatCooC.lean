/- Chapter 15: cooling.Course. -/
import Derived.Test.YtmghcinbdfeeoaaGreatLinC
namespace Go.Proofs.YtmghcinbdfeeoaaGreat
open Go Go.RowKit
set_option linter.unusedSimpArgs false

theorem rows_one {W : World} {k B n : Nat} {cs : List Value} {t : TypeId} {fr : Nat × Nat} (h : W.heap[B]? = some (.cells cs.toArray t fr)) (hB : B < n) : RowsAt n W (some ⟨B, 0, none⟩) k [cs] := by
  intro i r hr
  match i, hr with
  | 0, hr =>
    simp at hr
    subst hr
    refine ⟨B, 0, rfl, hB, fun j v hv => ?_⟩
    rw [show 0 + 0 * k + j = j by omega]
    simp [World.cell?, h, hv]
set_option maxHeartbeats 4000000 in
theorem cool_ok (s : Site) (loop start : Int) (h : Hd) (hs : List Int) (n : Int) (w : World) (hat : s.At w) (hh : Reads w h 1 hs.length (Ints hs)) :
    Calls Tryz.prog 24 #[s.val, .int .i64 loop, .int .i64 start, .slice h.1 h.2.1 h.2.2, .int .i64 n] w fun e W' => ∃ v, e = .returned (.tuple #[v, .int .i64 (couE s loop start hs n)]) ∧ OwnI w.heap.size W' v (couV s loop start hs n) ∧ Below w.heap.size w W' := by
  have HI := Lib.hid (And.intro hat hh)
  clear hat hh
  cases hL : lineE s loop
  · have HE := Lib.hid (show couE s loop start hs n = 1 by unfold couE; rw [if_neg (by simp [hL])])
    have HV := Lib.hid (show couV s loop start hs n = [] by unfold couV; rw [if_neg (by simp [hL])])
    have HL := Lib.hid hL
    rw [HE.out, HV.out]
    clear hL
    go_enter Tryz.func24, Tryz.ntmps24
    go_wp2_with fail
    obtain ⟨Z, hZ⟩ : ∃ W' : World, (w.alloc (.cells s.cells.toArray 29)) = W' := ⟨_, rfl⟩
    have h9 : Has Z [(w.heap.size, .cells s.cells.toArray 29 (0, 0))] := by rw [← hZ]; simpa using ((Has.nil w).new _)
    have z9 : Z.heap.size = w.heap.size + 1 := by rw [← hZ]; simp
    have b9 : Below w.heap.size w Z := by rw [← hZ]; exact (below_alloc (below_self w) _)
    rw [hZ]
    clear hZ
    have H0 := Lib.hid b9
    clear h9 z9 b9
    refine (linear_ok s loop Z (HI.out.1.later H0.out)).mono ?_
    rintro e A ⟨h1, h2, hb⟩
    obtain rfl := h2 HL.out
    have HB := Lib.hid (below_trans H0.out hb)
    clear h1 h2 hb
    go_wp2_with fail
    go_ret2
    exact ⟨_, rfl, OwnI.nil _ _, below_alloc HB.out _⟩
  · have HE := Lib.hid (show couE s loop start hs n = askedE (lCar s loop) (lPs s loop) start [hs] n by unfold couE; rw [if_pos hL])
    have HV := Lib.hid (show couV s loop start hs n = courseV (lCar s loop) (lPs s loop) [hs] start n by unfold couV; rw [if_pos hL])
    have HL := Lib.hid hL
    rw [HE.out, HV.out]
    clear hL
    go_enter Tryz.func24, Tryz.ntmps24
    go_wp2_with fail
    obtain ⟨Z, hZ⟩ : ∃ W' : World, (w.alloc (.cells s.cells.toArray 29)) = W' := ⟨_, rfl⟩
    have h9 : Has Z [(w.heap.size, .cells s.cells.toArray 29 (0, 0))] := by rw [← hZ]; simpa using ((Has.nil w).new _)
    have z9 : Z.heap.size = w.heap.size + 1 := by rw [← hZ]; simp
    have b9 : Below w.heap.size w Z := by rw [← hZ]; exact (below_alloc (below_self w) _)
    rw [hZ]
    clear hZ
    have H0 := Lib.hid b9
    clear h9 z9 b9
    refine (linear_ok s loop Z (HI.out.1.later H0.out)).mono ?_
    rintro e A ⟨h1, h2, hb⟩
    obtain ⟨B, hB, rfl, hblk⟩ := h1 HL.out
    have HB := Lib.hid (And.intro (below_trans H0.out hb) (And.intro hB hblk))
    clear h1 h2 hb hB hblk
    go_wp2_with fail
    obtain ⟨C, hC⟩ : ∃ W' : World, ((A.alloc (.cells #[.int .i64 (lCar s loop), .slice (some ⟨B, 0, none⟩) 1 1] 80)).alloc (.cells #[.slice h.1 h.2.1 h.2.2] 47)) = W' := ⟨_, rfl⟩
    have h8 : Has C [(A.heap.size + 1, .cells #[.slice h.1 h.2.1 h.2.2] 47 (0, 0)), (A.heap.size, .cells #[.int .i64 (lCar s loop), .slice (some ⟨B, 0, none⟩) 1 1] 80 (0, 0))] := by rw [← hC]; simpa using (((Has.nil A).new _).new _)
    have z8 : C.heap.size = A.heap.size + 1 + 1 := by rw [← hC]; simp
    have b8 : Below A.heap.size A C := by rw [← hC]; exact (below_alloc (below_alloc (below_self A) _) _)
    rw [hC]
    clear hC
    have hmp : RowsAt C.heap.size C (some ⟨B, 0, none⟩) 3 (Prts (lPs s loop)) := rows_one (cs := [.int .i64 0, .int .i64 1, .int .i64 (s.loops.getD loop.toNat default).delay]) (blk_below HB.out.2.2 b8) (blk_lt (blk_below HB.out.2.2 b8))
    have hmi : InsAt C.heap.size C (some ⟨A.heap.size + 1, 0, none⟩) [h] [hs] := by
      refine ⟨rfl, rows_one (cs := [.slice h.1 h.2.1 h.2.2]) h8.hd (blk_lt h8.hd), fun i hi => ?_⟩
      match i, hi with
      | 0, _ =>
        have hr := HI.out.2.later (below_trans HB.out.1 b8)
        exact ⟨hr.len, hr.le, hr.rows⟩
    have HC := Lib.hid (And.intro (below_trans HB.out.1 b8) (And.intro hmp hmi))
    clear h8 z8 b8 hmp hmi
    refine (course_ok (lCar s loop) (some ⟨B, 0, none⟩) 1 1 (lPs s loop) start (some ⟨A.heap.size + 1, 0, none⟩) 1 1 [h] [hs] n C rfl (by omega) HC.out.2.1 rfl (by omega) HC.out.2.2).mono ?_
    rintro e X ⟨v, rfl, ho, hb⟩
    have HX := Lib.hid (And.intro (owns_base ho HC.out.1.size) (below_trans HC.out.1 hb))
    clear ho hb
    go_wp2_with fail
    go_ret2
    exact ⟨_, rfl, HX.out⟩
end Go.Proofs.YtmghcinbdfeeoaaGreat
