/- Chapter 07: the program's Lasts, Cools, Bears. -/
import Derived.Test.YtojpbmaojbejjaaSmall
import Derived.RegionTactic
import Derived.IntWalk
namespace Go.Proofs.Ytojpbmaojbejjaa
open Go Go.RowKit

theorem steadyE_zero {b : Brk} {h x : Int} (e : steadyE b h x = 0) : okB b = true ∧ (0 ≤ h ∧ h ≤ b.slow) ∧ 0 ≤ x ∧ x ≤ 100000000 := by
  unfold steadyE at e
  by_cases h1 : okB b = true
  · rw [if_pos h1] at e
    by_cases h2 : inR h 0 b.slow = true ∧ okW x = true
    · exact ⟨h1, inR_iff.1 h2.1, inR_iff.1 h2.2⟩
    · rw [if_neg h2] at e; omega
  · rw [if_neg h1] at e; omega
theorem steadyE_ne {b : Brk} {h x : Int} (e : ¬ steadyE b h x = 0) : steadyE b h x = 1 ∨ steadyE b h x = 2 := by
  unfold steadyE at *
  split at e
  · rename_i h1
    rw [if_pos h1]
    split at e
    · exact absurd rfl e
    · rename_i h2; rw [if_neg h2]; exact .inr rfl
  · rename_i h1
    rw [if_neg h1]; exact .inl rfl

set_option maxHeartbeats 1000000 in
theorem lasts_ok (b : Brk) (h x : Int) (w : World) : Calls Try.prog 10 #[b.val, .int .i64 h, .int .i64 x] w fun e W' => e = .returned (.tuple #[.int .i64 (lastsN b h x), .int .i64 (steadyE b h x)]) ∧ Below w.heap.size w W' := by
  by_cases h0 : steadyE b h x = 0
  · obtain ⟨hb, ⟨hh0, hh1⟩, hx0, hx1⟩ := steadyE_zero h0
    obtain ⟨⟨l0, l1⟩, ⟨s0, s1⟩, f0, f1⟩ := okB_iff.1 hb
    have e : lastsN b h x = if x ≤ b.limit then -1 else if b.fast < x then 0 else (b.slow - h) / (x - b.limit) := by unfold lastsN; rw [if_pos h0]
    rw [e]; clear e hb
    have H0 := Lib.hid h0
    by_cases c1 : x ≤ b.limit
    · rw [if_pos c1, h0]; clear h0
      go_enter Try.func10, Try.ntmps10
      go_wp2_with fail
      obtain ⟨W1, hW1⟩ : ∃ W' : World, (w.alloc (.cells b.cells.toArray 23)) = W' := ⟨_, rfl⟩
      have H1 : Has W1 [(w.heap.size, .cells b.cells.toArray 23 (0, 0))] := by rw [← hW1]; simpa using ((Has.nil w).new _)
      have s1 : W1.heap.size = w.heap.size + 1 := by rw [← hW1]; simp
      have b1 : Below w.heap.size w W1 := by rw [← hW1]; exact (below_alloc (below_self w) _)
      rw [hW1]
      clear hW1
      refine (steady_ok _ _ _ _).mono ?_
      rintro e W2 ⟨rfl, hb2⟩
      rw [H0.out]
      have h2 := H1.below hb2
      have w2 := Lib.hid (below_trans b1 hb2)
      have k1 := blk_cell h2.hd 1
      have k2 := blk_cell h2.hd 2
      have k3 := blk_cell h2.hd 3
      simp at k1 k2 k3
      clear h2 H1 s1 b1 hb2
      go_wp2_with fail
      go_ret2
      exact ⟨rfl, w2.out⟩
    · rw [if_neg c1]
      by_cases c2 : b.fast < x
      · rw [if_pos c2, h0]; clear h0
        go_enter Try.func10, Try.ntmps10
        go_wp2_with fail
        obtain ⟨W1, hW1⟩ : ∃ W' : World, (w.alloc (.cells b.cells.toArray 23)) = W' := ⟨_, rfl⟩
        have H1 : Has W1 [(w.heap.size, .cells b.cells.toArray 23 (0, 0))] := by rw [← hW1]; simpa using ((Has.nil w).new _)
        have s1 : W1.heap.size = w.heap.size + 1 := by rw [← hW1]; simp
        have b1 : Below w.heap.size w W1 := by rw [← hW1]; exact (below_alloc (below_self w) _)
        rw [hW1]
        clear hW1
        refine (steady_ok _ _ _ _).mono ?_
        rintro e W2 ⟨rfl, hb2⟩
        rw [H0.out]
        have h2 := H1.below hb2
        have w2 := Lib.hid (below_trans b1 hb2)
        have k1 := blk_cell h2.hd 1
        have k2 := blk_cell h2.hd 2
        have k3 := blk_cell h2.hd 3
        simp at k1 k2 k3
        clear h2 H1 s1 b1 hb2
        go_wp2_with fail
        go_ret2
        exact ⟨rfl, w2.out⟩
      · rw [if_neg c2, h0]; clear h0
        have hd0 : 0 ≤ b.slow - h := by omega
        have hd1 : 1 ≤ x - b.limit := by omega
        have hd2 : ¬ x - b.limit = 0 := by omega
        have hq0 : 0 ≤ (b.slow - h) / (x - b.limit) := Int.ediv_nonneg hd0 (by omega)
        have hq1 : (b.slow - h) / (x - b.limit) ≤ b.slow - h := Int.ediv_le_self _ hd0
        go_enter Try.func10, Try.ntmps10
        go_wp2_with fail
        obtain ⟨W1, hW1⟩ : ∃ W' : World, (w.alloc (.cells b.cells.toArray 23)) = W' := ⟨_, rfl⟩
        have H1 : Has W1 [(w.heap.size, .cells b.cells.toArray 23 (0, 0))] := by rw [← hW1]; simpa using ((Has.nil w).new _)
        have s1 : W1.heap.size = w.heap.size + 1 := by rw [← hW1]; simp
        have b1 : Below w.heap.size w W1 := by rw [← hW1]; exact (below_alloc (below_self w) _)
        rw [hW1]
        clear hW1
        refine (steady_ok _ _ _ _).mono ?_
        rintro e W2 ⟨rfl, hb2⟩
        rw [H0.out]
        have h2 := H1.below hb2
        have w2 := Lib.hid (below_trans b1 hb2)
        have k1 := blk_cell h2.hd 1
        have k2 := blk_cell h2.hd 2
        have k3 := blk_cell h2.hd 3
        simp at k1 k2 k3
        clear h2 H1 s1 b1 hb2
        go_wp2_with fail
        go_ret2
        exact ⟨rfl, w2.out⟩
  · have e : lastsN b h x = 0 := by unfold lastsN; rw [if_neg h0]
    rw [e]; clear e
    rcases steadyE_ne h0 with h1 | h1
    all_goals
      rw [h1]
      have H1 := Lib.hid h1; clear h1 h0
      go_enter Try.func10, Try.ntmps10
      go_wp2_with fail
      refine (steady_ok _ _ _ _).mono ?_
      rintro e W2 ⟨rfl, hb2⟩
      rw [H1.out]
      have w2 := Lib.hid (below_trans (below_alloc (below_self w) _) hb2)
      clear hb2
      go_wp2_with fail
      go_ret2
      exact ⟨rfl, w2.out⟩

set_option maxHeartbeats 1000000 in
theorem cools_ok (b : Brk) (h x : Int) (w : World) : Calls Try.prog 12 #[b.val, .int .i64 h, .int .i64 x] w fun e W' => e = .returned (.tuple #[.int .i64 (coolsN b h x), .int .i64 (steadyE b h x)]) ∧ Below w.heap.size w W' := by
  by_cases h0 : steadyE b h x = 0
  · obtain ⟨hb, ⟨hh0, hh1⟩, hx0, hx1⟩ := steadyE_zero h0
    obtain ⟨⟨l0, l1⟩, ⟨s0, s1⟩, f0, f1⟩ := okB_iff.1 hb
    have e : coolsN b h x = if h = 0 then 0 else if b.limit ≤ x then -1 else (h + (b.limit - x) - 1) / (b.limit - x) := by unfold coolsN; rw [if_pos h0]
    rw [e]; clear e hb
    have H0 := Lib.hid h0
    by_cases c1 : h = 0
    · rw [if_pos c1, h0]; clear h0
      subst c1
      go_enter Try.func12, Try.ntmps12
      go_wp2_with fail
      obtain ⟨W1, hW1⟩ : ∃ W' : World, (w.alloc (.cells b.cells.toArray 23)) = W' := ⟨_, rfl⟩
      have H1 : Has W1 [(w.heap.size, .cells b.cells.toArray 23 (0, 0))] := by rw [← hW1]; simpa using ((Has.nil w).new _)
      have s1 : W1.heap.size = w.heap.size + 1 := by rw [← hW1]; simp
      have b1 : Below w.heap.size w W1 := by rw [← hW1]; exact (below_alloc (below_self w) _)
      rw [hW1]
      clear hW1
      refine (steady_ok _ _ _ _).mono ?_
      rintro e W2 ⟨rfl, hb2⟩
      rw [H0.out]
      have w2 := Lib.hid (below_trans b1 hb2)
      clear H1 s1 b1 hb2
      go_wp2_with fail
      go_ret2
      exact ⟨rfl, w2.out⟩
    · rw [if_neg c1]
      by_cases c2 : b.limit ≤ x
      · rw [if_pos c2, h0]; clear h0
        go_enter Try.func12, Try.ntmps12
        go_wp2_with fail
        obtain ⟨W1, hW1⟩ : ∃ W' : World, (w.alloc (.cells b.cells.toArray 23)) = W' := ⟨_, rfl⟩
        have H1 : Has W1 [(w.heap.size, .cells b.cells.toArray 23 (0, 0))] := by rw [← hW1]; simpa using ((Has.nil w).new _)
        have s1 : W1.heap.size = w.heap.size + 1 := by rw [← hW1]; simp
        have b1 : Below w.heap.size w W1 := by rw [← hW1]; exact (below_alloc (below_self w) _)
        rw [hW1]
        clear hW1
        refine (steady_ok _ _ _ _).mono ?_
        rintro e W2 ⟨rfl, hb2⟩
        rw [H0.out]
        have h2 := H1.below hb2
        have w2 := Lib.hid (below_trans b1 hb2)
        have k1 := blk_cell h2.hd 1
        simp at k1
        clear h2 H1 s1 b1 hb2
        go_wp2_with fail
        go_ret2
        exact ⟨rfl, w2.out⟩
      · rw [if_neg c2, h0]; clear h0
        have hd0 : 0 ≤ h + (b.limit - x) - 1 := by omega
        have hd1 : 1 ≤ b.limit - x := by omega
        have hd2 : ¬ b.limit - x = 0 := by omega
        have hq0 : 0 ≤ (h + (b.limit - x) - 1) / (b.limit - x) := Int.ediv_nonneg hd0 (by omega)
        have hq1 : (h + (b.limit - x) - 1) / (b.limit - x) ≤ h + (b.limit - x) - 1 := Int.ediv_le_self _ hd0
        go_enter Try.func12, Try.ntmps12
        go_wp2_with fail
        obtain ⟨W1, hW1⟩ : ∃ W' : World, (w.alloc (.cells b.cells.toArray 23)) = W' := ⟨_, rfl⟩
        have H1 : Has W1 [(w.heap.size, .cells b.cells.toArray 23 (0, 0))] := by rw [← hW1]; simpa using ((Has.nil w).new _)
        have s1 : W1.heap.size = w.heap.size + 1 := by rw [← hW1]; simp
        have b1 : Below w.heap.size w W1 := by rw [← hW1]; exact (below_alloc (below_self w) _)
        rw [hW1]
        clear hW1
        refine (steady_ok _ _ _ _).mono ?_
        rintro e W2 ⟨rfl, hb2⟩
        rw [H0.out]
        have h2 := H1.below hb2
        have w2 := Lib.hid (below_trans b1 hb2)
        have k1 := blk_cell h2.hd 1
        simp at k1
        clear h2 H1 s1 b1 hb2
        go_wp2_with fail
        go_ret2
        exact ⟨rfl, w2.out⟩
  · have e : coolsN b h x = 0 := by unfold coolsN; rw [if_neg h0]
    rw [e]; clear e
    rcases steadyE_ne h0 with h1 | h1
    all_goals
      rw [h1]
      have H1 := Lib.hid h1; clear h1 h0
      go_enter Try.func12, Try.ntmps12
      go_wp2_with fail
      refine (steady_ok _ _ _ _).mono ?_
      rintro e W2 ⟨rfl, hb2⟩
      rw [H1.out]
      have w2 := Lib.hid (below_trans (below_alloc (below_self w) _) hb2)
      clear hb2
      go_wp2_with fail
      go_ret2
      exact ⟨rfl, w2.out⟩

theorem steadyE_bears {b : Brk} {h t : Int} (h0 : ¬ steadyE b h 0 = 0) : bearsE b h t = steadyE b h 0 := by
  have hw : okW 0 = true := by decide
  unfold bearsE steadyE at *
  by_cases h1 : okB b = true
  · rw [if_pos h1] at h0 ⊢
    rw [if_pos h1]
    by_cases h2 : inR h 0 b.slow = true
    · rw [if_pos ⟨h2, hw⟩] at h0; exact absurd rfl h0
    · rw [if_neg (fun k => h2 k.1), if_neg (fun k => h2 k.1)]
  · rw [if_neg h1, if_neg h1]
theorem bears_of {b : Brk} {h t : Int} (h0 : steadyE b h 0 = 0) : bearsE b h t = if inR t 1 1000 = true then 0 else 2 := by
  obtain ⟨hb, hh, _⟩ := steadyE_zero h0
  unfold bearsE
  rw [if_pos hb, inR_iff.2 hh]
  simp

set_option maxHeartbeats 1000000 in
theorem bears_ok (b : Brk) (h t : Int) (w : World) : Calls Try.prog 14 #[b.val, .int .i64 h, .int .i64 t] w fun e W' => e = .returned (.tuple #[.int .i64 (bearsN b h t), .int .i64 (bearsE b h t)]) ∧ Below w.heap.size w W' := by
  by_cases h0 : steadyE b h 0 = 0
  · obtain ⟨hb, ⟨hh0, hh1⟩, hx0, hx1⟩ := steadyE_zero h0
    obtain ⟨⟨l0, l1⟩, ⟨s0, s1⟩, f0, f1⟩ := okB_iff.1 hb
    have e1 := bears_of (t := t) h0
    have H0 := Lib.hid h0
    cases ht : inR t 1 1000
    · rw [ht, if_neg (by decide)] at e1
      have e : bearsN b h t = 0 := by unfold bearsN; rw [e1]; rfl
      rw [e, e1]; clear e e1 h0 hb
      have HT := Lib.hid ht; clear ht
      go_enter Try.func14, Try.ntmps14
      go_wp2_with fail
      refine (steady_ok _ _ _ _).mono ?_
      rintro e W2 ⟨rfl, hb2⟩
      rw [H0.out]
      have w2 := Lib.hid (below_trans (below_alloc (below_self w) _) hb2)
      clear hb2
      go_wp2_with fail
      refine (within_ok _ _ _ _).mono ?_
      rintro e W' ⟨rfl, rfl⟩
      rw [HT.out]
      go_wp2_with fail
      go_ret2
      exact ⟨rfl, w2.out⟩
    · rw [ht, if_pos rfl] at e1
      have e : bearsN b h t = min b.fast (b.limit + (b.slow - h) / t) := by unfold bearsN; rw [if_pos e1]
      rw [e, e1]; clear e e1 h0 hb
      have HT := Lib.hid ht
      obtain ⟨t0, t1⟩ := inR_iff.1 ht
      clear ht
      have hd0 : 0 ≤ b.slow - h := by omega
      have hd2 : ¬ t = 0 := by omega
      have hq0 : 0 ≤ (b.slow - h) / t := Int.ediv_nonneg hd0 (by omega)
      have hq1 : (b.slow - h) / t ≤ b.slow - h := Int.ediv_le_self _ hd0
      by_cases hm : b.fast ≤ b.limit + (b.slow - h) / t
      · rw [Int.min_eq_left hm]
        go_enter Try.func14, Try.ntmps14
        go_wp2_with fail
        obtain ⟨W1, hW1⟩ : ∃ W' : World, (w.alloc (.cells b.cells.toArray 23)) = W' := ⟨_, rfl⟩
        have H1 : Has W1 [(w.heap.size, .cells b.cells.toArray 23 (0, 0))] := by rw [← hW1]; simpa using ((Has.nil w).new _)
        have s1 : W1.heap.size = w.heap.size + 1 := by rw [← hW1]; simp
        have b1 : Below w.heap.size w W1 := by rw [← hW1]; exact (below_alloc (below_self w) _)
        rw [hW1]
        clear hW1
        refine (steady_ok _ _ _ _).mono ?_
        rintro e W2 ⟨rfl, hb2⟩
        rw [H0.out]
        have h2 := H1.below hb2
        have w2 := Lib.hid (below_trans b1 hb2)
        have k1 := blk_cell h2.hd 1
        have k2 := blk_cell h2.hd 2
        have k3 := blk_cell h2.hd 3
        simp at k1 k2 k3
        clear h2 H1 s1 b1 hb2
        go_wp2_with fail
        refine (within_ok _ _ _ _).mono ?_
        rintro e W' ⟨rfl, rfl⟩
        rw [HT.out]
        go_wp2_with fail
        go_quiet (fail)
        go_wp2_with fail
        go_ret2
        exact ⟨rfl, below_drewN w2.out _⟩
      · rw [Int.min_eq_right (by omega)]
        go_enter Try.func14, Try.ntmps14
        go_wp2_with fail
        obtain ⟨W1, hW1⟩ : ∃ W' : World, (w.alloc (.cells b.cells.toArray 23)) = W' := ⟨_, rfl⟩
        have H1 : Has W1 [(w.heap.size, .cells b.cells.toArray 23 (0, 0))] := by rw [← hW1]; simpa using ((Has.nil w).new _)
        have s1 : W1.heap.size = w.heap.size + 1 := by rw [← hW1]; simp
        have b1 : Below w.heap.size w W1 := by rw [← hW1]; exact (below_alloc (below_self w) _)
        rw [hW1]
        clear hW1
        refine (steady_ok _ _ _ _).mono ?_
        rintro e W2 ⟨rfl, hb2⟩
        rw [H0.out]
        have h2 := H1.below hb2
        have w2 := Lib.hid (below_trans b1 hb2)
        have k1 := blk_cell h2.hd 1
        have k2 := blk_cell h2.hd 2
        have k3 := blk_cell h2.hd 3
        simp at k1 k2 k3
        clear h2 H1 s1 b1 hb2
        go_wp2_with fail
        refine (within_ok _ _ _ _).mono ?_
        rintro e W' ⟨rfl, rfl⟩
        rw [HT.out]
        go_wp2_with fail
        go_quiet (fail)
        go_wp2_with fail
        go_ret2
        exact ⟨rfl, below_drewN w2.out _⟩
  · have e1 := steadyE_bears (t := t) h0
    have e : bearsN b h t = 0 := by unfold bearsN; rw [e1, if_neg h0]
    rw [e, e1]; clear e e1
    rcases steadyE_ne h0 with h1 | h1
    all_goals
      rw [h1]
      have H1 := Lib.hid h1; clear h1 h0
      go_enter Try.func14, Try.ntmps14
      go_wp2_with fail
      refine (steady_ok _ _ _ _).mono ?_
      rintro e W2 ⟨rfl, hb2⟩
      rw [H1.out]
      have w2 := Lib.hid (below_trans (below_alloc (below_self w) _) hb2)
      clear hb2
      go_wp2_with fail
      go_ret2
      exact ⟨rfl, w2.out⟩
end Go.Proofs.Ytojpbmaojbejjaa
