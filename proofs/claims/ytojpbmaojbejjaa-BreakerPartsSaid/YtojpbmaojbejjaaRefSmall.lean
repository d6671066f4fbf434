/- Chapter 07: the reference's small functions, and its Lasts, Cools, Bears. -/
import Derived.Test.YtojpbmaojbejjaaTimes
namespace Go.Proofs.Ytojpbmaojbejjaa
open Go Go.RowKit

theorem okB_no {b : Brk} (h : ¬ ((0 ≤ b.limit ∧ b.limit ≤ 1000000) ∧ (0 ≤ b.slow ∧ b.slow ≤ 1000000) ∧ b.limit ≤ b.fast ∧ b.fast ≤ 1000000)) : okB b = false := by
  rw [← Bool.not_eq_true, okB_iff]; exact h

set_option maxHeartbeats 1000000 in
theorem valid_ref (b : Brk) (w : World) : Calls Try.prog 27 #[b.val] w fun e W' => e = .returned (.bool (okB b)) ∧ w.alloc (.cells b.cells.toArray 23) = W' := by
  by_cases c0 : 0 ≤ b.limit
  · skip
    by_cases c1 : b.limit ≤ 1000000
    · skip
      by_cases c2 : 0 ≤ b.slow
      · skip
        by_cases c3 : b.slow ≤ 1000000
        · skip
          by_cases c4 : b.limit ≤ b.fast
          · skip
            by_cases c5 : b.fast ≤ 1000000
            · skip
              rw [okB_iff.2 ⟨⟨c0, c1⟩, ⟨c2, c3⟩, c4, c5⟩]
              go_enter Try.func27, Try.ntmps27
              go_wp2_with fail
              go_ret
              exact ⟨rfl, rfl⟩
            · skip
              rw [okB_no (by omega)]
              go_enter Try.func27, Try.ntmps27
              go_wp2_with fail
              go_ret
              exact ⟨rfl, rfl⟩
          · skip
            rw [okB_no (by omega)]
            go_enter Try.func27, Try.ntmps27
            go_wp2_with fail
            go_ret
            exact ⟨rfl, rfl⟩
        · skip
          rw [okB_no (by omega)]
          go_enter Try.func27, Try.ntmps27
          go_wp2_with fail
          go_ret
          exact ⟨rfl, rfl⟩
      · skip
        rw [okB_no (by omega)]
        go_enter Try.func27, Try.ntmps27
        go_wp2_with fail
        go_ret
        exact ⟨rfl, rfl⟩
    · skip
      rw [okB_no (by omega)]
      go_enter Try.func27, Try.ntmps27
      go_wp2_with fail
      go_ret
      exact ⟨rfl, rfl⟩
  · skip
    rw [okB_no (by omega)]
    go_enter Try.func27, Try.ntmps27
    go_wp2_with fail
    go_ret
    exact ⟨rfl, rfl⟩

theorem aft_eq {b : Brk} {heat x M N : Int} {B : Bool} (hM : max 0 (heat + x - b.limit) = M) (hN : min M 100000000 = N) (hB : decide (b.fast < x ∨ b.slow < M) = B) : aft b ⟨heat, false⟩ x = ⟨N, B⟩ := by
  unfold aft; rw [if_neg (by simp)]; simp only [hM, hN, hB]
theorem aft_trip (b : Brk) (heat x : Int) : aft b ⟨heat, true⟩ x = ⟨heat, true⟩ := by unfold aft; rw [if_pos rfl]

set_option maxHeartbeats 1000000 in
theorem after_ref (b : Brk) (s : BSt) (x : Int) (w : World) (h0 : 0 ≤ s.heat) (h1 : s.heat ≤ 100000000) (x0 : 0 ≤ x) (x1 : x ≤ 100000000) (l0 : 0 ≤ b.limit) (l1 : b.limit ≤ 1000000) :
    Calls Try.prog 40 #[b.val, s.val, .int .i64 x] w fun e W' => e = .returned (aft b s x).val ∧ Below w.heap.size w W' := by
  obtain ⟨heat, trip⟩ := s
  simp only at h0 h1
  cases trip
  · by_cases c1 : b.limit < heat + x
    · by_cases c2 : heat + x - b.limit ≤ 100000000
      · skip
        by_cases c3 : b.fast < x
        · rw [aft_eq (M := heat + x - b.limit) (N := heat + x - b.limit) (B := true) (by omega) (by omega) (decide_eq_true (.inl c3))]
          go_enter Try.func40, Try.ntmps40
          go_wp2_with fail
          exact bodyPost_ret (v := BSt.val ⟨heat + x - b.limit, true⟩) (by simp [results, Try.results40, go_sem] <;> omega) rfl ⟨rfl, below_alloc (below_alloc (below_alloc (below_self w) _) _) _⟩
        · by_cases c4 : b.slow < heat + x - b.limit
          · rw [aft_eq (M := heat + x - b.limit) (N := heat + x - b.limit) (B := true) (by omega) (by omega) (decide_eq_true (.inr c4))]
            go_enter Try.func40, Try.ntmps40
            go_wp2_with fail
            exact bodyPost_ret (v := BSt.val ⟨heat + x - b.limit, true⟩) (by simp [results, Try.results40, go_sem] <;> omega) rfl ⟨rfl, below_alloc (below_alloc (below_alloc (below_self w) _) _) _⟩
          · rw [aft_eq (M := heat + x - b.limit) (N := heat + x - b.limit) (B := false) (by omega) (by omega) (decide_eq_false (by omega))]
            go_enter Try.func40, Try.ntmps40
            go_wp2_with fail
            exact bodyPost_ret (v := BSt.val ⟨heat + x - b.limit, false⟩) (by simp [results, Try.results40, go_sem] <;> omega) rfl ⟨rfl, below_alloc (below_alloc (below_alloc (below_self w) _) _) _⟩
      · skip
        by_cases c3 : b.fast < x
        · rw [aft_eq (M := heat + x - b.limit) (N := 100000000) (B := true) (by omega) (by omega) (decide_eq_true (.inl c3))]
          go_enter Try.func40, Try.ntmps40
          go_wp2_with fail
          exact bodyPost_ret (v := BSt.val ⟨100000000, true⟩) (by simp [results, Try.results40, go_sem] <;> omega) rfl ⟨rfl, below_alloc (below_alloc (below_alloc (below_self w) _) _) _⟩
        · by_cases c4 : b.slow < heat + x - b.limit
          · rw [aft_eq (M := heat + x - b.limit) (N := 100000000) (B := true) (by omega) (by omega) (decide_eq_true (.inr c4))]
            go_enter Try.func40, Try.ntmps40
            go_wp2_with fail
            exact bodyPost_ret (v := BSt.val ⟨100000000, true⟩) (by simp [results, Try.results40, go_sem] <;> omega) rfl ⟨rfl, below_alloc (below_alloc (below_alloc (below_self w) _) _) _⟩
          · rw [aft_eq (M := heat + x - b.limit) (N := 100000000) (B := false) (by omega) (by omega) (decide_eq_false (by omega))]
            go_enter Try.func40, Try.ntmps40
            go_wp2_with fail
            exact bodyPost_ret (v := BSt.val ⟨100000000, false⟩) (by simp [results, Try.results40, go_sem] <;> omega) rfl ⟨rfl, below_alloc (below_alloc (below_alloc (below_self w) _) _) _⟩
    · skip
      by_cases c3 : b.fast < x
      · rw [aft_eq (M := 0) (N := 0) (B := true) (by omega) (by omega) (decide_eq_true (.inl c3))]
        go_enter Try.func40, Try.ntmps40
        go_wp2_with fail
        exact bodyPost_ret (v := BSt.val ⟨0, true⟩) (by simp [results, Try.results40, go_sem] <;> omega) rfl ⟨rfl, below_alloc (below_alloc (below_alloc (below_self w) _) _) _⟩
      · by_cases c4 : b.slow < 0
        · rw [aft_eq (M := 0) (N := 0) (B := true) (by omega) (by omega) (decide_eq_true (.inr c4))]
          go_enter Try.func40, Try.ntmps40
          go_wp2_with fail
          exact bodyPost_ret (v := BSt.val ⟨0, true⟩) (by simp [results, Try.results40, go_sem] <;> omega) rfl ⟨rfl, below_alloc (below_alloc (below_alloc (below_self w) _) _) _⟩
        · rw [aft_eq (M := 0) (N := 0) (B := false) (by omega) (by omega) (decide_eq_false (by omega))]
          go_enter Try.func40, Try.ntmps40
          go_wp2_with fail
          exact bodyPost_ret (v := BSt.val ⟨0, false⟩) (by simp [results, Try.results40, go_sem] <;> omega) rfl ⟨rfl, below_alloc (below_alloc (below_alloc (below_self w) _) _) _⟩
  · rw [aft_trip]
    go_enter Try.func40, Try.ntmps40
    go_wp2_with fail
    exact bodyPost_ret (v := BSt.val ⟨heat, true⟩) (by simp [results, Try.results40, go_sem] <;> omega) rfl ⟨rfl, below_alloc (below_alloc (below_alloc (below_self w) _) _) _⟩

theorem steady_ref (b : Brk) (h x : Int) (w : World) : Calls Try.prog 39 #[b.val, .int .i64 h, .int .i64 x] w fun e W' => e = .returned (.int .i64 (steadyE b h x)) ∧ Below w.heap.size w W' := by
  cases hv : okB b
  · have e : steadyE b h x = 1 := by unfold steadyE; rw [hv]; rfl
    rw [e]; clear e
    have HV := Lib.hid hv; clear hv
    go_enter Try.func39, Try.ntmps39
    go_wp2_with fail
    refine (valid_ref _ _).mono ?_
    rintro e W' ⟨rfl, rfl⟩
    rw [HV.out]
    go_wp2_with fail
    go_ret
    exact ⟨rfl, below_alloc (below_alloc (below_self w) _) _⟩
  · have HV := Lib.hid hv
    by_cases c0 : h < 0
    · skip
      have e : steadyE b h x = 2 := by unfold steadyE; rw [if_pos hv]; rw [if_neg (by simp only [okW, inR_iff]; omega)]
      rw [e]; clear e hv
      go_enter Try.func39, Try.ntmps39
      go_wp2_with fail
      refine (valid_ref _ _).mono ?_
      rintro e W' ⟨rfl, rfl⟩
      rw [HV.out]
      go_wp2_with fail
      go_ret
      exact ⟨rfl, below_alloc (below_alloc (below_self w) _) _⟩
    · by_cases c1 : b.slow < h
      · skip
        have e : steadyE b h x = 2 := by unfold steadyE; rw [if_pos hv]; rw [if_neg (by simp only [okW, inR_iff]; omega)]
        rw [e]; clear e hv
        go_enter Try.func39, Try.ntmps39
        go_wp2_with fail
        refine (valid_ref _ _).mono ?_
        rintro e W' ⟨rfl, rfl⟩
        rw [HV.out]
        go_wp2_with fail
        go_ret
        exact ⟨rfl, below_alloc (below_alloc (below_self w) _) _⟩
      · by_cases c2 : x < 0
        · skip
          have e : steadyE b h x = 2 := by unfold steadyE; rw [if_pos hv]; rw [if_neg (by simp only [okW, inR_iff]; omega)]
          rw [e]; clear e hv
          go_enter Try.func39, Try.ntmps39
          go_wp2_with fail
          refine (valid_ref _ _).mono ?_
          rintro e W' ⟨rfl, rfl⟩
          rw [HV.out]
          go_wp2_with fail
          go_ret
          exact ⟨rfl, below_alloc (below_alloc (below_self w) _) _⟩
        · by_cases c3 : 100000000 < x
          · skip
            have e : steadyE b h x = 2 := by unfold steadyE; rw [if_pos hv]; rw [if_neg (by simp only [okW, inR_iff]; omega)]
            rw [e]; clear e hv
            go_enter Try.func39, Try.ntmps39
            go_wp2_with fail
            refine (valid_ref _ _).mono ?_
            rintro e W' ⟨rfl, rfl⟩
            rw [HV.out]
            go_wp2_with fail
            go_ret
            exact ⟨rfl, below_alloc (below_alloc (below_self w) _) _⟩
          · skip
            have e : steadyE b h x = 0 := by unfold steadyE; rw [if_pos hv]; rw [if_pos (by simp only [okW, inR_iff]; omega)]
            rw [e]; clear e hv
            go_enter Try.func39, Try.ntmps39
            go_wp2_with fail
            refine (valid_ref _ _).mono ?_
            rintro e W' ⟨rfl, rfl⟩
            rw [HV.out]
            go_wp2_with fail
            go_ret
            exact ⟨rfl, below_alloc (below_alloc (below_self w) _) _⟩

theorem validState_ref (b : Brk) (s : BSt) (w : World) (hb : okB b = true) : Calls Try.prog 48 #[b.val, s.val] w fun e W' => e = .returned (.bool (okS b s)) ∧ Below w.heap.size w W' := by
  obtain ⟨⟨l0, l1⟩, ⟨s0, s1⟩, f0, f1⟩ := okB_iff.1 hb
  obtain ⟨heat, trip⟩ := s
  have e0 : okS b ⟨heat, trip⟩ = inR heat 0 (mostOf b ⟨heat, trip⟩) := by unfold okS; rw [hb]; rfl
  rw [e0]
  clear e0 hb
  by_cases c0 : 0 ≤ heat
  · by_cases c1 : heat ≤ 100000000
    · cases trip
      · by_cases c2 : heat ≤ b.slow
        · skip
          rw [inR_iff.2 (by unfold mostOf; simp; omega)]
          go_enter Try.func48, Try.ntmps48
          go_wp2_with fail
          go_ret
          exact ⟨rfl, below_alloc (below_alloc (below_self w) _) _⟩
        · skip
          rw [inR_not.2 (by unfold mostOf; simp; omega)]
          go_enter Try.func48, Try.ntmps48
          go_wp2_with fail
          go_ret
          exact ⟨rfl, below_alloc (below_alloc (below_self w) _) _⟩
      · skip
        rw [inR_iff.2 (by unfold mostOf; simp; omega)]
        go_enter Try.func48, Try.ntmps48
        go_wp2_with fail
        go_ret
        exact ⟨rfl, below_alloc (below_alloc (below_self w) _) _⟩
    · cases trip
      · skip
        rw [inR_not.2 (by unfold mostOf; simp; omega)]
        go_enter Try.func48, Try.ntmps48
        go_wp2_with fail
        go_ret
        exact ⟨rfl, below_alloc (below_alloc (below_self w) _) _⟩
      · skip
        rw [inR_not.2 (by unfold mostOf; simp; omega)]
        go_enter Try.func48, Try.ntmps48
        go_wp2_with fail
        go_ret
        exact ⟨rfl, below_alloc (below_alloc (below_self w) _) _⟩
  · cases trip
    · skip
      rw [inR_not.2 (by unfold mostOf; simp; omega)]
      go_enter Try.func48, Try.ntmps48
      go_wp2_with fail
      go_ret
      exact ⟨rfl, below_alloc (below_alloc (below_self w) _) _⟩
    · skip
      rw [inR_not.2 (by unfold mostOf; simp; omega)]
      go_enter Try.func48, Try.ntmps48
      go_wp2_with fail
      go_ret
      exact ⟨rfl, below_alloc (below_alloc (below_self w) _) _⟩
end Go.Proofs.Ytojpbmaojbejjaa
