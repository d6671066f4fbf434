/- Chapter 07: the reference's Trips. -/
import Derived.Test.YtojpbmaojbejjaaRefCourse2
namespace Go.Proofs.Ytojpbmaojbejjaa
open Go Go.RowKit

theorem steadyE_heat {b : Brk} {h : Int} (hb : okB b = true) : steadyE b h 0 = if 0 ≤ h ∧ h ≤ b.slow then 0 else 2 := by
  unfold steadyE
  rw [if_pos hb]
  simp [okW, inR_iff]
theorem len_of_zero {b : Brk} {s : BSt} {ws : List Int} (h1 : courseE b s ws = 0) : ws.length ≤ 1000 := by
  unfold courseE at h1
  split at h1
  · split at h1
    · rename_i h; exact h.1
    · omega
  · omega

set_option maxRecDepth 100000 in
set_option maxHeartbeats 2000000 in
theorem trips_ref (b : Brk) (h : Int) (a : Option Addr) (n cap : Nat) (ws : List Int) (w : World) (hn : ws.length = n) (hl : n ≤ 9223372036854775807) (hm : RowsAt w.heap.size w a 1 (Ints ws)) :
    Calls Try.prog 28 #[b.val, .int .i64 h, .slice a n cap] w fun e W' => e = .returned (.tuple #[.int .i64 (tripsN b h ws), .int .i64 (tripsE b h ws)]) ∧ Below w.heap.size w W' := by
  have Hm := Lib.hid hm; clear hm
  have Hn := Lib.hid hn
  cases hb : okB b
  · have e0 : steadyE b h 0 = 1 := by unfold steadyE; rw [hb]; rfl
    have e1 : tripsE b h ws = 1 := by unfold tripsE; rw [e0]; rfl
    rw [tripsN_zero (by omega), e1]
    have HB := Lib.hid hb
    clear e0 e1 hb hn
    go_enter Try.func28, Try.ntmps28
    go_wp2_with fail
    refine (valid_ref _ _).mono ?_
    rintro e W' ⟨rfl, rfl⟩
    rw [HB.out]
    go_wp2_with fail
    go_ret2
    exact ⟨rfl, below_alloc (below_alloc (below_self w) _) _⟩
  · have HB := Lib.hid hb
    have eS := steadyE_heat (h := h) hb
    by_cases hh : 0 ≤ h ∧ h ≤ b.slow
    · rw [if_pos hh] at eS
      have eT : tripsE b h ws = courseE b ⟨h, false⟩ ws := by unfold tripsE; rw [if_pos eS]
      obtain ⟨h0, h1⟩ := hh
      by_cases h2 : courseE b ⟨h, false⟩ ws = 0
      · have hlen := len_of_zero h2
        rw [eT, h2]
        have eN : tripsN b h ws = max (-1) (idxI (fun s => s.trip) (runB b ⟨h, false⟩ ws) - 1) := by unfold tripsN; rw [eT, if_pos h2]
        have eL : courseL b ⟨h, false⟩ ws = runB b ⟨h, false⟩ ws := by unfold courseL; rw [if_pos h2]
        have hrl := runB_len b ws ⟨h, false⟩
        have hr0 : (runB b ⟨h, false⟩ ws).getD 0 default = ⟨h, false⟩ := by simp [List.getD, runB_get]; rfl
        rw [eN]
        have H1 := Lib.hid h2
        have H2 := Lib.hid eL
        clear eS eT h2 eN eL hb
        generalize runB b ⟨h, false⟩ ws = R at *
        have Hr := Lib.hid (And.intro hrl hr0)
        rw [hn] at hlen
        clear hrl hr0 hn
        go_enter Try.func28, Try.ntmps28
        go_wp2_with fail
        refine (valid_ref _ _).mono ?_
        rintro e W' ⟨rfl, rfl⟩
        rw [HB.out]
        go_wp2_with fail
        have b2 : Below w.heap.size w ((w.alloc (.cells b.cells.toArray 23)).alloc (.cells b.cells.toArray 23)) := below_alloc (below_alloc (below_self w) _) _
        have B2 := Lib.hid b2
        clear b2
        refine (course_ref b ⟨h, false⟩ a n cap ws _ Hn.out hl (Hm.out.later B2.out)).mono ?_
        rintro e W3 ⟨v, rfl, hoL, hb3⟩
        rw [H1.out]
        rw [H2.out] at hoL
        obtain ⟨a3, cap3, rfl, hr⟩ := hoL.rows
        have B3 := Lib.hid (below_trans B2.out hb3)
        have HR := Lib.hid hr
        obtain ⟨q, hq⟩ : ∃ q, R.length = q := ⟨_, rfl⟩
        have hqn : q = n + 1 := by rw [← hq, Hr.out.1, Hn.out]
        subst hqn
        rw [hq]
        have Hq := Lib.hid hq
        clear hoL hb3 hr B2 hq
        go_wp2_with fail
        go_loopw [35] (fun i wr => ∃ k : Nat, k ≤ n ∧ i = .int .i64 k ∧ wr = W3 ∧ Hid (∀ j, j < k + 1 → (R.getD j default).trip = false)) (fun i _ => n - (intOf i).toNat)
        case atStart =>
          refine ⟨0, Nat.zero_le _, rfl, rfl, fun j hj => ?_⟩
          have hj0 : j = 0 := by omega
          rw [hj0, Hr.out.2]
        case round =>
          obtain ⟨k, hk, rfl, rfl, Hno⟩ := hrel
          by_cases hlt : k < n
          · obtain ⟨b0, o0, rfl, hlt0, q0, q1⟩ := sts_at HR.out (k + 1) (by rw [Hq.out]; omega)
            cases ht : (R.getD (k + 1) default).trip
            · have HN := Lib.hid (no_succ Hno.out ht)
              rw [ht] at q1
              clear ht q0
              go_wp2_with fail
              go_roundw
              case rel => exact ⟨k + 1, by omega, by go_num, by trivial, HN⟩
              case measure => simp [intOf]; omega
            · have hI := idxI_found (p := fun s : BSt => s.trip) (l := R) (k := k + 1) (by rw [Hq.out]; omega) ht Hno.out
              rw [ht] at q1
              have HI := Lib.hid (show max (-1) (idxI (fun s : BSt => s.trip) R - 1) = (k : Int) by rw [hI]; omega)
              clear ht q0 hI
              go_wp2_with fail
              go_ret2
              exact ⟨by rw [HI.out]; rfl, B3.out⟩
          · have hI := idxI_none (p := fun s : BSt => s.trip) (l := R) (fun j hj => Hno.out j (by rw [Hq.out] at hj; omega))
            have HI := Lib.hid (show max (-1) (idxI (fun s : BSt => s.trip) R - 1) = -1 by rw [hI]; omega)
            clear hI
            go_wp2_with fail
            go_ret2
            exact ⟨by rw [HI.out]; rfl, B3.out⟩
      · rw [tripsN_zero (by rw [eT]; exact h2), eT]
        rcases courseE_cases b ⟨h, false⟩ ws with h3 | h3 | h3
        · exact absurd h3 h2
        all_goals
          rw [h3]
          have H1 := Lib.hid h3
          clear eS eT h2 h3 hb hn
          go_enter Try.func28, Try.ntmps28
          go_wp2_with fail
          refine (valid_ref _ _).mono ?_
          rintro e W' ⟨rfl, rfl⟩
          rw [HB.out]
          go_wp2_with fail
          have b2 : Below w.heap.size w ((w.alloc (.cells b.cells.toArray 23)).alloc (.cells b.cells.toArray 23)) := below_alloc (below_alloc (below_self w) _) _
          have B2 := Lib.hid b2
          clear b2
          refine (course_ref b ⟨h, false⟩ a n cap ws _ Hn.out hl (Hm.out.later B2.out)).mono ?_
          rintro e W3 ⟨v, rfl, hoL, hb3⟩
          rw [H1.out]
          have B3 := Lib.hid (below_trans B2.out hb3)
          clear hoL hb3 B2
          go_wp2_with fail
          go_ret2
          exact ⟨rfl, B3.out⟩
    · rw [if_neg hh] at eS
      have e1 : tripsE b h ws = 2 := by unfold tripsE; rw [eS]; rfl
      rw [tripsN_zero (by omega), e1]
      clear e1 eS hb hn
      by_cases c0 : h < 0
      case' neg => have c9 : b.slow < h := by omega
      all_goals
        clear hh
        go_enter Try.func28, Try.ntmps28
        go_wp2_with fail
        refine (valid_ref _ _).mono ?_
        rintro e W' ⟨rfl, rfl⟩
        rw [HB.out]
        go_wp2_with fail
        go_ret2
        exact ⟨rfl, below_alloc (below_alloc (below_self w) _) _⟩
end Go.Proofs.Ytojpbmaojbejjaa
