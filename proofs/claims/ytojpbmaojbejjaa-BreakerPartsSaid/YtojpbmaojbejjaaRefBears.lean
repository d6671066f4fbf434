/- Chapter 07: the reference's Bears. -/
import Derived.Test.YtojpbmaojbejjaaRefTimes
namespace Go.Proofs.Ytojpbmaojbejjaa
open Go Go.RowKit

theorem bearsE_cases (b : Brk) (h t : Int) (hb : okB b = true) : bearsE b h t = if (0 ≤ h ∧ h ≤ b.slow) ∧ 1 ≤ t ∧ t ≤ 1000 then 0 else 2 := by
  unfold bearsE; rw [if_pos hb]; simp only [inR_iff]

set_option maxHeartbeats 1000000 in
theorem bears_ref (b : Brk) (h t : Int) (w : World) : Calls Try.prog 15 #[b.val, .int .i64 h, .int .i64 t] w fun e W' => e = .returned (.tuple #[.int .i64 (bearsN b h t), .int .i64 (bearsE b h t)]) ∧ Below w.heap.size w W' := by
  cases hv : okB b
  · have e1 : bearsE b h t = 1 := by unfold bearsE; rw [hv]; rfl
    have e : bearsN b h t = 0 := by unfold bearsN; rw [e1]; rfl
    rw [e, e1]; clear e e1
    have HV := Lib.hid hv; clear hv
    go_enter Try.func15, Try.ntmps15
    go_wp2_with fail
    refine (valid_ref _ _).mono ?_
    rintro e W' ⟨rfl, rfl⟩
    rw [HV.out]
    go_wp2_with fail
    go_ret2
    exact ⟨rfl, below_alloc (below_alloc (below_self w) _) _⟩
  · have HV := Lib.hid hv
    obtain ⟨⟨l0, l1⟩, ⟨s0, s1⟩, f0, f1⟩ := okB_iff.1 hv
    have eE := bearsE_cases b h t hv
    by_cases hin : (0 ≤ h ∧ h ≤ b.slow) ∧ 1 ≤ t ∧ t ≤ 1000
    · rw [if_pos hin] at eE
      have EE := Lib.hid eE
      rw [eE]
      clear eE hv
      obtain ⟨⟨h0, h1⟩, t0, t1⟩ := hin
      go_enter Try.func15, Try.ntmps15
      go_wp2_with fail
      refine (valid_ref _ _).mono ?_
      rintro e W' ⟨rfl, rfl⟩
      rw [HV.out]
      go_wp2_with fail
      go_loop [8] (fun n => ∃ x : Int, (b.limit ≤ x ∧ x ≤ b.fast) ∧ Hid (h + t * (x - b.limit) ≤ b.slow) ∧ n = .int .i64 x) (fun n => (b.fast - intOf n).toNat)
      case atStart => exact ⟨b.limit, ⟨by omega, by omega⟩, by show _ ≤ _; simp; omega, rfl⟩
      case round =>
        obtain ⟨x, ⟨x0, x1⟩, hx, rfl⟩ := hrel
        have hm0 : 0 ≤ t * (x + 1 - b.limit) := Int.mul_nonneg (by omega) (by omega)
        have hm1 : t * (x + 1 - b.limit) ≤ 1000 * 1000001 := Int.mul_le_mul t1 (by omega) (by omega) (by omega)
        by_cases c1 : x < b.fast
        · by_cases c2 : h + t * (x + 1 - b.limit) ≤ b.slow
          · go_wp2_with fail
            go_round
            case rel => exact ⟨x + 1, ⟨by omega, by omega⟩, by show _ ≤ _; exact c2, rfl⟩
            case measure => simp [intOf]; omega
          · have HL := Lib.hid (bears_law EE.out t0 ⟨x0, x1⟩ hx.out (.inr (by omega)))
            go_wp2_with fail
            go_ret2
            exact ⟨by rw [HL.out]; rfl, below_alloc (below_alloc (below_self w) _) _⟩
        · have HL := Lib.hid (bears_law EE.out t0 ⟨x0, x1⟩ hx.out (.inl (by omega)))
          go_wp2_with fail
          go_ret2
          exact ⟨by rw [HL.out]; rfl, below_alloc (below_alloc (below_self w) _) _⟩
    · rw [if_neg hin] at eE
      have e : bearsN b h t = 0 := by unfold bearsN; rw [eE]; rfl
      rw [e, eE]; clear e eE hv
      by_cases c0 : h < 0
      · go_enter Try.func15, Try.ntmps15
        go_wp2_with fail
        refine (valid_ref _ _).mono ?_
        rintro e W' ⟨rfl, rfl⟩
        rw [HV.out]
        go_wp2_with fail
        go_ret2
        exact ⟨rfl, below_alloc (below_alloc (below_self w) _) _⟩
      · by_cases c1 : b.slow < h
        · go_enter Try.func15, Try.ntmps15
          go_wp2_with fail
          refine (valid_ref _ _).mono ?_
          rintro e W' ⟨rfl, rfl⟩
          rw [HV.out]
          go_wp2_with fail
          go_ret2
          exact ⟨rfl, below_alloc (below_alloc (below_self w) _) _⟩
        · by_cases c2 : t < 1
          · go_enter Try.func15, Try.ntmps15
            go_wp2_with fail
            refine (valid_ref _ _).mono ?_
            rintro e W' ⟨rfl, rfl⟩
            rw [HV.out]
            go_wp2_with fail
            go_ret2
            exact ⟨rfl, below_alloc (below_alloc (below_self w) _) _⟩
          · have c3 : 1000 < t := by omega
            go_enter Try.func15, Try.ntmps15
            go_wp2_with fail
            refine (valid_ref _ _).mono ?_
            rintro e W' ⟨rfl, rfl⟩
            rw [HV.out]
            go_wp2_with fail
            go_ret2
            exact ⟨rfl, below_alloc (below_alloc (below_self w) _) _⟩
end Go.Proofs.Ytojpbmaojbejjaa
