/- Chapter 06: the reference's above; the plain law of Least. -/
import Derived.Test.YtnpcafhmkjdhaaaRefC
import Derived.Test.YtnpcafhmkjdhaaaLeastA
namespace Go.Proofs.Ytnpcafhmkjdhaaa
open Go Go.RowKit

def aboveV (sum ticks limit : Int) : Int := if limit < sum then (if (sum - limit) / ticks * ticks < sum - limit then (sum - limit) / ticks + 1 else (sum - limit) / ticks) else 0
theorem aboveV_iff {sum ticks limit c : Int} (ht : 0 < ticks) (hc : 0 ≤ c) : aboveV sum ticks limit ≤ c ↔ sum - ticks * c ≤ limit := by
  have h1 := Int.emod_add_mul_ediv (sum - limit) ticks
  have h2 := Int.emod_nonneg (sum - limit) (show ticks ≠ 0 by omega)
  have h3 := Int.emod_lt_of_pos (sum - limit) ht
  unfold aboveV
  split
  · rename_i hlt
    have hm : (sum - limit) / ticks * ticks = ticks * ((sum - limit) / ticks) := Int.mul_comm _ _
    generalize (sum - limit) / ticks = q at *
    generalize (sum - limit) % ticks = r at *
    split
    · rename_i h4
      constructor
      · intro h5
        have : ticks * (q + 1) ≤ ticks * c := Int.mul_le_mul_of_nonneg_left h5 (by omega)
        rw [Int.mul_add, Int.mul_one] at this
        omega
      · intro h5
        by_cases h6 : q + 1 ≤ c
        · exact h6
        · have : ticks * c ≤ ticks * q := Int.mul_le_mul_of_nonneg_left (by omega) (by omega)
          omega
    · rename_i h4
      constructor
      · intro h5
        have : ticks * q ≤ ticks * c := Int.mul_le_mul_of_nonneg_left h5 (by omega)
        omega
      · intro h5
        by_cases h6 : q ≤ c
        · exact h6
        · have : ticks * (c + 1) ≤ ticks * q := Int.mul_le_mul_of_nonneg_left (by omega) (by omega)
          rw [Int.mul_add, Int.mul_one] at this
          omega
  · rename_i hlt
    have : 0 ≤ ticks * c := Int.mul_nonneg (by omega) hc
    constructor <;> intro <;> omega
theorem aboveV_le {sum ticks limit : Int} (ht : 0 < ticks) (h0 : 0 ≤ sum) (hl : 0 ≤ limit) : 0 ≤ aboveV sum ticks limit ∧ aboveV sum ticks limit ≤ sum := by
  refine ⟨?_, (aboveV_iff ht h0).2 ?_⟩
  · unfold aboveV
    split
    · have : 0 ≤ (sum - limit) / ticks := Int.ediv_nonneg (by omega) (by omega)
      split <;> omega
    · omega
  · have : 1 * sum ≤ ticks * sum := Int.mul_le_mul_of_nonneg_right (by omega) h0
    omega

set_option maxHeartbeats 1000000 in
theorem above_ref (sum ticks limit : Int) (w : World) (ht : 0 < ticks ∧ ticks ≤ 1000000) (h0 : 0 ≤ sum ∧ sum ≤ 1000000000000000000) (hl : 0 ≤ limit) :
    Calls Try.prog 43 #[.int .i64 sum, .int .i64 ticks, .int .i64 limit] w fun e W' => e = .returned (.int .i64 (aboveV sum ticks limit)) ∧ w = W' := by
  obtain ⟨t0, t1⟩ := ht
  obtain ⟨s0, s1⟩ := h0
  by_cases hlt : limit < sum
  · have hw1 : IntKind.i64.wrap (sum - limit) = sum - limit := IntWalk.i64_in _ (by omega)
    have hq : (sum - limit).tdiv ticks = (sum - limit) / ticks := Int.tdiv_eq_ediv_of_nonneg (by omega)
    have h1 := Int.emod_add_mul_ediv (sum - limit) ticks
    have h2 := Int.emod_nonneg (sum - limit) (show ticks ≠ 0 by omega)
    have hm : (sum - limit) / ticks * ticks = ticks * ((sum - limit) / ticks) := Int.mul_comm _ _
    have hq0 : 0 ≤ (sum - limit) / ticks := Int.ediv_nonneg (by omega) (by omega)
    have hq1 : 1 * ((sum - limit) / ticks) ≤ ticks * ((sum - limit) / ticks) := Int.mul_le_mul_of_nonneg_right (by omega) hq0
    have hV : aboveV sum ticks limit = if (sum - limit) / ticks * ticks < sum - limit then (sum - limit) / ticks + 1 else (sum - limit) / ticks := if_pos hlt
    rw [hV]
    have hne : ¬ ticks = 0 := by omega
    generalize (sum - limit) % ticks = r at *
    generalize hqq : (sum - limit) / ticks = q at *
    have hw2 : IntKind.i64.wrap q = q := IntWalk.i64_in _ (by omega)
    have hw3 : IntKind.i64.wrap (q * ticks) = q * ticks := IntWalk.i64_in _ (by omega)
    have hw4 : IntKind.i64.wrap (q + 1) = q + 1 := IntWalk.i64_in _ (by omega)
    clear hV hqq h1 h2 hm hq1
    by_cases h4 : q * ticks < sum - limit
    · rw [if_pos h4]
      go_enter Try.func43, Try.ntmps43
      go_wp2_with fail
      go_ret
      exact ⟨rfl, rfl⟩
    · rw [if_neg h4]
      go_enter Try.func43, Try.ntmps43
      go_wp2_with fail
      go_ret
      exact ⟨rfl, rfl⟩
  · have hV : aboveV sum ticks limit = 0 := if_neg hlt
    rw [hV]
    go_enter Try.func43, Try.ntmps43
    go_wp2_with fail
    go_ret
    exact ⟨rfl, rfl⟩

/-! ### The closed form -/
/-- The sum of f over the m ticks from k on. -/
def sumF (f : Nat → Int) (k : Nat) : Nat → Int
  | 0 => 0
  | m + 1 => sumF f k m + f (k + m)
theorem sumF_le {f : Nat → Int} {B : Int} (h : ∀ j, 0 ≤ f j ∧ f j ≤ B) (k : Nat) : ∀ m : Nat, 0 ≤ sumF f k m ∧ sumF f k m ≤ m * B
  | 0 => by simp [sumF]
  | m + 1 => by
    have ih := sumF_le h k m
    have := h (k + m)
    simp only [sumF]
    have e : ((m + 1 : Nat) : Int) * B = m * B + B := by rw [Int.natCast_add, Int.add_mul]; simp
    omega
/-- What a stretch of ticks asks of a Carry. -/
def Con (f : Nat → Int) (start limit : Int) (i t : Nat) (c : Int) : Prop := sumF f i (t + 1 - i) - ((t + 1 - i : Nat) : Int) * c ≤ limit ∧ (i = 0 → start + sumF f 0 (t + 1) - ((t + 1 : Nat) : Int) * c ≤ limit)

/-- The levels by f. -/
def lvF (f : Nat → Int) (c s : Int) : Nat → Int
  | 0 => s
  | k + 1 => max 0 (lvF f c s k + f k - c)
theorem mulc (m : Nat) (c : Int) : ((m + 1 : Nat) : Int) * c = m * c + c := by rw [Int.natCast_add, Int.add_mul]; simp
theorem lvF_low (f : Nat → Int) (c s : Int) (i : Nat) : ∀ m, lvF f c s i + sumF f i m - (m : Int) * c ≤ lvF f c s (i + m)
  | 0 => by simp [sumF]
  | m + 1 => by
    have h := lvF_low f c s i m
    have e2 : lvF f c s (i + (m + 1)) = max 0 (lvF f c s (i + m) + f (i + m) - c) := rfl
    rw [mulc, e2, sumF]
    omega
theorem lvF_nn {f : Nat → Int} {c s : Int} (hs : 0 ≤ s) : ∀ i, 0 ≤ lvF f c s i
  | 0 => hs
  | i + 1 => by simp only [lvF]; omega
theorem lvF_is (f : Nat → Int) (c s : Int) : ∀ k, lvF f c s k = s + sumF f 0 k - (k : Int) * c ∨ ∃ i m, i + m = k ∧ lvF f c s k = sumF f i m - (m : Int) * c
  | 0 => by left; simp [lvF, sumF]
  | k + 1 => by
    have e2 : lvF f c s (k + 1) = max 0 (lvF f c s k + f k - c) := rfl
    by_cases h0 : lvF f c s k + f k - c ≤ 0
    · right
      refine ⟨k + 1, 0, rfl, ?_⟩
      rw [e2]
      simp only [sumF]
      simp
      omega
    · rcases lvF_is f c s k with h | ⟨i, m, hk, h⟩
      · left
        rw [mulc, e2, sumF, Nat.zero_add]
        omega
      · right
        refine ⟨i, m + 1, by omega, ?_⟩
        rw [mulc, e2, sumF, hk]
        omega
theorem lvF_fits {f : Nat → Int} {c s limit : Int} (hs0 : 0 ≤ s) (hs : s ≤ limit) (hl : 0 ≤ limit) (T : Nat) :
    (∀ k, k ≤ T → lvF f c s k ≤ limit) ↔ ∀ i t, i ≤ t → t < T → Con f s limit i t c := by
  constructor
  · intro h i t hi ht
    have h1 := h (t + 1) (by omega)
    refine ⟨?_, fun h0 => ?_⟩
    · have h2 := lvF_low f c s i (t + 1 - i)
      rw [show i + (t + 1 - i) = t + 1 by omega] at h2
      have h3 := lvF_nn (f := f) (c := c) hs0 i
      omega
    · have h2 := lvF_low f c s 0 (t + 1)
      rw [Nat.zero_add] at h2
      have h4 : lvF f c s 0 = s := rfl
      omega
  · intro h k hk
    rcases lvF_is f c s k with h1 | ⟨i, m, hk2, h1⟩
    · cases k with
      | zero => exact hs
      | succ k =>
        have := (h 0 k (by omega) (by omega)).2 rfl
        omega
    · cases m with
      | zero => rw [h1]; simp [sumF]; exact hl
      | succ m =>
        have := (h i (i + m) (by omega) (by omega)).1
        rw [show i + m + 1 - i = m + 1 by omega] at this
        omega
end Go.Proofs.Ytnpcafhmkjdhaaa
