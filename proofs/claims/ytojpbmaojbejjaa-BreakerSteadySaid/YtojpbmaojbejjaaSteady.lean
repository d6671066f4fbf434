/- Chapter 07, law BreakerSteady: what a steady load does (plain law). -/
import Derived.Test.YtojpbmaojbejjaaLawLower
namespace Go.Proofs.Ytojpbmaojbejjaa
open Go Go.RowKit

theorem stAt_rep (b : Brk) (s : BSt) (w : Int) (k : Nat) : stAt b s (List.replicate (k + 1) w) = aft b (stAt b s (List.replicate k w)) w := by
  rw [List.replicate_succ', stAt_snoc]
theorem falls (b : Brk) (h w : Int) (h0 : 0 ≤ h) (h1 : h ≤ b.slow) (hs : b.slow ≤ 1000000) (hw : w ≤ b.limit) (hf : b.limit ≤ b.fast) : ∀ k : Nat, stAt b ⟨h, false⟩ (List.replicate k w) = ⟨max 0 (h - k * (b.limit - w)), false⟩
  | 0 => by simp [stAt]; omega
  | k + 1 => by
    rw [stAt_rep, falls b h w h0 h1 hs hw hf k]
    have e : ((k + 1 : Nat) : Int) * (b.limit - w) = k * (b.limit - w) + (b.limit - w) := by rw [Int.natCast_succ, Int.add_mul]; omega
    have hk : 0 ≤ (k : Int) * (b.limit - w) := Int.mul_nonneg (by omega) (by omega)
    rw [e]
    generalize (k : Int) * (b.limit - w) = m at hk ⊢
    exact aft_eq (M := max 0 (h - (m + (b.limit - w)))) (by omega) (by omega) (decide_eq_false (by omega))
theorem rises (b : Brk) (h w : Int) (h0 : 0 ≤ h) (hs : b.slow ≤ 1000000) (hw : b.limit < w) (hf : w ≤ b.fast) : ∀ k : Nat, h + k * (w - b.limit) ≤ b.slow → stAt b ⟨h, false⟩ (List.replicate k w) = ⟨h + k * (w - b.limit), false⟩
  | 0, _ => by simp [stAt]
  | k + 1, hk => by
    have e : ((k + 1 : Nat) : Int) * (w - b.limit) = k * (w - b.limit) + (w - b.limit) := by rw [Int.natCast_succ, Int.add_mul]; omega
    have hk0 : 0 ≤ (k : Int) * (w - b.limit) := Int.mul_nonneg (by omega) (by omega)
    rw [e] at hk ⊢
    rw [stAt_rep, rises b h w h0 hs hw hf k (by omega)]
    generalize (k : Int) * (w - b.limit) = m at hk hk0 ⊢
    exact aft_eq (M := h + (m + (w - b.limit))) (by omega) (by omega) (decide_eq_false (by omega))
theorem trip_stays (b : Brk) (s : BSt) (w : Int) (k j : Nat) (h : (stAt b s (List.replicate k w)).trip = true) : (stAt b s (List.replicate (k + j) w)).trip = true := by
  induction j with
  | zero => exact h
  | succ j ih =>
    rw [← Nat.add_assoc, stAt_rep]
    unfold aft
    rw [if_pos ih]
    exact ih
theorem run_rep (b : Brk) (s : BSt) (w : Int) (n k : Nat) (hk : k ≤ n) : (runB b s (List.replicate n w)).getD k default = stAt b s (List.replicate k w) := by
  rw [runB_getD _ _ _ _ (by simp; omega), List.take_replicate, Nat.min_eq_left hk]
theorem run_rep_len (b : Brk) (s : BSt) (w : Int) (n : Nat) : (runB b s (List.replicate n w)).length = n + 1 := by rw [runB_len, List.length_replicate]

def coldP (s : BSt) : Bool := decide (s.heat = 0) && !s.trip

theorem steady (b : Brk) (h w : Int) (hb : okB b = true) (h0 : 0 ≤ h) (h1 : h ≤ b.slow) (hs : b.slow ≤ 255) (w0 : 0 ≤ w) (w1 : w ≤ 255) :
    (lastsN b h w = -1 ↔ w ≤ b.limit) ∧ (lastsN b h w = -1 → idxI (fun s => s.trip) (runB b ⟨h, false⟩ (List.replicate 300 w)) = -1) ∧
      (¬ lastsN b h w = -1 → idxI (fun s => s.trip) (runB b ⟨h, false⟩ (List.replicate 300 w)) = lastsN b h w + 1 ∧ 0 ≤ lastsN b h w ∧ lastsN b h w ≤ 255) ∧
      idxI coldP (runB b ⟨h, false⟩ (List.replicate 300 w)) = coolsN b h w ∧ -1 ≤ coolsN b h w ∧ coolsN b h w ≤ 255 := by
  have e0 := steadyE_of (x := w) hb h0 h1 w0 (by omega)
  obtain ⟨⟨l0, l1⟩, ⟨s0, _⟩, f0, f1⟩ := okB_iff.1 hb
  have eL : lastsN b h w = if w ≤ b.limit then -1 else if b.fast < w then 0 else (b.slow - h) / (w - b.limit) := by unfold lastsN; rw [if_pos e0]
  have eC : coolsN b h w = if h = 0 then 0 else if b.limit ≤ w then -1 else (h + (b.limit - w) - 1) / (b.limit - w) := by unfold coolsN; rw [if_pos e0]
  have hlen := run_rep_len b ⟨h, false⟩ w 300
  have hget := fun k hk => run_rep b ⟨h, false⟩ w 300 k hk
  generalize runB b ⟨h, false⟩ (List.replicate 300 w) = R at hlen hget ⊢
  by_cases c1 : w ≤ b.limit
  · rw [if_pos c1] at eL
    have hf := falls b h w h0 h1 (by omega) c1 f0
    refine ⟨⟨fun _ => c1, fun _ => eL⟩, fun _ => ?_, fun h => absurd eL h, ?_⟩
    · refine idxI_none (fun j hj => ?_)
      rw [hlen] at hj
      rw [hget j (by omega), hf]
    · rw [eC]
      by_cases c2 : h = 0
      · rw [if_pos c2]
        refine ⟨?_, by omega, by omega⟩
        refine idxI_found (k := 0) (by rw [hlen]; omega) ?_ (fun j hj => by omega)
        rw [hget 0 (by omega), hf]
        simp [coldP]; omega
      · rw [if_neg c2]
        by_cases c3 : b.limit ≤ w
        · rw [if_pos c3]
          have hz : b.limit - w = 0 := by omega
          refine ⟨?_, by omega, by omega⟩
          refine idxI_none (fun j hj => ?_)
          rw [hlen] at hj
          rw [hget j (by omega), hf, hz]
          simp [coldP]; omega
        · rw [if_neg c3]
          have hd : 1 ≤ b.limit - w := by omega
          have hq0 : 0 ≤ (h + (b.limit - w) - 1) / (b.limit - w) := Int.ediv_nonneg (by omega) (by omega)
          obtain ⟨k, hk⟩ : ∃ k : Nat, (h + (b.limit - w) - 1) / (b.limit - w) = k := ⟨_, (Int.toNat_of_nonneg hq0).symm⟩
          have hk1 : (k : Int) * (b.limit - w) ≤ h + (b.limit - w) - 1 := by rw [← hk]; exact Int.ediv_mul_le _ (by omega)
          have hk2 : h + (b.limit - w) - 1 < ((k : Int) + 1) * (b.limit - w) := by rw [← hk]; exact Int.lt_ediv_add_one_mul_self _ (by omega)
          rw [Int.add_mul] at hk2
          have hk3 : (k : Int) ≤ h := by
            have h2 := mul_ge (k - 1) (b.limit - w) hd
            by_cases hz : k = 0
            · omega
            · have e : ((k - 1 : Nat) : Int) = (k : Int) - 1 := by omega
              rw [e, Int.sub_mul] at h2
              omega
          rw [hk]
          refine ⟨?_, by omega, by omega⟩
          refine idxI_found (k := k) (by rw [hlen]; omega) ?_ (fun j hj => ?_)
          · rw [hget k (by omega), hf]
            simp [coldP]; omega
          · rw [hget j (by omega), hf]
            have h3 : (j : Int) * (b.limit - w) ≤ ((k : Int) - 1) * (b.limit - w) := Int.mul_le_mul_of_nonneg_right (by omega) (by omega)
            rw [Int.sub_mul] at h3
            simp [coldP]; omega
  · rw [if_neg c1] at eL
    have cold : idxI coldP R = coolsN b h w ∧ -1 ≤ coolsN b h w ∧ coolsN b h w ≤ 255 := by
      rw [eC]
      by_cases c2 : h = 0
      · rw [if_pos c2]
        refine ⟨?_, by omega, by omega⟩
        refine idxI_found (k := 0) (by rw [hlen]; omega) ?_ (fun j hj => by omega)
        rw [hget 0 (by omega)]
        simp [stAt, coldP, c2]
      · rw [if_neg c2, if_pos (by omega)]
        refine ⟨?_, by omega, by omega⟩
        refine idxI_none (fun j hj => ?_)
        rw [hlen] at hj
        rw [hget j (by omega)]
        by_cases c3 : b.fast < w
        · cases j with
          | zero => simp [stAt, coldP, c2]
          | succ j =>
            have ht : (stAt b ⟨h, false⟩ (List.replicate 1 w)).trip = true := by
              rw [stAt_rep]; simp [stAt, aft, c3]
            have := trip_stays b ⟨h, false⟩ w 1 j ht
            rw [Nat.add_comm] at this
            simp [coldP, this]
        · by_cases c4 : h + j * (w - b.limit) ≤ b.slow
          · rw [rises b h w h0 (by omega) (by omega) (by omega) j c4]
            have : 0 ≤ (j : Int) * (w - b.limit) := Int.mul_nonneg (by omega) (by omega)
            simp [coldP]; omega
          · cases ht : (stAt b ⟨h, false⟩ (List.replicate j w)).trip
            · exfalso
              have hall : ∀ i : Nat, (stAt b ⟨h, false⟩ (List.replicate i w)).trip = false → h + i * (w - b.limit) ≤ b.slow := by
                intro i
                induction i with
                | zero => intro _; simp; omega
                | succ i ih =>
                  intro hi
                  have hi0 : (stAt b ⟨h, false⟩ (List.replicate i w)).trip = false := by
                    cases hq : (stAt b ⟨h, false⟩ (List.replicate i w)).trip
                    · rfl
                    · have := trip_stays b ⟨h, false⟩ w i 1 hq
                      rw [hi] at this; cases this
                  have hle := ih hi0
                  rw [stAt_rep, rises b h w h0 (by omega) (by omega) (by omega) i hle] at hi
                  have e : ((i + 1 : Nat) : Int) * (w - b.limit) = i * (w - b.limit) + (w - b.limit) := by rw [Int.natCast_succ, Int.add_mul]; omega
                  rw [e]
                  unfold aft at hi
                  simp at hi
                  omega
              exact c4 (hall j ht)
            · simp [coldP, ht]
    by_cases c3 : b.fast < w
    · rw [if_pos c3] at eL
      refine ⟨⟨fun h => by omega, fun h => absurd h c1⟩, fun h => by omega, fun _ => ⟨?_, by omega, by omega⟩, cold⟩
      rw [eL]
      refine idxI_found (k := 1) (by rw [hlen]; omega) ?_ (fun j hj => ?_)
      · rw [hget 1 (by omega), stAt_rep]; simp [stAt, aft, c3]
      · obtain rfl : j = 0 := by omega
        rw [hget 0 (by omega)]; simp [stAt]
    · rw [if_neg c3] at eL
      have hd : 1 ≤ w - b.limit := by omega
      have hq0 : 0 ≤ (b.slow - h) / (w - b.limit) := Int.ediv_nonneg (by omega) (by omega)
      obtain ⟨k, hk⟩ : ∃ k : Nat, (b.slow - h) / (w - b.limit) = k := ⟨_, (Int.toNat_of_nonneg hq0).symm⟩
      have hk1 : (k : Int) * (w - b.limit) ≤ b.slow - h := by rw [← hk]; exact Int.ediv_mul_le _ (by omega)
      have hk2 : b.slow - h < ((k : Int) + 1) * (w - b.limit) := by rw [← hk]; exact Int.lt_ediv_add_one_mul_self _ (by omega)
      rw [Int.add_mul] at hk2
      have hk3 := mul_ge k (w - b.limit) hd
      rw [hk] at eL
      refine ⟨⟨fun h => by omega, fun h => absurd h c1⟩, fun h => by omega, fun _ => ⟨?_, by omega, by omega⟩, cold⟩
      rw [eL]
      refine idxI_found (k := k + 1) (by rw [hlen]; omega) ?_ (fun j hj => ?_)
      · rw [hget (k + 1) (by omega), stAt_rep, rises b h w h0 (by omega) (by omega) (by omega) k (by omega)]
        unfold aft
        simp
        omega
      · have h3 : (j : Int) * (w - b.limit) ≤ (k : Int) * (w - b.limit) := Int.mul_le_mul_of_nonneg_right (by omega) (by omega)
        rw [hget j (by omega), rises b h w h0 (by omega) (by omega) (by omega) j (by omega)]
end Go.Proofs.Ytojpbmaojbejjaa
