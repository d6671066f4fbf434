/- Chapter 06: Least's inner function; its plain law. -/
import Derived.Test.YtnpcafhmkjdhaaaLev
import Derived.Test.YtnpcafhmkjdhaaaSlices
namespace Go.Proofs.Ytnpcafhmkjdhaaa
open Go Go.RowKit

/-- The levels by what comes. -/
def lvl (c s : Int) (come : List Int) : Nat → Int
  | 0 => s
  | k + 1 => max 0 (lvl c s come k + come.getD k default - c)
def fits (c s : Int) (come : List Int) (limit : Int) : Bool := (List.range (come.length + 1)).all fun k => decide (lvl c s come k ≤ limit)
theorem fits_iff {c s : Int} {come : List Int} {limit : Int} : fits c s come limit = true ↔ ∀ k, k ≤ come.length → lvl c s come k ≤ limit := by
  unfold fits
  rw [List.all_eq_true]
  constructor
  · intro h k hk
    simpa using h k (by simp; omega)
  · intro h k hk
    simpa using h k (by simp at hk; omega)
theorem fits_not {c s : Int} {come : List Int} {limit : Int} {k : Nat} (hk : k ≤ come.length) (h : limit < lvl c s come k) : fits c s come limit = false := by
  cases hf : fits c s come limit
  · rfl
  · have := fits_iff.1 hf k hk
    omega
theorem lvl_mono {c c' s : Int} {come : List Int} (h : c ≤ c') : ∀ k, lvl c' s come k ≤ lvl c s come k
  | 0 => by simp only [lvl]; omega
  | k + 1 => by
    have := lvl_mono (s := s) (come := come) h k
    simp only [lvl]
    omega
theorem fits_mono {c c' s : Int} {come : List Int} {limit : Int} (h : c ≤ c') (hf : fits c s come limit = true) : fits c' s come limit = true := by
  rw [fits_iff] at hf ⊢
  intro k hk
  have := lvl_mono (s := s) (come := come) h k
  have := hf k hk
  omega
def ComeOk (come : List Int) : Prop := come.length ≤ 1000 ∧ ∀ k, k < come.length → 0 ≤ come.getD k default ∧ come.getD k default ≤ 1600000000000
theorem lvl_le {c s : Int} {come : List Int} (h : ComeOk come) (hc : 0 ≤ c) (hs : 0 ≤ s ∧ s ≤ 100000000) : ∀ k, k ≤ come.length → 0 ≤ lvl c s come k ∧ lvl c s come k ≤ 100000000 + k * 1600000000000
  | 0, _ => by simp only [lvl]; omega
  | k + 1, hk => by
    have ih := lvl_le h hc hs k (by omega)
    have ha := h.2 k (by omega)
    simp only [lvl]
    omega

set_option maxHeartbeats 1000000 in
theorem least1_ok (c s limit : Int) (b1 b2 b3 : Nat) (a : Option Addr) (n cap : Nat) (come : List Int) (w : World) (hn : come.length = n) (hC : ComeOk come) (hc : 0 ≤ c ∧ c ≤ 100000000) (hs : 0 ≤ s ∧ s ≤ 100000000)
    (h1 : w.cell? ⟨b1, 0, none⟩ = some (.int .i64 s)) (h2 : w.cell? ⟨b2, 0, none⟩ = some (.slice a n cap)) (h3 : w.cell? ⟨b3, 0, none⟩ = some (.int .i64 limit)) (hm : RowsAt w.heap.size w a 1 (Ints come)) :
    Calls Try.prog 32 #[.int .i64 c, .pointer (some ⟨b1, 0, none⟩), .pointer (some ⟨b2, 0, none⟩), .pointer (some ⟨b3, 0, none⟩)] w fun e W' => e = .returned (.bool (fits c s come limit)) ∧ w = W' := by
  have Hn := Lib.hid hn; clear hn
  have Hm := Lib.hid hm; clear hm
  have hn16 : n ≤ 1000 := by rw [← Hn.out]; exact hC.1
  have HC := Lib.hid (And.intro hC hs); clear hC hs
  obtain ⟨hc0, hc1⟩ := hc
  go_enter Try.func32, Try.ntmps32
  go_wp2_with fail
  clear h1 h2
  go_loopw [6, 12] (fun l i wr => ∃ k : Nat, k ≤ n ∧ l = .int .i64 (lvl c s come k) ∧ i = .int .i64 k ∧ wr = w ∧ Hid (∀ j, j < k → lvl c s come j ≤ limit)) (fun _ i _ => n - (intOf i).toNat)
  case atStart => exact ⟨0, Nat.zero_le _, rfl, rfl, rfl, Lib.hid (fun j hj => by omega)⟩
  case round =>
    obtain ⟨k, hk, rfl, rfl, rfl, HL⟩ := hrel
    obtain ⟨v0, v1⟩ := lvl_le (c := c) HC.out.1 hc0 HC.out.2 k (by rw [Hn.out]; exact hk)
    by_cases hlt : k < n
    · obtain ⟨b, off, rfl, _, hx⟩ := ints_at Hm.out k (by rw [Hn.out]; exact hlt)
      obtain ⟨x0, x1⟩ := HC.out.1.2 k (by rw [Hn.out]; exact hlt)
      have hnx : lvl c s come (k + 1) = max 0 (lvl c s come k + come.getD k default - c) := rfl
      have hF : limit < lvl c s come k → fits c s come limit = false := fits_not (by rw [Hn.out]; exact hk)
      have hL : lvl c s come k ≤ limit → ∀ j, j < k + 1 → lvl c s come j ≤ limit := by
        intro h j hj
        by_cases e : j = k
        · rw [e]; exact h
        · exact HL.out j (by omega)
      generalize come.getD k default = x at hx x0 x1 hnx
      generalize lvl c s come k = v at v0 v1 hnx hF hL ⊢
      have hmx : (if c < v + x then v + x - c else 0) = lvl c s come (k + 1) := by rw [hnx]; split <;> omega
      have hw1 : IntKind.i64.wrap (v + x) = v + x := IntWalk.i64_in _ (by omega)
      have hw2 : IntKind.i64.wrap (v + x - c) = v + x - c := IntWalk.i64_in _ (by omega)
      clear hnx
      have Hmx := Lib.hid hmx
      clear hmx
      by_cases hgt : limit < v
      · have HF := Lib.hid (hF hgt)
        clear hF hL
        go_wp2_with fail
        go_ret
        exact ⟨by rw [HF.out]; rfl, rfl⟩
      · have HL' := Lib.hid (hL (by omega))
        clear hF hL
        go_wp2_with fail
        go_roundw
        case rel => exact ⟨k + 1, by omega, by rw [Hmx.out], by go_num, trivial, HL'⟩
        case measure => simp [intOf]; omega
    · have hk2 : k = n := by omega
      subst hk2
      have hF : decide (lvl c s come k ≤ limit) = fits c s come limit := by
        by_cases h : lvl c s come k ≤ limit
        · rw [decide_eq_true h]
          refine (fits_iff.2 fun j hj => ?_).symm
          by_cases e : j = k
          · rw [e]; exact h
          · exact HL.out j (by rw [Hn.out] at hj; omega)
        · rw [decide_eq_false h]
          exact (fits_not (by rw [Hn.out]; omega) (by omega)).symm
      have HF := Lib.hid hF
      clear hF
      go_wp2_with fail
      go_ret
      exact ⟨by rw [← HF.out]; rfl, rfl⟩

/-- The least number below N with the property; N: none. -/
def leastOf (p : Int → Bool) (N : Nat) : Nat := ((List.range N).find? fun (i : Nat) => p i).getD N
theorem leastOf_eq {p : Int → Bool} {N s : Nat} (hm : ∀ c c' : Int, c ≤ c' → p c = true → p c' = true) (hs : s ≤ N) (h1 : ∀ t : Nat, s = t + 1 → p t = false) (h2 : s < N → p s = true) : leastOf p N = s := by
  have hno : ∀ t : Nat, t < s → p t = false := by
    intro t ht
    cases hp : p t
    · rfl
    · have := hm t ((s - 1 : Nat) : Int) (by omega) hp
      rw [h1 (s - 1) (by omega)] at this
      cases this
  unfold leastOf
  by_cases h : s < N
  · have : (List.range N).find? (fun (i : Nat) => p i) = some s := by
      rw [List.find?_range_eq_some]
      refine ⟨h2 h, by simpa using h, fun j hj => by simpa using hno j hj⟩
    rw [this]
    rfl
  · have : (List.range N).find? (fun (i : Nat) => p i) = none := by
      rw [List.find?_eq_none]
      intro x hx
      simp at hx
      rw [hno x (by omega)]
      simp
    rw [this]
    simp
    omega
end Go.Proofs.Ytnpcafhmkjdhaaa
