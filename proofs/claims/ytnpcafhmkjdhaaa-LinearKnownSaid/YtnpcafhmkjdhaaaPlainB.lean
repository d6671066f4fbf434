/- Chapter 06: plain laws: the least Carry; the greatest of the sums. -/
import Derived.Test.YtnpcafhmkjdhaaaPlain
import Derived.Test.YtnpcafhmkjdhaaaLeast
import Derived.Test.YtnpcafhmkjdhaaaPeak
namespace Go.Proofs.Ytnpcafhmkjdhaaa
open Go Go.RowKit

theorem leastOf_spec (p : Int → Bool) (N : Nat) : (leastOf p N = N ∧ ∀ i : Nat, i < N → p i = false) ∨ (leastOf p N < N ∧ p (leastOf p N) = true ∧ ∀ t : Nat, t < leastOf p N → p t = false) := by
  unfold leastOf
  cases h : (List.range N).find? (fun (i : Nat) => p i) with
  | none =>
    left
    rw [List.find?_eq_none] at h
    refine ⟨rfl, fun i hi => ?_⟩
    have := h i (by simpa using hi)
    simpa using this
  | some s =>
    right
    rw [List.find?_range_eq_some] at h
    obtain ⟨h1, h2, h3⟩ := h
    simp at h2
    exact ⟨h2, h1, fun t ht => by simpa using h3 t ht⟩
theorem lvl_lev {c s : Int} {ps : List Prt} {ins : List (List Int)} {T : Nat} : ∀ k, k ≤ T → lvl c s (comes ps ins T) k = lev c ps ins s k
  | 0, _ => rfl
  | k + 1, hk => by
    simp only [lvl, lev]
    rw [lvl_lev k (by omega), comes_get (by omega)]
theorem fits_lev {c s limit : Int} {ps : List Prt} {ins : List (List Int)} {T : Nat} : fits c s (comes ps ins T) limit = true ↔ ∀ k, k ≤ T → lev c ps ins s k ≤ limit := by
  rw [fits_iff, comes_len]
  constructor
  · intro h k hk; rw [← lvl_lev k hk]; exact h k hk
  · intro h k hk; rw [lvl_lev k hk]; exact h k hk
theorem lev_falls {c s : Int} {ps : List Prt} {ins : List (List Int)} (h : ∀ t : Nat, arr ps ins t ≤ c) (hs : 0 ≤ s) : ∀ k, lev c ps ins s k ≤ s
  | 0 => by simp only [lev]; omega
  | k + 1 => by
    have := lev_falls h hs k
    have := h k
    simp only [lev]
    omega
theorem levs_mem {c s : Int} {ps : List Prt} {ins : List (List Int)} {T k : Nat} (h : k < (levs c ps ins s T).length) : (levs c ps ins s T).getD k default = lev c ps ins s k := by
  rw [levs_len] at h
  exact levs_get (by omega)
theorem topI_le {l : List Int} {L : Int} (h0 : 0 < l.length) (h : ∀ k, k < l.length → l.getD k default ≤ L) : topI l ≤ L := by
  have : ∀ k, k < l.length → topTo l k ≤ L := by
    intro k
    induction k with
    | zero => intro hk; exact h 0 hk
    | succ k ih => intro hk; have := ih (by omega); have := h (k + 1) hk; simp only [topTo]; omega
  exact this _ (by omega)
theorem getD_in {α : Type} [Inhabited α] {l : List α} {j : Nat} (h : j < l.length) : l.getD j default ∈ l := by
  rw [List.getD_eq_getElem?_getD, List.getElem?_eq_getElem h]
  exact List.getElem_mem _
theorem idxI_spec {α : Type} [Inhabited α] (p : α → Bool) (l : List α) : (idxI p l = -1 ∧ ∀ j, j < l.length → p (l.getD j default) = false) ∨ ∃ k : Nat, idxI p l = k ∧ k < l.length ∧ p (l.getD k default) = true ∧ ∀ j, j < k → p (l.getD j default) = false := by
  unfold idxI
  cases h : l.findIdx? p with
  | none =>
    left
    rw [List.findIdx?_eq_none_iff] at h
    exact ⟨rfl, fun j hj => h _ (getD_in hj)⟩
  | some i =>
    right
    rw [List.findIdx?_eq_some_iff_getElem] at h
    obtain ⟨hi, hp, hno⟩ := h
    refine ⟨i, rfl, hi, by simpa [List.getD, List.getElem?_eq_getElem hi] using hp, fun j hj => ?_⟩
    have hj2 : j < l.length := by omega
    simpa [List.getD, List.getElem?_eq_getElem hj2] using hno j hj

/-- What the law about Least asks for: c is Least's answer. -/
structure LeastOk (ps : List Prt) (ins : List (List Int)) (s : Int) (T : Nat) (limit : Int) (c : Int) : Prop where
  r : 0 ≤ c ∧ c ≤ 100000000
  none' : ∀ k, k ≤ T → lev c ps ins s k ≤ limit
  some' : c ≠ 0 → ∃ k, k ≤ T ∧ limit < lev (c - 1) ps ins s k
theorem least_spec {carry : Int} {ps : List Prt} {ins : List (List Int)} {s : Int} {T : Nat} {limit : Int} (he : askedE carry ps s ins T = 0) (ha : ∀ t : Nat, arr ps ins t ≤ 100000000) (hs : 0 ≤ s) (hl : s ≤ limit) :
    leastE carry ps ins s T limit = 0 ∧ LeastOk ps ins s T limit (leastV carry ps ins s T limit) := by
  have hT : ((T : Nat) : Int).toNat = T := rfl
  unfold leastE leastV
  rw [if_pos he, if_pos he, hT]
  have hfit : fits 100000000 s (comes ps ins T) limit = true := fits_lev.2 fun k _ => by have := lev_falls (c := 100000000) ha hs k; omega
  unfold leastN
  rcases leastOf_spec (fun c => fits c s (comes ps ins T) limit) 100000001 with ⟨_, h2⟩ | ⟨h1, h2, h3⟩
  · have := h2 100000000 (by omega)
    rw [show ((100000000 : Nat) : Int) = 100000000 from rfl, hfit] at this
    cases this
  · generalize leastOf (fun c => fits c s (comes ps ins T) limit) 100000001 = m at h1 h2 h3
    rw [if_neg (by omega), if_neg (by omega)]
    refine ⟨rfl, ⟨by omega, fits_lev.1 h2, fun h0 => ?_⟩⟩
    have h4 := h3 (m - 1) (by omega)
    rw [show ((m - 1 : Nat) : Int) = (m : Int) - 1 by omega] at h4
    apply Classical.byContradiction
    intro hn
    have : fits ((m : Int) - 1) s (comes ps ins T) limit = true := fits_lev.2 fun k hk => by
      by_cases hx : lev ((m : Int) - 1) ps ins s k ≤ limit
      · exact hx
      · exact absurd ⟨k, hk, by omega⟩ hn
    rw [this] at h4
    cases h4
theorem least_beyond {carry : Int} {ps : List Prt} {ins : List (List Int)} {s : Int} {T : Nat} {limit : Int} (he : askedE carry ps s ins T = 0) (hl : limit < s) : leastE carry ps ins s T limit = 7 := by
  have hT : ((T : Nat) : Int).toNat = T := rfl
  unfold leastE
  rw [if_pos he, hT]
  unfold leastN
  rcases leastOf_spec (fun c => fits c s (comes ps ins T) limit) 100000001 with ⟨h1, _⟩ | ⟨_, h2, _⟩
  · rw [h1]; rfl
  · have := fits_lev.1 h2 0 (Nat.zero_le _)
    simp only [lev] at this
    omega
theorem courseV_eq {c : Int} {ps : List Prt} {ins : List (List Int)} {s : Int} {T : Nat} (he : askedE c ps s ins T = 0) : courseV c ps ins s T = levs c ps ins s T := if_pos he
theorem first_none {c : Int} {ps : List Prt} {ins : List (List Int)} {s : Int} {T : Nat} {limit : Int} (he : askedE c ps s ins T = 0) (h : ∀ k, k ≤ T → lev c ps ins s k ≤ limit) : firstV c ps ins s T limit = -1 := by
  unfold firstV
  rw [if_pos he, courseV_eq he]
  refine idxI_none fun j hj => ?_
  rw [levs_mem hj]
  rw [levs_len] at hj
  have := h j (by omega)
  simpa using this
theorem peak_fits {c : Int} {ps : List Prt} {ins : List (List Int)} {s : Int} {T : Nat} {limit : Int} (he : askedE c ps s ins T = 0) (h : ∀ k, k ≤ T → lev c ps ins s k ≤ limit) : peakV c ps ins s T ≤ limit := by
  unfold peakV
  rw [if_pos he, courseV_eq he]
  refine topI_le (by rw [levs_len]; omega) fun k hk => ?_
  rw [levs_mem hk]
  rw [levs_len] at hk
  exact h k (by omega)
theorem first_some {c : Int} {ps : List Prt} {ins : List (List Int)} {s : Int} {T : Nat} {limit : Int} (he : askedE c ps s ins T = 0) (h : ∃ k, k ≤ T ∧ limit < lev c ps ins s k) :
    ∃ k : Nat, firstV c ps ins s T limit = k ∧ k ≤ T ∧ limit < lev c ps ins s k ∧ ∀ j, j < k → lev c ps ins s j ≤ limit := by
  obtain ⟨k0, hk0, hx⟩ := h
  unfold firstV
  rw [if_pos he, courseV_eq he]
  rcases idxI_spec (fun x => decide (limit < x)) (levs c ps ins s T) with ⟨_, h2⟩ | ⟨k, h1, h2, h3, h4⟩
  · have hl : k0 < (levs c ps ins s T).length := by rw [levs_len]; omega
    have := h2 k0 hl
    rw [levs_mem hl] at this
    simp at this
    omega
  · rw [levs_mem h2] at h3
    refine ⟨k, h1, by rw [levs_len] at h2; omega, by simpa using h3, fun j hj => ?_⟩
    have := h4 j hj
    rw [levs_mem (by omega)] at this
    simpa using this

/- The greatest of the sums -/
/-- The level m ticks after the tick i with level v. -/
def run (f : Nat → Int) (c : Int) : Nat → Int → Nat → Int
  | _, v, 0 => v
  | i, v, m + 1 => run f c (i + 1) (max 0 (v + f i - c)) m
theorem run_snoc (f : Nat → Int) (c : Int) : ∀ m i v, run f c i v (m + 1) = max 0 (run f c i v m + f (i + m) - c)
  | 0, i, v => rfl
  | m + 1, i, v => by
    rw [run, run_snoc f c m (i + 1), run]
    rw [show i + 1 + m = i + (m + 1) by omega]
theorem lev_run (c s : Int) (ps : List Prt) (ins : List (List Int)) : ∀ t, lev c ps ins s t = run (fun j => arr ps ins j) c 0 s t
  | 0 => rfl
  | t + 1 => by
    rw [run_snoc, ← lev_run c s ps ins t, lev, Nat.zero_add]
/-- Before the round of tick i - 1: best and sum for the tick t. -/
def Sums (f : Nat → Int) (c : Int) (t i : Nat) (best sum : Int) : Prop := i ≤ t ∧ sum ≤ best ∧ 0 ≤ best ∧ ∀ v, 0 ≤ v → run f c i v (t - i) = max best (v + sum)
theorem sums_start (f : Nat → Int) (c : Int) (t : Nat) : Sums f c t t 0 0 :=
  ⟨Nat.le_refl _, by omega, by omega, fun v hv => by rw [Nat.sub_self]; simp only [run]; omega⟩
theorem sums_step {f : Nat → Int} {c : Int} {t i : Nat} {best sum : Int} (h : Sums f c t (i + 1) best sum) : Sums f c t i (max best (sum + (f i - c))) (sum + (f i - c)) := by
  obtain ⟨h1, h2, h3, h4⟩ := h
  refine ⟨by omega, by omega, by omega, fun v hv => ?_⟩
  rw [show t - i = (t - (i + 1)) + 1 by omega, run, h4 _ (by omega)]
  omega
theorem sums_end {c s : Int} {ps : List Prt} {ins : List (List Int)} {t : Nat} {best sum : Int} (hs : 0 ≤ s) (h : Sums (fun j => arr ps ins j) c t 0 best sum) : lev c ps ins s t = max best (s + sum) := by
  rw [lev_run]
  exact h.2.2.2 s hs
end Go.Proofs.Ytnpcafhmkjdhaaa
