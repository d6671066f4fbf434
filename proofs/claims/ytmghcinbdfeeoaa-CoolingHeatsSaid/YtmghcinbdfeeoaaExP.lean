/- Chapter 15: what the example answers. -/
import Derived.Test.YtmghcinbdfeeoaaEx
import Derived.Test.YtmghcinbdfeeoaaLng
namespace Go.Proofs.Ytmghcinbdfeeoaa
open Go Go.RowKit

theorem ex_ok (b c d e : Nat) : worldOk (exSite b) (exWish c) (exWld d e) = true := by kernel_rfl
theorem ex_heat (b c d e : Nat) : heat (exSite b) (exWish c) (exWld d e) 0 = 400 := by kernel_rfl
theorem ex_heat1 (b c d e : Nat) : heat (exSite b) (exWish c) (exWld d e) 1 = 0 := by kernel_rfl
theorem ex_line (b : Nat) : lineE (exSite b) 0 = true := by kernel_rfl
theorem ex_line1 (b : Nat) : lineE (exSite b) 1 = false := by kernel_rfl
theorem ex_car (b : Nat) : lCar (exSite b) 0 = 250 := by kernel_rfl
theorem ex_ps (b : Nat) : lPs (exSite b) 0 = [⟨0, 1, 1⟩] := by kernel_rfl

theorem arr_ex (n : Nat) (g : Int) (t : Nat) : arr [⟨0, 1, 1⟩] [List.replicate n g] t = if 1 ≤ t ∧ t ≤ n then g else 0 := by
  unfold arr given
  simp only [List.foldl_cons, List.foldl_nil, List.length_cons, List.length_nil, List.getD_cons_zero, List.length_replicate, Int.toNat_zero]
  by_cases h : 1 ≤ t ∧ t ≤ n
  · rw [if_pos h, if_pos (by omega)]
    rw [List.getD_eq_getElem?_getD, List.getElem?_replicate, if_pos (by omega)]
    simp
  · rw [if_neg h, if_neg (by omega)]
    simp
theorem con_ok (b c d e : Nat) {start : Int} {n : Nat} (hs : 0 ≤ start ∧ start ≤ 1000000) (hn : n ≤ 1000) : conOk (exSite b) (exWish c) (exWld d e) 0 start n = true := by
  unfold conOk
  rw [ex_ok, inR_iff.2 hs, inR_iff.2 (show 0 ≤ (n : Int) ∧ (n : Int) ≤ 1000 by omega)]
  kernel_rfl
theorem ex_asked {start : Int} {n : Nat} (hs : 0 ≤ start ∧ start ≤ 1000000) (hn : n ≤ 1000) : askedE 250 [⟨0, 1, 1⟩] start [List.replicate n 400] n = 0 :=
  asked_of (by omega) (by simp) (by decide) (by omega) (by omega) (by simp) (by
    intro l hl
    simp only [List.mem_cons, List.not_mem_nil, or_false] at hl
    subst hl
    refine ⟨by simpa using hn, fun z hz => ?_⟩
    obtain ⟨_, rfl⟩ := List.mem_replicate.1 hz
    omega)
theorem ex_conE (b c d e : Nat) {start : Int} {n : Nat} (hs : 0 ≤ start ∧ start ≤ 1000000) (hn : n ≤ 1000) : conE (exSite b) (exWish c) (exWld d e) 0 start n = 0 := by
  unfold conE
  rw [if_pos (con_ok b c d e hs hn)]
  unfold couE
  rw [if_pos (ex_line b), ex_car, ex_ps, ex_heat, Int.toNat_natCast]
  exact ex_asked hs hn
theorem ex_conV (b c d e : Nat) {start : Int} {n : Nat} (hs : 0 ≤ start ∧ start ≤ 1000000) (hn : n ≤ 1000) : conV (exSite b) (exWish c) (exWld d e) 0 start n = levs 250 [⟨0, 1, 1⟩] [List.replicate n 400] start n := by
  unfold conV
  rw [if_pos (con_ok b c d e hs hn)]
  unfold couV
  rw [if_pos (ex_line b), ex_car, ex_ps, ex_heat, Int.toNat_natCast]
  unfold courseV
  rw [if_pos (ex_asked hs hn), Int.toNat_natCast]
theorem lev_ex (n : Nat) (start : Int) (k : Nat) : lev 250 [⟨0, 1, 1⟩] [List.replicate n 400] start (k + 1) = max 0 (lev 250 [⟨0, 1, 1⟩] [List.replicate n 400] start k + (if 1 ≤ k ∧ k ≤ n then 400 else 0) - 250) := by
  simp only [lev]
  rw [arr_ex]
theorem ex_aft (b c d e : Nat) {start : Int} {n : Nat} (hs : 0 ≤ start ∧ start ≤ 1000000) (hn : n ≤ 1000) : aftV (exSite b) (exWish c) (exWld d e) 0 start n = lev 250 [⟨0, 1, 1⟩] [List.replicate n 400] start n := by
  unfold aftV
  rw [if_pos (ex_conE b c d e hs hn), ex_conV b c d e hs hn, Int.toNat_natCast, levs_get (Nat.le_refl _)]
theorem ex_aft0 (b c d e : Nat) : aftV (exSite b) (exWish c) (exWld d e) 0 0 0 = 0 := by
  have := ex_aft b c d e (start := 0) (n := 0) (by omega) (by omega)
  exact this
theorem ex_aft1 (b c d e : Nat) : aftV (exSite b) (exWish c) (exWld d e) 0 0 1 = 0 := by
  have := ex_aft b c d e (start := 0) (n := 1) (by omega) (by omega)
  rw [lev_ex] at this
  exact this
theorem ex_aft2 (b c d e : Nat) : aftV (exSite b) (exWish c) (exWld d e) 0 0 2 = 150 := by
  have := ex_aft b c d e (start := 0) (n := 2) (by omega) (by omega)
  rw [lev_ex, lev_ex] at this
  exact this
theorem ex_aft3 (b c d e : Nat) : aftV (exSite b) (exWish c) (exWld d e) 0 0 3 = 300 := by
  have := ex_aft b c d e (start := 0) (n := 3) (by omega) (by omega)
  rw [lev_ex, lev_ex, lev_ex] at this
  exact this
theorem ex_aftB (b c d e : Nat) : aftV (exSite b) (exWish c) (exWld d e) 0 500 1 = 250 := by
  have := ex_aft b c d e (start := 500) (n := 1) (by omega) (by omega)
  rw [lev_ex] at this
  exact this
theorem ex_lngE (b c d e : Nat) {start limit : Int} (hs : 0 ≤ start ∧ start ≤ 1000000) (hl : inR limit 0 1000000 = true) : lngE (exSite b) (exWish c) (exWld d e) 0 start limit = 0 := by
  have this : conE (exSite b) (exWish c) (exWld d e) 0 start 1000 = 0 := ex_conE b c d e hs (n := 1000) (by omega)
  unfold lngE
  rw [if_pos this, if_pos hl]
theorem ex_lngN (b c d e : Nat) {start : Int} (hs : 0 ≤ start ∧ start ≤ 1000000) : lngE (exSite b) (exWish c) (exWld d e) 0 start (-1) = 1 := by
  have this : conE (exSite b) (exWish c) (exWld d e) 0 start 1000 = 0 := ex_conE b c d e hs (n := 1000) (by omega)
  unfold lngE
  rw [if_pos this, if_neg (by decide)]
theorem ex_lng (b c d e : Nat) : lngV (exSite b) (exWish c) (exWld d e) 0 0 200 = 2 := by
  have h1 := ex_lngE b c d e (start := 0) (limit := 200) (by omega) (by decide)
  have h2 : lngI (exSite b) (exWish c) (exWld d e) 0 0 200 = 3 := by
    unfold lngI
    rw [show (1000 : Int) = ((1000 : Nat) : Int) from rfl, ex_conV b c d e (by omega) (by omega)]
    have g : ∀ k, k ≤ 3 → (levs 250 [⟨0, 1, 1⟩] [List.replicate 1000 400] 0 1000).getD k default = lev 250 [⟨0, 1, 1⟩] [List.replicate 1000 400] 0 k := fun k hk => levs_get (by omega)
    have e0 : lev 250 [⟨0, 1, 1⟩] [List.replicate 1000 400] 0 0 = 0 := rfl
    have e1 : lev 250 [⟨0, 1, 1⟩] [List.replicate 1000 400] 0 1 = 0 := by rw [lev_ex, e0]; rfl
    have e2 : lev 250 [⟨0, 1, 1⟩] [List.replicate 1000 400] 0 2 = 150 := by rw [lev_ex, e1]; rfl
    have e3 : lev 250 [⟨0, 1, 1⟩] [List.replicate 1000 400] 0 3 = 300 := by rw [lev_ex, e2]; rfl
    refine idxI_found (k := 3) (by rw [levs_len]; omega) (by rw [g 3 (by omega), e3]; rfl) fun j hj => ?_
    match j, hj with
    | 0, _ => rw [g 0 (by omega), e0]; rfl
    | 1, _ => rw [g 1 (by omega), e1]; rfl
    | 2, _ => rw [g 2 (by omega), e2]; rfl
  unfold lngV
  rw [if_pos h1, h2]
  rfl
theorem ex_lngB (b c d e : Nat) : lngV (exSite b) (exWish c) (exWld d e) 0 300 200 = -1 := by
  have h1 := ex_lngE b c d e (start := 300) (limit := 200) (by omega) (by decide)
  have h2 : lngI (exSite b) (exWish c) (exWld d e) 0 300 200 = 0 := by
    unfold lngI
    rw [show (1000 : Int) = ((1000 : Nat) : Int) from rfl, ex_conV b c d e (by omega) (by omega)]
    exact idxI_found (k := 0) (by rw [levs_len]; omega) (by rw [levs_get (by omega)]; rfl) fun j hj => absurd hj (Nat.not_lt_zero _)
  unfold lngV
  rw [if_pos h1, h2]
  rfl
theorem ex_conL (b c d e : Nat) : conE (exSite b) (exWish c) (exWld d e) 1 0 0 = 1 := by kernel_rfl
theorem ex_conN (b c d e : Nat) : conE (exSite b) (exWish c) (exWld d e) 0 0 1001 = 1 := by kernel_rfl
theorem ex_con0 (b c d e : Nat) : conE (exSite b) (exWish c) (exWld d e) 0 0 0 = 0 := ex_conE b c d e (start := 0) (n := 0) (by omega) (by omega)
theorem ex_con1 (b c d e : Nat) : conE (exSite b) (exWish c) (exWld d e) 0 0 1 = 0 := ex_conE b c d e (start := 0) (n := 1) (by omega) (by omega)
theorem ex_con2 (b c d e : Nat) : conE (exSite b) (exWish c) (exWld d e) 0 0 2 = 0 := ex_conE b c d e (start := 0) (n := 2) (by omega) (by omega)
theorem ex_con3 (b c d e : Nat) : conE (exSite b) (exWish c) (exWld d e) 0 0 3 = 0 := ex_conE b c d e (start := 0) (n := 3) (by omega) (by omega)
theorem ex_conB (b c d e : Nat) : conE (exSite b) (exWish c) (exWld d e) 0 500 1 = 0 := ex_conE b c d e (start := 500) (n := 1) (by omega) (by omega)
end Go.Proofs.Ytmghcinbdfeeoaa
