/- Chapter 15: slices.Max, slices.Min at []int; site's small functions. -/
import Derived.Test.YthlefdbhkbpejaaGreatWorld
import Derived.Test.YthlefdbhkbpejaaGreatBase
namespace Go.Proofs.YthlefdbhkbpejaaGreat
open Go Go.RowKit

/-- The greatest of the first k + 1 numbers. -/
def topTo (l : List Int) : Nat → Int
  | 0 => l.getD 0 default
  | k + 1 => max (topTo l k) (l.getD (k + 1) default)
def topI (l : List Int) : Int := topTo l (l.length - 1)

set_option maxHeartbeats 1000000 in
theorem max_ok (a : Option Addr) (n cap : Nat) (xs : List Int) (w : World) (hn : xs.length = n) (h0 : 0 < n) (hl : n ≤ 9223372036854775807) (hm : RowsAt w.heap.size w a 1 (Ints xs)) :
    Calls Tryz.prog 102 #[.slice a n cap] w fun e W' => e = .returned (.int .i64 (topI xs)) ∧ Below w.heap.size w W' := by
  have Hn := Lib.hid hn; clear hn
  have Hm := Lib.hid hm; clear hm
  have hlt0 : ¬ n < 1 := by omega
  obtain ⟨b, off, rfl, _, hc0⟩ := ints_at Hm.out 0 (by rw [Hn.out]; exact h0)
  simp only [Nat.add_zero] at hc0
  have h00 : (0 : Int) < (n : Int) := by omega
  go_enter Tryz.func102, Tryz.ntmps102
  go_wp2_with fail
  clear hc0
  go_loopw [3, 4] (fun m i wr => ∃ (k : Nat), 1 ≤ k ∧ k ≤ n ∧ m = .int .i64 (topTo xs (k - 1)) ∧ i = .int .i64 k ∧ wr = w) (fun _ i _ => n - (intOf i).toNat)
  case atStart => exact ⟨1, by omega, by omega, rfl, rfl, rfl⟩
  case round =>
    obtain ⟨k, hk1, hk, rfl, rfl, rfl⟩ := hrel
    by_cases hlt : k < n
    · obtain ⟨b', off', he, _, p0⟩ := ints_at Hm.out k (by rw [Hn.out]; exact hlt)
      cases he
      have hs : topTo xs (k + 1 - 1) = max (topTo xs (k - 1)) (xs.getD k default) := by
        obtain ⟨j, rfl⟩ : ∃ j, k = j + 1 := ⟨k - 1, by omega⟩
        rfl
      have HS := Lib.hid hs; clear hs
      generalize hx : xs.getD k default = x at p0
      have HX := Lib.hid hx; clear hx
      generalize hv : topTo xs (k - 1) = v
      have HV := Lib.hid hv; clear hv
      have hltI : (k : Int) < (n : Int) := by omega
      have hmx : (if v < x then x else v) = max v x := by split <;> omega
      have Hmx := Lib.hid hmx
      clear hmx
      go_wp2_with fail
      go_roundw
      case rel => exact ⟨k + 1, by omega, by omega, by rw [HS.out, HX.out, HV.out, Hmx.out], by go_num, trivial⟩
      case measure => simp [intOf]; omega
    · have hk2 : k = n := by omega
      subst hk2
      have HE := Lib.hid (show topTo xs (k - 1) = topI xs by unfold topI; rw [Hn.out])
      go_wp2_with fail
      go_ret
      exact ⟨by rw [HE.out]; rfl, below_self _⟩

/-- The least of the first k + 1 numbers. -/
def botTo (l : List Int) : Nat → Int
  | 0 => l.getD 0 default
  | k + 1 => min (botTo l k) (l.getD (k + 1) default)
def botI (l : List Int) : Int := botTo l (l.length - 1)

set_option maxHeartbeats 1000000 in
theorem min_ok (a : Option Addr) (n cap : Nat) (xs : List Int) (w : World) (hn : xs.length = n) (h0 : 0 < n) (hl : n ≤ 9223372036854775807) (hm : RowsAt w.heap.size w a 1 (Ints xs)) :
    Calls Tryz.prog 101 #[.slice a n cap] w fun e W' => e = .returned (.int .i64 (botI xs)) ∧ Below w.heap.size w W' := by
  have Hn := Lib.hid hn; clear hn
  have Hm := Lib.hid hm; clear hm
  have hlt0 : ¬ n < 1 := by omega
  obtain ⟨b, off, rfl, _, hc0⟩ := ints_at Hm.out 0 (by rw [Hn.out]; exact h0)
  simp only [Nat.add_zero] at hc0
  have h00 : (0 : Int) < (n : Int) := by omega
  go_enter Tryz.func101, Tryz.ntmps101
  go_wp2_with fail
  clear hc0
  go_loopw [3, 4] (fun m i wr => ∃ (k : Nat), 1 ≤ k ∧ k ≤ n ∧ m = .int .i64 (botTo xs (k - 1)) ∧ i = .int .i64 k ∧ wr = w) (fun _ i _ => n - (intOf i).toNat)
  case atStart => exact ⟨1, by omega, by omega, rfl, rfl, rfl⟩
  case round =>
    obtain ⟨k, hk1, hk, rfl, rfl, rfl⟩ := hrel
    by_cases hlt : k < n
    · obtain ⟨b', off', he, _, p0⟩ := ints_at Hm.out k (by rw [Hn.out]; exact hlt)
      cases he
      have hs : botTo xs (k + 1 - 1) = min (botTo xs (k - 1)) (xs.getD k default) := by
        obtain ⟨j, rfl⟩ : ∃ j, k = j + 1 := ⟨k - 1, by omega⟩
        rfl
      have HS := Lib.hid hs; clear hs
      generalize hx : xs.getD k default = x at p0
      have HX := Lib.hid hx; clear hx
      generalize hv : botTo xs (k - 1) = v
      have HV := Lib.hid hv; clear hv
      have hltI : (k : Int) < (n : Int) := by omega
      have hmx : (if x < v then x else v) = min v x := by split <;> omega
      have Hmx := Lib.hid hmx
      clear hmx
      go_wp2_with fail
      go_roundw
      case rel => exact ⟨k + 1, by omega, by omega, by rw [HS.out, HX.out, HV.out, Hmx.out], by go_num, trivial⟩
      case measure => simp [intOf]; omega
    · have hk2 : k = n := by omega
      subst hk2
      have HE := Lib.hid (show botTo xs (k - 1) = botI xs by unfold botI; rw [Hn.out])
      go_wp2_with fail
      go_ret
      exact ⟨by rw [HE.out]; rfl, below_self _⟩


theorem top_one (x : Int) : topI [x] = x := rfl
theorem bot_one (x : Int) : botI [x] = x := rfl
theorem top_three (x y z : Int) : topI [x, y, z] = max (max x y) z := rfl
theorem bot_three (x y z : Int) : botI [x, y, z] = min (min x y) z := rfl
theorem numbers_ok (a : Option Addr) (n cap : Nat) (xs : List Int) (w : World) (hn : xs.length = n) (h0 : 0 < n) (hl : n ≤ 9223372036854775807) (hm : RowsAt w.heap.size w a 1 (Ints xs)) (r : Bool) (hr : r = (decide (0 ≤ botI xs) && decide (topI xs ≤ 1000000))) :
    Calls Tryz.prog 67 #[.slice a n cap] w fun e W' => e = .returned (.bool r) ∧ Below w.heap.size w W' := by
  have Hm := Lib.hid hm; clear hm
  by_cases hb : 0 ≤ botI xs
  · have hr2 : r = decide (topI xs ≤ 1000000) := by rw [hr, decide_eq_true hb, Bool.true_and]
    rw [hr2]
    clear hr hr2
    go_enter Tryz.func67, Tryz.ntmps67
    go_wp2_with fail
    refine (min_ok a n cap xs w hn h0 hl Hm.out).mono ?_
    rintro e W1 ⟨rfl, hb1⟩
    have B1 := Lib.hid hb1
    clear hb1
    go_wp2_with fail
    refine (max_ok a n cap xs W1 hn h0 hl (Hm.out.later B1.out)).mono ?_
    rintro e W2 ⟨rfl, hb2⟩
    have B2 := Lib.hid (below_trans B1.out hb2)
    clear hb2 B1
    obtain ⟨t, ht⟩ : ∃ t, topI xs = t := ⟨_, rfl⟩
    rw [ht]
    go_wp2_with fail
    go_ret
    exact ⟨by rw [ht]; rfl, B2.out⟩
  · have hr2 : r = false := by rw [hr, decide_eq_false hb, Bool.false_and]
    rw [hr2]
    clear hr hr2
    go_enter Tryz.func67, Tryz.ntmps67
    go_wp2_with fail
    refine (min_ok a n cap xs w hn h0 hl Hm.out).mono ?_
    rintro e W1 ⟨rfl, hb1⟩
    have B1 := Lib.hid hb1
    clear hb1
    generalize botI xs = t at hb
    go_wp2_with fail
    go_ret
    exact ⟨rfl, B1.out⟩
theorem index_ok (n len : Int) (w : World) : Calls Tryz.prog 69 #[.int .i64 n, .int .i64 len] w fun e W' => e = .returned (.bool (idx n len)) ∧ w = W' := by
  by_cases h1 : 0 ≤ n
  · have e : idx n len = decide (n < len) := by unfold idx; simp [h1]
    rw [e]
    clear e
    go_enter Tryz.func69, Tryz.ntmps69
    go_wp2_with fail
    go_ret
    exact ⟨rfl, rfl⟩
  · have e : idx n len = false := by unfold idx; simp [h1]
    rw [e]
    clear e
    go_enter Tryz.func69, Tryz.ntmps69
    go_wp2_with fail
    go_ret
    exact ⟨rfl, rfl⟩
theorem betw_site (n lo hi : Int) (w : World) : Calls Tryz.prog 71 #[.int .i64 n, .int .i64 lo, .int .i64 hi] w fun e W' => e = .returned (.bool (inR n lo hi)) ∧ w = W' := by
  by_cases h1 : lo ≤ n
  · have e : inR n lo hi = decide (n ≤ hi) := by unfold inR; simp [h1]
    rw [e]
    clear e
    go_enter Tryz.func71, Tryz.ntmps71
    go_wp2_with fail
    go_ret
    exact ⟨rfl, rfl⟩
  · have e : inR n lo hi = false := by unfold inR; simp [h1]
    rw [e]
    clear e
    go_enter Tryz.func71, Tryz.ntmps71
    go_wp2_with fail
    go_ret
    exact ⟨rfl, rfl⟩
end Go.Proofs.YthlefdbhkbpejaaGreat
