/- Chapter 15: world's small functions. -/
import Derived.Test.YtmghcinbdfeeoaaGreatSiteC
import Derived.Deep.RegionHeld3
namespace Go.Proofs.YtmghcinbdfeeoaaGreat
open Go Go.RowKit

theorem betw_world (n lo hi : Int) (w : World) : Calls Tryz.prog 36 #[.int .i64 n, .int .i64 lo, .int .i64 hi] w fun e W' => e = .returned (.bool (inR n lo hi)) ∧ w = W' := by
  by_cases h1 : lo ≤ n
  · have e : inR n lo hi = decide (n ≤ hi) := by unfold inR; simp [h1]
    rw [e]
    clear e
    go_enter Tryz.func36, Tryz.ntmps36
    go_wp2_with fail
    go_ret
    exact ⟨rfl, rfl⟩
  · have e : inR n lo hi = false := by unfold inR; simp [h1]
    rw [e]
    clear e
    go_enter Tryz.func36, Tryz.ntmps36
    go_wp2_with fail
    go_ret
    exact ⟨rfl, rfl⟩
theorem spread_ok (x : Svc) (w : World) : Calls Tryz.prog 69 #[x.val] w fun e W' => e = .returned (.bool (spreadOk x)) ∧ Below w.heap.size w W' := by
  by_cases h0 : x.dom = 0
  · have HE := Lib.hid (show spreadOk x = decide (x.spread = 0) by unfold spreadOk; rw [if_pos h0])
    have hb : (x.dom == 0) = true := by simpa using h0
    clear h0
    go_enter Tryz.func69, Tryz.ntmps69
    go_wp2_with fail
    go_ret
    exact ⟨by rw [HE.out]; by_cases h : x.spread = 0 <;> simp [h], below_alloc (below_self w) _⟩
  · have hb : (x.dom == 0) = false := by simpa using h0
    by_cases h5 : x.dom ≤ 5
    · have HE := Lib.hid (show spreadOk x = inR x.spread 1 24 by unfold spreadOk; rw [if_neg h0, decide_eq_true h5, Bool.true_and])
      clear h0
      go_enter Tryz.func69, Tryz.ntmps69
      go_wp2_with fail
      refine (betw_world x.spread 1 24 _).mono ?_
      rintro e V ⟨rfl, rfl⟩
      obtain ⟨r, hr⟩ : ∃ r, inR x.spread 1 24 = r := ⟨_, rfl⟩
      rw [hr]
      have HR := Lib.hid hr
      clear hr
      go_wp2_with fail
      go_ret
      exact ⟨by rw [HE.out, HR.out]; rfl, below_alloc (below_self w) _⟩
    · have HE := Lib.hid (show spreadOk x = false by unfold spreadOk; rw [if_neg h0, decide_eq_false h5, Bool.false_and])
      clear h0
      go_enter Tryz.func69, Tryz.ntmps69
      go_wp2_with fail
      go_ret
      exact ⟨by rw [HE.out]; rfl, below_alloc (below_self w) _⟩
theorem nan_ok (n : Int) (w : World) : Calls Tryz.prog 106 #[.int .i64 n] w fun e W' => e = .returned (.bool false) ∧ w = W' := by
  go_enter Tryz.func106, Tryz.ntmps106
  go_wp2_with fail
  go_ret
  exact ⟨by simp, rfl⟩
def cmpI (a b : Int) : Int := if a < b then -1 else if b < a then 1 else 0
theorem compare_ok (a b : Int) (w : World) : Calls Tryz.prog 96 #[.int .i64 a, .int .i64 b] w fun e W' => e = .returned (.int .i64 (cmpI a b)) ∧ w = W' := by
  by_cases h1 : a < b
  · have HE := Lib.hid (show cmpI a b = -1 from if_pos h1)
    go_enter Tryz.func96, Tryz.ntmps96
    go_wp2_with fail
    refine (nan_ok a w).mono ?_
    rintro e V ⟨rfl, rfl⟩
    go_wp2_with fail
    refine (nan_ok b w).mono ?_
    rintro e V ⟨rfl, rfl⟩
    go_wp2_with fail
    go_ret
    exact ⟨by rw [HE.out]; rfl, rfl⟩
  · by_cases h2 : b < a
    · have HE := Lib.hid (show cmpI a b = 1 by unfold cmpI; rw [if_neg h1, if_pos h2])
      go_enter Tryz.func96, Tryz.ntmps96
      go_wp2_with fail
      refine (nan_ok a w).mono ?_
      rintro e V ⟨rfl, rfl⟩
      go_wp2_with fail
      refine (nan_ok b w).mono ?_
      rintro e V ⟨rfl, rfl⟩
      go_wp2_with fail
      go_ret
      exact ⟨by rw [HE.out]; rfl, rfl⟩
    · have HE := Lib.hid (show cmpI a b = 0 by unfold cmpI; rw [if_neg h1, if_neg h2])
      go_enter Tryz.func96, Tryz.ntmps96
      go_wp2_with fail
      refine (nan_ok a w).mono ?_
      rintro e V ⟨rfl, rfl⟩
      go_wp2_with fail
      refine (nan_ok b w).mono ?_
      rintro e V ⟨rfl, rfl⟩
      go_wp2_with fail
      go_ret
      exact ⟨by rw [HE.out]; rfl, rfl⟩
def orI (x y : Int) : Int := if x = 0 then y else x
set_option maxHeartbeats 1000000 in
theorem or_ok (g : Nat) (x y : Int) (w : World) (hg : w.heap[g]? = some (.cells #[.int .i64 x, .int .i64 y] 3 (0, 0))) : Calls Tryz.prog 95 #[.slice (some ⟨g, 0, none⟩) 2 2] w fun e W' => e = .returned (.int .i64 (orI x y)) ∧ w = W' := by
  have c0 := blk_cell hg 0
  have c1 := blk_cell hg 1
  simp at c0 c1
  clear hg
  by_cases h1 : x = 0
  · have HE := Lib.hid (show orI x y = y from if_pos h1)
    subst h1
    by_cases h2 : y = 0
    · have hb : (y != 0) = false := by simpa using h2
      have HY := Lib.hid h2
      clear h2
      go_enter Tryz.func95, Tryz.ntmps95
      go_wp2_with fail
      refine wp_loop_rounds 3 ?_
      rw [rounds_succ]; go_wp2_with fail
      rw [rounds_succ]; go_wp2_with fail
      rw [rounds_succ]; go_wp2_with fail
      go_ret
      exact ⟨by rw [HE.out, HY.out]; rfl, rfl⟩
    · have hb : (y != 0) = true := by simpa using h2
      clear h2
      go_enter Tryz.func95, Tryz.ntmps95
      go_wp2_with fail
      refine wp_loop_rounds 3 ?_
      rw [rounds_succ]; go_wp2_with fail
      rw [rounds_succ]; go_wp2_with fail
      go_ret
      exact ⟨by rw [HE.out]; rfl, rfl⟩
  · have HE := Lib.hid (show orI x y = x from if_neg h1)
    have hb : (x != 0) = true := by simpa using h1
    clear h1
    go_enter Tryz.func95, Tryz.ntmps95
    go_wp2_with fail
    refine wp_loop_rounds 3 ?_
    rw [rounds_succ]; go_wp2_with fail
    go_ret
    exact ⟨by rw [HE.out]; rfl, rfl⟩
end Go.Proofs.YtmghcinbdfeeoaaGreat
