/- Chapter 07: the program's small functions. -/
import Derived.Test.YtojpbmaojbejjaaBk
namespace Go.Proofs.Ytojpbmaojbejjaa
open Go Go.RowKit

theorem within_ok (n lo hi : Int) (w : World) : Calls Try.prog 41 #[.int .i64 n, .int .i64 lo, .int .i64 hi] w fun e W' => e = .returned (.bool (inR n lo hi)) ∧ w = W' := by
  by_cases h1 : lo ≤ n
  · by_cases h2 : n ≤ hi
    · have e : inR n lo hi = true := inR_iff.2 ⟨h1, h2⟩
      rw [e]; clear e
      go_enter Try.func41, Try.ntmps41
      go_wp2_with fail
      go_ret
      exact ⟨rfl, rfl⟩
    · have e : inR n lo hi = false := inR_not.2 (fun h => h2 h.2)
      rw [e]; clear e
      go_enter Try.func41, Try.ntmps41
      go_wp2_with fail
      go_ret
      exact ⟨rfl, rfl⟩
  · have e : inR n lo hi = false := inR_not.2 (fun h => h1 h.1)
    rw [e]; clear e
    go_enter Try.func41, Try.ntmps41
    go_wp2_with fail
    go_ret
    exact ⟨rfl, rfl⟩

theorem load_ok (n : Int) (w : World) : Calls Try.prog 45 #[.int .i64 n] w fun e W' => e = .returned (.bool (okW n)) ∧ w = W' := by
  go_enter Try.func45, Try.ntmps45
  go_wp2_with fail
  refine (within_ok _ _ _ _).mono ?_
  rintro e W' ⟨rfl, rfl⟩
  go_wp2_with fail
  go_ret
  exact ⟨rfl, rfl⟩

theorem bad_ok (n : Int) (w : World) : Calls Try.prog 44 #[.int .i64 n] w fun e W' => e = .returned (.bool (!okW n)) ∧ w = W' := by
  go_enter Try.func44, Try.ntmps44
  go_wp2_with fail
  refine (load_ok _ _).mono ?_
  rintro e W' ⟨rfl, rfl⟩
  go_wp2_with fail
  go_ret
  exact ⟨rfl, rfl⟩

theorem valid_ok (b : Brk) (w : World) : Calls Try.prog 22 #[b.val] w fun e W' => e = .returned (.bool (okB b)) ∧ w.alloc (.cells b.cells.toArray 23) = W' := by
  cases h1 : inR b.limit 0 1000000
  · have e : okB b = false := by unfold okB; rw [h1]; rfl
    rw [e]; clear e
    have H1 := Lib.hid h1; clear h1
    go_enter Try.func22, Try.ntmps22
    go_wp2_with fail
    refine (within_ok _ _ _ _).mono ?_
    rintro e W' ⟨rfl, rfl⟩
    rw [H1.out]
    go_wp2_with fail
    go_ret
    exact ⟨rfl, rfl⟩
  · cases h2 : inR b.slow 0 1000000
    · have e : okB b = false := by unfold okB; rw [h1, h2]; rfl
      rw [e]; clear e
      have H1 := Lib.hid h1; clear h1
      have H2 := Lib.hid h2; clear h2
      go_enter Try.func22, Try.ntmps22
      go_wp2_with fail
      refine (within_ok _ _ _ _).mono ?_
      rintro e W' ⟨rfl, rfl⟩
      rw [H1.out]
      go_wp2_with fail
      refine (within_ok _ _ _ _).mono ?_
      rintro e W' ⟨rfl, rfl⟩
      rw [H2.out]
      go_wp2_with fail
      go_ret
      exact ⟨rfl, rfl⟩
    · have e : okB b = inR b.fast b.limit 1000000 := by unfold okB; rw [h1, h2]; rfl
      rw [e]; clear e
      have H1 := Lib.hid h1; clear h1
      have H2 := Lib.hid h2; clear h2
      go_enter Try.func22, Try.ntmps22
      go_wp2_with fail
      refine (within_ok _ _ _ _).mono ?_
      rintro e W' ⟨rfl, rfl⟩
      rw [H1.out]
      go_wp2_with fail
      refine (within_ok _ _ _ _).mono ?_
      rintro e W' ⟨rfl, rfl⟩
      rw [H2.out]
      go_wp2_with fail
      refine (within_ok _ _ _ _).mono ?_
      rintro e W' ⟨rfl, rfl⟩
      go_wp2_with fail
      go_ret
      exact ⟨rfl, rfl⟩

theorem proper_ok (b : Brk) (s : BSt) (w : World) : Calls Try.prog 42 #[b.val, s.val] w fun e W' => e = .returned (.bool (okS b s)) ∧ Below w.heap.size w W' := by
  obtain ⟨heat, trip⟩ := s
  cases hv : okB b
  · have e : okS b ⟨heat, trip⟩ = false := by unfold okS; rw [hv]; rfl
    rw [e]; clear e
    have HV := Lib.hid hv; clear hv
    cases trip
    all_goals
      go_enter Try.func42, Try.ntmps42
      go_wp2_with fail
      refine (valid_ok _ _).mono ?_
      rintro e W' ⟨rfl, rfl⟩
      rw [HV.out]
      go_wp2_with fail
      go_ret
      exact ⟨rfl, below_alloc (below_alloc (below_alloc (below_self w) _) _) _⟩
  · have HV := Lib.hid hv
    cases trip
    · have e : okS b ⟨heat, false⟩ = inR heat 0 b.slow := by unfold okS mostOf; rw [hv]; rfl
      rw [e]; clear e hv
      go_enter Try.func42, Try.ntmps42
      go_wp2_with fail
      refine (valid_ok _ _).mono ?_
      rintro e W' ⟨rfl, rfl⟩
      rw [HV.out]
      go_wp2_with fail
      refine (within_ok _ _ _ _).mono ?_
      rintro e W' ⟨rfl, rfl⟩
      go_wp2_with fail
      go_ret
      exact ⟨rfl, below_alloc (below_alloc (below_alloc (below_self w) _) _) _⟩
    · have e : okS b ⟨heat, true⟩ = inR heat 0 100000000 := by unfold okS mostOf; rw [hv]; rfl
      rw [e]; clear e hv
      go_enter Try.func42, Try.ntmps42
      go_wp2_with fail
      refine (valid_ok _ _).mono ?_
      rintro e W' ⟨rfl, rfl⟩
      rw [HV.out]
      go_wp2_with fail
      refine (within_ok _ _ _ _).mono ?_
      rintro e W' ⟨rfl, rfl⟩
      go_wp2_with fail
      go_ret
      exact ⟨rfl, below_alloc (below_alloc (below_alloc (below_self w) _) _) _⟩

theorem steady_ok (b : Brk) (h x : Int) (w : World) : Calls Try.prog 38 #[b.val, .int .i64 h, .int .i64 x] w fun e W' => e = .returned (.int .i64 (steadyE b h x)) ∧ Below w.heap.size w W' := by
  cases hv : okB b
  · have e : steadyE b h x = 1 := by unfold steadyE; rw [hv]; rfl
    rw [e]; clear e
    have HV := Lib.hid hv; clear hv
    go_enter Try.func38, Try.ntmps38
    go_wp2_with fail
    refine (valid_ok _ _).mono ?_
    rintro e W' ⟨rfl, rfl⟩
    rw [HV.out]
    go_wp2_with fail
    go_ret
    exact ⟨rfl, below_alloc (below_alloc (below_self w) _) _⟩
  · have HV := Lib.hid hv
    cases hh : inR h 0 b.slow
    · have e : steadyE b h x = 2 := by unfold steadyE; rw [hv, hh]; rfl
      rw [e]; clear e hv
      have HH := Lib.hid hh; clear hh
      go_enter Try.func38, Try.ntmps38
      go_wp2_with fail
      refine (valid_ok _ _).mono ?_
      rintro e W' ⟨rfl, rfl⟩
      rw [HV.out]
      go_wp2_with fail
      refine (within_ok _ _ _ _).mono ?_
      rintro e W' ⟨rfl, rfl⟩
      rw [HH.out]
      go_wp2_with fail
      go_ret
      exact ⟨rfl, below_alloc (below_alloc (below_self w) _) _⟩
    · have HH := Lib.hid hh
      cases hx : okW x
      · have e : steadyE b h x = 2 := by unfold steadyE; rw [hv, hh, hx]; rfl
        rw [e]; clear e hv hh
        have HX := Lib.hid hx; clear hx
        go_enter Try.func38, Try.ntmps38
        go_wp2_with fail
        refine (valid_ok _ _).mono ?_
        rintro e W' ⟨rfl, rfl⟩
        rw [HV.out]
        go_wp2_with fail
        refine (within_ok _ _ _ _).mono ?_
        rintro e W' ⟨rfl, rfl⟩
        rw [HH.out]
        go_wp2_with fail
        refine (load_ok _ _).mono ?_
        rintro e W' ⟨rfl, rfl⟩
        rw [HX.out]
        go_wp2_with fail
        go_ret
        exact ⟨rfl, below_alloc (below_alloc (below_self w) _) _⟩
      · have e : steadyE b h x = 0 := by unfold steadyE; rw [hv, hh, hx]; rfl
        rw [e]; clear e hv hh
        have HX := Lib.hid hx; clear hx
        go_enter Try.func38, Try.ntmps38
        go_wp2_with fail
        refine (valid_ok _ _).mono ?_
        rintro e W' ⟨rfl, rfl⟩
        rw [HV.out]
        go_wp2_with fail
        refine (within_ok _ _ _ _).mono ?_
        rintro e W' ⟨rfl, rfl⟩
        rw [HH.out]
        go_wp2_with fail
        refine (load_ok _ _).mono ?_
        rintro e W' ⟨rfl, rfl⟩
        rw [HX.out]
        go_wp2_with fail
        go_ret
        exact ⟨rfl, below_alloc (below_alloc (below_self w) _) _⟩
end Go.Proofs.Ytojpbmaojbejjaa
