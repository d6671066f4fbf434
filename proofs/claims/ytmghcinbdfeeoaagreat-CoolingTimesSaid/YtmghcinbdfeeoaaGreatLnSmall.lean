/- Chapter 06: the program's small functions. -/
import Derived.Test.YtmghcinbdfeeoaaGreatLn
import Derived.Shelf.Abstract
import Derived.Shelf.RegionOpen
import Derived.RangeFuncBox
namespace Go.Proofs.YtmghcinbdfeeoaaGreat
open Go Go.RowKit

theorem to_ok (n hi : Int) (w : World) : Calls Tryz.prog 99 #[.int .i64 n, .int .i64 hi] w fun e W' => e = .returned (.bool (inR n 0 hi)) ∧ w = W' := by
  by_cases h1 : 0 ≤ n
  · by_cases h2 : n ≤ hi
    · rw [inR_iff.2 ⟨h1, h2⟩]
      go_enter Tryz.func99, Tryz.ntmps99
      go_wp2_with fail
      go_ret
      exact ⟨rfl, rfl⟩
    · rw [inR_not.2 (fun h => h2 h.2)]
      go_enter Tryz.func99, Tryz.ntmps99
      go_wp2_with fail
      go_ret
      exact ⟨rfl, rfl⟩
  · rw [inR_not.2 (fun h => h1 h.1)]
    go_enter Tryz.func99, Tryz.ntmps99
    go_wp2_with fail
    go_ret
    exact ⟨rfl, rfl⟩

theorem bad_ok (n : Int) (w : World) : Calls Tryz.prog 98 #[.int .i64 n] w fun e W' => e = .returned (.bool (!okX n)) ∧ w = W' := by
  go_enter Tryz.func98, Tryz.ntmps98
  go_wp2_with fail
  refine (to_ok _ _ _).mono ?_
  rintro e W' ⟨rfl, rfl⟩
  go_wp2_with fail
  go_ret
  exact ⟨rfl, rfl⟩

theorem partbad_ok (x : Prt) (w : World) : Calls Tryz.prog 108 #[x.val] w fun e W' => e = .returned (.bool (!okP x)) ∧ Below w.heap.size w W' := by
  cases h1 : inR x.src 0 15
  · have e : okP x = false := by unfold okP; rw [h1]; rfl
    rw [e]
    have H1 := Lib.hid h1
    clear h1 e
    go_enter Tryz.func108, Tryz.ntmps108
    go_wp2_with fail
    refine (to_ok _ _ _).mono ?_
    rintro e W' ⟨rfl, rfl⟩
    rw [H1.out]
    go_wp2_with fail
    go_ret
    exact ⟨rfl, below_alloc (below_self w) _⟩
  · cases h2 : inR x.times 0 1000
    · have e : okP x = false := by unfold okP; rw [h1, h2]; rfl
      rw [e]
      have H1 := Lib.hid h1
      have H2 := Lib.hid h2
      clear h1 h2 e
      go_enter Tryz.func108, Tryz.ntmps108
      go_wp2_with fail
      refine (to_ok _ _ _).mono ?_
      rintro e W' ⟨rfl, rfl⟩
      rw [H1.out]
      go_wp2_with fail
      refine (to_ok _ _ _).mono ?_
      rintro e W' ⟨rfl, rfl⟩
      rw [H2.out]
      go_wp2_with fail
      go_ret
      exact ⟨rfl, below_alloc (below_self w) _⟩
    · have e : okP x = inR x.delay 0 1000 := by unfold okP; rw [h1, h2]; rfl
      rw [e]
      have H1 := Lib.hid h1
      have H2 := Lib.hid h2
      clear h1 h2 e
      go_enter Tryz.func108, Tryz.ntmps108
      go_wp2_with fail
      refine (to_ok _ _ _).mono ?_
      rintro e W' ⟨rfl, rfl⟩
      rw [H1.out]
      go_wp2_with fail
      refine (to_ok _ _ _).mono ?_
      rintro e W' ⟨rfl, rfl⟩
      rw [H2.out]
      go_wp2_with fail
      refine (to_ok _ _ _).mono ?_
      rintro e W' ⟨rfl, rfl⟩
      go_wp2_with fail
      go_ret
      exact ⟨rfl, below_alloc (below_self w) _⟩

theorem any_not_all {α : Type} (p : α → Bool) (l : List α) : l.any (fun x => !p x) = !(l.all p) := by
  induction l with
  | nil => rfl
  | cons x xs ih => simp only [List.any_cons, List.all_cons, ih, Bool.not_and]

theorem valid_ok (carry : Int) (a : Option Addr) (n cap : Nat) (ps : List Prt) (w : World) (hn : ps.length = n) (hl : n ≤ 9223372036854775807) (hm : RowsAt w.heap.size w a 3 (Prts ps)) :
    Calls Tryz.prog 100 #[.agg #[.int .i64 carry, .slice a n cap]] w fun e W' => e = .returned (.bool (okL carry ps)) ∧ Below w.heap.size w W' := by
  have Hm := Lib.hid hm; clear hm
  have Hn := Lib.hid hn
  cases h1 : inR carry 0 100000000
  · have e : okL carry ps = false := by unfold okL; rw [h1]; rfl
    rw [e]
    have H1 := Lib.hid h1
    clear h1 e hn
    go_enter Tryz.func100, Tryz.ntmps100
    go_wp2_with fail
    refine (to_ok _ _ _).mono ?_
    rintro e W' ⟨rfl, rfl⟩
    rw [H1.out]
    go_wp2_with fail
    go_ret
    exact ⟨rfl, below_alloc (below_self w) _⟩
  · have H1 := Lib.hid h1
    by_cases h2 : n ≤ 16
    · have e : okL carry ps = !(ps.any fun x => !okP x) := by unfold okL; rw [h1, hn, decide_eq_true h2, any_not_all, Bool.not_not]; rfl
      rw [e]
      clear h1 e hn
      go_enter Tryz.func100, Tryz.ntmps100
      go_wp2_with fail
      refine (to_ok _ _ _).mono ?_
      rintro e W' ⟨rfl, rfl⟩
      rw [H1.out]
      go_wp2_with fail
      have b1 := below_alloc (below_self w) (.cells #[.int .i64 carry, .slice a n cap] 80)
      refine (containsP_ok 108 #[] (fun x => !okP x) a n cap ps _ Hn.out hl (Hm.out.later b1)
        (fun W x _ => partbad_ok x W) (enters_of Tryz.func108 (by kernel_rfl) rfl)).mono ?_
      rintro e W2 ⟨rfl, hb2⟩
      have HB := Lib.hid (below_trans b1 hb2)
      clear b1 hb2
      go_wp2_with fail
      go_ret
      exact ⟨rfl, HB.out⟩
    · have e : okL carry ps = false := by unfold okL; rw [h1, hn, decide_eq_false h2]; rfl
      rw [e]
      clear h1 e hn
      go_enter Tryz.func100, Tryz.ntmps100
      go_wp2_with fail
      refine (to_ok _ _ _).mono ?_
      rintro e W' ⟨rfl, rfl⟩
      rw [H1.out]
      go_wp2_with fail
      go_ret
      exact ⟨rfl, below_alloc (below_self w) _⟩
end Go.Proofs.YtmghcinbdfeeoaaGreat
