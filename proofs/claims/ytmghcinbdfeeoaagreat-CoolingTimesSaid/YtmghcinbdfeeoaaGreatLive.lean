/- Chapter 15: live. -/
import Derived.Test.YtmghcinbdfeeoaaGreatExP
namespace Go.Proofs.YtmghcinbdfeeoaaGreat
open Go Go.RowKit
set_option linter.unusedSimpArgs false

set_option maxHeartbeats 4000000 in
theorem live_ok (w : World) : Calls Tryz.prog 5 #[] w fun e W' => e = .returned (.bool true) ∧ Below w.heap.size w W' := by
  go_enter Tryz.func5, Tryz.ntmps5
  go_wp2_with fail
  refine (site_made w).mono ?_
  rintro e A1 ⟨rfl, hs1, b⟩
  have HA1 := Lib.hid (And.intro hs1 b)
  clear hs1 b
  go_wp2_with fail
  refine (wish_made A1).mono ?_
  rintro e B1 ⟨rfl, hx1, b⟩
  have HB1 := Lib.hid (And.intro hx1 (And.intro (HA1.out.1.later b) (below_trans HA1.out.2 b)))
  clear hx1 b HA1
  go_wp2_with fail
  refine (world_made B1).mono ?_
  rintro e C1 ⟨wb1, wc1, rfl, hv1, b⟩
  have HC1 := Lib.hid (And.intro hv1 (And.intro (HB1.out.1.later b) (And.intro (HB1.out.2.1.later b) (below_trans HB1.out.2.2 b))))
  clear hv1 b HB1
  go_wp2_with fail
  refine (after_ok _ _ _ 0 0 2 C1 HC1.out.2.2.1 HC1.out.2.1 HC1.out.1).mono ?_
  rintro e D1 ⟨rfl, b⟩
  have HD1 := Lib.hid (below_trans HC1.out.2.2.2 b)
  clear b HC1
  rw [ex_aft2 _ _ _ _, ex_con2 _ _ _ _]
  go_wp2_with fail
  refine (site_made D1).mono ?_
  rintro e A2 ⟨rfl, hs2, b⟩
  have HA2 := Lib.hid (And.intro hs2 (below_trans HD1.out b))
  clear hs2 b
  go_wp2_with fail
  refine (wish_made A2).mono ?_
  rintro e B2 ⟨rfl, hx2, b⟩
  have HB2 := Lib.hid (And.intro hx2 (And.intro (HA2.out.1.later b) (below_trans HA2.out.2 b)))
  clear hx2 b HA2
  go_wp2_with fail
  refine (world_made B2).mono ?_
  rintro e C2 ⟨wb2, wc2, rfl, hv2, b⟩
  have HC2 := Lib.hid (And.intro hv2 (And.intro (HB2.out.1.later b) (And.intro (HB2.out.2.1.later b) (below_trans HB2.out.2.2 b))))
  clear hv2 b HB2
  go_wp2_with fail
  refine (longest_ok _ _ _ 0 0 200 C2 HC2.out.2.2.1 HC2.out.2.1 HC2.out.1).mono ?_
  rintro e D2 ⟨rfl, b⟩
  have HD2 := Lib.hid (below_trans HC2.out.2.2.2 b)
  clear b HC2
  rw [ex_lng _ _ _ _, ex_lngE _ _ _ _ (start := 0) (limit := 200) (by omega) (by decide)]
  go_wp2_with fail
  refine (site_made D2).mono ?_
  rintro e A3 ⟨rfl, hs3, b⟩
  have HA3 := Lib.hid (And.intro hs3 (below_trans HD2.out b))
  clear hs3 b
  go_wp2_with fail
  refine (wish_made A3).mono ?_
  rintro e B3 ⟨rfl, hx3, b⟩
  have HB3 := Lib.hid (And.intro hx3 (And.intro (HA3.out.1.later b) (below_trans HA3.out.2 b)))
  clear hx3 b HA3
  go_wp2_with fail
  refine (world_made B3).mono ?_
  rintro e C3 ⟨wb3, wc3, rfl, hv3, b⟩
  have HC3 := Lib.hid (And.intro hv3 (And.intro (HB3.out.1.later b) (And.intro (HB3.out.2.1.later b) (below_trans HB3.out.2.2 b))))
  clear hv3 b HB3
  go_wp2_with fail
  refine (heat_ok _ _ _ 0 C3 HC3.out.2.2.1 HC3.out.2.1 HC3.out.1).mono ?_
  rintro e D3 ⟨rfl, b⟩
  have HD3 := Lib.hid (below_trans HC3.out.2.2.2 b)
  clear b HC3
  rw [ex_heat _ _ _ _]
  go_wp2_with fail
  go_ret
  exact ⟨rfl, HD3.out⟩
end Go.Proofs.YtmghcinbdfeeoaaGreat
