/- Chapter 14: what the example answers; live (written by wip/gen14live.py). -/
import Derived.Test.YthlefdbhkbpejaaGreatEx
import Derived.Test.YthlefdbhkbpejaaGreatCar
import Derived.Test.YthlefdbhkbpejaaGreatBrs
namespace Go.Proofs.YthlefdbhkbpejaaGreat
open Go Go.RowKit F5
set_option linter.unusedSimpArgs false

theorem ex_ok (b c d e : Nat) : worldOk (exSite b) (exWish c) (exWld d e) = true := by kernel_rfl
theorem ex_watts (b c d e : Nat) : wattsN (exSite b) (exWish c) (exWld d e) 0 = 200 := by kernel_rfl
theorem ex_feed (b c d e : Nat) : ofFeed (exSite b) (exWish c) (exWld d e) 0 = 400 := by kernel_rfl
theorem ex_car (b c d e : Nat) : carV (exSite b) (exWish c) (exWld d e) = 300 := by kernel_rfl
theorem ex_bear (b c d e : Nat) : bearV (exSite b) (exWish c) (exWld d e) 0 = -1 := by kernel_rfl

set_option maxHeartbeats 4000000 in
theorem live_ok (w : World) : Calls Tryz.prog 6 #[] w fun e W' => e = .returned (.bool true) ∧ Below w.heap.size w W' := by
  go_enter Tryz.func6, Tryz.ntmps6
  go_wp2_with fail
  refine (site_made w).mono ?_
  rintro e A1 ⟨rfl, hs1, b⟩
  have HA1 := Lib.hid (And.intro hs1 b)
  clear hs1 b
  go_wp2_with fail
  refine (wish_made A1).mono ?_
  rintro e B1 ⟨rfl, hx1, b⟩
  have HB1 := Lib.hid (And.intro hx1 (And.intro (HA1.out.1.later b) (below_trans HA1.out.2 b)))
  clear hx1 b HA1
  go_wp2_with fail
  refine (world_made B1).mono ?_
  rintro e C1 ⟨wb1, wc1, rfl, hv1, b⟩
  have HC1 := Lib.hid (And.intro hv1 (And.intro (HB1.out.1.later b) (And.intro (HB1.out.2.1.later b) (below_trans HB1.out.2.2 b))))
  clear hv1 b HB1
  go_wp2_with fail
  refine (watts0_ok _ _ _ 0 C1 HC1.out.2.2.1 HC1.out.2.1 HC1.out.1).mono ?_
  rintro e D1 ⟨rfl, b⟩
  have HD1 := Lib.hid (below_trans HC1.out.2.2.2 b)
  clear b HC1
  rw [ex_watts _ _ _ _]
  go_wp2_with fail
  refine (site_made D1).mono ?_
  rintro e A2 ⟨rfl, hs2, b⟩
  have HA2 := Lib.hid (And.intro hs2 (below_trans HD1.out b))
  clear hs2 b
  go_wp2_with fail
  refine (wish_made A2).mono ?_
  rintro e B2 ⟨rfl, hx2, b⟩
  have HB2 := Lib.hid (And.intro hx2 (And.intro (HA2.out.1.later b) (below_trans HA2.out.2 b)))
  clear hx2 b HA2
  go_wp2_with fail
  refine (world_made B2).mono ?_
  rintro e C2 ⟨wb2, wc2, rfl, hv2, b⟩
  have HC2 := Lib.hid (And.intro hv2 (And.intro (HB2.out.1.later b) (And.intro (HB2.out.2.1.later b) (below_trans HB2.out.2.2 b))))
  clear hv2 b HB2
  go_wp2_with fail
  refine (feed_ok _ _ _ 0 C2 HC2.out.2.2.1 HC2.out.2.1 HC2.out.1).mono ?_
  rintro e D2 ⟨rfl, b⟩
  have HD2 := Lib.hid (below_trans HC2.out.2.2.2 b)
  clear b HC2
  rw [ex_feed _ _ _ _]
  go_wp2_with fail
  refine (site_made D2).mono ?_
  rintro e A3 ⟨rfl, hs3, b⟩
  have HA3 := Lib.hid (And.intro hs3 (below_trans HD2.out b))
  clear hs3 b
  go_wp2_with fail
  refine (wish_made A3).mono ?_
  rintro e B3 ⟨rfl, hx3, b⟩
  have HB3 := Lib.hid (And.intro hx3 (And.intro (HA3.out.1.later b) (below_trans HA3.out.2 b)))
  clear hx3 b HA3
  go_wp2_with fail
  refine (world_made B3).mono ?_
  rintro e C3 ⟨wb3, wc3, rfl, hv3, b⟩
  have HC3 := Lib.hid (And.intro hv3 (And.intro (HB3.out.1.later b) (And.intro (HB3.out.2.1.later b) (below_trans HB3.out.2.2 b))))
  clear hv3 b HB3
  go_wp2_with fail
  refine (carried_ok _ _ _ C3 HC3.out.2.2.1 HC3.out.2.1 HC3.out.1).mono ?_
  rintro e D3 ⟨rfl, b⟩
  have HD3 := Lib.hid (below_trans HC3.out.2.2.2 b)
  clear b HC3
  rw [ex_car _ _ _ _]
  go_wp2_with fail
  refine (site_made D3).mono ?_
  rintro e A4 ⟨rfl, hs4, b⟩
  have HA4 := Lib.hid (And.intro hs4 (below_trans HD3.out b))
  clear hs4 b
  go_wp2_with fail
  refine (wish_made A4).mono ?_
  rintro e B4 ⟨rfl, hx4, b⟩
  have HB4 := Lib.hid (And.intro hx4 (And.intro (HA4.out.1.later b) (below_trans HA4.out.2 b)))
  clear hx4 b HA4
  go_wp2_with fail
  refine (world_made B4).mono ?_
  rintro e C4 ⟨wb4, wc4, rfl, hv4, b⟩
  have HC4 := Lib.hid (And.intro hv4 (And.intro (HB4.out.1.later b) (And.intro (HB4.out.2.1.later b) (below_trans HB4.out.2.2 b))))
  clear hv4 b HB4
  go_wp2_with fail
  refine (bears_ok _ _ _ 0 C4 HC4.out.2.2.1 HC4.out.2.1 HC4.out.1).mono ?_
  rintro e D4 ⟨rfl, b⟩
  have HD4 := Lib.hid (below_trans HC4.out.2.2.2 b)
  clear b HC4
  rw [ex_bear _ _ _ _]
  go_wp2_with fail
  go_ret
  exact ⟨rfl, HD4.out⟩
end Go.Proofs.YthlefdbhkbpejaaGreat
