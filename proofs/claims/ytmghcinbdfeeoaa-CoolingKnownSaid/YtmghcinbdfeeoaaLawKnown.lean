/- Chapter 15: the law of the known examples: the walk (written by wip/gen15known.py). -/
import Derived.Test.YtmghcinbdfeeoaaLive
namespace Go.Proofs.Ytmghcinbdfeeoaa
open Go Go.RowKit
set_option linter.unusedSimpArgs false

theorem ex_want (b c d e : Nat) {k : Nat} (hk : k < 4) : aftV (exSite b) (exWish c) (exWld d e) 0 0 k = [(0 : Int), 0, 150, 300].getD k default ∧ conE (exSite b) (exWish c) (exWld d e) 0 0 k = 0 := by
  match k, hk with
  | 0, _ => exact ⟨ex_aft0 _ _ _ _, ex_con0 _ _ _ _⟩
  | 1, _ => exact ⟨ex_aft1 _ _ _ _, ex_con1 _ _ _ _⟩
  | 2, _ => exact ⟨ex_aft2 _ _ _ _, ex_con2 _ _ _ _⟩
  | 3, _ => exact ⟨ex_aft3 _ _ _ _, ex_con3 _ _ _ _⟩

set_option maxHeartbeats 4000000 in
theorem known_walk (w : World) : Calls Try.prog 7 #[] w fun e W' => e = .returned (.bool true) ∧ Below w.heap.size w W' := by
  go_enter Try.func7, Try.ntmps7
  go_wp2_with fail
  obtain ⟨A, hA⟩ : ∃ W' : World, (w.alloc (.cells #[.int .i64 0, .int .i64 0, .int .i64 150, .int .i64 300] 3)) = W' := ⟨_, rfl⟩
  have h : Has A [(w.heap.size, .cells #[.int .i64 0, .int .i64 0, .int .i64 150, .int .i64 300] 3 (0, 0))] := by rw [← hA]; simpa using ((Has.nil w).new _)
  have z : A.heap.size = w.heap.size + 1 := by rw [← hA]; simp
  have b : Below w.heap.size w A := by rw [← hA]; exact (below_alloc (below_self w) _)
  rw [hA]
  clear hA
  have HA := Lib.hid (And.intro (rows_blk (rows := Ints [(0 : Int), 0, 150, 300]) (n := A.heap.size) h.hd (blk_lt h.hd) (k := 1) (by simp)) b)
  clear h z b
  go_loopw [2, 3, 4] (fun n _ _ wr => ∃ (k : Nat) (X : World), k ≤ 4 ∧ n = .int .i64 k ∧ X = wr ∧ Hid (RowsAt X.heap.size X (some ⟨w.heap.size, 0, none⟩) 1 (Ints [(0 : Int), 0, 150, 300]) ∧ Below w.heap.size w X)) (fun n _ _ _ => 4 - (intOf n).toNat)
  case atStart => exact ⟨0, _, by omega, rfl, rfl, HA⟩
  case round =>
    clear HA
    obtain ⟨k, X, hk, rfl, rfl, HX⟩ := hrel
    by_cases hlt : k < 4
    · have hltI : (k : Int) < 4 := by omega
      go_wp2_with fail
      refine (site_made X).mono ?_
      rintro e A0 ⟨rfl, hs0, b⟩
      have HA0 := Lib.hid (And.intro hs0 b)
      clear hs0 b
      go_wp2_with fail
      refine (wish_made A0).mono ?_
      rintro e B0 ⟨rfl, hx0, b⟩
      have HB0 := Lib.hid (And.intro hx0 (And.intro (HA0.out.1.later b) (below_trans HA0.out.2 b)))
      clear hx0 b HA0
      go_wp2_with fail
      refine (world_made B0).mono ?_
      rintro e C0 ⟨wb0, wc0, rfl, hv0, b⟩
      have HC0 := Lib.hid (And.intro hv0 (And.intro (HB0.out.1.later b) (And.intro (HB0.out.2.1.later b) (below_trans HB0.out.2.2 b))))
      clear hv0 b HB0
      go_wp2_with fail
      refine (after_ok _ _ _ 0 0 k C0 HC0.out.2.2.1 HC0.out.2.1 HC0.out.1).mono ?_
      rintro e D0 ⟨rfl, b⟩
      have hr := HX.out.1.later (below_trans HC0.out.2.2.2 b)
      have HD := Lib.hid (And.intro hr (below_trans HX.out.2 (below_trans HC0.out.2.2.2 b)))
      obtain ⟨b1, o1, q1, hb1, c0⟩ := ints_at hr k (by simpa using hlt)
      injection q1 with q1
      injection q1 with q1 q2
      subst q1 q2
      rw [Nat.zero_add] at c0
      rw [(ex_want _ _ _ _ hlt).1, (ex_want _ _ _ _ hlt).2]
      generalize [(0 : Int), 0, 150, 300].getD k default = y at c0 ⊢
      clear b hr HC0
      go_wp2_with fail
      exact ⟨⟨k + 1, _, by omega, by go_num, rfl, HD⟩, by simp [intOf]; omega⟩
    · have hltI : ¬ (k : Int) < 4 := by omega
      go_wp2_with fail
      refine (site_made X).mono ?_
      rintro e A1 ⟨rfl, hs1, b⟩
      have HA1 := Lib.hid (And.intro hs1 (below_trans HX.out.2 b))
      clear hs1 b
      go_wp2_with fail
      refine (wish_made A1).mono ?_
      rintro e B1 ⟨rfl, hx1, b⟩
      have HB1 := Lib.hid (And.intro hx1 (And.intro (HA1.out.1.later b) (below_trans HA1.out.2 b)))
      clear hx1 b HA1
      go_wp2_with fail
      refine (world_made B1).mono ?_
      rintro e C1 ⟨wb1, wc1, rfl, hv1, b⟩
      have HC1 := Lib.hid (And.intro hv1 (And.intro (HB1.out.1.later b) (And.intro (HB1.out.2.1.later b) (below_trans HB1.out.2.2 b))))
      clear hv1 b HB1
      go_wp2_with fail
      refine (after_ok _ _ _ 0 500 1 C1 HC1.out.2.2.1 HC1.out.2.1 HC1.out.1).mono ?_
      rintro e D1 ⟨rfl, b⟩
      have HD1 := Lib.hid (below_trans HC1.out.2.2.2 b)
      clear b HC1
      rw [ex_aftB _ _ _ _, ex_conB _ _ _ _]
      go_wp2_with fail
      refine (site_made D1).mono ?_
      rintro e A2 ⟨rfl, hs2, b⟩
      have HA2 := Lib.hid (And.intro hs2 (below_trans HD1.out b))
      clear hs2 b
      go_wp2_with fail
      refine (wish_made A2).mono ?_
      rintro e B2 ⟨rfl, hx2, b⟩
      have HB2 := Lib.hid (And.intro hx2 (And.intro (HA2.out.1.later b) (below_trans HA2.out.2 b)))
      clear hx2 b HA2
      go_wp2_with fail
      refine (world_made B2).mono ?_
      rintro e C2 ⟨wb2, wc2, rfl, hv2, b⟩
      have HC2 := Lib.hid (And.intro hv2 (And.intro (HB2.out.1.later b) (And.intro (HB2.out.2.1.later b) (below_trans HB2.out.2.2 b))))
      clear hv2 b HB2
      go_wp2_with fail
      refine (longest_ok _ _ _ 0 300 200 C2 HC2.out.2.2.1 HC2.out.2.1 HC2.out.1).mono ?_
      rintro e D2 ⟨rfl, b⟩
      have HD2 := Lib.hid (below_trans HC2.out.2.2.2 b)
      clear b HC2
      rw [ex_lngB _ _ _ _, ex_lngE _ _ _ _ (start := 300) (limit := 200) (by omega) (by decide)]
      go_wp2_with fail
      refine (site_made D2).mono ?_
      rintro e A3 ⟨rfl, hs3, b⟩
      have HA3 := Lib.hid (And.intro hs3 (below_trans HD2.out b))
      clear hs3 b
      go_wp2_with fail
      refine (wish_made A3).mono ?_
      rintro e B3 ⟨rfl, hx3, b⟩
      have HB3 := Lib.hid (And.intro hx3 (And.intro (HA3.out.1.later b) (below_trans HA3.out.2 b)))
      clear hx3 b HA3
      go_wp2_with fail
      refine (world_made B3).mono ?_
      rintro e C3 ⟨wb3, wc3, rfl, hv3, b⟩
      have HC3 := Lib.hid (And.intro hv3 (And.intro (HB3.out.1.later b) (And.intro (HB3.out.2.1.later b) (below_trans HB3.out.2.2 b))))
      clear hv3 b HB3
      go_wp2_with fail
      refine (after_ok _ _ _ 1 0 0 C3 HC3.out.2.2.1 HC3.out.2.1 HC3.out.1).mono ?_
      rintro e D3 ⟨rfl, b⟩
      have HD3 := Lib.hid (below_trans HC3.out.2.2.2 b)
      clear b HC3
      rw [ex_conL _ _ _ _]
      generalize aftV _ _ _ 1 0 0 = y1
      go_wp2_with fail
      refine (site_made D3).mono ?_
      rintro e A4 ⟨rfl, hs4, b⟩
      have HA4 := Lib.hid (And.intro hs4 (below_trans HD3.out b))
      clear hs4 b
      go_wp2_with fail
      refine (wish_made A4).mono ?_
      rintro e B4 ⟨rfl, hx4, b⟩
      have HB4 := Lib.hid (And.intro hx4 (And.intro (HA4.out.1.later b) (below_trans HA4.out.2 b)))
      clear hx4 b HA4
      go_wp2_with fail
      refine (world_made B4).mono ?_
      rintro e C4 ⟨wb4, wc4, rfl, hv4, b⟩
      have HC4 := Lib.hid (And.intro hv4 (And.intro (HB4.out.1.later b) (And.intro (HB4.out.2.1.later b) (below_trans HB4.out.2.2 b))))
      clear hv4 b HB4
      go_wp2_with fail
      refine (after_ok _ _ _ 0 0 1001 C4 HC4.out.2.2.1 HC4.out.2.1 HC4.out.1).mono ?_
      rintro e D4 ⟨rfl, b⟩
      have HD4 := Lib.hid (below_trans HC4.out.2.2.2 b)
      clear b HC4
      rw [ex_conN _ _ _ _]
      generalize aftV _ _ _ 0 0 1001 = y2
      go_wp2_with fail
      refine (site_made D4).mono ?_
      rintro e A5 ⟨rfl, hs5, b⟩
      have HA5 := Lib.hid (And.intro hs5 (below_trans HD4.out b))
      clear hs5 b
      go_wp2_with fail
      refine (wish_made A5).mono ?_
      rintro e B5 ⟨rfl, hx5, b⟩
      have HB5 := Lib.hid (And.intro hx5 (And.intro (HA5.out.1.later b) (below_trans HA5.out.2 b)))
      clear hx5 b HA5
      go_wp2_with fail
      refine (world_made B5).mono ?_
      rintro e C5 ⟨wb5, wc5, rfl, hv5, b⟩
      have HC5 := Lib.hid (And.intro hv5 (And.intro (HB5.out.1.later b) (And.intro (HB5.out.2.1.later b) (below_trans HB5.out.2.2 b))))
      clear hv5 b HB5
      go_wp2_with fail
      refine (longest_ok _ _ _ 0 0 (-1) C5 HC5.out.2.2.1 HC5.out.2.1 HC5.out.1).mono ?_
      rintro e D5 ⟨rfl, b⟩
      have HD5 := Lib.hid (below_trans HC5.out.2.2.2 b)
      clear b HC5
      rw [ex_lngN _ _ _ _ (start := 0) (by omega)]
      generalize lngV _ _ _ 0 0 (-1) = y3
      go_wp2_with fail
      refine (site_made D5).mono ?_
      rintro e A6 ⟨rfl, hs6, b⟩
      have HA6 := Lib.hid (And.intro hs6 (below_trans HD5.out b))
      clear hs6 b
      go_wp2_with fail
      refine (wish_made A6).mono ?_
      rintro e B6 ⟨rfl, hx6, b⟩
      have HB6 := Lib.hid (And.intro hx6 (And.intro (HA6.out.1.later b) (below_trans HA6.out.2 b)))
      clear hx6 b HA6
      go_wp2_with fail
      refine (world_made B6).mono ?_
      rintro e C6 ⟨wb6, wc6, rfl, hv6, b⟩
      have HC6 := Lib.hid (And.intro hv6 (And.intro (HB6.out.1.later b) (And.intro (HB6.out.2.1.later b) (below_trans HB6.out.2.2 b))))
      clear hv6 b HB6
      go_wp2_with fail
      refine (heat_ok _ _ _ 1 C6 HC6.out.2.2.1 HC6.out.2.1 HC6.out.1).mono ?_
      rintro e D6 ⟨rfl, b⟩
      have HD6 := Lib.hid (below_trans HC6.out.2.2.2 b)
      clear b HC6
      rw [ex_heat1 _ _ _ _]
      go_wp2_with fail
      refine (live_ok D6).mono ?_
      rintro e Z ⟨rfl, b⟩
      have HZ := Lib.hid (below_trans HD6.out b)
      clear b
      go_wp2_with fail
      go_ret
      exact ⟨rfl, HZ.out⟩
end Go.Proofs.Ytmghcinbdfeeoaa
