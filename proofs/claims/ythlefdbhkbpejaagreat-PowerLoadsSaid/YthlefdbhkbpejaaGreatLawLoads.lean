/- Chapter 14: Watts, OfRack, OfBreaker and OfFeed are what the document says: the walk (written by wip/gen14laws2.py). -/
import Derived.Test.YthlefdbhkbpejaaGreatLive
import Derived.Test.YthlefdbhkbpejaaGreatFew
import Derived.Test.YthlefdbhkbpejaaGreatQa
import Derived.Deep.RegionHeld3
import Derived.BigQuiet
namespace Go.Proofs.YthlefdbhkbpejaaGreat
open Go Go.RowKit F5
set_option linter.unusedSimpArgs false

set_option maxRecDepth 10000 in
set_option maxHeartbeats 16000000 in
theorem loads_walk (s : Site) (x : Wish) (v : Wld) (n : Int) (w : World) (hs : s.At w) (hx : x.At w) (hv : v.At w) :
    Calls Tryz.prog 3 #[s.val, x.val, v.val, .int .i64 n] w fun e W' => e = .returned (.bool true) ∧ Below w.heap.size w W' := by
  have HI := Lib.hid (And.intro hs (And.intro hx hv))
  clear hs hx hv
  go_enter Tryz.func3, Tryz.ntmps3
  go_wp2_with fail
  obtain ⟨A, hA⟩ : ∃ W' : World, (((w.alloc (.cells s.cells.toArray 29)).alloc (.cells x.cells.toArray 32)).alloc (.cells v.cells.toArray 36)) = W' := ⟨_, rfl⟩
  have h : Has A [(w.heap.size + 1 + 1, .cells v.cells.toArray 36 (0, 0)), (w.heap.size + 1, .cells x.cells.toArray 32 (0, 0)), (w.heap.size, .cells s.cells.toArray 29 (0, 0))] := by rw [← hA]; simpa using ((((Has.nil w).new _).new _).new _)
  have z : A.heap.size = w.heap.size + 1 + 1 + 1 := by rw [← hA]; simp
  have b : Below w.heap.size w A := by rw [← hA]; exact (below_alloc (below_alloc (below_alloc (below_self w) _) _) _)
  rw [hA]
  clear hA
  have HA := Lib.hid (show VB w s x v A from ⟨h.tl.tl.hd, h.tl.hd, h.hd, b⟩)
  clear h z b
  refine (few_ok s x v A (HI.out.1.later HA.out.bel) (HI.out.2.1.later HA.out.bel) (HI.out.2.2.later HA.out.bel)).mono ?_
  rintro e B ⟨rfl, b⟩
  have HB := Lib.hid (HA.out.later b)
  clear b HA
  cases hf : decide (Few s x v)
  · clear hf
    go_wp2_with fail
    refine (live_ok B).mono ?_
    rintro e Z ⟨rfl, b⟩
    have HZ := Lib.hid (below_trans HB.out.bel b)
    clear b
    go_wp2_with fail
    go_ret
    exact ⟨rfl, HZ.out⟩
  · clear hf
    go_wp2_with fail
    go_loopw [9] (fun i wr => ∃ (j : Nat) (X : World), j ≤ 10 ∧ i = .int .i64 ((j : Int) - 1) ∧ X = wr ∧ Hid (VB w s x v X)) (fun i _ => 10 - (intOf i + 1).toNat)
    case atStart => exact ⟨0, _, by omega, rfl, rfl, HB⟩
    case round =>
      clear HB
      obtain ⟨j, X, hj, rfl, rfl, HX⟩ := hrel
      by_cases hj0 : j = 0
      · subst hj0
        rw [show (((0 : Nat) : Int) - 1) = -1 from rfl]
        go_upto_region 9 with fail
        obtain ⟨u0, hu0⟩ : ∃ u, wattsN s x v n = u := ⟨_, rfl⟩
        obtain ⟨u1, hu1⟩ : ∃ u, ofRack s x v n = u := ⟨_, rfl⟩
        obtain ⟨u2, hu2⟩ : ∃ u, ofBrk s x v n = u := ⟨_, rfl⟩
        obtain ⟨u3, hu3⟩ : ∃ u, ofFeed s x v n = u := ⟨_, rfl⟩
        have HU := Lib.hid (And.intro hu0 (And.intro hu1 (And.intro hu2 hu3)))
        have e0 : (u0 != u0) = false := by simp
        have e1 : (u1 != u1) = false := by simp
        have e2 : (u2 != u2) = false := by simp
        have e3 : (u3 != u3) = false := by simp
        have hkk : ∀ W, Below X.heap.size X W → W.cell? ⟨w.heap.size, 0, none⟩ = some (.slice s.fh.1 s.fh.2.1 s.fh.2.2) ∧ W.cell? ⟨w.heap.size, 1, none⟩ = some (.slice s.bh.1 s.bh.2.1 s.bh.2.2) ∧ W.cell? ⟨w.heap.size, 2, none⟩ = some (.slice s.lh.1 s.lh.2.1 s.lh.2.2) ∧ W.cell? ⟨w.heap.size, 3, none⟩ = some (.slice s.rh.1 s.rh.2.1 s.rh.2.2) ∧ W.cell? ⟨w.heap.size, 4, none⟩ = some (.int .i64 s.switches) ∧ W.cell? ⟨w.heap.size, 5, none⟩ = some (.slice s.kh.1 s.kh.2.1 s.kh.2.2) ∧ W.cell? ⟨w.heap.size, 6, none⟩ = some (.slice s.hh.1 s.hh.2.1 s.hh.2.2) ∧ W.cell? ⟨w.heap.size + 1, 0, none⟩ = some (.slice x.sh.1 x.sh.2.1 x.sh.2.2) ∧ W.cell? ⟨w.heap.size + 1 + 1, 0, none⟩ = some (.slice v.hh.1 v.hh.2.1 v.hh.2.2) ∧ W.cell? ⟨w.heap.size + 1 + 1, 1, none⟩ = some (.slice v.rh.1 v.rh.2.1 v.rh.2.2) := fun W hb => ⟨(blk_cell (HX.out.later hb).si 0).trans rfl, (blk_cell (HX.out.later hb).si 1).trans rfl, (blk_cell (HX.out.later hb).si 2).trans rfl, (blk_cell (HX.out.later hb).si 3).trans rfl, (blk_cell (HX.out.later hb).si 4).trans rfl, (blk_cell (HX.out.later hb).si 5).trans rfl, (blk_cell (HX.out.later hb).si 6).trans rfl, (blk_cell (HX.out.later hb).wi 0).trans rfl, (blk_cell (HX.out.later hb).wo 0).trans rfl, (blk_cell (HX.out.later hb).wo 1).trans rfl⟩
        have HS := Lib.hid hkk
        have dlsi := blk_lt HX.out.si
        have dlwi := blk_lt HX.out.wi
        have dlwo := blk_lt HX.out.wo
        have b0 : Below X.heap.size X X.drew := (below_self X).drew
        clear hkk hu0 hu1 hu2 hu3
        go_region_held3 (fun W => W.cell? ⟨w.heap.size, 0, none⟩ = some (.slice s.fh.1 s.fh.2.1 s.fh.2.2) ∧ W.cell? ⟨w.heap.size, 1, none⟩ = some (.slice s.bh.1 s.bh.2.1 s.bh.2.2) ∧ W.cell? ⟨w.heap.size, 2, none⟩ = some (.slice s.lh.1 s.lh.2.1 s.lh.2.2) ∧ W.cell? ⟨w.heap.size, 3, none⟩ = some (.slice s.rh.1 s.rh.2.1 s.rh.2.2) ∧ W.cell? ⟨w.heap.size, 4, none⟩ = some (.int .i64 s.switches) ∧ W.cell? ⟨w.heap.size, 5, none⟩ = some (.slice s.kh.1 s.kh.2.1 s.kh.2.2) ∧ W.cell? ⟨w.heap.size, 6, none⟩ = some (.slice s.hh.1 s.hh.2.1 s.hh.2.2) ∧ W.cell? ⟨w.heap.size + 1, 0, none⟩ = some (.slice x.sh.1 x.sh.2.1 x.sh.2.2) ∧ W.cell? ⟨w.heap.size + 1 + 1, 0, none⟩ = some (.slice v.hh.1 v.hh.2.1 v.hh.2.2) ∧ W.cell? ⟨w.heap.size + 1 + 1, 1, none⟩ = some (.slice v.rh.1 v.rh.2.1 v.rh.2.2))
          (exact HS.out _ (by assumption))
          (first
            | (have hq := b7; clear hq; go_at_call 14; (with_reducible refine (feedref_ok s x v n _ (HI.out.1.later (below_trans HX.out.bel b7)) (HI.out.2.1.later (below_trans HX.out.bel b7)) (HI.out.2.2.later (below_trans HX.out.bel b7))).mono ?_); rintro e Z8 ⟨rfl, c8⟩; rw [HU.out.2.2.2]; have b8 := below_trans b7 c8)
            | (have hq := b6; clear hq; go_at_call 13; (with_reducible refine (feed_ok s x v n _ (HI.out.1.later (below_trans HX.out.bel b6)) (HI.out.2.1.later (below_trans HX.out.bel b6)) (HI.out.2.2.later (below_trans HX.out.bel b6))).mono ?_); rintro e Z7 ⟨rfl, c7⟩; rw [HU.out.2.2.2]; have b7 := below_trans b6 c7)
            | (have hq := b5; clear hq; go_at_call 12; (with_reducible refine (brkref_ok s x v n _ (HI.out.1.later (below_trans HX.out.bel b5)) (HI.out.2.1.later (below_trans HX.out.bel b5)) (HI.out.2.2.later (below_trans HX.out.bel b5))).mono ?_); rintro e Z6 ⟨rfl, c6⟩; rw [HU.out.2.2.1]; have b6 := below_trans b5 c6)
            | (have hq := b4; clear hq; go_at_call 11; (with_reducible refine (brk_ok s x v n _ (HI.out.1.later (below_trans HX.out.bel b4)) (HI.out.2.1.later (below_trans HX.out.bel b4)) (HI.out.2.2.later (below_trans HX.out.bel b4))).mono ?_); rintro e Z5 ⟨rfl, c5⟩; rw [HU.out.2.2.1]; have b5 := below_trans b4 c5)
            | (have hq := b3; clear hq; go_at_call 10; (with_reducible refine (rackref_ok s x v n _ (HI.out.1.later (below_trans HX.out.bel b3)) (HI.out.2.1.later (below_trans HX.out.bel b3)) (HI.out.2.2.later (below_trans HX.out.bel b3))).mono ?_); rintro e Z4 ⟨rfl, c4⟩; rw [HU.out.2.1]; have b4 := below_trans b3 c4)
            | (have hq := b2; clear hq; go_at_call 9; (with_reducible refine (ofrack_ok s x v n _ (HI.out.1.later (below_trans HX.out.bel b2)) (HI.out.2.1.later (below_trans HX.out.bel b2)) (HI.out.2.2.later (below_trans HX.out.bel b2))).mono ?_); rintro e Z3 ⟨rfl, c3⟩; rw [HU.out.2.1]; have b3 := below_trans b2 c3)
            | (have hq := b1; clear hq; go_at_call 8; (with_reducible refine (wattsref_ok s x v n _ (HI.out.1.later (below_trans HX.out.bel b1)) (HI.out.2.1.later (below_trans HX.out.bel b1)) (HI.out.2.2.later (below_trans HX.out.bel b1))).mono ?_); rintro e Z2 ⟨rfl, c2⟩; rw [HU.out.1]; have b2 := below_trans b1 c2)
            | (have hq := b0; clear hq; go_at_call 7; (with_reducible refine (watts0_ok s x v n _ (HI.out.1.later (below_trans HX.out.bel b0)) (HI.out.2.1.later (below_trans HX.out.bel b0)) (HI.out.2.2.later (below_trans HX.out.bel b0))).mono ?_); rintro e Z1 ⟨rfl, c1⟩; rw [HU.out.1]; have b1 := below_trans b0 c1))
        have HY := Lib.hid (HX.out.later b8)
        clear HS b0 b1 b2 b3 b4 b5 b6 b7 b8 c1 c2 c3 c4 c5 c6 c7 c8 HU
        go_wp2_with fail
        go_roundw
        case rel => exact ⟨1, _, by omega, by rfl, rfl, HY⟩
        case measure => first | (simp [intOf]; done) | (simp [intOf]; omega)
      · by_cases hlt : j < 10
        · obtain ⟨i, rfl⟩ : ∃ i : Nat, j = i + 1 := ⟨j - 1, by omega⟩
          rw [show (((i + 1 : Nat) : Int) - 1) = (i : Int) by omega]
          have hltI : (i : Int) < 9 := by omega
          have hne : ((i : Int) == -1) = false := beq_eq_false_iff_ne.2 (by omega)
          have hneI : ¬ (i : Int) = -1 := by omega
          go_upto_region 9 with fail
          obtain ⟨u0, hu0⟩ : ∃ u, wattsN s x v (i : Int) = u := ⟨_, rfl⟩
          obtain ⟨u1, hu1⟩ : ∃ u, ofRack s x v (i : Int) = u := ⟨_, rfl⟩
          obtain ⟨u2, hu2⟩ : ∃ u, ofBrk s x v (i : Int) = u := ⟨_, rfl⟩
          obtain ⟨u3, hu3⟩ : ∃ u, ofFeed s x v (i : Int) = u := ⟨_, rfl⟩
          have HU := Lib.hid (And.intro hu0 (And.intro hu1 (And.intro hu2 hu3)))
          have e0 : (u0 != u0) = false := by simp
          have e1 : (u1 != u1) = false := by simp
          have e2 : (u2 != u2) = false := by simp
          have e3 : (u3 != u3) = false := by simp
          have hkk : ∀ W, Below X.heap.size X W → W.cell? ⟨w.heap.size, 0, none⟩ = some (.slice s.fh.1 s.fh.2.1 s.fh.2.2) ∧ W.cell? ⟨w.heap.size, 1, none⟩ = some (.slice s.bh.1 s.bh.2.1 s.bh.2.2) ∧ W.cell? ⟨w.heap.size, 2, none⟩ = some (.slice s.lh.1 s.lh.2.1 s.lh.2.2) ∧ W.cell? ⟨w.heap.size, 3, none⟩ = some (.slice s.rh.1 s.rh.2.1 s.rh.2.2) ∧ W.cell? ⟨w.heap.size, 4, none⟩ = some (.int .i64 s.switches) ∧ W.cell? ⟨w.heap.size, 5, none⟩ = some (.slice s.kh.1 s.kh.2.1 s.kh.2.2) ∧ W.cell? ⟨w.heap.size, 6, none⟩ = some (.slice s.hh.1 s.hh.2.1 s.hh.2.2) ∧ W.cell? ⟨w.heap.size + 1, 0, none⟩ = some (.slice x.sh.1 x.sh.2.1 x.sh.2.2) ∧ W.cell? ⟨w.heap.size + 1 + 1, 0, none⟩ = some (.slice v.hh.1 v.hh.2.1 v.hh.2.2) ∧ W.cell? ⟨w.heap.size + 1 + 1, 1, none⟩ = some (.slice v.rh.1 v.rh.2.1 v.rh.2.2) := fun W hb => ⟨(blk_cell (HX.out.later hb).si 0).trans rfl, (blk_cell (HX.out.later hb).si 1).trans rfl, (blk_cell (HX.out.later hb).si 2).trans rfl, (blk_cell (HX.out.later hb).si 3).trans rfl, (blk_cell (HX.out.later hb).si 4).trans rfl, (blk_cell (HX.out.later hb).si 5).trans rfl, (blk_cell (HX.out.later hb).si 6).trans rfl, (blk_cell (HX.out.later hb).wi 0).trans rfl, (blk_cell (HX.out.later hb).wo 0).trans rfl, (blk_cell (HX.out.later hb).wo 1).trans rfl⟩
          have HS := Lib.hid hkk
          have dlsi := blk_lt HX.out.si
          have dlwi := blk_lt HX.out.wi
          have dlwo := blk_lt HX.out.wo
          have b0 : Below X.heap.size X X.drew := (below_self X).drew
          clear hkk hu0 hu1 hu2 hu3
          go_region_held3 (fun W => W.cell? ⟨w.heap.size, 0, none⟩ = some (.slice s.fh.1 s.fh.2.1 s.fh.2.2) ∧ W.cell? ⟨w.heap.size, 1, none⟩ = some (.slice s.bh.1 s.bh.2.1 s.bh.2.2) ∧ W.cell? ⟨w.heap.size, 2, none⟩ = some (.slice s.lh.1 s.lh.2.1 s.lh.2.2) ∧ W.cell? ⟨w.heap.size, 3, none⟩ = some (.slice s.rh.1 s.rh.2.1 s.rh.2.2) ∧ W.cell? ⟨w.heap.size, 4, none⟩ = some (.int .i64 s.switches) ∧ W.cell? ⟨w.heap.size, 5, none⟩ = some (.slice s.kh.1 s.kh.2.1 s.kh.2.2) ∧ W.cell? ⟨w.heap.size, 6, none⟩ = some (.slice s.hh.1 s.hh.2.1 s.hh.2.2) ∧ W.cell? ⟨w.heap.size + 1, 0, none⟩ = some (.slice x.sh.1 x.sh.2.1 x.sh.2.2) ∧ W.cell? ⟨w.heap.size + 1 + 1, 0, none⟩ = some (.slice v.hh.1 v.hh.2.1 v.hh.2.2) ∧ W.cell? ⟨w.heap.size + 1 + 1, 1, none⟩ = some (.slice v.rh.1 v.rh.2.1 v.rh.2.2))
            (exact HS.out _ (by assumption))
            (first
              | (have hq := b7; clear hq; go_at_call 14; (with_reducible refine (feedref_ok s x v (i : Int) _ (HI.out.1.later (below_trans HX.out.bel b7)) (HI.out.2.1.later (below_trans HX.out.bel b7)) (HI.out.2.2.later (below_trans HX.out.bel b7))).mono ?_); rintro e Z8 ⟨rfl, c8⟩; rw [HU.out.2.2.2]; have b8 := below_trans b7 c8)
              | (have hq := b6; clear hq; go_at_call 13; (with_reducible refine (feed_ok s x v (i : Int) _ (HI.out.1.later (below_trans HX.out.bel b6)) (HI.out.2.1.later (below_trans HX.out.bel b6)) (HI.out.2.2.later (below_trans HX.out.bel b6))).mono ?_); rintro e Z7 ⟨rfl, c7⟩; rw [HU.out.2.2.2]; have b7 := below_trans b6 c7)
              | (have hq := b5; clear hq; go_at_call 12; (with_reducible refine (brkref_ok s x v (i : Int) _ (HI.out.1.later (below_trans HX.out.bel b5)) (HI.out.2.1.later (below_trans HX.out.bel b5)) (HI.out.2.2.later (below_trans HX.out.bel b5))).mono ?_); rintro e Z6 ⟨rfl, c6⟩; rw [HU.out.2.2.1]; have b6 := below_trans b5 c6)
              | (have hq := b4; clear hq; go_at_call 11; (with_reducible refine (brk_ok s x v (i : Int) _ (HI.out.1.later (below_trans HX.out.bel b4)) (HI.out.2.1.later (below_trans HX.out.bel b4)) (HI.out.2.2.later (below_trans HX.out.bel b4))).mono ?_); rintro e Z5 ⟨rfl, c5⟩; rw [HU.out.2.2.1]; have b5 := below_trans b4 c5)
              | (have hq := b3; clear hq; go_at_call 10; (with_reducible refine (rackref_ok s x v (i : Int) _ (HI.out.1.later (below_trans HX.out.bel b3)) (HI.out.2.1.later (below_trans HX.out.bel b3)) (HI.out.2.2.later (below_trans HX.out.bel b3))).mono ?_); rintro e Z4 ⟨rfl, c4⟩; rw [HU.out.2.1]; have b4 := below_trans b3 c4)
              | (have hq := b2; clear hq; go_at_call 9; (with_reducible refine (ofrack_ok s x v (i : Int) _ (HI.out.1.later (below_trans HX.out.bel b2)) (HI.out.2.1.later (below_trans HX.out.bel b2)) (HI.out.2.2.later (below_trans HX.out.bel b2))).mono ?_); rintro e Z3 ⟨rfl, c3⟩; rw [HU.out.2.1]; have b3 := below_trans b2 c3)
              | (have hq := b1; clear hq; go_at_call 8; (with_reducible refine (wattsref_ok s x v (i : Int) _ (HI.out.1.later (below_trans HX.out.bel b1)) (HI.out.2.1.later (below_trans HX.out.bel b1)) (HI.out.2.2.later (below_trans HX.out.bel b1))).mono ?_); rintro e Z2 ⟨rfl, c2⟩; rw [HU.out.1]; have b2 := below_trans b1 c2)
              | (have hq := b0; clear hq; go_at_call 7; (with_reducible refine (watts0_ok s x v (i : Int) _ (HI.out.1.later (below_trans HX.out.bel b0)) (HI.out.2.1.later (below_trans HX.out.bel b0)) (HI.out.2.2.later (below_trans HX.out.bel b0))).mono ?_); rintro e Z1 ⟨rfl, c1⟩; rw [HU.out.1]; have b1 := below_trans b0 c1))
          have HY := Lib.hid (HX.out.later b8)
          clear HS b0 b1 b2 b3 b4 b5 b6 b7 b8 c1 c2 c3 c4 c5 c6 c7 c8 HU
          go_wp2_with fail
          go_roundw
          case rel => exact ⟨i + 1 + 1, _, by omega, by rw [show (((i + 1 + 1 : Nat) : Int) - 1) = (i : Int) + 1 by omega], rfl, HY⟩
          case measure => simp [intOf]; omega
        · obtain rfl : j = 10 := by omega
          rw [show (((10 : Nat) : Int) - 1) = 9 from rfl]
          go_wp2_with fail
          refine (live_ok X).mono ?_
          rintro e Z ⟨rfl, b⟩
          have HZ := Lib.hid (below_trans HX.out.bel b)
          clear b
          go_wp2_with fail
          go_ret
          exact ⟨rfl, HZ.out⟩
end Go.Proofs.YthlefdbhkbpejaaGreat
