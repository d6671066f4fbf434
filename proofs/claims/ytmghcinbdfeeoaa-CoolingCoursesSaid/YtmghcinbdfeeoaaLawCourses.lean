/- Chapter 15: the law that Course answers as the document says: the walk (written by wip/gen15courses.py). -/
import Derived.Test.YtmghcinbdfeeoaaLive
import Derived.Test.YtmghcinbdfeeoaaFew
import Derived.Test.YtmghcinbdfeeoaaCooR
namespace Go.Proofs.Ytmghcinbdfeeoaa
open Go Go.RowKit
set_option linter.unusedSimpArgs false

abbrev noWish : Wish := ⟨[], (none, 0, 0)⟩
abbrev noWld : Wld := ⟨[], (none, 0, 0), [], (none, 0, 0)⟩
theorem noWish_at (w : World) : noWish.At w := ⟨reads_nil _ _, fun _ hi => absurd hi (Nat.not_lt_zero _)⟩
theorem noWld_at (w : World) : noWld.At w := ⟨reads_nil _ _, reads_nil _ _⟩

set_option maxRecDepth 10000 in
set_option maxHeartbeats 4000000 in
theorem courses_walk (s : Site) (loop start : Int) (a : Option Addr) (m cap : Nat) (hs : List Int) (n : Int) (w : World) (hat : s.At w)
    (hh : hs.length = m ∧ m ≤ cap ∧ cap ≤ maxLen ∧ (a = none → m = 0 ∧ cap = 0) ∧ RowsAt w.heap.size w a 1 (hs.map fun z => [.int .i64 z])) :
    Calls Try.prog 4 #[s.val, .int .i64 loop, .int .i64 start, .slice a m cap, .int .i64 n] w fun e W' => e = .returned (.bool true) ∧ Below w.heap.size w W' := by
  have hR : Reads w (a, m, cap) 1 hs.length (Ints hs) := ⟨hh.1, ⟨hh.2.1, hh.2.2.1, hh.2.2.2.1⟩, hh.2.2.2.2⟩
  have hnl : m ≤ 9223372036854775807 := hR.le
  have HI := Lib.hid (And.intro hat hR)
  clear hat hh hR
  go_enter Try.func4, Try.ntmps4
  go_wp2_with fail
  obtain ⟨A, hA⟩ : ∃ W' : World, (w.alloc (.cells s.cells.toArray 29)) = W' := ⟨_, rfl⟩
  have h : Has A [(w.heap.size, .cells s.cells.toArray 29 (0, 0))] := by rw [← hA]; simpa using ((Has.nil w).new _)
  have z : A.heap.size = w.heap.size + 1 := by rw [← hA]; simp
  have b : Below w.heap.size w A := by rw [← hA]; exact (below_alloc (below_self w) _)
  rw [hA]
  clear hA
  have HA := Lib.hid (And.intro h.hd b)
  clear h z b
  refine (few_ok s noWish noWld A (HI.out.1.later HA.out.2) (noWish_at A) (noWld_at A)).mono ?_
  rintro e B ⟨rfl, b⟩
  have HB := Lib.hid (And.intro (blk_below HA.out.1 b) (below_trans HA.out.2 b))
  clear b HA
  cases hf : decide (Few s noWish noWld)
  · clear hf
    go_wp2_with fail
    refine (live_ok B).mono ?_
    rintro e Z ⟨rfl, b⟩
    have HZ := Lib.hid (below_trans HB.out.2 b)
    clear b
    go_wp2_with fail
    go_ret
    exact ⟨rfl, HZ.out⟩
  · clear hf
    by_cases c1 : m ≤ 100
    · have c1I : (m : Int) ≤ 100 := by omega
      have d0 : B.cell? ⟨w.heap.size, 0, none⟩ = some (.slice s.fh.1 s.fh.2.1 s.fh.2.2) := (blk_cell HB.out.1 0).trans rfl
      have d1 : B.cell? ⟨w.heap.size, 1, none⟩ = some (.slice s.bh.1 s.bh.2.1 s.bh.2.2) := (blk_cell HB.out.1 1).trans rfl
      have d2 : B.cell? ⟨w.heap.size, 2, none⟩ = some (.slice s.lh.1 s.lh.2.1 s.lh.2.2) := (blk_cell HB.out.1 2).trans rfl
      have d3 : B.cell? ⟨w.heap.size, 3, none⟩ = some (.slice s.rh.1 s.rh.2.1 s.rh.2.2) := (blk_cell HB.out.1 3).trans rfl
      have d4 : B.cell? ⟨w.heap.size, 4, none⟩ = some (.int .i64 s.switches) := (blk_cell HB.out.1 4).trans rfl
      have d5 : B.cell? ⟨w.heap.size, 5, none⟩ = some (.slice s.kh.1 s.kh.2.1 s.kh.2.2) := (blk_cell HB.out.1 5).trans rfl
      have d6 : B.cell? ⟨w.heap.size, 6, none⟩ = some (.slice s.hh.1 s.hh.2.1 s.hh.2.2) := (blk_cell HB.out.1 6).trans rfl
      have dl := blk_lt HB.out.1
      by_cases c2 : n ≤ 100
      · go_wp2_with fail
        refine (cool_ok' s loop start a m cap hs n B (HI.out.1.later HB.out.2) (HI.out.2.later HB.out.2)).mono ?_
        rintro e C ⟨v1, rfl, ho, b⟩
        obtain ⟨a1, k1, rfl, hr1⟩ := ownI_reads ho rfl
        have HC := Lib.hid (And.intro (blk_below HB.out.1 b) (And.intro (below_trans HB.out.2 b) hr1))
        clear ho hr1 b d0 d1 d2 d3 d4 d5 d6 dl
        have d0 : C.cell? ⟨w.heap.size, 0, none⟩ = some (.slice s.fh.1 s.fh.2.1 s.fh.2.2) := (blk_cell HC.out.1 0).trans rfl
        have d1 : C.cell? ⟨w.heap.size, 1, none⟩ = some (.slice s.bh.1 s.bh.2.1 s.bh.2.2) := (blk_cell HC.out.1 1).trans rfl
        have d2 : C.cell? ⟨w.heap.size, 2, none⟩ = some (.slice s.lh.1 s.lh.2.1 s.lh.2.2) := (blk_cell HC.out.1 2).trans rfl
        have d3 : C.cell? ⟨w.heap.size, 3, none⟩ = some (.slice s.rh.1 s.rh.2.1 s.rh.2.2) := (blk_cell HC.out.1 3).trans rfl
        have d4 : C.cell? ⟨w.heap.size, 4, none⟩ = some (.int .i64 s.switches) := (blk_cell HC.out.1 4).trans rfl
        have d5 : C.cell? ⟨w.heap.size, 5, none⟩ = some (.slice s.kh.1 s.kh.2.1 s.kh.2.2) := (blk_cell HC.out.1 5).trans rfl
        have d6 : C.cell? ⟨w.heap.size, 6, none⟩ = some (.slice s.hh.1 s.hh.2.1 s.hh.2.2) := (blk_cell HC.out.1 6).trans rfl
        have dl := blk_lt HC.out.1
        go_wp2_with fail
        refine (coolref_ok' s loop start a m cap hs n C (HI.out.1.later HC.out.2.1) (HI.out.2.later HC.out.2.1)).mono ?_
        rintro e D ⟨v2, rfl, ho, b⟩
        obtain ⟨a2, k2, rfl, hr2⟩ := ownI_reads ho rfl
        have HD := Lib.hid (And.intro (below_trans HC.out.2.1 b) (And.intro (HC.out.2.2.later b) hr2))
        clear ho hr2 b d0 d1 d2 d3 d4 d5 d6 dl
        obtain ⟨q, hq⟩ : ∃ q, couE s loop start hs n = q := ⟨_, rfl⟩
        rw [hq]
        clear hq
        go_wp2_with fail
        refine (ints_ref a1 _ k1 _ a2 _ k2 _ D HD.out.2.1 HD.out.2.2).mono ?_
        rintro e E ⟨rfl, b⟩
        have HE := Lib.hid (below_trans HD.out.1 b)
        clear b
        rw [decide_eq_true (rfl : couV s loop start hs n = couV s loop start hs n)]
        go_wp2_with fail
        refine (live_ok E).mono ?_
        rintro e Z ⟨rfl, b⟩
        have HZ := Lib.hid (below_trans HE.out b)
        clear b
        go_wp2_with fail
        go_ret
        exact ⟨rfl, HZ.out⟩
      · by_cases c3 : n ≤ 1000
        · go_wp2_with fail
          refine (live_ok B).mono ?_
          rintro e Z ⟨rfl, b⟩
          have HZ := Lib.hid (below_trans HB.out.2 b)
          clear b
          go_wp2_with fail
          go_ret
          exact ⟨rfl, HZ.out⟩
        · go_wp2_with fail
          refine (cool_ok' s loop start a m cap hs n B (HI.out.1.later HB.out.2) (HI.out.2.later HB.out.2)).mono ?_
          rintro e C ⟨v1, rfl, ho, b⟩
          obtain ⟨a1, k1, rfl, hr1⟩ := ownI_reads ho rfl
          have HC := Lib.hid (And.intro (blk_below HB.out.1 b) (And.intro (below_trans HB.out.2 b) hr1))
          clear ho hr1 b d0 d1 d2 d3 d4 d5 d6 dl
          have d0 : C.cell? ⟨w.heap.size, 0, none⟩ = some (.slice s.fh.1 s.fh.2.1 s.fh.2.2) := (blk_cell HC.out.1 0).trans rfl
          have d1 : C.cell? ⟨w.heap.size, 1, none⟩ = some (.slice s.bh.1 s.bh.2.1 s.bh.2.2) := (blk_cell HC.out.1 1).trans rfl
          have d2 : C.cell? ⟨w.heap.size, 2, none⟩ = some (.slice s.lh.1 s.lh.2.1 s.lh.2.2) := (blk_cell HC.out.1 2).trans rfl
          have d3 : C.cell? ⟨w.heap.size, 3, none⟩ = some (.slice s.rh.1 s.rh.2.1 s.rh.2.2) := (blk_cell HC.out.1 3).trans rfl
          have d4 : C.cell? ⟨w.heap.size, 4, none⟩ = some (.int .i64 s.switches) := (blk_cell HC.out.1 4).trans rfl
          have d5 : C.cell? ⟨w.heap.size, 5, none⟩ = some (.slice s.kh.1 s.kh.2.1 s.kh.2.2) := (blk_cell HC.out.1 5).trans rfl
          have d6 : C.cell? ⟨w.heap.size, 6, none⟩ = some (.slice s.hh.1 s.hh.2.1 s.hh.2.2) := (blk_cell HC.out.1 6).trans rfl
          have dl := blk_lt HC.out.1
          go_wp2_with fail
          refine (coolref_ok' s loop start a m cap hs n C (HI.out.1.later HC.out.2.1) (HI.out.2.later HC.out.2.1)).mono ?_
          rintro e D ⟨v2, rfl, ho, b⟩
          obtain ⟨a2, k2, rfl, hr2⟩ := ownI_reads ho rfl
          have HD := Lib.hid (And.intro (below_trans HC.out.2.1 b) (And.intro (HC.out.2.2.later b) hr2))
          clear ho hr2 b d0 d1 d2 d3 d4 d5 d6 dl
          obtain ⟨q, hq⟩ : ∃ q, couE s loop start hs n = q := ⟨_, rfl⟩
          rw [hq]
          clear hq
          go_wp2_with fail
          refine (ints_ref a1 _ k1 _ a2 _ k2 _ D HD.out.2.1 HD.out.2.2).mono ?_
          rintro e E ⟨rfl, b⟩
          have HE := Lib.hid (below_trans HD.out.1 b)
          clear b
          rw [decide_eq_true (rfl : couV s loop start hs n = couV s loop start hs n)]
          go_wp2_with fail
          refine (live_ok E).mono ?_
          rintro e Z ⟨rfl, b⟩
          have HZ := Lib.hid (below_trans HE.out b)
          clear b
          go_wp2_with fail
          go_ret
          exact ⟨rfl, HZ.out⟩
    · have c1I : ¬ (m : Int) ≤ 100 := by omega
      go_wp2_with fail
      refine (live_ok B).mono ?_
      rintro e Z ⟨rfl, b⟩
      have HZ := Lib.hid (below_trans HB.out.2 b)
      clear b
      go_wp2_with fail
      go_ret
      exact ⟨rfl, HZ.out⟩
end Go.Proofs.Ytmghcinbdfeeoaa
