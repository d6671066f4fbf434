/- Chapter 14: Net, Carried and Bears are what the document says: the walk (written by wip/gen14laws2.py). -/
import Derived.Test.YthlefdbhkbpejaaGreatLive
import Derived.Test.YthlefdbhkbpejaaGreatFew
import Derived.Test.YthlefdbhkbpejaaGreatQc
import Derived.Deep.RegionHeld3
import Derived.BigQuiet
namespace Go.Proofs.YthlefdbhkbpejaaGreat
open Go Go.RowKit F5
set_option linter.unusedSimpArgs false

set_option maxRecDepth 10000 in
set_option maxHeartbeats 16000000 in
theorem nets_walk (s : Site) (x : Wish) (v : Wld) (bk : Int) (w : World) (hs : s.At w) (hx : x.At w) (hv : v.At w) :
    Calls Tryz.prog 4 #[s.val, x.val, v.val, .int .i64 bk] w fun e W' => e = .returned (.bool true) ∧ Below w.heap.size w W' := by
  have HI := Lib.hid (And.intro hs (And.intro hx hv))
  clear hs hx hv
  go_enter Tryz.func4, Tryz.ntmps4
  go_wp2_with fail
  obtain ⟨A, hA⟩ : ∃ W' : World, (((w.alloc (.cells s.cells.toArray 29)).alloc (.cells x.cells.toArray 32)).alloc (.cells v.cells.toArray 36)) = W' := ⟨_, rfl⟩
  have h : Has A [(w.heap.size + 1 + 1, .cells v.cells.toArray 36 (0, 0)), (w.heap.size + 1, .cells x.cells.toArray 32 (0, 0)), (w.heap.size, .cells s.cells.toArray 29 (0, 0))] := by rw [← hA]; simpa using ((((Has.nil w).new _).new _).new _)
  have z : A.heap.size = w.heap.size + 1 + 1 + 1 := by rw [← hA]; simp
  have b : Below w.heap.size w A := by rw [← hA]; exact (below_alloc (below_alloc (below_alloc (below_self w) _) _) _)
  rw [hA]
  clear hA
  have HA := Lib.hid (show VB w s x v A from ⟨h.tl.tl.hd, h.tl.hd, h.hd, b⟩)
  clear h z b
  refine (few_ok s x v A (HI.out.1.later HA.out.bel) (HI.out.2.1.later HA.out.bel) (HI.out.2.2.later HA.out.bel)).mono ?_
  rintro e B ⟨rfl, b⟩
  have HB := Lib.hid (HA.out.later b)
  clear b HA
  cases hf : decide (Few s x v)
  · clear hf
    go_wp2_with fail
    refine (live_ok B).mono ?_
    rintro e Z ⟨rfl, b⟩
    have HZ := Lib.hid (below_trans HB.out.bel b)
    clear b
    go_wp2_with fail
    go_ret
    exact ⟨rfl, HZ.out⟩
  · clear hf
    have HX := HB
    clear HB
    obtain ⟨u1, hu1⟩ : ∃ u, carV s x v = u := ⟨_, rfl⟩
    obtain ⟨u2, hu2⟩ : ∃ u, bearV s x v bk = u := ⟨_, rfl⟩
    obtain ⟨u3, hu3⟩ : ∃ u, bearV s x v 0 = u := ⟨_, rfl⟩
    have HU := Lib.hid (And.intro hu1 (And.intro hu2 hu3))
    have e1 : (u1 == u1) = true := by simp
    have e2 : (u2 == u2) = true := by simp
    have e3 : (u3 == u3) = true := by simp
    have hl1 : (netL s x v).length ≤ 9223372036854775807 := by
      unfold netL
      split
      · have := (netOk_iff.1 (pn_net (by assumption))).2.2.1
        omega
      · simp
    have HL := Lib.hid hl1
    have hkk : ∀ W, Below B.heap.size B W → W.cell? ⟨w.heap.size, 0, none⟩ = some (.slice s.fh.1 s.fh.2.1 s.fh.2.2) ∧ W.cell? ⟨w.heap.size, 1, none⟩ = some (.slice s.bh.1 s.bh.2.1 s.bh.2.2) ∧ W.cell? ⟨w.heap.size, 2, none⟩ = some (.slice s.lh.1 s.lh.2.1 s.lh.2.2) ∧ W.cell? ⟨w.heap.size, 3, none⟩ = some (.slice s.rh.1 s.rh.2.1 s.rh.2.2) ∧ W.cell? ⟨w.heap.size, 4, none⟩ = some (.int .i64 s.switches) ∧ W.cell? ⟨w.heap.size, 5, none⟩ = some (.slice s.kh.1 s.kh.2.1 s.kh.2.2) ∧ W.cell? ⟨w.heap.size, 6, none⟩ = some (.slice s.hh.1 s.hh.2.1 s.hh.2.2) ∧ W.cell? ⟨w.heap.size + 1, 0, none⟩ = some (.slice x.sh.1 x.sh.2.1 x.sh.2.2) ∧ W.cell? ⟨w.heap.size + 1 + 1, 0, none⟩ = some (.slice v.hh.1 v.hh.2.1 v.hh.2.2) ∧ W.cell? ⟨w.heap.size + 1 + 1, 1, none⟩ = some (.slice v.rh.1 v.rh.2.1 v.rh.2.2) := fun W hb => ⟨(blk_cell (HX.out.later hb).si 0).trans rfl, (blk_cell (HX.out.later hb).si 1).trans rfl, (blk_cell (HX.out.later hb).si 2).trans rfl, (blk_cell (HX.out.later hb).si 3).trans rfl, (blk_cell (HX.out.later hb).si 4).trans rfl, (blk_cell (HX.out.later hb).si 5).trans rfl, (blk_cell (HX.out.later hb).si 6).trans rfl, (blk_cell (HX.out.later hb).wi 0).trans rfl, (blk_cell (HX.out.later hb).wo 0).trans rfl, (blk_cell (HX.out.later hb).wo 1).trans rfl⟩
    have HS := Lib.hid hkk
    have dlsi := blk_lt HX.out.si
    have dlwi := blk_lt HX.out.wi
    have dlwo := blk_lt HX.out.wo
    have b0 : Below B.heap.size B B.drew := (below_self B).drew
    have d0 := hkk B (below_self B)
    obtain ⟨d0, d1, d2, d3, d4, d5, d6, d7, d8, d9⟩ := d0
    clear hkk hu1 hu2 hu3 hl1
    go_upto_region 3 with fail
    clear d0 d1 d2 d3 d4 d5 d6 d7 d8 d9
    go_region_held3 (fun W => W.cell? ⟨w.heap.size, 0, none⟩ = some (.slice s.fh.1 s.fh.2.1 s.fh.2.2) ∧ W.cell? ⟨w.heap.size, 1, none⟩ = some (.slice s.bh.1 s.bh.2.1 s.bh.2.2) ∧ W.cell? ⟨w.heap.size, 2, none⟩ = some (.slice s.lh.1 s.lh.2.1 s.lh.2.2) ∧ W.cell? ⟨w.heap.size, 3, none⟩ = some (.slice s.rh.1 s.rh.2.1 s.rh.2.2) ∧ W.cell? ⟨w.heap.size, 4, none⟩ = some (.int .i64 s.switches) ∧ W.cell? ⟨w.heap.size, 5, none⟩ = some (.slice s.kh.1 s.kh.2.1 s.kh.2.2) ∧ W.cell? ⟨w.heap.size, 6, none⟩ = some (.slice s.hh.1 s.hh.2.1 s.hh.2.2) ∧ W.cell? ⟨w.heap.size + 1, 0, none⟩ = some (.slice x.sh.1 x.sh.2.1 x.sh.2.2) ∧ W.cell? ⟨w.heap.size + 1 + 1, 0, none⟩ = some (.slice v.hh.1 v.hh.2.1 v.hh.2.2) ∧ W.cell? ⟨w.heap.size + 1 + 1, 1, none⟩ = some (.slice v.rh.1 v.rh.2.1 v.rh.2.2))
      (exact HS.out _ (by assumption))
      (first
        | (have hq := b9; clear hq; go_at_call 6; (with_reducible refine (live_ok _).mono ?_); rintro e Z10 ⟨rfl, c10⟩; have b10 := below_trans b9 c10)
        | (have hq := b8; clear hq; go_at_call 21; (with_reducible refine (bearsref_ok s x v 0 _ (HI.out.1.later (below_trans HX.out.bel b8)) (HI.out.2.1.later (below_trans HX.out.bel b8)) (HI.out.2.2.later (below_trans HX.out.bel b8))).mono ?_); rintro e Z9 ⟨rfl, c9⟩; rw [HU.out.2.2]; have b9 := below_trans b8 c9)
        | (have hq := b7; clear hq; go_at_call 20; (with_reducible refine (bears_ok s x v 0 _ (HI.out.1.later (below_trans HX.out.bel b7)) (HI.out.2.1.later (below_trans HX.out.bel b7)) (HI.out.2.2.later (below_trans HX.out.bel b7))).mono ?_); rintro e Z8 ⟨rfl, c8⟩; rw [HU.out.2.2]; have b8 := below_trans b7 c8)
        | (have hq := b6; clear hq; go_at_call 21; (with_reducible refine (bearsref_ok s x v bk _ (HI.out.1.later (below_trans HX.out.bel b6)) (HI.out.2.1.later (below_trans HX.out.bel b6)) (HI.out.2.2.later (below_trans HX.out.bel b6))).mono ?_); rintro e Z7 ⟨rfl, c7⟩; rw [HU.out.2.1]; have b7 := below_trans b6 c7)
        | (have hq := b5; clear hq; go_at_call 20; (with_reducible refine (bears_ok s x v bk _ (HI.out.1.later (below_trans HX.out.bel b5)) (HI.out.2.1.later (below_trans HX.out.bel b5)) (HI.out.2.2.later (below_trans HX.out.bel b5))).mono ?_); rintro e Z6 ⟨rfl, c6⟩; rw [HU.out.2.1]; have b6 := below_trans b5 c6)
        | (have hq := b4; clear hq; go_at_call 19; (with_reducible refine (carriedref_ok s x v _ (HI.out.1.later (below_trans HX.out.bel b4)) (HI.out.2.1.later (below_trans HX.out.bel b4)) (HI.out.2.2.later (below_trans HX.out.bel b4))).mono ?_); rintro e Z5 ⟨rfl, c5⟩; rw [HU.out.1]; have b5 := below_trans b4 c5)
        | (have hq := b3; clear hq; go_at_call 18; (with_reducible refine (carried_ok s x v _ (HI.out.1.later (below_trans HX.out.bel b3)) (HI.out.2.1.later (below_trans HX.out.bel b3)) (HI.out.2.2.later (below_trans HX.out.bel b3))).mono ?_); rintro e Z4 ⟨rfl, c4⟩; rw [HU.out.1]; have b4 := below_trans b3 c4)
        | (have hq := b2; clear hq; go_at_call 15; (refine (samenet_ok (netN s x v) na nk nc ma mc (netL s x v) _ h1.2.1 (by have h3 := HL.out; have h4 := h1.2.1; omega) (h1.later c2).rows h2.rows).mono ?_); rintro e Z3 ⟨rfl, c3⟩; have b3 := below_trans b2 c3)
        | (have hq := b1; clear hq; go_at_call 17; (with_reducible refine (netref_ok s x v _ (HI.out.1.later (below_trans HX.out.bel b1)) (HI.out.2.1.later (below_trans HX.out.bel b1)) (HI.out.2.2.later (below_trans HX.out.bel b1))).mono ?_); rintro e Z2 ⟨ma, mk, mc, rfl, h2, c2⟩; obtain rfl : nk = mk := h1.2.1.symm.trans h2.2.1; have b2 := below_trans b1 c2)
        | (have hq := b0; clear hq; go_at_call 16; (with_reducible refine (net_ok s x v _ (HI.out.1.later (below_trans HX.out.bel b0)) (HI.out.2.1.later (below_trans HX.out.bel b0)) (HI.out.2.2.later (below_trans HX.out.bel b0))).mono ?_); rintro e Z1 ⟨na, nk, nc, rfl, h1, c1⟩; have b1 := below_trans b0 c1))
    have HZ := Lib.hid (below_trans HX.out.bel b10)
    clear HS b0 b1 b2 b3 b4 b5 b6 b7 b8 b9 b10
    go_wp2_with fail
    go_ret
    exact ⟨rfl, HZ.out⟩
end Go.Proofs.YthlefdbhkbpejaaGreat
