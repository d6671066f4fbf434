/- Chapter 15: the law that Heat and Linear answer as the document says: the walk (written by wip/gen15heats.py). -/
import Derived.Test.YtmghcinbdfeeoaaLive
import Derived.Test.YtmghcinbdfeeoaaFew
import Derived.Test.YtmghcinbdfeeoaaHtR
import Derived.Test.YtmghcinbdfeeoaaLinR
namespace Go.Proofs.Ytmghcinbdfeeoaa
open Go Go.RowKit
set_option linter.unusedSimpArgs false

set_option maxRecDepth 10000 in
set_option maxHeartbeats 4000000 in
theorem heats_walk (s : Site) (x : Wish) (v : Wld) (loop : Int) (w : World) (hs : s.At w) (hx : x.At w) (hv : v.At w) :
    Calls Try.prog 3 #[s.val, x.val, v.val, .int .i64 loop] w fun e W' => e = .returned (.bool true) ∧ Below w.heap.size w W' := by
  have HI := Lib.hid (And.intro hs (And.intro hx hv))
  clear hs hx hv
  go_enter Try.func3, Try.ntmps3
  go_wp2_with fail
  obtain ⟨A, hA⟩ : ∃ W' : World, (((w.alloc (.cells s.cells.toArray 29)).alloc (.cells x.cells.toArray 32)).alloc (.cells v.cells.toArray 36)) = W' := ⟨_, rfl⟩
  have h : Has A [(w.heap.size + 1 + 1, .cells v.cells.toArray 36 (0, 0)), (w.heap.size + 1, .cells x.cells.toArray 32 (0, 0)), (w.heap.size, .cells s.cells.toArray 29 (0, 0))] := by rw [← hA]; simpa using ((((Has.nil w).new _).new _).new _)
  have z : A.heap.size = w.heap.size + 1 + 1 + 1 := by rw [← hA]; simp
  have b : Below w.heap.size w A := by rw [← hA]; exact (below_alloc (below_alloc (below_alloc (below_self w) _) _) _)
  rw [hA]
  clear hA
  have HA := Lib.hid (show VB w s x v A from ⟨h.tl.tl.hd, h.tl.hd, h.hd, b⟩)
  clear h z b
  refine (few_ok s x v A (HI.out.1.later HA.out.bel) (HI.out.2.1.later HA.out.bel) (HI.out.2.2.later HA.out.bel)).mono ?_
  rintro e B ⟨rfl, b⟩
  have HB := Lib.hid (HA.out.later b)
  clear b
  cases hf : decide (Few s x v)
  · clear hf
    go_wp2_with fail
    refine (live_ok B).mono ?_
    rintro e Z ⟨rfl, b⟩
    have HZ := Lib.hid (below_trans HB.out.bel b)
    clear b
    go_wp2_with fail
    go_ret
    exact ⟨rfl, HZ.out⟩
  · clear hf
    have d0 : B.cell? ⟨w.heap.size, 0, none⟩ = some (.slice s.fh.1 s.fh.2.1 s.fh.2.2) := (blk_cell HB.out.si 0).trans rfl
    have d1 : B.cell? ⟨w.heap.size, 1, none⟩ = some (.slice s.bh.1 s.bh.2.1 s.bh.2.2) := (blk_cell HB.out.si 1).trans rfl
    have d2 : B.cell? ⟨w.heap.size, 2, none⟩ = some (.slice s.lh.1 s.lh.2.1 s.lh.2.2) := (blk_cell HB.out.si 2).trans rfl
    have d3 : B.cell? ⟨w.heap.size, 3, none⟩ = some (.slice s.rh.1 s.rh.2.1 s.rh.2.2) := (blk_cell HB.out.si 3).trans rfl
    have d4 : B.cell? ⟨w.heap.size, 4, none⟩ = some (.int .i64 s.switches) := (blk_cell HB.out.si 4).trans rfl
    have d5 : B.cell? ⟨w.heap.size, 5, none⟩ = some (.slice s.kh.1 s.kh.2.1 s.kh.2.2) := (blk_cell HB.out.si 5).trans rfl
    have d6 : B.cell? ⟨w.heap.size, 6, none⟩ = some (.slice s.hh.1 s.hh.2.1 s.hh.2.2) := (blk_cell HB.out.si 6).trans rfl
    have d7 : B.cell? ⟨w.heap.size + 1, 0, none⟩ = some (.slice x.sh.1 x.sh.2.1 x.sh.2.2) := (blk_cell HB.out.wi 0).trans rfl
    have d8 : B.cell? ⟨w.heap.size + 1 + 1, 0, none⟩ = some (.slice v.hh.1 v.hh.2.1 v.hh.2.2) := (blk_cell HB.out.wo 0).trans rfl
    have d9 : B.cell? ⟨w.heap.size + 1 + 1, 1, none⟩ = some (.slice v.rh.1 v.rh.2.1 v.rh.2.2) := (blk_cell HB.out.wo 1).trans rfl
    have dlsi := blk_lt HB.out.si
    have dlwi := blk_lt HB.out.wi
    have dlwo := blk_lt HB.out.wo
    go_wp2_with fail
    clear d0 d1 d2 d3 d4 d5 d6 d7 d8 d9 dlsi dlwi dlwo
    refine (linear_ok s loop B (HI.out.1.later HB.out.bel)).mono ?_
    rintro e C ⟨h1, h2, b⟩
    have HC := Lib.hid (HB.out.later b)
    cases hL : lineE s loop
    · obtain rfl := h2 hL
      clear h1 h2 b
      go_upto_region 4 with fail
      obtain ⟨D, hD⟩ : ∃ W' : World, (C.alloc (.cells #[.int .i64 0, .slice none 0 0] 41)) = W' := ⟨_, rfl⟩
      have h : Has D [(C.heap.size, .cells #[.int .i64 0, .slice none 0 0] 41 (0, 0))] := by rw [← hD]; simpa using ((Has.nil C).new _)
      have z : D.heap.size = C.heap.size + 1 := by rw [← hD]; simp
      have bD : Below C.heap.size C D := by rw [← hD]; exact (below_alloc (below_self C) _)
      rw [hD]
      clear hD
      have HD := Lib.hid (And.intro h.hd (HC.out.later bD))
      clear h z bD
      have d0 : D.cell? ⟨w.heap.size, 0, none⟩ = some (.slice s.fh.1 s.fh.2.1 s.fh.2.2) := (blk_cell HD.out.2.si 0).trans rfl
      have d1 : D.cell? ⟨w.heap.size, 1, none⟩ = some (.slice s.bh.1 s.bh.2.1 s.bh.2.2) := (blk_cell HD.out.2.si 1).trans rfl
      have d2 : D.cell? ⟨w.heap.size, 2, none⟩ = some (.slice s.lh.1 s.lh.2.1 s.lh.2.2) := (blk_cell HD.out.2.si 2).trans rfl
      have d3 : D.cell? ⟨w.heap.size, 3, none⟩ = some (.slice s.rh.1 s.rh.2.1 s.rh.2.2) := (blk_cell HD.out.2.si 3).trans rfl
      have d4 : D.cell? ⟨w.heap.size, 4, none⟩ = some (.int .i64 s.switches) := (blk_cell HD.out.2.si 4).trans rfl
      have d5 : D.cell? ⟨w.heap.size, 5, none⟩ = some (.slice s.kh.1 s.kh.2.1 s.kh.2.2) := (blk_cell HD.out.2.si 5).trans rfl
      have d6 : D.cell? ⟨w.heap.size, 6, none⟩ = some (.slice s.hh.1 s.hh.2.1 s.hh.2.2) := (blk_cell HD.out.2.si 6).trans rfl
      have d7 : D.cell? ⟨w.heap.size + 1, 0, none⟩ = some (.slice x.sh.1 x.sh.2.1 x.sh.2.2) := (blk_cell HD.out.2.wi 0).trans rfl
      have d8 : D.cell? ⟨w.heap.size + 1 + 1, 0, none⟩ = some (.slice v.hh.1 v.hh.2.1 v.hh.2.2) := (blk_cell HD.out.2.wo 0).trans rfl
      have d9 : D.cell? ⟨w.heap.size + 1 + 1, 1, none⟩ = some (.slice v.rh.1 v.rh.2.1 v.rh.2.2) := (blk_cell HD.out.2.wo 1).trans rfl
      have dlsi := blk_lt HD.out.2.si
      have dlwi := blk_lt HD.out.2.wi
      have dlwo := blk_lt HD.out.2.wo
      go_wp2_with fail
      clear d0 d1 d2 d3 d4 d5 d6 d7 d8 d9 dlsi dlwi dlwo
      refine (linref_ok s loop D (HI.out.1.later HD.out.2.bel)).mono ?_
      rintro e E ⟨h1, h2, b⟩
      obtain rfl := h2 hL
      have HE := Lib.hid (And.intro (blk_below HD.out.1 b) (HD.out.2.later b))
      clear h1 h2 b hL
      go_upto_region 5 with fail
      obtain ⟨F, hF⟩ : ∃ W' : World, (E.alloc (.cells #[.int .i64 0, .slice none 0 0] 41)) = W' := ⟨_, rfl⟩
      have h : Has F [(E.heap.size, .cells #[.int .i64 0, .slice none 0 0] 41 (0, 0))] := by rw [← hF]; simpa using ((Has.nil E).new _)
      have z : F.heap.size = E.heap.size + 1 := by rw [← hF]; simp
      have bF : Below E.heap.size E F := by rw [← hF]; exact (below_alloc (below_self E) _)
      rw [hF]
      clear hF
      have HF := Lib.hid (And.intro (blk_below HE.out.1 bF) (And.intro h.hd (HE.out.2.later bF)))
      clear h z bF
      have a0 : F.cell? ⟨C.heap.size, 0, none⟩ = some (.int .i64 0) := (blk_cell HF.out.1 0).trans rfl
      have a1 : F.cell? ⟨C.heap.size, 1, none⟩ = some (.slice none 0 0) := (blk_cell HF.out.1 1).trans rfl
      have c0 : F.cell? ⟨E.heap.size, 0, none⟩ = some (.int .i64 0) := (blk_cell HF.out.2.1 0).trans rfl
      have c1 : F.cell? ⟨E.heap.size, 1, none⟩ = some (.slice none 0 0) := (blk_cell HF.out.2.1 1).trans rfl
      go_wp2_with fail
      go_loopw [13, 14] (fun sm i wr => ∃ X : World, sm = .bool true ∧ i = .int .i64 0 ∧ X = wr ∧ Hid (X.cell? ⟨C.heap.size, 1, none⟩ = some (.slice none 0 0)) ∧ Hid (VB w s x v X)) (fun _ _ _ => 0)
      case atStart => exact ⟨_, rfl, rfl, rfl, Lib.hid a1, Lib.hid HF.out.2.2⟩
      case round =>
        obtain ⟨X, rfl, rfl, rfl, Ha, HX⟩ := hrel
        clear a0 a1 c0 c1 HF
        have a1 := Ha.out
        have hkk : ∀ W, Below X.heap.size X W → W.cell? ⟨w.heap.size, 0, none⟩ = some (.slice s.fh.1 s.fh.2.1 s.fh.2.2) ∧ W.cell? ⟨w.heap.size, 1, none⟩ = some (.slice s.bh.1 s.bh.2.1 s.bh.2.2) ∧ W.cell? ⟨w.heap.size, 2, none⟩ = some (.slice s.lh.1 s.lh.2.1 s.lh.2.2) ∧ W.cell? ⟨w.heap.size, 3, none⟩ = some (.slice s.rh.1 s.rh.2.1 s.rh.2.2) ∧ W.cell? ⟨w.heap.size, 4, none⟩ = some (.int .i64 s.switches) ∧ W.cell? ⟨w.heap.size, 5, none⟩ = some (.slice s.kh.1 s.kh.2.1 s.kh.2.2) ∧ W.cell? ⟨w.heap.size, 6, none⟩ = some (.slice s.hh.1 s.hh.2.1 s.hh.2.2) ∧ W.cell? ⟨w.heap.size + 1, 0, none⟩ = some (.slice x.sh.1 x.sh.2.1 x.sh.2.2) ∧ W.cell? ⟨w.heap.size + 1 + 1, 0, none⟩ = some (.slice v.hh.1 v.hh.2.1 v.hh.2.2) ∧ W.cell? ⟨w.heap.size + 1 + 1, 1, none⟩ = some (.slice v.rh.1 v.rh.2.1 v.rh.2.2) := fun W hb => ⟨(blk_cell (HX.out.later hb).si 0).trans rfl, (blk_cell (HX.out.later hb).si 1).trans rfl, (blk_cell (HX.out.later hb).si 2).trans rfl, (blk_cell (HX.out.later hb).si 3).trans rfl, (blk_cell (HX.out.later hb).si 4).trans rfl, (blk_cell (HX.out.later hb).si 5).trans rfl, (blk_cell (HX.out.later hb).si 6).trans rfl, (blk_cell (HX.out.later hb).wi 0).trans rfl, (blk_cell (HX.out.later hb).wo 0).trans rfl, (blk_cell (HX.out.later hb).wo 1).trans rfl⟩
        have HS := Lib.hid hkk
        have dlsi := blk_lt HX.out.si
        have dlwi := blk_lt HX.out.wi
        have dlwo := blk_lt HX.out.wo
        have bX : Below X.heap.size X X.drew := (below_self X).drew
        have hH := heat_is s x v loop
        obtain ⟨g, hg⟩ : ∃ g, heat s x v loop = g := ⟨_, rfl⟩
        rw [hg] at hH
        have HG := Lib.hid (And.intro hg hH)
        clear hkk hg hH
        go_wp2_with fail
        go_region_held3 (fun W => W.cell? ⟨w.heap.size, 0, none⟩ = some (.slice s.fh.1 s.fh.2.1 s.fh.2.2) ∧ W.cell? ⟨w.heap.size, 1, none⟩ = some (.slice s.bh.1 s.bh.2.1 s.bh.2.2) ∧ W.cell? ⟨w.heap.size, 2, none⟩ = some (.slice s.lh.1 s.lh.2.1 s.lh.2.2) ∧ W.cell? ⟨w.heap.size, 3, none⟩ = some (.slice s.rh.1 s.rh.2.1 s.rh.2.2) ∧ W.cell? ⟨w.heap.size, 4, none⟩ = some (.int .i64 s.switches) ∧ W.cell? ⟨w.heap.size, 5, none⟩ = some (.slice s.kh.1 s.kh.2.1 s.kh.2.2) ∧ W.cell? ⟨w.heap.size, 6, none⟩ = some (.slice s.hh.1 s.hh.2.1 s.hh.2.2) ∧ W.cell? ⟨w.heap.size + 1, 0, none⟩ = some (.slice x.sh.1 x.sh.2.1 x.sh.2.2) ∧ W.cell? ⟨w.heap.size + 1 + 1, 0, none⟩ = some (.slice v.hh.1 v.hh.2.1 v.hh.2.2) ∧ W.cell? ⟨w.heap.size + 1 + 1, 1, none⟩ = some (.slice v.rh.1 v.rh.2.1 v.rh.2.2))
          (exact HS.out _ (by assumption))
          (first
            | (go_at_call 9; (with_reducible refine (live_ok _).mono ?_); rintro e Z9 ⟨rfl, b9⟩; have bZ := below_trans bR b9)
            | (go_at_call 13; (with_reducible refine (heat_ref s x v loop _ (HI.out.1.later (below_trans HX.out.bel bH)) (HI.out.2.1.later (below_trans HX.out.bel bH)) (HI.out.2.2.later (below_trans HX.out.bel bH))).mono ?_); rintro e Y2 ⟨rfl, b2⟩; rw [HG.out.2]; have bR := below_trans bH b2)
            | (go_at_call 12; (with_reducible refine (heat_ok s x v loop _ (HI.out.1.later (below_trans HX.out.bel bX)) (HI.out.2.1.later (below_trans HX.out.bel bX)) (HI.out.2.2.later (below_trans HX.out.bel bX))).mono ?_); rintro e Y1 ⟨rfl, b1⟩; rw [HG.out.1]; have bH := below_trans bX b1))
        have HZ := Lib.hid (below_trans HX.out.bel bZ)
        clear HS bX bH bR bZ
        go_wp2_with fail
        go_ret
        exact ⟨rfl, HZ.out⟩
    · obtain ⟨P, hP, rfl, hblk⟩ := h1 hL
      have HP := Lib.hid hblk
      clear h1 h2 b hP hblk
      have HL := Lib.hid hL
      clear hL
      obtain ⟨c, hc⟩ : ∃ c, lCar s loop = c := ⟨_, rfl⟩
      obtain ⟨d, hd⟩ : ∃ d, (s.loops.getD loop.toNat default).delay = d := ⟨_, rfl⟩
      have HCD := Lib.hid (And.intro hc hd)
      rw [hc]
      rw [hd] at HP
      clear hc hd
      go_upto_region 4 with fail
      obtain ⟨D, hD⟩ : ∃ W' : World, (C.alloc (.cells #[.int .i64 c, .slice (some ⟨P, 0, none⟩) 1 1] 41)) = W' := ⟨_, rfl⟩
      have h : Has D [(C.heap.size, .cells #[.int .i64 c, .slice (some ⟨P, 0, none⟩) 1 1] 41 (0, 0))] := by rw [← hD]; simpa using ((Has.nil C).new _)
      have z : D.heap.size = C.heap.size + 1 := by rw [← hD]; simp
      have bD : Below C.heap.size C D := by rw [← hD]; exact (below_alloc (below_self C) _)
      rw [hD]
      clear hD
      have HD := Lib.hid (And.intro h.hd (And.intro (blk_below HP.out bD) (HC.out.later bD)))
      clear h z bD
      have d0 : D.cell? ⟨w.heap.size, 0, none⟩ = some (.slice s.fh.1 s.fh.2.1 s.fh.2.2) := (blk_cell HD.out.2.2.si 0).trans rfl
      have d1 : D.cell? ⟨w.heap.size, 1, none⟩ = some (.slice s.bh.1 s.bh.2.1 s.bh.2.2) := (blk_cell HD.out.2.2.si 1).trans rfl
      have d2 : D.cell? ⟨w.heap.size, 2, none⟩ = some (.slice s.lh.1 s.lh.2.1 s.lh.2.2) := (blk_cell HD.out.2.2.si 2).trans rfl
      have d3 : D.cell? ⟨w.heap.size, 3, none⟩ = some (.slice s.rh.1 s.rh.2.1 s.rh.2.2) := (blk_cell HD.out.2.2.si 3).trans rfl
      have d4 : D.cell? ⟨w.heap.size, 4, none⟩ = some (.int .i64 s.switches) := (blk_cell HD.out.2.2.si 4).trans rfl
      have d5 : D.cell? ⟨w.heap.size, 5, none⟩ = some (.slice s.kh.1 s.kh.2.1 s.kh.2.2) := (blk_cell HD.out.2.2.si 5).trans rfl
      have d6 : D.cell? ⟨w.heap.size, 6, none⟩ = some (.slice s.hh.1 s.hh.2.1 s.hh.2.2) := (blk_cell HD.out.2.2.si 6).trans rfl
      have d7 : D.cell? ⟨w.heap.size + 1, 0, none⟩ = some (.slice x.sh.1 x.sh.2.1 x.sh.2.2) := (blk_cell HD.out.2.2.wi 0).trans rfl
      have d8 : D.cell? ⟨w.heap.size + 1 + 1, 0, none⟩ = some (.slice v.hh.1 v.hh.2.1 v.hh.2.2) := (blk_cell HD.out.2.2.wo 0).trans rfl
      have d9 : D.cell? ⟨w.heap.size + 1 + 1, 1, none⟩ = some (.slice v.rh.1 v.rh.2.1 v.rh.2.2) := (blk_cell HD.out.2.2.wo 1).trans rfl
      have dlsi := blk_lt HD.out.2.2.si
      have dlwi := blk_lt HD.out.2.2.wi
      have dlwo := blk_lt HD.out.2.2.wo
      go_wp2_with fail
      clear d0 d1 d2 d3 d4 d5 d6 d7 d8 d9 dlsi dlwi dlwo
      refine (linref_ok s loop D (HI.out.1.later HD.out.2.2.bel)).mono ?_
      rintro e E ⟨h1, h2, b⟩
      obtain ⟨Q, hQ, rfl, hblk⟩ := h1 HL.out
      rw [HCD.out.1]
      rw [HCD.out.2] at hblk
      have HE := Lib.hid (And.intro (blk_below HD.out.1 b) (And.intro (blk_below HD.out.2.1 b) (And.intro hblk (HD.out.2.2.later b))))
      clear h1 h2 b hblk hQ
      go_upto_region 5 with fail
      obtain ⟨F, hF⟩ : ∃ W' : World, (E.alloc (.cells #[.int .i64 c, .slice (some ⟨Q, 0, none⟩) 1 1] 41)) = W' := ⟨_, rfl⟩
      have h : Has F [(E.heap.size, .cells #[.int .i64 c, .slice (some ⟨Q, 0, none⟩) 1 1] 41 (0, 0))] := by rw [← hF]; simpa using ((Has.nil E).new _)
      have z : F.heap.size = E.heap.size + 1 := by rw [← hF]; simp
      have bF : Below E.heap.size E F := by rw [← hF]; exact (below_alloc (below_self E) _)
      rw [hF]
      clear hF
      have HF := Lib.hid (And.intro (blk_below HE.out.1 bF) (And.intro (blk_below HE.out.2.1 bF) (And.intro (blk_below HE.out.2.2.1 bF) (And.intro h.hd (HE.out.2.2.2.later bF)))))
      clear h z bF
      have a0 : F.cell? ⟨C.heap.size, 0, none⟩ = some (.int .i64 c) := (blk_cell HF.out.1 0).trans rfl
      have a1 : F.cell? ⟨C.heap.size, 1, none⟩ = some (.slice (some ⟨P, 0, none⟩) 1 1) := (blk_cell HF.out.1 1).trans rfl
      have c0 : F.cell? ⟨E.heap.size, 0, none⟩ = some (.int .i64 c) := (blk_cell HF.out.2.2.2.1 0).trans rfl
      have c1 : F.cell? ⟨E.heap.size, 1, none⟩ = some (.slice (some ⟨Q, 0, none⟩) 1 1) := (blk_cell HF.out.2.2.2.1 1).trans rfl
      go_wp2_with fail
      clear a0 a1 c0 c1
      go_loopw [13, 14] (fun sm i wr => ∃ (k : Nat) (X : World), k ≤ 1 ∧ sm = .bool true ∧ i = .int .i64 k ∧ X = wr ∧ Hid (Below F.heap.size F X)) (fun _ i _ => 1 - (intOf i).toNat)
      case atStart => exact ⟨0, _, by omega, rfl, rfl, rfl, Lib.hid (below_self F)⟩
      case round =>
        obtain ⟨k, X, hk, rfl, rfl, rfl, HB9⟩ := hrel
        have HX := Lib.hid (HF.out.2.2.2.2.later HB9.out)
        have a1 : X.cell? ⟨C.heap.size, 1, none⟩ = some (.slice (some ⟨P, 0, none⟩) 1 1) := (blk_cell (blk_below HF.out.1 HB9.out) 1).trans rfl
        by_cases hk0 : k = 0
        · subst hk0
          have c1 : X.cell? ⟨E.heap.size, 1, none⟩ = some (.slice (some ⟨Q, 0, none⟩) 1 1) := (blk_cell (blk_below HF.out.2.2.2.1 HB9.out) 1).trans rfl
          have p0 : X.cell? ⟨P, 0, none⟩ = some (.int .i64 0) := (blk_cell (blk_below HF.out.2.1 HB9.out) 0).trans rfl
          have p1 : X.cell? ⟨P, 1, none⟩ = some (.int .i64 1) := (blk_cell (blk_below HF.out.2.1 HB9.out) 1).trans rfl
          have p2 : X.cell? ⟨P, 2, none⟩ = some (.int .i64 d) := (blk_cell (blk_below HF.out.2.1 HB9.out) 2).trans rfl
          have r0 : X.cell? ⟨Q, 0, none⟩ = some (.int .i64 0) := (blk_cell (blk_below HF.out.2.2.1 HB9.out) 0).trans rfl
          have r1 : X.cell? ⟨Q, 1, none⟩ = some (.int .i64 1) := (blk_cell (blk_below HF.out.2.2.1 HB9.out) 1).trans rfl
          have r2 : X.cell? ⟨Q, 2, none⟩ = some (.int .i64 d) := (blk_cell (blk_below HF.out.2.2.1 HB9.out) 2).trans rfl
          have ez : ((0 : Nat) : Int) = 0 := rfl
          rw [ez]
          clear ez
          go_wp2_with fail
          go_quiet (fail)
          go_wp2_with fail
          go_roundw
          case rel => exact ⟨1, _, by omega, rfl, by go_num, rfl, Lib.hid (below_drewN HB9.out _)⟩
          case measure => simp [intOf]
        · obtain rfl : k = 1 := by omega
          have ez : ((1 : Nat) : Int) = 1 := rfl
          rw [ez]
          clear ez
          have hkk : ∀ W, Below X.heap.size X W → W.cell? ⟨w.heap.size, 0, none⟩ = some (.slice s.fh.1 s.fh.2.1 s.fh.2.2) ∧ W.cell? ⟨w.heap.size, 1, none⟩ = some (.slice s.bh.1 s.bh.2.1 s.bh.2.2) ∧ W.cell? ⟨w.heap.size, 2, none⟩ = some (.slice s.lh.1 s.lh.2.1 s.lh.2.2) ∧ W.cell? ⟨w.heap.size, 3, none⟩ = some (.slice s.rh.1 s.rh.2.1 s.rh.2.2) ∧ W.cell? ⟨w.heap.size, 4, none⟩ = some (.int .i64 s.switches) ∧ W.cell? ⟨w.heap.size, 5, none⟩ = some (.slice s.kh.1 s.kh.2.1 s.kh.2.2) ∧ W.cell? ⟨w.heap.size, 6, none⟩ = some (.slice s.hh.1 s.hh.2.1 s.hh.2.2) ∧ W.cell? ⟨w.heap.size + 1, 0, none⟩ = some (.slice x.sh.1 x.sh.2.1 x.sh.2.2) ∧ W.cell? ⟨w.heap.size + 1 + 1, 0, none⟩ = some (.slice v.hh.1 v.hh.2.1 v.hh.2.2) ∧ W.cell? ⟨w.heap.size + 1 + 1, 1, none⟩ = some (.slice v.rh.1 v.rh.2.1 v.rh.2.2) := fun W hb => ⟨(blk_cell (HX.out.later hb).si 0).trans rfl, (blk_cell (HX.out.later hb).si 1).trans rfl, (blk_cell (HX.out.later hb).si 2).trans rfl, (blk_cell (HX.out.later hb).si 3).trans rfl, (blk_cell (HX.out.later hb).si 4).trans rfl, (blk_cell (HX.out.later hb).si 5).trans rfl, (blk_cell (HX.out.later hb).si 6).trans rfl, (blk_cell (HX.out.later hb).wi 0).trans rfl, (blk_cell (HX.out.later hb).wo 0).trans rfl, (blk_cell (HX.out.later hb).wo 1).trans rfl⟩
          have HS := Lib.hid hkk
          have dlsi := blk_lt HX.out.si
          have dlwi := blk_lt HX.out.wi
          have dlwo := blk_lt HX.out.wo
          have bX : Below X.heap.size X X.drew := (below_self X).drew
          have hH := heat_is s x v loop
          obtain ⟨g, hg⟩ : ∃ g, heat s x v loop = g := ⟨_, rfl⟩
          rw [hg] at hH
          have HG := Lib.hid (And.intro hg hH)
          clear hkk hg hH
          go_wp2_with fail
          go_region_held3 (fun W => W.cell? ⟨w.heap.size, 0, none⟩ = some (.slice s.fh.1 s.fh.2.1 s.fh.2.2) ∧ W.cell? ⟨w.heap.size, 1, none⟩ = some (.slice s.bh.1 s.bh.2.1 s.bh.2.2) ∧ W.cell? ⟨w.heap.size, 2, none⟩ = some (.slice s.lh.1 s.lh.2.1 s.lh.2.2) ∧ W.cell? ⟨w.heap.size, 3, none⟩ = some (.slice s.rh.1 s.rh.2.1 s.rh.2.2) ∧ W.cell? ⟨w.heap.size, 4, none⟩ = some (.int .i64 s.switches) ∧ W.cell? ⟨w.heap.size, 5, none⟩ = some (.slice s.kh.1 s.kh.2.1 s.kh.2.2) ∧ W.cell? ⟨w.heap.size, 6, none⟩ = some (.slice s.hh.1 s.hh.2.1 s.hh.2.2) ∧ W.cell? ⟨w.heap.size + 1, 0, none⟩ = some (.slice x.sh.1 x.sh.2.1 x.sh.2.2) ∧ W.cell? ⟨w.heap.size + 1 + 1, 0, none⟩ = some (.slice v.hh.1 v.hh.2.1 v.hh.2.2) ∧ W.cell? ⟨w.heap.size + 1 + 1, 1, none⟩ = some (.slice v.rh.1 v.rh.2.1 v.rh.2.2))
            (exact HS.out _ (by assumption))
            (first
              | (go_at_call 9; (with_reducible refine (live_ok _).mono ?_); rintro e Z9 ⟨rfl, b9⟩; have bZ := below_trans bR b9)
              | (go_at_call 13; (with_reducible refine (heat_ref s x v loop _ (HI.out.1.later (below_trans HX.out.bel bH)) (HI.out.2.1.later (below_trans HX.out.bel bH)) (HI.out.2.2.later (below_trans HX.out.bel bH))).mono ?_); rintro e Y2 ⟨rfl, b2⟩; rw [HG.out.2]; have bR := below_trans bH b2)
              | (go_at_call 12; (with_reducible refine (heat_ok s x v loop _ (HI.out.1.later (below_trans HX.out.bel bX)) (HI.out.2.1.later (below_trans HX.out.bel bX)) (HI.out.2.2.later (below_trans HX.out.bel bX))).mono ?_); rintro e Y1 ⟨rfl, b1⟩; rw [HG.out.1]; have bH := below_trans bX b1))
          have HZ := Lib.hid (below_trans HX.out.bel bZ)
          clear HS bX bH bR bZ
          go_wp2_with fail
          go_ret
          exact ⟨rfl, HZ.out⟩
end Go.Proofs.Ytmghcinbdfeeoaa
