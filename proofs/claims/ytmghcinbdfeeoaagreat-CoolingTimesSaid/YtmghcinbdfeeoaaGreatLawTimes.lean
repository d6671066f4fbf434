/- Chapter 15: the law that After and Longest answer as the document says: the walk (written by wip/gen15times.py). -/
import Derived.Test.YtmghcinbdfeeoaaGreatLive
import Derived.Test.YtmghcinbdfeeoaaGreatFew
import Derived.Test.YtmghcinbdfeeoaaGreatTimR
namespace Go.Proofs.YtmghcinbdfeeoaaGreat
open Go Go.RowKit
set_option linter.unusedSimpArgs false

set_option maxRecDepth 10000 in
set_option maxHeartbeats 4000000 in
theorem times_walk (s : Site) (x : Wish) (v : Wld) (loop start n limit : Int) (w : World) (hs : s.At w) (hx : x.At w) (hv : v.At w) :
    Calls Tryz.prog 3 #[s.val, x.val, v.val, .int .i64 loop, .int .i64 start, .int .i64 n, .int .i64 limit] w fun e W' => e = .returned (.bool true) ∧ Below w.heap.size w W' := by
  have HI := Lib.hid (And.intro hs (And.intro hx hv))
  clear hs hx hv
  go_enter Tryz.func3, Tryz.ntmps3
  go_wp2_with fail
  obtain ⟨A, hA⟩ : ∃ W' : World, (((w.alloc (.cells s.cells.toArray 29)).alloc (.cells x.cells.toArray 32)).alloc (.cells v.cells.toArray 36)) = W' := ⟨_, rfl⟩
  have h : Has A [(w.heap.size + 1 + 1, .cells v.cells.toArray 36 (0, 0)), (w.heap.size + 1, .cells x.cells.toArray 32 (0, 0)), (w.heap.size, .cells s.cells.toArray 29 (0, 0))] := by rw [← hA]; simpa using ((((Has.nil w).new _).new _).new _)
  have z : A.heap.size = w.heap.size + 1 + 1 + 1 := by rw [← hA]; simp
  have b : Below w.heap.size w A := by rw [← hA]; exact (below_alloc (below_alloc (below_alloc (below_self w) _) _) _)
  rw [hA]
  clear hA
  have HA := Lib.hid (show VB w s x v A from ⟨h.tl.tl.hd, h.tl.hd, h.hd, b⟩)
  clear h z b
  refine (few_ok s x v A (HI.out.1.later HA.out.bel) (HI.out.2.1.later HA.out.bel) (HI.out.2.2.later HA.out.bel)).mono ?_
  rintro e B ⟨rfl, b⟩
  have HB := Lib.hid (HA.out.later b)
  clear b
  cases hf : decide (Few s x v)
  · clear hf
    go_wp2_with fail
    refine (live_ok B).mono ?_
    rintro e Z ⟨rfl, b⟩
    have HZ := Lib.hid (below_trans HB.out.bel b)
    clear b
    go_wp2_with fail
    go_ret
    exact ⟨rfl, HZ.out⟩
  · clear hf
    have hp := fun W => after_ok s x v loop start n W
    have hq := fun W => afterref_ok s x v loop start n W
    have hr := fun W => longest_ok s x v loop start limit W
    have hu := fun W => longref_ok s x v loop start limit W
    generalize aftV s x v loop start n = p1 at hp hq
    generalize conE s x v loop start n = p2 at hp hq
    generalize lngV s x v loop start limit = p3 at hr hu
    generalize lngE s x v loop start limit = p4 at hr hu
    have HC := Lib.hid (And.intro hp (And.intro hq (And.intro hr hu)))
    clear hp hq hr hu
    have d0 : B.cell? ⟨w.heap.size, 0, none⟩ = some (.slice s.fh.1 s.fh.2.1 s.fh.2.2) := (blk_cell HB.out.si 0).trans rfl
    have d1 : B.cell? ⟨w.heap.size, 1, none⟩ = some (.slice s.bh.1 s.bh.2.1 s.bh.2.2) := (blk_cell HB.out.si 1).trans rfl
    have d2 : B.cell? ⟨w.heap.size, 2, none⟩ = some (.slice s.lh.1 s.lh.2.1 s.lh.2.2) := (blk_cell HB.out.si 2).trans rfl
    have d3 : B.cell? ⟨w.heap.size, 3, none⟩ = some (.slice s.rh.1 s.rh.2.1 s.rh.2.2) := (blk_cell HB.out.si 3).trans rfl
    have d4 : B.cell? ⟨w.heap.size, 4, none⟩ = some (.int .i64 s.switches) := (blk_cell HB.out.si 4).trans rfl
    have d5 : B.cell? ⟨w.heap.size, 5, none⟩ = some (.slice s.kh.1 s.kh.2.1 s.kh.2.2) := (blk_cell HB.out.si 5).trans rfl
    have d6 : B.cell? ⟨w.heap.size, 6, none⟩ = some (.slice s.hh.1 s.hh.2.1 s.hh.2.2) := (blk_cell HB.out.si 6).trans rfl
    have d7 : B.cell? ⟨w.heap.size + 1, 0, none⟩ = some (.slice x.sh.1 x.sh.2.1 x.sh.2.2) := (blk_cell HB.out.wi 0).trans rfl
    have d8 : B.cell? ⟨w.heap.size + 1 + 1, 0, none⟩ = some (.slice v.hh.1 v.hh.2.1 v.hh.2.2) := (blk_cell HB.out.wo 0).trans rfl
    have d9 : B.cell? ⟨w.heap.size + 1 + 1, 1, none⟩ = some (.slice v.rh.1 v.rh.2.1 v.rh.2.2) := (blk_cell HB.out.wo 1).trans rfl
    have dlsi := blk_lt HB.out.si
    have dlwi := blk_lt HB.out.wi
    have dlwo := blk_lt HB.out.wo
    go_wp2_with fail
    clear d0 d1 d2 d3 d4 d5 d6 d7 d8 d9 dlsi dlwi dlwo
    refine (HC.out.1 B (HI.out.1.later HB.out.bel) (HI.out.2.1.later HB.out.bel) (HI.out.2.2.later HB.out.bel)).mono ?_
    rintro e D ⟨rfl, b⟩
    have HD := Lib.hid (HB.out.later b)
    clear b
    have d0 : D.cell? ⟨w.heap.size, 0, none⟩ = some (.slice s.fh.1 s.fh.2.1 s.fh.2.2) := (blk_cell HD.out.si 0).trans rfl
    have d1 : D.cell? ⟨w.heap.size, 1, none⟩ = some (.slice s.bh.1 s.bh.2.1 s.bh.2.2) := (blk_cell HD.out.si 1).trans rfl
    have d2 : D.cell? ⟨w.heap.size, 2, none⟩ = some (.slice s.lh.1 s.lh.2.1 s.lh.2.2) := (blk_cell HD.out.si 2).trans rfl
    have d3 : D.cell? ⟨w.heap.size, 3, none⟩ = some (.slice s.rh.1 s.rh.2.1 s.rh.2.2) := (blk_cell HD.out.si 3).trans rfl
    have d4 : D.cell? ⟨w.heap.size, 4, none⟩ = some (.int .i64 s.switches) := (blk_cell HD.out.si 4).trans rfl
    have d5 : D.cell? ⟨w.heap.size, 5, none⟩ = some (.slice s.kh.1 s.kh.2.1 s.kh.2.2) := (blk_cell HD.out.si 5).trans rfl
    have d6 : D.cell? ⟨w.heap.size, 6, none⟩ = some (.slice s.hh.1 s.hh.2.1 s.hh.2.2) := (blk_cell HD.out.si 6).trans rfl
    have d7 : D.cell? ⟨w.heap.size + 1, 0, none⟩ = some (.slice x.sh.1 x.sh.2.1 x.sh.2.2) := (blk_cell HD.out.wi 0).trans rfl
    have d8 : D.cell? ⟨w.heap.size + 1 + 1, 0, none⟩ = some (.slice v.hh.1 v.hh.2.1 v.hh.2.2) := (blk_cell HD.out.wo 0).trans rfl
    have d9 : D.cell? ⟨w.heap.size + 1 + 1, 1, none⟩ = some (.slice v.rh.1 v.rh.2.1 v.rh.2.2) := (blk_cell HD.out.wo 1).trans rfl
    have dlsi := blk_lt HD.out.si
    have dlwi := blk_lt HD.out.wi
    have dlwo := blk_lt HD.out.wo
    go_wp2_with fail
    clear d0 d1 d2 d3 d4 d5 d6 d7 d8 d9 dlsi dlwi dlwo
    refine (HC.out.2.1 D (HI.out.1.later HD.out.bel) (HI.out.2.1.later HD.out.bel) (HI.out.2.2.later HD.out.bel)).mono ?_
    rintro e E ⟨rfl, b⟩
    have HE := Lib.hid (HD.out.later b)
    clear b
    have d0 : E.cell? ⟨w.heap.size, 0, none⟩ = some (.slice s.fh.1 s.fh.2.1 s.fh.2.2) := (blk_cell HE.out.si 0).trans rfl
    have d1 : E.cell? ⟨w.heap.size, 1, none⟩ = some (.slice s.bh.1 s.bh.2.1 s.bh.2.2) := (blk_cell HE.out.si 1).trans rfl
    have d2 : E.cell? ⟨w.heap.size, 2, none⟩ = some (.slice s.lh.1 s.lh.2.1 s.lh.2.2) := (blk_cell HE.out.si 2).trans rfl
    have d3 : E.cell? ⟨w.heap.size, 3, none⟩ = some (.slice s.rh.1 s.rh.2.1 s.rh.2.2) := (blk_cell HE.out.si 3).trans rfl
    have d4 : E.cell? ⟨w.heap.size, 4, none⟩ = some (.int .i64 s.switches) := (blk_cell HE.out.si 4).trans rfl
    have d5 : E.cell? ⟨w.heap.size, 5, none⟩ = some (.slice s.kh.1 s.kh.2.1 s.kh.2.2) := (blk_cell HE.out.si 5).trans rfl
    have d6 : E.cell? ⟨w.heap.size, 6, none⟩ = some (.slice s.hh.1 s.hh.2.1 s.hh.2.2) := (blk_cell HE.out.si 6).trans rfl
    have d7 : E.cell? ⟨w.heap.size + 1, 0, none⟩ = some (.slice x.sh.1 x.sh.2.1 x.sh.2.2) := (blk_cell HE.out.wi 0).trans rfl
    have d8 : E.cell? ⟨w.heap.size + 1 + 1, 0, none⟩ = some (.slice v.hh.1 v.hh.2.1 v.hh.2.2) := (blk_cell HE.out.wo 0).trans rfl
    have d9 : E.cell? ⟨w.heap.size + 1 + 1, 1, none⟩ = some (.slice v.rh.1 v.rh.2.1 v.rh.2.2) := (blk_cell HE.out.wo 1).trans rfl
    have dlsi := blk_lt HE.out.si
    have dlwi := blk_lt HE.out.wi
    have dlwo := blk_lt HE.out.wo
    go_wp2_with fail
    clear d0 d1 d2 d3 d4 d5 d6 d7 d8 d9 dlsi dlwi dlwo
    refine (HC.out.2.2.1 E (HI.out.1.later HE.out.bel) (HI.out.2.1.later HE.out.bel) (HI.out.2.2.later HE.out.bel)).mono ?_
    rintro e F ⟨rfl, b⟩
    have HF := Lib.hid (HE.out.later b)
    clear b
    have d0 : F.cell? ⟨w.heap.size, 0, none⟩ = some (.slice s.fh.1 s.fh.2.1 s.fh.2.2) := (blk_cell HF.out.si 0).trans rfl
    have d1 : F.cell? ⟨w.heap.size, 1, none⟩ = some (.slice s.bh.1 s.bh.2.1 s.bh.2.2) := (blk_cell HF.out.si 1).trans rfl
    have d2 : F.cell? ⟨w.heap.size, 2, none⟩ = some (.slice s.lh.1 s.lh.2.1 s.lh.2.2) := (blk_cell HF.out.si 2).trans rfl
    have d3 : F.cell? ⟨w.heap.size, 3, none⟩ = some (.slice s.rh.1 s.rh.2.1 s.rh.2.2) := (blk_cell HF.out.si 3).trans rfl
    have d4 : F.cell? ⟨w.heap.size, 4, none⟩ = some (.int .i64 s.switches) := (blk_cell HF.out.si 4).trans rfl
    have d5 : F.cell? ⟨w.heap.size, 5, none⟩ = some (.slice s.kh.1 s.kh.2.1 s.kh.2.2) := (blk_cell HF.out.si 5).trans rfl
    have d6 : F.cell? ⟨w.heap.size, 6, none⟩ = some (.slice s.hh.1 s.hh.2.1 s.hh.2.2) := (blk_cell HF.out.si 6).trans rfl
    have d7 : F.cell? ⟨w.heap.size + 1, 0, none⟩ = some (.slice x.sh.1 x.sh.2.1 x.sh.2.2) := (blk_cell HF.out.wi 0).trans rfl
    have d8 : F.cell? ⟨w.heap.size + 1 + 1, 0, none⟩ = some (.slice v.hh.1 v.hh.2.1 v.hh.2.2) := (blk_cell HF.out.wo 0).trans rfl
    have d9 : F.cell? ⟨w.heap.size + 1 + 1, 1, none⟩ = some (.slice v.rh.1 v.rh.2.1 v.rh.2.2) := (blk_cell HF.out.wo 1).trans rfl
    have dlsi := blk_lt HF.out.si
    have dlwi := blk_lt HF.out.wi
    have dlwo := blk_lt HF.out.wo
    go_wp2_with fail
    clear d0 d1 d2 d3 d4 d5 d6 d7 d8 d9 dlsi dlwi dlwo
    refine (HC.out.2.2.2 F (HI.out.1.later HF.out.bel) (HI.out.2.1.later HF.out.bel) (HI.out.2.2.later HF.out.bel)).mono ?_
    rintro e G ⟨rfl, b⟩
    have HG := Lib.hid (HF.out.later b)
    clear b
    go_wp2_with fail
    refine (live_ok G).mono ?_
    rintro e Z ⟨rfl, b⟩
    have HZ := Lib.hid (below_trans HG.out.bel b)
    clear b
    go_wp2_with fail
    go_ret
    exact ⟨rfl, HZ.out⟩
end Go.Proofs.YtmghcinbdfeeoaaGreat
