/- Chapter 15: cooling.Heat. -/
import Derived.Test.YtmghcinbdfeeoaaGreatSum
import Derived.Deep.RegionLaw
namespace Go.Proofs.YtmghcinbdfeeoaaGreat
open Go Go.RowKit
set_option linter.unusedSimpArgs false

theorem ofRack_le {s : Site} {x : Wish} {v : Wld} {r : Int} : 0 ≤ ofRack s x v r ∧ ofRack s x v r ≤ 384160000 := by
  unfold ofRack
  cases hok : worldOk s x v
  · rw [sumH_no hok]; omega
  · rw [sumH_ok hok]
    have h1 := sumT_le (p := fun i => decide ((s.hosts.getD i default).rack = r)) hok s.hosts.length (Nat.le_refl _)
    have h2 := siteOk_sizes (worldOk_site hok)
    omega
/-- The seven cells of a site's block, and those of a wish's and a world's. -/
def SitC (W : World) (b : Nat) (s : Site) : Prop := W.cell? ⟨b, 0, none⟩ = some (.slice s.fh.1 s.fh.2.1 s.fh.2.2) ∧ W.cell? ⟨b, 1, none⟩ = some (.slice s.bh.1 s.bh.2.1 s.bh.2.2) ∧ W.cell? ⟨b, 2, none⟩ = some (.slice s.lh.1 s.lh.2.1 s.lh.2.2) ∧ W.cell? ⟨b, 3, none⟩ = some (.slice s.rh.1 s.rh.2.1 s.rh.2.2) ∧ W.cell? ⟨b, 4, none⟩ = some (.int .i64 s.switches) ∧ W.cell? ⟨b, 5, none⟩ = some (.slice s.kh.1 s.kh.2.1 s.kh.2.2) ∧ W.cell? ⟨b, 6, none⟩ = some (.slice s.hh.1 s.hh.2.1 s.hh.2.2)
theorem sitC_of {W : World} {b : Nat} {s : Site} (h : W.heap[b]? = some (.cells s.cells.toArray 29 (0, 0))) : SitC W b s :=
  ⟨(blk_cell h 0).trans rfl, (blk_cell h 1).trans rfl, (blk_cell h 2).trans rfl, (blk_cell h 3).trans rfl, (blk_cell h 4).trans rfl, (blk_cell h 5).trans rfl, (blk_cell h 6).trans rfl⟩
def WorC (W : World) (b : Nat) (v : Wld) : Prop := W.cell? ⟨b, 0, none⟩ = some (.slice v.hh.1 v.hh.2.1 v.hh.2.2) ∧ W.cell? ⟨b, 1, none⟩ = some (.slice v.rh.1 v.rh.2.1 v.rh.2.2)
theorem worC_of {W : World} {b : Nat} {v : Wld} (h : W.heap[b]? = some (.cells v.cells.toArray 36 (0, 0))) : WorC W b v :=
  ⟨(blk_cell h 0).trans rfl, (blk_cell h 1).trans rfl⟩

theorem below_undrew {B : Nat} {w W : World} (h : Below w.drew.heap.size w.drew W) (hB : B < w.heap.size) : Below B w W := (below_trans (below_self w).drew h).mono (by omega)
set_option maxHeartbeats 4000000 in
theorem add_ok (s : Site) (x : Wish) (v : Wld) (rack t : Int) (B b1 b2 b3 : Nat) (w : World) (hs : s.At w) (hx : x.At w) (hv : v.At w)
    (c1 : w.heap[b1]? = some (.cells s.cells.toArray 29 (0, 0))) (c2 : w.heap[b2]? = some (.cells x.cells.toArray 32 (0, 0))) (c3 : w.heap[b3]? = some (.cells v.cells.toArray 36 (0, 0))) (c0 : w.heap[B]? = some (.cells #[.int .i64 t] 3 (0, 0))) (hw : IntKind.i64.wrap (t + ofRack s x v rack) = t + ofRack s x v rack) :
    Calls Tryz.prog 22 #[.int .i64 rack, .pointer (some ⟨B, 0, none⟩), .pointer (some ⟨b1, 0, none⟩), .pointer (some ⟨b2, 0, none⟩), .pointer (some ⟨b3, 0, none⟩)] w fun e W' => e = .returned (.tuple #[]) ∧ Below B w W' ∧ W'.heap[B]? = some (.cells #[.int .i64 (t + ofRack s x v rack)] 3 (0, 0)) := by
  obtain ⟨g, hg⟩ : ∃ g, ofRack s x v rack = g := ⟨_, rfl⟩
  rw [hg] at hw ⊢
  have HG := Lib.hid hg
  have HI := Lib.hid (And.intro hs (And.intro hx hv))
  have HC := Lib.hid (And.intro c0 (And.intro c1 (And.intro c2 c3)))
  have lB := blk_lt c0
  have l1 := blk_lt c1
  have l2 := blk_lt c2
  have l3 := blk_lt c3
  clear hg hs hx hv c0 c1 c2 c3
  go_enter Tryz.func22, Tryz.ntmps22
  have kA : w.drew.cell? ⟨B, 0, none⟩ = some (.int .i64 t) ∧ w.drew.cell? ⟨b1, 0, none⟩ = some (.slice s.fh.1 s.fh.2.1 s.fh.2.2) ∧ w.drew.cell? ⟨b1, 1, none⟩ = some (.slice s.bh.1 s.bh.2.1 s.bh.2.2) ∧ w.drew.cell? ⟨b1, 2, none⟩ = some (.slice s.lh.1 s.lh.2.1 s.lh.2.2) ∧ w.drew.cell? ⟨b1, 3, none⟩ = some (.slice s.rh.1 s.rh.2.1 s.rh.2.2) ∧ w.drew.cell? ⟨b1, 4, none⟩ = some (.int .i64 s.switches) ∧ w.drew.cell? ⟨b1, 5, none⟩ = some (.slice s.kh.1 s.kh.2.1 s.kh.2.2) ∧ w.drew.cell? ⟨b1, 6, none⟩ = some (.slice s.hh.1 s.hh.2.1 s.hh.2.2) ∧ w.drew.cell? ⟨b2, 0, none⟩ = some (.slice x.sh.1 x.sh.2.1 x.sh.2.2) ∧ w.drew.cell? ⟨b3, 0, none⟩ = some (.slice v.hh.1 v.hh.2.1 v.hh.2.2) ∧ w.drew.cell? ⟨b3, 1, none⟩ = some (.slice v.rh.1 v.rh.2.1 v.rh.2.2) := ⟨(blk_cell HC.out.1 0).trans rfl, (blk_cell HC.out.2.1 0).trans rfl, (blk_cell HC.out.2.1 1).trans rfl, (blk_cell HC.out.2.1 2).trans rfl, (blk_cell HC.out.2.1 3).trans rfl, (blk_cell HC.out.2.1 4).trans rfl, (blk_cell HC.out.2.1 5).trans rfl, (blk_cell HC.out.2.1 6).trans rfl, (blk_cell HC.out.2.2.1 0).trans rfl, (blk_cell HC.out.2.2.2 0).trans rfl, (blk_cell HC.out.2.2.2 1).trans rfl⟩
  obtain ⟨k0, k1, k2, k3, k4, k5, k6, k7, k8, k9, k10⟩ := kA
  have hkk : ∀ W, Below w.drew.heap.size w.drew W → W.cell? ⟨B, 0, none⟩ = some (.int .i64 t) ∧ W.cell? ⟨b1, 0, none⟩ = some (.slice s.fh.1 s.fh.2.1 s.fh.2.2) ∧ W.cell? ⟨b1, 1, none⟩ = some (.slice s.bh.1 s.bh.2.1 s.bh.2.2) ∧ W.cell? ⟨b1, 2, none⟩ = some (.slice s.lh.1 s.lh.2.1 s.lh.2.2) ∧ W.cell? ⟨b1, 3, none⟩ = some (.slice s.rh.1 s.rh.2.1 s.rh.2.2) ∧ W.cell? ⟨b1, 4, none⟩ = some (.int .i64 s.switches) ∧ W.cell? ⟨b1, 5, none⟩ = some (.slice s.kh.1 s.kh.2.1 s.kh.2.2) ∧ W.cell? ⟨b1, 6, none⟩ = some (.slice s.hh.1 s.hh.2.1 s.hh.2.2) ∧ W.cell? ⟨b2, 0, none⟩ = some (.slice x.sh.1 x.sh.2.1 x.sh.2.2) ∧ W.cell? ⟨b3, 0, none⟩ = some (.slice v.hh.1 v.hh.2.1 v.hh.2.2) ∧ W.cell? ⟨b3, 1, none⟩ = some (.slice v.rh.1 v.rh.2.1 v.rh.2.2) := fun W h => ⟨(blk_cell (blk_below (W := w.drew) HC.out.1 h) 0).trans rfl, (blk_cell (blk_below (W := w.drew) HC.out.2.1 h) 0).trans rfl, (blk_cell (blk_below (W := w.drew) HC.out.2.1 h) 1).trans rfl, (blk_cell (blk_below (W := w.drew) HC.out.2.1 h) 2).trans rfl, (blk_cell (blk_below (W := w.drew) HC.out.2.1 h) 3).trans rfl, (blk_cell (blk_below (W := w.drew) HC.out.2.1 h) 4).trans rfl, (blk_cell (blk_below (W := w.drew) HC.out.2.1 h) 5).trans rfl, (blk_cell (blk_below (W := w.drew) HC.out.2.1 h) 6).trans rfl, (blk_cell (blk_below (W := w.drew) HC.out.2.2.1 h) 0).trans rfl, (blk_cell (blk_below (W := w.drew) HC.out.2.2.2 h) 0).trans rfl, (blk_cell (blk_below (W := w.drew) HC.out.2.2.2 h) 1).trans rfl⟩
  have HK := Lib.hid hkk
  clear hkk
  go_region_law (first
      | (go_simp; go_at_call 23; (with_reducible refine (ofrack_ok s x v rack w.drew (HI.out.1.later (below_self w).drew) (HI.out.2.1.later (below_self w).drew) (HI.out.2.2.later (below_self w).drew)).mono ?_); rintro e Z ⟨rfl, hb⟩; rw [HG.out]; obtain ⟨z0, z1, z2, z3, z4, z5, z6, z7, z8, z9, z10⟩ := HK.out _ hb; have hbz := blk_below (W := w.drew) HC.out.1 hb; have fz := blk_frozen hbz 0; have lz := blk_lt hbz; have HZ := Lib.hid (And.intro hb hbz); clear hb hbz))
  all_goals
    refine bodyPost_end (v := .tuple #[]) ?_ rfl ?_
    · exact results_none rfl _ _ _
    · exact ⟨rfl, (below_undrew HZ.out.1 lB).setCell (Nat.le_refl _) _, blk_set_same HZ.out.2⟩
end Go.Proofs.YtmghcinbdfeeoaaGreat
