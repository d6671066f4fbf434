/- Chapter 14: power.Bears (written by wip/gen14brs.py). -/
import Derived.Test.YthlefdbhkbpejaaGreatPwC
import Derived.Test.YthlefdbhkbpejaaGreatBTimes
import Derived.Test.YthlefdbhkbpejaaGreatNtA
import Derived.Test.YthlefdbhkbpejaaGreatOfs
import Derived.Deep.RegionHeld3
import Derived.BigQuiet
namespace Go.Proofs.YthlefdbhkbpejaaGreat
open Go F5

def bkOf (b : Bkr) : B7.Brk := ⟨b.feed, b.limit, b.slow, max b.fast b.limit⟩
def bearV (s : Site) (x : Wish) (v : Wld) (b : Int) : Int := if (0 ≤ b ∧ b < (s.brks.length : Int)) ∧ worldOk s x v = true then B7.lastsN (bkOf (s.brks.getD b.toNat default)) 0 (ofBrk s x v b) else 0

theorem bk_ok {s : Site} {x : Wish} {v : Wld} (h : worldOk s x v = true) {b : Nat} (hb : b < s.brks.length) : B7.steadyE (bkOf (s.brks.getD b default)) 0 (ofBrk s x v b) = 0 := by
  have h1 := siteOk_brk (worldOk_site h) hb
  have h2 := sumH_le h fun i => decide ((s.racks.getD (s.hosts.getD i default).rack.toNat default).brk = (b : Int))
  have h3 : B7.okW (ofBrk s x v b) = true := B7.inR_iff.2 (by unfold ofBrk; omega)
  unfold B7.steadyE bkOf
  rw [if_pos (B7.okB_iff.2 ⟨h1.2.1, h1.2.2.1, by simp only; omega⟩), if_pos ⟨B7.inR_iff.2 ⟨by omega, h1.2.2.1.1⟩, h3⟩]
/-- For ever exactly if the load is at most the limit. -/
theorem bear_iff {s : Site} {x : Wish} {v : Wld} (h : worldOk s x v = true) {b : Nat} (hb : b < s.brks.length) : bearV s x v b = -1 ↔ ofBrk s x v b ≤ (s.brks.getD b default).limit := by
  unfold bearV
  rw [if_pos ⟨⟨by omega, by omega⟩, h⟩, Int.toNat_natCast]
  unfold B7.lastsN
  rw [if_pos (bk_ok h hb)]
  have h1 := siteOk_brk (worldOk_site h) hb
  show (if _ ≤ (s.brks.getD b default).limit then (-1 : Int) else if max _ _ < _ then 0 else ((s.brks.getD b default).slow - 0) / _) = -1 ↔ _
  by_cases hl : ofBrk s x v b ≤ (s.brks.getD b default).limit
  · rw [if_pos hl]
    exact ⟨fun _ => hl, fun _ => rfl⟩
  · rw [if_neg hl]
    refine ⟨fun e => ?_, fun e => absurd e hl⟩
    have h3 : 0 ≤ ((s.brks.getD b default).slow - 0) / (ofBrk s x v b - (s.brks.getD b default).limit) := Int.ediv_nonneg (by omega) (by omega)
    change (if max (s.brks.getD b default).fast (s.brks.getD b default).limit < ofBrk s x v b then (0 : Int) else ((s.brks.getD b default).slow - 0) / (ofBrk s x v b - (s.brks.getD b default).limit)) = -1 at e
    split at e <;> omega
end Go.Proofs.YthlefdbhkbpejaaGreat

namespace Go.Proofs.YthlefdbhkbpejaaGreat
open Go Go.RowKit F5
set_option linter.unusedSimpArgs false

set_option maxRecDepth 10000 in
set_option maxHeartbeats 8000000 in
theorem bears_ok (s : Site) (x : Wish) (v : Wld) (b : Int) (w : World) (hs : s.At w) (hx : x.At w) (hv : v.At w) :
    Calls Tryz.prog 20 #[s.val, x.val, v.val, .int .i64 b] w fun e W' => e = .returned (.int .i64 (bearV s x v b)) ∧ Below w.heap.size w W' := by
  have HI := Lib.hid (And.intro hs (And.intro hx hv))
  have hN : s.brks.length = s.bh.2.1 := hs.brks.len
  have HN := Lib.hid hN
  obtain ⟨g, hg⟩ : ∃ g, bearV s x v b = g := ⟨_, rfl⟩
  have HG := Lib.hid (show (if (0 ≤ b ∧ b < (s.brks.length : Int)) ∧ worldOk s x v = true then B7.lastsN (bkOf (s.brks.getD b.toNat default)) 0 (ofBrk s x v b) else 0) = g from hg)
  rw [hg]
  clear hs hx hv hg hN
  go_enter Tryz.func20, Tryz.ntmps20
  go_upto_region 1 with fail
  obtain ⟨A, hA⟩ : ∃ W' : World, (((w.alloc (.cells s.cells.toArray 29)).alloc (.cells x.cells.toArray 32)).alloc (.cells v.cells.toArray 36)) = W' := ⟨_, rfl⟩
  have h : Has A [(w.heap.size + 1 + 1, .cells v.cells.toArray 36 (0, 0)), (w.heap.size + 1, .cells x.cells.toArray 32 (0, 0)), (w.heap.size, .cells s.cells.toArray 29 (0, 0))] := by rw [← hA]; simpa using ((((Has.nil w).new _).new _).new _)
  have z : A.heap.size = w.heap.size + 1 + 1 + 1 := by rw [← hA]; simp
  have b0 : Below w.heap.size w A := by rw [← hA]; exact (below_alloc (below_alloc (below_alloc (below_self w) _) _) _)
  rw [hA]
  clear hA
  have HA := Lib.hid (show VB w s x v A from ⟨h.tl.tl.hd, h.tl.hd, h.hd, b0⟩)
  clear h z b0
  by_cases c0 : b < 0
  · have HE := Lib.hid (show g = 0 by rw [← HG.out, if_neg (by omega)])
    go_wp2_with fail
    go_ret
    exact ⟨by rw [HE.out]; rfl, HA.out.bel⟩
  · obtain ⟨k, rfl⟩ : ∃ k : Nat, b = k := ⟨b.toNat, by omega⟩
    have d0 : A.cell? ⟨w.heap.size, 0, none⟩ = some (.slice s.fh.1 s.fh.2.1 s.fh.2.2) := (blk_cell HA.out.si 0).trans rfl
    have d1 : A.cell? ⟨w.heap.size, 1, none⟩ = some (.slice s.bh.1 s.bh.2.1 s.bh.2.2) := (blk_cell HA.out.si 1).trans rfl
    have d2 : A.cell? ⟨w.heap.size, 2, none⟩ = some (.slice s.lh.1 s.lh.2.1 s.lh.2.2) := (blk_cell HA.out.si 2).trans rfl
    have d3 : A.cell? ⟨w.heap.size, 3, none⟩ = some (.slice s.rh.1 s.rh.2.1 s.rh.2.2) := (blk_cell HA.out.si 3).trans rfl
    have d4 : A.cell? ⟨w.heap.size, 4, none⟩ = some (.int .i64 s.switches) := (blk_cell HA.out.si 4).trans rfl
    have d5 : A.cell? ⟨w.heap.size, 5, none⟩ = some (.slice s.kh.1 s.kh.2.1 s.kh.2.2) := (blk_cell HA.out.si 5).trans rfl
    have d6 : A.cell? ⟨w.heap.size, 6, none⟩ = some (.slice s.hh.1 s.hh.2.1 s.hh.2.2) := (blk_cell HA.out.si 6).trans rfl
    have d7 : A.cell? ⟨w.heap.size + 1, 0, none⟩ = some (.slice x.sh.1 x.sh.2.1 x.sh.2.2) := (blk_cell HA.out.wi 0).trans rfl
    have d8 : A.cell? ⟨w.heap.size + 1 + 1, 0, none⟩ = some (.slice v.hh.1 v.hh.2.1 v.hh.2.2) := (blk_cell HA.out.wo 0).trans rfl
    have d9 : A.cell? ⟨w.heap.size + 1 + 1, 1, none⟩ = some (.slice v.rh.1 v.rh.2.1 v.rh.2.2) := (blk_cell HA.out.wo 1).trans rfl
    have dlsi := blk_lt HA.out.si
    have dlwi := blk_lt HA.out.wi
    have dlwo := blk_lt HA.out.wo
    by_cases c1 : k < s.bh.2.1
    · have c1I : (k : Int) < (s.bh.2.1 : Int) := by omega
      have hkl : k < s.brks.length := by rw [HN.out]; exact c1
      go_wp2_with fail
      refine (world_ok s x v A (HI.out.1.later HA.out.bel) (HI.out.2.1.later HA.out.bel) (HI.out.2.2.later HA.out.bel)).mono ?_
      rintro e B ⟨rfl, b0⟩
      have HB := Lib.hid (HA.out.later b0)
      clear b0 HA d0 d1 d2 d3 d4 d5 d6 d7 d8 d9 dlsi dlwi dlwo
      cases hok : worldOk s x v
      · have HE := Lib.hid (show g = 0 by rw [← HG.out, if_neg (by rw [hok]; simp)])
        clear hok
        go_wp2_with fail
        go_ret
        exact ⟨by rw [HE.out]; rfl, HB.out.bel⟩
      · have HO := Lib.hid hok
        have hg2 := HG.out
        rw [if_pos ⟨⟨by omega, by omega⟩, hok⟩, Int.toNat_natCast] at hg2
        clear hok
        obtain ⟨b1, o1, q1, hb1, p0, p1, p2, p3⟩ := bks_at (HI.out.1.later HB.out.bel).brks.rows k hkl
        generalize s.brks.getD k default = y at p0 p1 p2 p3 hg2
        obtain ⟨yf, yl, ys, yt⟩ := y
        simp only at p0 p1 p2 p3
        obtain ⟨u, hu⟩ : ∃ u, ofBrk s x v k = u := ⟨_, rfl⟩
        rw [hu] at hg2
        have HU := Lib.hid (And.intro hu hg2)
        have hmx : (if yt < yl then yl else yt) = max yt yl := by omega
        clear hu hg2
        have d1 : B.cell? ⟨w.heap.size, 1, none⟩ = some (.slice s.bh.1 s.bh.2.1 s.bh.2.2) := (blk_cell HB.out.si 1).trans rfl
        have dlsi := blk_lt HB.out.si
        have dlwi := blk_lt HB.out.wi
        have dlwo := blk_lt HB.out.wo
        rw [q1] at d1
        go_upto_region 5 with fail
        obtain ⟨D, hD⟩ : ∃ W' : World, (B.alloc (.cells #[.int .i64 yf, .int .i64 yl, .int .i64 ys, .int .i64 (max yt yl)] 61)) = W' := ⟨_, rfl⟩
        have h : Has D [(B.heap.size, .cells #[.int .i64 yf, .int .i64 yl, .int .i64 ys, .int .i64 (max yt yl)] 61 (0, 0))] := by rw [← hD]; simpa using ((Has.nil B).new _)
        have z : D.heap.size = B.heap.size + 1 := by rw [← hD]; simp
        have b0 : Below B.heap.size B D := by rw [← hD]; exact (below_alloc (below_self B) _)
        rw [hD]
        clear hD
        have HD := Lib.hid (And.intro (HB.out.later b0) h.hd)
        have hkk : ∀ W, Below D.heap.size D W → W.cell? ⟨w.heap.size, 0, none⟩ = some (.slice s.fh.1 s.fh.2.1 s.fh.2.2) ∧ W.cell? ⟨w.heap.size, 1, none⟩ = some (.slice s.bh.1 s.bh.2.1 s.bh.2.2) ∧ W.cell? ⟨w.heap.size, 2, none⟩ = some (.slice s.lh.1 s.lh.2.1 s.lh.2.2) ∧ W.cell? ⟨w.heap.size, 3, none⟩ = some (.slice s.rh.1 s.rh.2.1 s.rh.2.2) ∧ W.cell? ⟨w.heap.size, 4, none⟩ = some (.int .i64 s.switches) ∧ W.cell? ⟨w.heap.size, 5, none⟩ = some (.slice s.kh.1 s.kh.2.1 s.kh.2.2) ∧ W.cell? ⟨w.heap.size, 6, none⟩ = some (.slice s.hh.1 s.hh.2.1 s.hh.2.2) ∧ W.cell? ⟨w.heap.size + 1, 0, none⟩ = some (.slice x.sh.1 x.sh.2.1 x.sh.2.2) ∧ W.cell? ⟨w.heap.size + 1 + 1, 0, none⟩ = some (.slice v.hh.1 v.hh.2.1 v.hh.2.2) ∧ W.cell? ⟨w.heap.size + 1 + 1, 1, none⟩ = some (.slice v.rh.1 v.rh.2.1 v.rh.2.2) ∧ W.cell? ⟨B.heap.size, 0, none⟩ = some (.int .i64 yf) ∧ W.cell? ⟨B.heap.size, 1, none⟩ = some (.int .i64 yl) ∧ W.cell? ⟨B.heap.size, 2, none⟩ = some (.int .i64 ys) ∧ W.cell? ⟨B.heap.size, 3, none⟩ = some (.int .i64 (max yt yl)) := fun W hb => ⟨(blk_cell (HD.out.1.later hb).si 0).trans rfl, (blk_cell (HD.out.1.later hb).si 1).trans rfl, (blk_cell (HD.out.1.later hb).si 2).trans rfl, (blk_cell (HD.out.1.later hb).si 3).trans rfl, (blk_cell (HD.out.1.later hb).si 4).trans rfl, (blk_cell (HD.out.1.later hb).si 5).trans rfl, (blk_cell (HD.out.1.later hb).si 6).trans rfl, (blk_cell (HD.out.1.later hb).wi 0).trans rfl, (blk_cell (HD.out.1.later hb).wo 0).trans rfl, (blk_cell (HD.out.1.later hb).wo 1).trans rfl, (blk_cell (blk_below HD.out.2 hb) 0).trans rfl, (blk_cell (blk_below HD.out.2 hb) 1).trans rfl, (blk_cell (blk_below HD.out.2 hb) 2).trans rfl, (blk_cell (blk_below HD.out.2 hb) 3).trans rfl⟩
        have HS := Lib.hid hkk
        have dlsi := blk_lt HD.out.1.si
        have dlwi := blk_lt HD.out.1.wi
        have dlwo := blk_lt HD.out.1.wo
        have dlb := blk_lt HD.out.2
        have bX : Below D.heap.size D D.drew := (below_self D).drew
        clear hkk h z b0 HB d1 hb1 p0 p1 p2 p3 q1
        go_region_held3 (fun W => W.cell? ⟨w.heap.size, 0, none⟩ = some (.slice s.fh.1 s.fh.2.1 s.fh.2.2) ∧ W.cell? ⟨w.heap.size, 1, none⟩ = some (.slice s.bh.1 s.bh.2.1 s.bh.2.2) ∧ W.cell? ⟨w.heap.size, 2, none⟩ = some (.slice s.lh.1 s.lh.2.1 s.lh.2.2) ∧ W.cell? ⟨w.heap.size, 3, none⟩ = some (.slice s.rh.1 s.rh.2.1 s.rh.2.2) ∧ W.cell? ⟨w.heap.size, 4, none⟩ = some (.int .i64 s.switches) ∧ W.cell? ⟨w.heap.size, 5, none⟩ = some (.slice s.kh.1 s.kh.2.1 s.kh.2.2) ∧ W.cell? ⟨w.heap.size, 6, none⟩ = some (.slice s.hh.1 s.hh.2.1 s.hh.2.2) ∧ W.cell? ⟨w.heap.size + 1, 0, none⟩ = some (.slice x.sh.1 x.sh.2.1 x.sh.2.2) ∧ W.cell? ⟨w.heap.size + 1 + 1, 0, none⟩ = some (.slice v.hh.1 v.hh.2.1 v.hh.2.2) ∧ W.cell? ⟨w.heap.size + 1 + 1, 1, none⟩ = some (.slice v.rh.1 v.rh.2.1 v.rh.2.2) ∧ W.cell? ⟨B.heap.size, 0, none⟩ = some (.int .i64 yf) ∧ W.cell? ⟨B.heap.size, 1, none⟩ = some (.int .i64 yl) ∧ W.cell? ⟨B.heap.size, 2, none⟩ = some (.int .i64 ys) ∧ W.cell? ⟨B.heap.size, 3, none⟩ = some (.int .i64 (max yt yl)))
          (exact HS.out _ (by assumption))
          (first
            | (go_at_call 36; (with_reducible refine (B7.lasts_ok ⟨yf, yl, ys, max yt yl⟩ 0 u _).mono ?_); rintro e Z9 ⟨rfl, b9⟩; have bZ := below_trans bH b9)
            | (go_at_call 11; (with_reducible refine (brk_ok s x v k _ (HI.out.1.later (below_trans HD.out.1.bel bX)) (HI.out.2.1.later (below_trans HD.out.1.bel bX)) (HI.out.2.2.later (below_trans HD.out.1.bel bX))).mono ?_); rintro e Y1 ⟨rfl, b1⟩; rw [HU.out.1]; have bH := below_trans bX b1))
        have HZ := Lib.hid (below_trans HD.out.1.bel bZ)
        have HR := Lib.hid (show B7.lastsN ⟨yf, yl, ys, max yt yl⟩ 0 u = g from HU.out.2)
        rw [HR.out]
        clear HS bX bH bZ
        go_wp2_with fail
        go_ret
        exact ⟨rfl, HZ.out⟩
    · have c1I : ¬ (k : Int) < (s.bh.2.1 : Int) := by omega
      have HE := Lib.hid (show g = 0 by rw [← HG.out, if_neg (by rw [HN.out]; omega)])
      go_wp2_with fail
      go_ret
      exact ⟨by rw [HE.out]; rfl, HA.out.bel⟩
end Go.Proofs.YthlefdbhkbpejaaGreat
