/- Chapter 14: power.Carried. -/
import Derived.Test.YthlefdbhkbpejaaGreatPwC
import Derived.Test.YthlefdbhkbpejaaGreatFMax
import Derived.Test.YthlefdbhkbpejaaGreatNt
namespace Go.Proofs.YthlefdbhkbpejaaGreat
open Go F5

def carV (s : Site) (x : Wish) (v : Wld) : Int := if worldOk s x v = true then (pnOf s x v).val else 0

theorem pn_ask {s : Site} {x : Wish} {v : Wld} (h : worldOk s x v = true) : askF (pnOf s x v).nodes (pnOf s x v).arcs 0 1 = 0 := by
  unfold askF
  have hn : 2 ≤ (pnOf s x v).nodes := by unfold Pn.nodes; omega
  rw [if_pos (pn_net h), if_pos ⟨F5.inR_iff.2 (by omega), F5.inR_iff.2 (by omega), by omega⟩]
/-- A greatest flow of the power net carries that much. -/
theorem pn_max {s : Site} {x : Wish} {v : Wld} (h : worldOk s x v = true) {r : Int} {f : List Int} (hm : MaxIs (pnOf s x v).nodes (pnOf s x v).arcs 0 1 r f) : r = (pnOf s x v).val := by
  obtain ⟨hB, hr⟩ := hm.1 (pn_ask h)
  rw [Int.toNat_natCast] at hB
  rw [hr]
  exact (pnOf s x v).best (pn_ok h) hB
end Go.Proofs.YthlefdbhkbpejaaGreat

namespace Go.Proofs.YthlefdbhkbpejaaGreat
open Go Go.RowKit F5
set_option linter.unusedSimpArgs false

set_option maxHeartbeats 4000000 in
theorem carried_ok (s : Site) (x : Wish) (v : Wld) (w : World) (hs : s.At w) (hx : x.At w) (hv : v.At w) :
    Calls Tryz.prog 18 #[s.val, x.val, v.val] w fun e W' => e = .returned (.int .i64 (carV s x v)) ∧ Below w.heap.size w W' := by
  obtain ⟨g, hg⟩ : ∃ g, carV s x v = g := ⟨_, rfl⟩
  have HG := Lib.hid (show (if worldOk s x v = true then (pnOf s x v).val else 0) = g from hg)
  have HI := Lib.hid (And.intro hs (And.intro hx hv))
  rw [hg]
  clear hg hs hx hv
  go_enter Tryz.func18, Tryz.ntmps18
  go_wp2_with fail
  obtain ⟨A, hA⟩ : ∃ W' : World, (((w.alloc (.cells s.cells.toArray 29)).alloc (.cells x.cells.toArray 32)).alloc (.cells v.cells.toArray 36)) = W' := ⟨_, rfl⟩
  have h : Has A [(w.heap.size + 1 + 1, .cells v.cells.toArray 36 (0, 0)), (w.heap.size + 1, .cells x.cells.toArray 32 (0, 0)), (w.heap.size, .cells s.cells.toArray 29 (0, 0))] := by rw [← hA]; simpa using ((((Has.nil w).new _).new _).new _)
  have z : A.heap.size = w.heap.size + 1 + 1 + 1 := by rw [← hA]; simp
  have b : Below w.heap.size w A := by rw [← hA]; exact (below_alloc (below_alloc (below_alloc (below_self w) _) _) _)
  rw [hA]
  clear hA
  have HA := Lib.hid (show VB w s x v A from ⟨h.tl.tl.hd, h.tl.hd, h.hd, b⟩)
  clear h z b
  refine (world_ok s x v A (HI.out.1.later HA.out.bel) (HI.out.2.1.later HA.out.bel) (HI.out.2.2.later HA.out.bel)).mono ?_
  rintro e B ⟨rfl, b⟩
  have HB := Lib.hid (HA.out.later b)
  clear b HA
  cases hok : worldOk s x v
  · have HE := Lib.hid (show g = 0 by rw [← HG.out, hok]; rfl)
    clear hok
    go_wp2_with fail
    go_ret
    exact ⟨by rw [HE.out]; rfl, HB.out.bel⟩
  · have HO := Lib.hid hok
    clear hok
    have d0 : B.cell? ⟨w.heap.size, 0, none⟩ = some (.slice s.fh.1 s.fh.2.1 s.fh.2.2) := (blk_cell HB.out.si 0).trans rfl
    have d1 : B.cell? ⟨w.heap.size, 1, none⟩ = some (.slice s.bh.1 s.bh.2.1 s.bh.2.2) := (blk_cell HB.out.si 1).trans rfl
    have d2 : B.cell? ⟨w.heap.size, 2, none⟩ = some (.slice s.lh.1 s.lh.2.1 s.lh.2.2) := (blk_cell HB.out.si 2).trans rfl
    have d3 : B.cell? ⟨w.heap.size, 3, none⟩ = some (.slice s.rh.1 s.rh.2.1 s.rh.2.2) := (blk_cell HB.out.si 3).trans rfl
    have d4 : B.cell? ⟨w.heap.size, 4, none⟩ = some (.int .i64 s.switches) := (blk_cell HB.out.si 4).trans rfl
    have d5 : B.cell? ⟨w.heap.size, 5, none⟩ = some (.slice s.kh.1 s.kh.2.1 s.kh.2.2) := (blk_cell HB.out.si 5).trans rfl
    have d6 : B.cell? ⟨w.heap.size, 6, none⟩ = some (.slice s.hh.1 s.hh.2.1 s.hh.2.2) := (blk_cell HB.out.si 6).trans rfl
    have d7 : B.cell? ⟨w.heap.size + 1, 0, none⟩ = some (.slice x.sh.1 x.sh.2.1 x.sh.2.2) := (blk_cell HB.out.wi 0).trans rfl
    have d8 : B.cell? ⟨w.heap.size + 1 + 1, 0, none⟩ = some (.slice v.hh.1 v.hh.2.1 v.hh.2.2) := (blk_cell HB.out.wo 0).trans rfl
    have d9 : B.cell? ⟨w.heap.size + 1 + 1, 1, none⟩ = some (.slice v.rh.1 v.rh.2.1 v.rh.2.2) := (blk_cell HB.out.wo 1).trans rfl
    have dlsi := blk_lt HB.out.si
    have dlwi := blk_lt HB.out.wi
    have dlwo := blk_lt HB.out.wo
    go_wp2_with fail
    refine (net_ok s x v B (HI.out.1.later HB.out.bel) (HI.out.2.1.later HB.out.bel) (HI.out.2.2.later HB.out.bel)).mono ?_
    rintro e C ⟨a, k, c, rfl, ho, b⟩
    have hN : netN s x v = (pnOf s x v).nodes := by unfold netN; rw [if_pos HO.out]
    have hL : netL s x v = (pnOf s x v).arcs := by unfold netL; rw [if_pos HO.out]
    rw [hN]
    rw [hL] at ho
    obtain ⟨P, hP⟩ : ∃ P, pnOf s x v = P := ⟨_, rfl⟩
    have hmx : ∀ r f, MaxIs P.nodes P.arcs 0 1 r f → r = g := fun r f hm => by
      rw [← hP] at hm
      rw [← HG.out, if_pos HO.out]
      exact pn_max HO.out hm
    have hask : askF P.nodes P.arcs 0 1 = 0 := by rw [← hP]; exact pn_ask HO.out
    have hk : k ≤ 9223372036854775807 := by
      have h1 := (netOk_iff.1 (askF_zero hask).1).2.2.1
      have h2 := ho.2.1
      rw [hP] at h2
      omega
    rw [hP] at ho ⊢
    have HC := Lib.hid (And.intro ho (And.intro (below_trans HB.out.bel b) (And.intro hmx hask)))
    clear ho b hmx hask hN hL d0 d1 d2 d3 d4 d5 d6 d7 d8 d9 dlsi dlwi dlwo
    go_wp2_with fail
    refine (F5.max_ok P.nodes a k c P.arcs 0 1 C HC.out.1.2.1 hk HC.out.1.rows).mono ?_
    rintro e D ⟨r, v9, rfl, f, ho, hm, b⟩
    obtain rfl := HC.out.2.2.1 r f hm
    rw [HC.out.2.2.2]
    have HD := Lib.hid (below_trans HC.out.2.1 b)
    clear ho hm b HC
    go_wp2_with fail
    go_ret
    exact ⟨rfl, HD.out⟩
end Go.Proofs.YthlefdbhkbpejaaGreat
