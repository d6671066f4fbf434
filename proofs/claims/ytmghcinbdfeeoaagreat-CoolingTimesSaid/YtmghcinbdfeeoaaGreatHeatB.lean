/- Chapter 15: cooling.Heat. -/
import Derived.Test.YtmghcinbdfeeoaaGreatHeat
namespace Go.Proofs.YtmghcinbdfeeoaaGreat
open Go Go.RowKit
set_option linter.unusedSimpArgs false

def heatT (s : Site) (x : Wish) (v : Wld) (loop : Int) (k : Nat) : Int := (List.range k).foldl (fun a i => if (s.racks.getD i default).loop = loop then a + ofRack s x v i else a) 0
theorem heatT_succ {s : Site} {x : Wish} {v : Wld} {loop : Int} {k : Nat} : heatT s x v loop (k + 1) = if (s.racks.getD k default).loop = loop then heatT s x v loop k + ofRack s x v k else heatT s x v loop k := by
  unfold heatT
  rw [List.range_succ, List.foldl_append]
  rfl
theorem heatT_le {s : Site} {x : Wish} {v : Wld} {loop : Int} : ∀ k, 0 ≤ heatT s x v loop k ∧ heatT s x v loop k ≤ 384160000 * k
  | 0 => by simp [heatT]
  | k + 1 => by
    have ih := heatT_le (s := s) (x := x) (v := v) (loop := loop) k
    have := ofRack_le (s := s) (x := x) (v := v) (r := k)
    rw [heatT_succ]
    split <;> omega
/-- The heat of a loop. -/
def heat (s : Site) (x : Wish) (v : Wld) (loop : Int) : Int := if worldOk s x v = true then heatT s x v loop s.racks.length else 0
theorem blk_belowN {n : Nat} {W W' : World} {k : Nat} {o : Obj} (h : W.heap[k]? = some o) (hb : Below n W W') (hk : k < n) : W'.heap[k]? = some o := (hb.block k hk).trans h

set_option maxHeartbeats 4000000 in
theorem heat_ok (s : Site) (x : Wish) (v : Wld) (loop : Int) (w : World) (hs : s.At w) (hx : x.At w) (hv : v.At w) :
    Calls Tryz.prog 13 #[s.val, x.val, v.val, .int .i64 loop] w fun e W' => e = .returned (.int .i64 (heat s x v loop)) ∧ Below w.heap.size w W' := by
  have HI := Lib.hid (And.intro hs (And.intro hx hv))
  have hN : s.racks.length = s.rh.2.1 := hs.racks.len
  have hNl := hs.racks.le
  have HN := Lib.hid hN
  clear hs hx hv hN
  go_enter Tryz.func13, Tryz.ntmps13
  go_wp2_with fail
  obtain ⟨A, hA⟩ : ∃ W' : World, (((w.alloc (.cells s.cells.toArray 29)).alloc (.cells x.cells.toArray 32)).alloc (.cells v.cells.toArray 36)) = W' := ⟨_, rfl⟩
  have h : Has A [(w.heap.size + 1 + 1, .cells v.cells.toArray 36 (0, 0)), (w.heap.size + 1, .cells x.cells.toArray 32 (0, 0)), (w.heap.size, .cells s.cells.toArray 29 (0, 0))] := by rw [← hA]; simpa using ((((Has.nil w).new _).new _).new _)
  have z : A.heap.size = w.heap.size + 1 + 1 + 1 := by rw [← hA]; simp
  have b : Below w.heap.size w A := by rw [← hA]; exact (below_alloc (below_alloc (below_alloc (below_self w) _) _) _)
  rw [hA]
  clear hA
  have HZ := Lib.hid (show A.heap[w.heap.size]? = some (.cells s.cells.toArray 29 (0, 0)) ∧ A.heap[w.heap.size + 1]? = some (.cells x.cells.toArray 32 (0, 0)) ∧ A.heap[w.heap.size + 1 + 1]? = some (.cells v.cells.toArray 36 (0, 0)) ∧ Below w.heap.size w A from ⟨h.tl.tl.hd, h.tl.hd, h.hd, b⟩)
  clear h z b
  refine (world_ok s x v A (HI.out.1.later HZ.out.2.2.2) (HI.out.2.1.later HZ.out.2.2.2) (HI.out.2.2.later HZ.out.2.2.2)).mono ?_
  rintro e B ⟨rfl, hb⟩
  have HB := Lib.hid (And.intro (blk_below HZ.out.1 hb) (And.intro (blk_below HZ.out.2.1 hb) (And.intro (blk_below HZ.out.2.2.1 hb) (below_trans HZ.out.2.2.2 hb))))
  clear hb HZ
  cases hok : worldOk s x v
  · have HE := Lib.hid (show heat s x v loop = 0 by unfold heat; rw [if_neg (by simp [hok])])
    clear hok
    go_wp2_with fail
    go_ret
    exact ⟨by rw [HE.out]; rfl, HB.out.2.2.2⟩
  · have HO := Lib.hid hok
    have HE := Lib.hid (show heat s x v loop = heatT s x v loop s.racks.length by unfold heat; rw [if_pos hok])
    clear hok
    have d3 : B.cell? ⟨w.heap.size, 3, none⟩ = some (.slice s.rh.1 s.rh.2.1 s.rh.2.2) := (blk_cell HB.out.1 3).trans rfl
    have dl := blk_lt HB.out.1
    go_wp2_with fail
    obtain ⟨C, hC⟩ : ∃ W' : World, (B.alloc (.cells #[.int .i64 0] 3)) = W' := ⟨_, rfl⟩
    have h : Has C [(B.heap.size, .cells #[.int .i64 0] 3 (0, 0))] := by rw [← hC]; simpa using ((Has.nil B).new _)
    have z : C.heap.size = B.heap.size + 1 := by rw [← hC]; simp
    have bC : Below B.heap.size B C := by rw [← hC]; exact (below_alloc (below_self B) _)
    rw [hC]
    clear hC
    obtain ⟨g, hg⟩ : ∃ g, B.heap.size = g := ⟨_, rfl⟩
    have HC := Lib.hid (show C.heap[w.heap.size]? = some (.cells s.cells.toArray 29 (0, 0)) ∧ C.heap[w.heap.size + 1]? = some (.cells x.cells.toArray 32 (0, 0)) ∧ C.heap[w.heap.size + 1 + 1]? = some (.cells v.cells.toArray 36 (0, 0)) ∧ C.heap[B.heap.size]? = some (.cells #[.int .i64 (heatT s x v loop 0)] 3 (0, 0)) ∧ Below w.heap.size w C from ⟨blk_below HB.out.1 bC, blk_below HB.out.2.1 bC, blk_below HB.out.2.2.1 bC, h.hd, below_trans HB.out.2.2.2 bC⟩)
    have HG := Lib.hid (show w.heap.size < B.heap.size ∧ w.heap.size + 1 < B.heap.size ∧ w.heap.size + 1 + 1 < B.heap.size ∧ w.heap.size ≤ B.heap.size from by have := blk_lt HB.out.2.2.1; omega)
    clear h z bC d3 dl
    rw [hg] at HC HG ⊢
    clear hg
    go_loopw [11, 21] (fun _ i wr => ∃ (k : Nat) (X : World), k ≤ s.rh.2.1 ∧ i = .int .i64 k ∧ X = wr ∧ Hid (X.heap[w.heap.size]? = some (.cells s.cells.toArray 29 (0, 0)) ∧ X.heap[w.heap.size + 1]? = some (.cells x.cells.toArray 32 (0, 0)) ∧ X.heap[w.heap.size + 1 + 1]? = some (.cells v.cells.toArray 36 (0, 0)) ∧ X.heap[g]? = some (.cells #[.int .i64 (heatT s x v loop k)] 3 (0, 0)) ∧ Below w.heap.size w X)) (fun _ i _ => s.rh.2.1 - (intOf i).toNat)
    case atStart => exact ⟨0, _, Nat.zero_le _, rfl, rfl, HC⟩
    case round =>
      obtain ⟨k, X, hk, rfl, rfl, HR⟩ := hrel
      by_cases hlt : k < s.rh.2.1
      · have hltI : (k : Int) < (s.rh.2.1 : Int) := by omega
        have hki : k < s.racks.length := by rw [HN.out]; exact hlt
        obtain ⟨b1, o1, q1, hb1, p0, p1, p2⟩ := rks_at (HI.out.1.later HR.out.2.2.2.2).racks.rows k hki
        have d3 : X.cell? ⟨w.heap.size, 3, none⟩ = some (.slice s.rh.1 s.rh.2.1 s.rh.2.2) := (blk_cell HR.out.1 3).trans rfl
        have dl := blk_lt HR.out.1
        rw [q1] at d3
        have hS := heatT_succ (s := s) (x := x) (v := v) (loop := loop) (k := k)
        generalize hz : (s.racks.getD k default).loop = y at p2 hS
        have HS := Lib.hid hS
        clear hS hz p0 p1 q1
        by_cases hyl : y = loop
        · have HF := Lib.hid (show heatT s x v loop (k + 1) = heatT s x v loop k + ofRack s x v k by rw [HS.out, if_pos hyl])
          have hbd := heatT_le (s := s) (x := x) (v := v) (loop := loop) k
          have hor := ofRack_le (s := s) (x := x) (v := v) (r := k)
          have h8 := (siteOk_sizes (worldOk_site HO.out)).2.2.2
          have hw1 := Lib.hid (show IntKind.i64.wrap (heatT s x v loop k + ofRack s x v k) = heatT s x v loop k + ofRack s x v k from IntWalk.i64_in _ (by omega))
          clear h8
          clear hbd hor
          go_wp2_with fail
          refine (add_ok s x v k (heatT s x v loop k) g w.heap.size (w.heap.size + 1) (w.heap.size + 1 + 1) X (HI.out.1.later HR.out.2.2.2.2) (HI.out.2.1.later HR.out.2.2.2.2) (HI.out.2.2.later HR.out.2.2.2.2) HR.out.1 HR.out.2.1 HR.out.2.2.1 HR.out.2.2.2.1 hw1.out).mono ?_
          rintro e Z ⟨rfl, hb, hc⟩
          have HZ := Lib.hid (show Z.heap[w.heap.size]? = some (.cells s.cells.toArray 29 (0, 0)) ∧ Z.heap[w.heap.size + 1]? = some (.cells x.cells.toArray 32 (0, 0)) ∧ Z.heap[w.heap.size + 1 + 1]? = some (.cells v.cells.toArray 36 (0, 0)) ∧ Z.heap[g]? = some (.cells #[.int .i64 (heatT s x v loop (k + 1))] 3 (0, 0)) ∧ Below w.heap.size w Z from ⟨blk_belowN HR.out.1 hb HG.out.1, blk_belowN HR.out.2.1 hb HG.out.2.1, blk_belowN HR.out.2.2.1 hb HG.out.2.2.1, by rw [HF.out]; exact hc, (HR.out.2.2.2.2).trans (hb.mono HG.out.2.2.2)⟩)
          clear hb hc d3 dl
          go_wp2_with fail
          go_roundw
          case rel => exact ⟨k + 1, _, by omega, by go_num, rfl, HZ⟩
          case measure => simp [intOf]; omega
        · have HF := Lib.hid (show heatT s x v loop (k + 1) = heatT s x v loop k by rw [HS.out, if_neg hyl])
          go_wp2_with fail
          exact ⟨⟨k + 1, _, by omega, by go_num, rfl, Lib.hid ⟨HR.out.1, HR.out.2.1, HR.out.2.2.1, by rw [HF.out]; exact HR.out.2.2.2.1, HR.out.2.2.2.2⟩⟩, by simp [intOf]; omega⟩
      · have hE : k = s.racks.length := by rw [HN.out]; omega
        have HK := Lib.hid hE
        have hltI : ¬ (k : Int) < (s.rh.2.1 : Int) := by omega
        have dg : X.cell? ⟨g, 0, none⟩ = some (.int .i64 (heatT s x v loop k)) := (blk_cell HR.out.2.2.2.1 0).trans rfl
        have dl := blk_lt HR.out.2.2.2.1
        clear hE
        go_wp2_with fail
        go_ret
        exact ⟨by rw [HE.out, ← HK.out]; rfl, HR.out.2.2.2.2⟩
end Go.Proofs.YtmghcinbdfeeoaaGreat
