/- Chapter 07: the reference's Next, Course and Trips. -/
import Derived.Test.YtojpbmaojbejjaaNext
import Derived.Test.YtojpbmaojbejjaaRefBears
namespace Go.Proofs.Ytojpbmaojbejjaa
open Go Go.RowKit

theorem okS_cases (b : Brk) (s : BSt) : (okB b = false ∧ okS b s = false) ∨ okB b = true := by
  cases h : okB b
  · exact .inl ⟨rfl, by unfold okS; rw [h]; rfl⟩
  · exact .inr rfl
theorem courseE_one {b : Brk} {s : BSt} {ws : List Int} (h : okS b s = false) : courseE b s ws = 1 := by unfold courseE; rw [h]; rfl
theorem courseE_next {b : Brk} {s : BSt} {x : Int} (h : okS b s = true) : courseE b s [x] = if 0 ≤ x ∧ x ≤ 100000000 then 0 else 2 := by
  unfold courseE
  rw [if_pos h]
  simp [okW, inR_iff]
theorem st_store {W : World} {g : Nat} {s : BSt} (h : W.heap[g]? = some (.cells s.cells.toArray 37 (0, 0))) (t : BSt) :
    ((W.setCell ⟨g, 0, none⟩ (.int .i64 t.heat)).setCell ⟨g, 1, none⟩ (.bool t.trip)).heap[g]? = some (.cells t.cells.toArray 37 (0, 0)) := by
  simp [World.setCell, Array.getElem?_modify, h]

set_option maxHeartbeats 1000000 in
theorem next_ref (b : Brk) (s : BSt) (x : Int) (w : World) : Calls Try.prog 24 #[b.val, s.val, .int .i64 x] w fun e W' => e = .returned (.tuple #[(nextS b s x).val, .int .i64 (courseE b s [x])]) ∧ Below w.heap.size w W' := by
  rcases okS_cases b s with ⟨hb, hs⟩ | hb
  · have e0 := courseE_one (ws := [x]) hs
    have e1 : nextS b s x = ⟨0, false⟩ := by unfold nextS; rw [e0]; rfl
    rw [e0, e1]
    have HB := Lib.hid hb
    clear e0 e1 hb hs
    go_enter Try.func24, Try.ntmps24
    go_wp2_with fail
    obtain ⟨A, hA⟩ : ∃ W' : World, (((w.alloc (.cells b.cells.toArray 23)).alloc (.cells s.cells.toArray 37)).alloc (.cells #[.int .i64 0, .bool false] 37)) = W' := ⟨_, rfl⟩
    have H1 : Has A [(w.heap.size + 1 + 1, .cells #[.int .i64 0, .bool false] 37 (0, 0)), (w.heap.size + 1, .cells s.cells.toArray 37 (0, 0)), (w.heap.size, .cells b.cells.toArray 23 (0, 0))] := by rw [← hA]; simpa using ((((Has.nil w).new _).new _).new _)
    have s1 : A.heap.size = w.heap.size + 1 + 1 + 1 := by rw [← hA]; simp
    have b1 : Below w.heap.size w A := by rw [← hA]; exact (below_alloc (below_alloc (below_alloc (below_self w) _) _) _)
    rw [hA]
    clear hA
    refine (valid_ref _ _).mono ?_
    rintro e W' ⟨rfl, rfl⟩
    rw [HB.out]
    have h2 := H1.alloc (.cells b.cells.toArray 23)
    have w2 := Lib.hid (below_alloc b1 (.cells b.cells.toArray 23))
    generalize A.alloc _ = X at *
    have r0 := blk_cell h2.hd 0
    have r1 := blk_cell h2.hd 1
    simp at r0 r1
    have f0 := blk_frozen h2.hd 0
    have f1 := blk_frozen h2.hd 1
    clear h2 H1 s1 b1
    go_wp2_with fail
    refine bodyPost_ret (v := .tuple #[.agg #[.int .i64 0, .bool false], .int .i64 1]) (by simp [results, Try.results24, go_sem, r0, r1]) rfl ⟨rfl, ?_⟩
    exact (w2.out.setCell (by simp; omega) _).setCell (by simp; omega) _
  · obtain ⟨⟨l0, l1⟩, ⟨z0, z1⟩, y0, y1⟩ := okB_iff.1 hb
    have HB := Lib.hid hb
    cases hs : okS b s
    · have e0 := courseE_one (ws := [x]) hs
      have e1 : nextS b s x = ⟨0, false⟩ := by unfold nextS; rw [e0]; rfl
      rw [e0, e1]
      have HS := Lib.hid hs
      clear e0 e1 hb hs
      go_enter Try.func24, Try.ntmps24
      go_wp2_with fail
      obtain ⟨A, hA⟩ : ∃ W' : World, (((w.alloc (.cells b.cells.toArray 23)).alloc (.cells s.cells.toArray 37)).alloc (.cells #[.int .i64 0, .bool false] 37)) = W' := ⟨_, rfl⟩
      have H1 : Has A [(w.heap.size + 1 + 1, .cells #[.int .i64 0, .bool false] 37 (0, 0)), (w.heap.size + 1, .cells s.cells.toArray 37 (0, 0)), (w.heap.size, .cells b.cells.toArray 23 (0, 0))] := by rw [← hA]; simpa using ((((Has.nil w).new _).new _).new _)
      have s1 : A.heap.size = w.heap.size + 1 + 1 + 1 := by rw [← hA]; simp
      have b1 : Below w.heap.size w A := by rw [← hA]; exact (below_alloc (below_alloc (below_alloc (below_self w) _) _) _)
      rw [hA]
      clear hA
      refine (valid_ref _ _).mono ?_
      rintro e W' ⟨rfl, rfl⟩
      rw [HB.out]
      have h2 := H1.alloc (.cells b.cells.toArray 23)
      have w2 := Lib.hid (below_alloc b1 (.cells b.cells.toArray 23))
      generalize A.alloc _ = X at *
      have c0 := blk_cell h2.tl.hd 0
      have c1 := blk_cell h2.tl.hd 1
      simp at c0 c1
      have k0 := blk_cell h2.tl.tl.hd 0
      have k1 := blk_cell h2.tl.tl.hd 1
      have k2 := blk_cell h2.tl.tl.hd 2
      have k3 := blk_cell h2.tl.tl.hd 3
      simp at k0 k1 k2 k3
      have H2 := Lib.hid h2
      clear h2 H1 s1 b1
      go_wp2_with fail
      refine (validState_ref b s _ HB.out).mono ?_
      rintro e W3 ⟨rfl, hb3⟩
      rw [HS.out]
      have h3 := H2.out.below hb3
      have w3 := Lib.hid (below_trans w2.out hb3)
      clear c0 c1 k0 k1 k2 k3
      have r0 := blk_cell h3.hd 0
      have r1 := blk_cell h3.hd 1
      simp at r0 r1
      have f0 := blk_frozen h3.hd 0
      have f1 := blk_frozen h3.hd 1
      clear h3 H2 hb3 w2
      go_wp2_with fail
      refine bodyPost_ret (v := .tuple #[.agg #[.int .i64 0, .bool false], .int .i64 1]) (by simp [results, Try.results24, go_sem, r0, r1]) rfl ⟨rfl, ?_⟩
      exact (w3.out.setCell (by simp; omega) _).setCell (by simp; omega) _
    · have hI := StIn.of hs
      have HS := Lib.hid hs
      by_cases hx : 0 ≤ x ∧ x ≤ 100000000
      · have e0 : courseE b s [x] = 0 := by rw [courseE_next hs, if_pos hx]
        have e1 : nextS b s x = aft b s x := by unfold nextS; rw [if_pos e0]
        rw [e0, e1]
        have HI := Lib.hid hI
        obtain ⟨t, ht⟩ : ∃ t, aft b s x = t := ⟨_, rfl⟩
        rw [ht]
        have HT := Lib.hid ht
        clear ht
        obtain ⟨x0, x1⟩ := hx
        clear e0 e1 hb hs hI
        go_enter Try.func24, Try.ntmps24
        go_wp2_with fail
        obtain ⟨A, hA⟩ : ∃ W' : World, (((w.alloc (.cells b.cells.toArray 23)).alloc (.cells s.cells.toArray 37)).alloc (.cells #[.int .i64 0, .bool false] 37)) = W' := ⟨_, rfl⟩
        have H1 : Has A [(w.heap.size + 1 + 1, .cells #[.int .i64 0, .bool false] 37 (0, 0)), (w.heap.size + 1, .cells s.cells.toArray 37 (0, 0)), (w.heap.size, .cells b.cells.toArray 23 (0, 0))] := by rw [← hA]; simpa using ((((Has.nil w).new _).new _).new _)
        have s1 : A.heap.size = w.heap.size + 1 + 1 + 1 := by rw [← hA]; simp
        have b1 : Below w.heap.size w A := by rw [← hA]; exact (below_alloc (below_alloc (below_alloc (below_self w) _) _) _)
        rw [hA]
        clear hA
        refine (valid_ref _ _).mono ?_
        rintro e W' ⟨rfl, rfl⟩
        rw [HB.out]
        have h2 := H1.alloc (.cells b.cells.toArray 23)
        have w2 := Lib.hid (below_alloc b1 (.cells b.cells.toArray 23))
        generalize A.alloc _ = X at *
        have c0 := blk_cell h2.tl.hd 0
        have c1 := blk_cell h2.tl.hd 1
        simp at c0 c1
        have k0 := blk_cell h2.tl.tl.hd 0
        have k1 := blk_cell h2.tl.tl.hd 1
        have k2 := blk_cell h2.tl.tl.hd 2
        have k3 := blk_cell h2.tl.tl.hd 3
        simp at k0 k1 k2 k3
        have H2 := Lib.hid h2
        clear h2 H1 s1 b1
        go_wp2_with fail
        refine (validState_ref b s _ HB.out).mono ?_
        rintro e W3 ⟨rfl, hb3⟩
        rw [HS.out]
        have h3 := H2.out.below hb3
        have w3 := Lib.hid (below_trans w2.out hb3)
        clear c0 c1 k0 k1 k2 k3
        have c0 := blk_cell h3.tl.hd 0
        have c1 := blk_cell h3.tl.hd 1
        simp at c0 c1
        have k0 := blk_cell h3.tl.tl.hd 0
        have k1 := blk_cell h3.tl.tl.hd 1
        have k2 := blk_cell h3.tl.tl.hd 2
        have k3 := blk_cell h3.tl.tl.hd 3
        simp at k0 k1 k2 k3
        have H3 := Lib.hid h3
        clear h3 H2 hb3 w2
        go_wp2_with fail
        refine (after_ref b s x _ HI.out.1 HI.out.2.1 x0 x1 l0 l1).mono ?_
        rintro e W4 ⟨rfl, hb4⟩
        rw [HT.out]
        have h4 := H3.out.below hb4
        have w4 := Lib.hid (below_trans w3.out hb4)
        clear c0 c1 k0 k1 k2 k3
        have r0 := blk_cell h4.hd 0
        have r1 := blk_cell h4.hd 1
        simp at r0 r1
        have f0 := blk_frozen h4.hd 0
        have f1 := blk_frozen h4.hd 1
        clear h4 H3 hb4 w3
        go_wp2_with fail
        refine bodyPost_ret (v := .tuple #[t.val, .int .i64 0]) (by simp [results, Try.results24, go_sem, r0, r1]) rfl ⟨rfl, ?_⟩
        exact (w4.out.setCell (by simp; omega) _).setCell (by simp; omega) _
      · have e0 : courseE b s [x] = 2 := by rw [courseE_next hs, if_neg hx]
        have e1 : nextS b s x = ⟨0, false⟩ := by unfold nextS; rw [if_neg (by omega)]
        rw [e0, e1]
        clear e0 e1 hb hs hI
        by_cases c0 : x < 0
        case' neg => have c9 : 100000000 < x := by omega
        all_goals
          clear hx
          go_enter Try.func24, Try.ntmps24
          go_wp2_with fail
          obtain ⟨A, hA⟩ : ∃ W' : World, (((w.alloc (.cells b.cells.toArray 23)).alloc (.cells s.cells.toArray 37)).alloc (.cells #[.int .i64 0, .bool false] 37)) = W' := ⟨_, rfl⟩
          have H1 : Has A [(w.heap.size + 1 + 1, .cells #[.int .i64 0, .bool false] 37 (0, 0)), (w.heap.size + 1, .cells s.cells.toArray 37 (0, 0)), (w.heap.size, .cells b.cells.toArray 23 (0, 0))] := by rw [← hA]; simpa using ((((Has.nil w).new _).new _).new _)
          have s1 : A.heap.size = w.heap.size + 1 + 1 + 1 := by rw [← hA]; simp
          have b1 : Below w.heap.size w A := by rw [← hA]; exact (below_alloc (below_alloc (below_alloc (below_self w) _) _) _)
          rw [hA]
          clear hA
          refine (valid_ref _ _).mono ?_
          rintro e W' ⟨rfl, rfl⟩
          rw [HB.out]
          have h2 := H1.alloc (.cells b.cells.toArray 23)
          have w2 := Lib.hid (below_alloc b1 (.cells b.cells.toArray 23))
          generalize A.alloc _ = X at *
          have m0 := blk_cell h2.tl.hd 0
          have m1 := blk_cell h2.tl.hd 1
          simp at m0 m1
          have k0 := blk_cell h2.tl.tl.hd 0
          have k1 := blk_cell h2.tl.tl.hd 1
          have k2 := blk_cell h2.tl.tl.hd 2
          have k3 := blk_cell h2.tl.tl.hd 3
          simp at k0 k1 k2 k3
          have H2 := Lib.hid h2
          clear h2 H1 s1 b1
          go_wp2_with fail
          refine (validState_ref b s _ HB.out).mono ?_
          rintro e W3 ⟨rfl, hb3⟩
          rw [HS.out]
          have h3 := H2.out.below hb3
          have w3 := Lib.hid (below_trans w2.out hb3)
          clear m0 m1 k0 k1 k2 k3
          have r0 := blk_cell h3.hd 0
          have r1 := blk_cell h3.hd 1
          simp at r0 r1
          have f0 := blk_frozen h3.hd 0
          have f1 := blk_frozen h3.hd 1
          clear h3 H2 hb3 w2
          go_wp2_with fail
          refine bodyPost_ret (v := .tuple #[.agg #[.int .i64 0, .bool false], .int .i64 2]) (by simp [results, Try.results24, go_sem, r0, r1]) rfl ⟨rfl, ?_⟩
          exact (w3.out.setCell (by simp; omega) _).setCell (by simp; omega) _
end Go.Proofs.Ytojpbmaojbejjaa
