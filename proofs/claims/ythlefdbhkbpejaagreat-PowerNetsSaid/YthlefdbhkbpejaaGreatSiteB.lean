/- Chapter 15: the closures of site.Valid, sizes (written by wip/gen15site.py). -/
import Derived.Test.YthlefdbhkbpejaaGreatSiteA
namespace Go.Proofs.YthlefdbhkbpejaaGreat
open Go Go.RowKit
set_option linter.unusedSimpArgs false

theorem num_one (x : Int) : num x = (decide (0 ≤ botI [x]) && decide (topI [x] ≤ 1000000)) := by
  rw [bot_one, top_one]; unfold num inR
  by_cases h1 : 0 ≤ x <;> by_cases h2 : x ≤ 1000000 <;> simp [h1, h2]
theorem num_three (x y z : Int) : (num x && num y && num z) = (decide (0 ≤ botI [x, y, z]) && decide (topI [x, y, z] ≤ 1000000)) := by
  rw [bot_three, top_three]; unfold num inR
  rw [Bool.eq_iff_iff]
  simp only [Bool.and_eq_true, decide_eq_true_eq]
  omega

set_option maxHeartbeats 1000000 in
theorem feedbad_ok (x : Feed) (w : World) :
    Calls Tryz.prog 66 #[x.val] w fun e W' => e = .returned (.bool (!okFd x)) ∧ Below w.heap.size w W' := by
  obtain ⟨r0, h0⟩ : ∃ r, (num x.limit : Bool) = r := ⟨_, rfl⟩
  have H0 := Lib.hid h0
  clear h0
  go_enter Tryz.func66, Tryz.ntmps66
  go_wp2_with fail
  obtain ⟨A, hA⟩ : ∃ W' : World, ((w.alloc (.cells x.cells.toArray 65)).alloc (.cells #[.int .i64 x.limit] 3)) = W' := ⟨_, rfl⟩
  have H : Has A [(w.heap.size + 1, .cells #[.int .i64 x.limit] 3 (0, 0)), (w.heap.size, .cells x.cells.toArray 65 (0, 0))] := by rw [← hA]; simpa using (((Has.nil w).new _).new _)
  have s : A.heap.size = w.heap.size + 1 + 1 := by rw [← hA]; simp
  have b : Below w.heap.size w A := by rw [← hA]; exact (below_alloc (below_alloc (below_self w) _) _)
  rw [hA]
  clear hA
  refine (numbers_ok (some ⟨w.heap.size + 1, 0, none⟩) 1 1 [x.limit] A rfl (by omega) (by omega) (ints_blk (xs := [x.limit]) H.hd) r0 (by rw [← num_one]; exact H0.out.symm)).mono ?_
  rintro e V ⟨rfl, hb⟩
  have HB := Lib.hid (below_trans b hb)
  clear hb b H s
  cases r0
  · have HE := Lib.hid (show okFd x = false by unfold okFd; simp [H0.out])
    go_wp2_with fail
    go_ret
    exact ⟨by rw [HE.out]; rfl, HB.out⟩
  · have HE := Lib.hid (show okFd x = true by unfold okFd; simp [H0.out])
    go_wp2_with fail
    go_ret
    exact ⟨by rw [HE.out]; rfl, HB.out⟩
set_option maxHeartbeats 1000000 in
theorem brkbad_ok (x : Bkr) (B : Nat) (q : Hd) (w : World) (hB : B < w.heap.size) (c0 : w.cell? ⟨B, 0, none⟩ = some (.slice q.1 q.2.1 q.2.2)) :
    Calls Tryz.prog 68 #[x.val, .pointer (some ⟨B, 0, none⟩)] w fun e W' => e = .returned (.bool (!okBk q.2.1 x)) ∧ Below w.heap.size w W' := by
  obtain ⟨r0, h0⟩ : ∃ r, (idx x.feed q.2.1 : Bool) = r := ⟨_, rfl⟩
  have H0 := Lib.hid h0
  clear h0
  obtain ⟨r1, h1⟩ : ∃ r, (num x.limit && num x.slow && num x.fast : Bool) = r := ⟨_, rfl⟩
  have H1 := Lib.hid h1
  clear h1
  go_enter Tryz.func68, Tryz.ntmps68
  go_wp2_with fail
  refine (index_ok x.feed q.2.1 _).mono ?_
  rintro e V ⟨rfl, rfl⟩
  rw [H0.out]
  cases r0
  · have HE := Lib.hid (show okBk q.2.1 x = false by unfold okBk; simp [H0.out])
    go_wp2_with fail
    go_ret
    exact ⟨by rw [HE.out]; rfl, below_alloc (below_self w) _⟩
  · go_wp2_with fail
    obtain ⟨A, hA⟩ : ∃ W' : World, ((w.alloc (.cells x.cells.toArray 61)).alloc (.cells #[.int .i64 x.limit, .int .i64 x.slow, .int .i64 x.fast] 3)) = W' := ⟨_, rfl⟩
    have H : Has A [(w.heap.size + 1, .cells #[.int .i64 x.limit, .int .i64 x.slow, .int .i64 x.fast] 3 (0, 0)), (w.heap.size, .cells x.cells.toArray 61 (0, 0))] := by rw [← hA]; simpa using (((Has.nil w).new _).new _)
    have s : A.heap.size = w.heap.size + 1 + 1 := by rw [← hA]; simp
    have b : Below w.heap.size w A := by rw [← hA]; exact (below_alloc (below_alloc (below_self w) _) _)
    rw [hA]
    clear hA
    refine (numbers_ok (some ⟨w.heap.size + 1, 0, none⟩) 3 3 [x.limit, x.slow, x.fast] A rfl (by omega) (by omega) (ints_blk (xs := [x.limit, x.slow, x.fast]) H.hd) r1 (by rw [← num_three]; exact H1.out.symm)).mono ?_
    rintro e V ⟨rfl, hb⟩
    have HB := Lib.hid (below_trans b hb)
    clear hb b H s
    cases r1
    · have HE := Lib.hid (show okBk q.2.1 x = false by unfold okBk; simp [H0.out, H1.out])
      go_wp2_with fail
      go_ret
      exact ⟨by rw [HE.out]; rfl, HB.out⟩
    · have HE := Lib.hid (show okBk q.2.1 x = true by unfold okBk; simp [H0.out, H1.out])
      go_wp2_with fail
      go_ret
      exact ⟨by rw [HE.out]; rfl, HB.out⟩
set_option maxHeartbeats 1000000 in
theorem loopbad_ok (x : Loop) (w : World) :
    Calls Tryz.prog 70 #[x.val] w fun e W' => e = .returned (.bool (!okLp x)) ∧ Below w.heap.size w W' := by
  obtain ⟨r0, h0⟩ : ∃ r, (num x.carry : Bool) = r := ⟨_, rfl⟩
  have H0 := Lib.hid h0
  clear h0
  obtain ⟨r1, h1⟩ : ∃ r, (inR x.delay 0 100 : Bool) = r := ⟨_, rfl⟩
  have H1 := Lib.hid h1
  clear h1
  go_enter Tryz.func70, Tryz.ntmps70
  go_wp2_with fail
  obtain ⟨A, hA⟩ : ∃ W' : World, ((w.alloc (.cells x.cells.toArray 75)).alloc (.cells #[.int .i64 x.carry] 3)) = W' := ⟨_, rfl⟩
  have H : Has A [(w.heap.size + 1, .cells #[.int .i64 x.carry] 3 (0, 0)), (w.heap.size, .cells x.cells.toArray 75 (0, 0))] := by rw [← hA]; simpa using (((Has.nil w).new _).new _)
  have s : A.heap.size = w.heap.size + 1 + 1 := by rw [← hA]; simp
  have b : Below w.heap.size w A := by rw [← hA]; exact (below_alloc (below_alloc (below_self w) _) _)
  rw [hA]
  clear hA
  refine (numbers_ok (some ⟨w.heap.size + 1, 0, none⟩) 1 1 [x.carry] A rfl (by omega) (by omega) (ints_blk (xs := [x.carry]) H.hd) r0 (by rw [← num_one]; exact H0.out.symm)).mono ?_
  rintro e V ⟨rfl, hb⟩
  have d1 : V.cell? ⟨w.heap.size, 1, none⟩ = some (.int .i64 x.delay) := (blk_cell (blk_below H.tl.hd hb) 1).trans rfl
  have HB := Lib.hid (below_trans b hb)
  clear hb b H s
  cases r0
  · have HE := Lib.hid (show okLp x = false by unfold okLp; simp [H0.out])
    go_wp2_with fail
    go_ret
    exact ⟨by rw [HE.out]; rfl, HB.out⟩
  · go_wp2_with fail
    refine (betw_site x.delay 0 100 _).mono ?_
    rintro e V ⟨rfl, rfl⟩
    rw [H1.out]
    cases r1
    · have HE := Lib.hid (show okLp x = false by unfold okLp; simp [H0.out, H1.out])
      go_wp2_with fail
      go_ret
      exact ⟨by rw [HE.out]; rfl, HB.out⟩
    · have HE := Lib.hid (show okLp x = true by unfold okLp; simp [H0.out, H1.out])
      go_wp2_with fail
      go_ret
      exact ⟨by rw [HE.out]; rfl, HB.out⟩
set_option maxHeartbeats 1000000 in
theorem rackbad_ok (x : Rack) (B : Nat) (q1 q2 : Hd) (sw : Int) (w : World) (hB : B < w.heap.size) (c1 : w.cell? ⟨B, 1, none⟩ = some (.slice q1.1 q1.2.1 q1.2.2)) (c2 : w.cell? ⟨B, 2, none⟩ = some (.slice q2.1 q2.2.1 q2.2.2)) (c4 : w.cell? ⟨B, 4, none⟩ = some (.int .i64 sw)) :
    Calls Tryz.prog 72 #[x.val, .pointer (some ⟨B, 0, none⟩)] w fun e W' => e = .returned (.bool (!okRk q1.2.1 q2.2.1 sw x)) ∧ Below w.heap.size w W' := by
  obtain ⟨r0, h0⟩ : ∃ r, (idx x.row 4 : Bool) = r := ⟨_, rfl⟩
  have H0 := Lib.hid h0
  clear h0
  obtain ⟨r1, h1⟩ : ∃ r, (idx x.brk q1.2.1 : Bool) = r := ⟨_, rfl⟩
  have H1 := Lib.hid h1
  clear h1
  obtain ⟨r2, h2⟩ : ∃ r, (idx x.loop q2.2.1 : Bool) = r := ⟨_, rfl⟩
  have H2 := Lib.hid h2
  clear h2
  obtain ⟨r3, h3⟩ : ∃ r, (idx x.switch sw : Bool) = r := ⟨_, rfl⟩
  have H3 := Lib.hid h3
  clear h3
  go_enter Tryz.func72, Tryz.ntmps72
  go_wp2_with fail
  refine (index_ok x.row 4 _).mono ?_
  rintro e V ⟨rfl, rfl⟩
  rw [H0.out]
  cases r0
  · have HE := Lib.hid (show okRk q1.2.1 q2.2.1 sw x = false by unfold okRk; simp [H0.out])
    go_wp2_with fail
    go_ret
    exact ⟨by rw [HE.out]; rfl, below_alloc (below_self w) _⟩
  · skip
    go_wp2_with fail
    refine (index_ok x.brk q1.2.1 _).mono ?_
    rintro e V ⟨rfl, rfl⟩
    rw [H1.out]
    cases r1
    · have HE := Lib.hid (show okRk q1.2.1 q2.2.1 sw x = false by unfold okRk; simp [H0.out, H1.out])
      go_wp2_with fail
      go_ret
      exact ⟨by rw [HE.out]; rfl, below_alloc (below_self w) _⟩
    · skip
      go_wp2_with fail
      refine (index_ok x.loop q2.2.1 _).mono ?_
      rintro e V ⟨rfl, rfl⟩
      rw [H2.out]
      cases r2
      · have HE := Lib.hid (show okRk q1.2.1 q2.2.1 sw x = false by unfold okRk; simp [H0.out, H1.out, H2.out])
        go_wp2_with fail
        go_ret
        exact ⟨by rw [HE.out]; rfl, below_alloc (below_self w) _⟩
      · skip
        go_wp2_with fail
        refine (index_ok x.switch sw _).mono ?_
        rintro e V ⟨rfl, rfl⟩
        rw [H3.out]
        cases r3
        · have HE := Lib.hid (show okRk q1.2.1 q2.2.1 sw x = false by unfold okRk; simp [H0.out, H1.out, H2.out, H3.out])
          go_wp2_with fail
          go_ret
          exact ⟨by rw [HE.out]; rfl, below_alloc (below_self w) _⟩
        · have HE := Lib.hid (show okRk q1.2.1 q2.2.1 sw x = true by unfold okRk; simp [H0.out, H1.out, H2.out, H3.out])
          go_wp2_with fail
          go_ret
          exact ⟨by rw [HE.out]; rfl, below_alloc (below_self w) _⟩
set_option maxHeartbeats 1000000 in
theorem linkbad_ok (x : Link) (B : Nat) (sw : Int) (w : World) (hB : B < w.heap.size) (c4 : w.cell? ⟨B, 4, none⟩ = some (.int .i64 sw)) :
    Calls Tryz.prog 73 #[x.val, .pointer (some ⟨B, 0, none⟩)] w fun e W' => e = .returned (.bool (!okLk sw x)) ∧ Below w.heap.size w W' := by
  obtain ⟨r0, h0⟩ : ∃ r, (idx x.a sw : Bool) = r := ⟨_, rfl⟩
  have H0 := Lib.hid h0
  clear h0
  obtain ⟨r1, h1⟩ : ∃ r, (idx x.b sw : Bool) = r := ⟨_, rfl⟩
  have H1 := Lib.hid h1
  clear h1
  obtain ⟨r2, h2⟩ : ∃ r, (!decide (x.a = x.b) : Bool) = r := ⟨_, rfl⟩
  have H2 := Lib.hid h2
  clear h2
  obtain ⟨r3, h3⟩ : ∃ r, (inR x.lat 1 1000000 : Bool) = r := ⟨_, rfl⟩
  have H3 := Lib.hid h3
  clear h3
  go_enter Tryz.func73, Tryz.ntmps73
  go_wp2_with fail
  refine (index_ok x.a sw _).mono ?_
  rintro e V ⟨rfl, rfl⟩
  rw [H0.out]
  cases r0
  · have HE := Lib.hid (show okLk sw x = false by unfold okLk; simp [H0.out])
    go_wp2_with fail
    go_ret
    exact ⟨by rw [HE.out]; rfl, below_alloc (below_self w) _⟩
  · skip
    go_wp2_with fail
    refine (index_ok x.b sw _).mono ?_
    rintro e V ⟨rfl, rfl⟩
    rw [H1.out]
    cases r1
    · have HE := Lib.hid (show okLk sw x = false by unfold okLk; simp [H0.out, H1.out])
      go_wp2_with fail
      go_ret
      exact ⟨by rw [HE.out]; rfl, below_alloc (below_self w) _⟩
    · skip
      by_cases he : x.a = x.b
      · have HE := Lib.hid (show okLk sw x = false by unfold okLk; simp [H0.out, H1.out, he])
        go_wp2_with fail
        go_ret
        exact ⟨by rw [HE.out]; rfl, below_alloc (below_self w) _⟩
      · obtain rfl : r2 = true := by rw [← H2.out]; simp [he]
        have hbe : (x.a == x.b) = false := by simpa using he
        go_wp2_with fail
        refine (betw_site x.lat 1 1000000 _).mono ?_
        rintro e V ⟨rfl, rfl⟩
        rw [H3.out]
        cases r3
        · have HE := Lib.hid (show okLk sw x = false by unfold okLk; simp [H0.out, H1.out, H2.out, H3.out])
          go_wp2_with fail
          go_ret
          exact ⟨by rw [HE.out]; rfl, below_alloc (below_self w) _⟩
        · have HE := Lib.hid (show okLk sw x = true by unfold okLk; simp [H0.out, H1.out, H2.out, H3.out])
          go_wp2_with fail
          go_ret
          exact ⟨by rw [HE.out]; rfl, below_alloc (below_self w) _⟩
set_option maxHeartbeats 1000000 in
theorem hostbad_ok (x : Host) (B : Nat) (q3 : Hd) (w : World) (hB : B < w.heap.size) (c3 : w.cell? ⟨B, 3, none⟩ = some (.slice q3.1 q3.2.1 q3.2.2)) :
    Calls Tryz.prog 74 #[x.val, .pointer (some ⟨B, 0, none⟩)] w fun e W' => e = .returned (.bool (!okHo q3.2.1 x)) ∧ Below w.heap.size w W' := by
  obtain ⟨r0, h0⟩ : ∃ r, (idx x.rack q3.2.1 : Bool) = r := ⟨_, rfl⟩
  have H0 := Lib.hid h0
  clear h0
  obtain ⟨r1, h1⟩ : ∃ r, (inR x.cores 1 1000 : Bool) = r := ⟨_, rfl⟩
  have H1 := Lib.hid h1
  clear h1
  obtain ⟨r2, h2⟩ : ∃ r, (inR x.idle 0 10000 : Bool) = r := ⟨_, rfl⟩
  have H2 := Lib.hid h2
  clear h2
  obtain ⟨r3, h3⟩ : ∃ r, (inR x.per 0 1000 : Bool) = r := ⟨_, rfl⟩
  have H3 := Lib.hid h3
  clear h3
  go_enter Tryz.func74, Tryz.ntmps74
  go_wp2_with fail
  refine (index_ok x.rack q3.2.1 _).mono ?_
  rintro e V ⟨rfl, rfl⟩
  rw [H0.out]
  cases r0
  · have HE := Lib.hid (show okHo q3.2.1 x = false by unfold okHo; simp [H0.out])
    go_wp2_with fail
    go_ret
    exact ⟨by rw [HE.out]; rfl, below_alloc (below_self w) _⟩
  · skip
    go_wp2_with fail
    refine (betw_site x.cores 1 1000 _).mono ?_
    rintro e V ⟨rfl, rfl⟩
    rw [H1.out]
    cases r1
    · have HE := Lib.hid (show okHo q3.2.1 x = false by unfold okHo; simp [H0.out, H1.out])
      go_wp2_with fail
      go_ret
      exact ⟨by rw [HE.out]; rfl, below_alloc (below_self w) _⟩
    · skip
      go_wp2_with fail
      refine (betw_site x.idle 0 10000 _).mono ?_
      rintro e V ⟨rfl, rfl⟩
      rw [H2.out]
      cases r2
      · have HE := Lib.hid (show okHo q3.2.1 x = false by unfold okHo; simp [H0.out, H1.out, H2.out])
        go_wp2_with fail
        go_ret
        exact ⟨by rw [HE.out]; rfl, below_alloc (below_self w) _⟩
      · skip
        go_wp2_with fail
        refine (betw_site x.per 0 1000 _).mono ?_
        rintro e V ⟨rfl, rfl⟩
        rw [H3.out]
        cases r3
        · have HE := Lib.hid (show okHo q3.2.1 x = false by unfold okHo; simp [H0.out, H1.out, H2.out, H3.out])
          go_wp2_with fail
          go_ret
          exact ⟨by rw [HE.out]; rfl, below_alloc (below_self w) _⟩
        · have HE := Lib.hid (show okHo q3.2.1 x = true by unfold okHo; simp [H0.out, H1.out, H2.out, H3.out])
          go_wp2_with fail
          go_ret
          exact ⟨by rw [HE.out]; rfl, below_alloc (below_self w) _⟩
end Go.Proofs.YthlefdbhkbpejaaGreat
