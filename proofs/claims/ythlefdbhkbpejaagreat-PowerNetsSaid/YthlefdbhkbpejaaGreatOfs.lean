/- Chapter 14: power.Watts, OfBreaker, OfFeed (written by wip/gen14ofs.py). -/
import Derived.Test.YthlefdbhkbpejaaGreatPwB
namespace Go.Proofs.YthlefdbhkbpejaaGreat
open Go Go.RowKit
set_option linter.unusedSimpArgs false

theorem brk_is (s : Site) (b : Int) (B C : Nat) (i : Nat) (w : World) (hs : s.At w) (hok : siteOk s = true) (hi : i < s.hosts.length) (hB : w.heap[B]? = some (.cells s.cells.toArray 29 (0, 0))) (hC : w.heap[C]? = some (.cells #[.int .i64 b] 3 (0, 0))) :
    Calls Tryz.prog 30 #[.int .i64 i, .pointer (some ⟨B, 0, none⟩), .pointer (some ⟨C, 0, none⟩)] w fun e W' => e = .returned (.bool (decide ((s.racks.getD (s.hosts.getD i default).rack.toNat default).brk = b))) ∧ Below w.heap.size w W' := by
  have hN : s.hosts.length = s.hh.2.1 := hs.hosts.len
  have hNr : s.racks.length = s.rh.2.1 := hs.racks.len
  have hNb : s.brks.length = s.bh.2.1 := hs.brks.len
  have hNl := hs.hosts.le
  have hNl2 := hs.racks.le
  have hNl3 := hs.brks.le
  obtain ⟨b1, o1, q1, hb1, p0, p1, p2, p3⟩ := hos_at hs.hosts.rows i hi
  have hr := (siteOk_host hok hi).1
  have d1 : w.cell? ⟨B, 1, none⟩ = some (.slice s.bh.1 s.bh.2.1 s.bh.2.2) := (blk_cell hB 1).trans rfl
  have d3 : w.cell? ⟨B, 3, none⟩ = some (.slice s.rh.1 s.rh.2.1 s.rh.2.2) := (blk_cell hB 3).trans rfl
  have d6 : w.cell? ⟨B, 6, none⟩ = some (.slice s.hh.1 s.hh.2.1 s.hh.2.2) := (blk_cell hB 6).trans rfl
  have c0 : w.cell? ⟨C, 0, none⟩ = some (.int .i64 b) := (blk_cell hC 0).trans rfl
  have dB := blk_lt hB
  have dC := blk_lt hC
  have hi1 : i < s.hh.2.1 := by omega
  have hi1I : (i : Int) < (s.hh.2.1 : Int) := by omega
  rw [q1] at d6
  generalize (s.hosts.getD i default).rack = y at p0 hr ⊢
  obtain ⟨j, rfl⟩ : ∃ j : Nat, y = j := ⟨y.toNat, by omega⟩
  rw [Int.toNat_natCast]
  have hj : j < s.racks.length := by omega
  obtain ⟨b2, o2, q2, hb2, r0, r1, r2, r3⟩ := rks_at hs.racks.rows j hj
  have hbk := siteOk_rack hok hj
  have hj1 : j < s.rh.2.1 := by omega
  have hj1I : (j : Int) < (s.rh.2.1 : Int) := by omega
  rw [q2] at d3
  generalize (s.racks.getD j default).brk = z at r1 hbk ⊢
  clear hs hB hC hN hNr hNb hi hok p1 p2 p3 r0 r2 r3 hr hbk
  go_enter Tryz.func30, Tryz.ntmps30
  go_wp2_with fail
  go_quiet (fail)
  go_wp2_with fail
  go_ret
  exact ⟨rfl, below_drewN (below_self w) _⟩
theorem brk_ok (s : Site) (x : Wish) (v : Wld) (b : Int) (w : World) (hs : s.At w) (hx : x.At w) (hv : v.At w) :
    Calls Tryz.prog 11 #[s.val, x.val, v.val, .int .i64 b] w fun e W' => e = .returned (.int .i64 (ofBrk s x v b)) ∧ Below w.heap.size w W' := by
  obtain ⟨g, hg⟩ : ∃ g, ofBrk s x v b = g := ⟨_, rfl⟩
  have HG := Lib.hid (show (sumH s x v fun i => decide ((s.racks.getD (s.hosts.getD i default).rack.toNat default).brk = b)) = g from hg)
  have HI := Lib.hid (And.intro hs (And.intro hx hv))
  rw [hg]
  clear hg hs hx hv
  go_enter Tryz.func11, Tryz.ntmps11
  go_wp2_with fail
  obtain ⟨A, hA⟩ : ∃ W' : World, ((((w.alloc (.cells s.cells.toArray 29)).alloc (.cells x.cells.toArray 32)).alloc (.cells v.cells.toArray 36)).alloc (.cells #[.int .i64 b] 3)) = W' := ⟨_, rfl⟩
  have h : Has A [(w.heap.size + 1 + 1 + 1, .cells #[.int .i64 b] 3 (0, 0)), (w.heap.size + 1 + 1, .cells v.cells.toArray 36 (0, 0)), (w.heap.size + 1, .cells x.cells.toArray 32 (0, 0)), (w.heap.size, .cells s.cells.toArray 29 (0, 0))] := by rw [← hA]; simpa using (((((Has.nil w).new _).new _).new _).new _)
  have z : A.heap.size = w.heap.size + 1 + 1 + 1 + 1 := by rw [← hA]; simp
  have b0 : Below w.heap.size w A := by rw [← hA]; exact (below_alloc (below_alloc (below_alloc (below_alloc (below_self w) _) _) _) _)
  rw [hA]
  clear hA
  have HZ := Lib.hid (show A.heap[w.heap.size]? = some (.cells s.cells.toArray 29 (0, 0)) ∧ A.heap[w.heap.size + 1 + 1 + 1]? = some (.cells #[.int .i64 b] 3 (0, 0)) ∧ Below w.heap.size w A from ⟨h.tl.tl.tl.hd, h.hd, b0⟩)
  clear h z b0
  refine (sum_ok 30 #[.pointer (some ⟨w.heap.size, 0, none⟩), .pointer (some ⟨w.heap.size + 1 + 1 + 1, 0, none⟩)] (fun i => decide ((s.racks.getD (s.hosts.getD i default).rack.toNat default).brk = b)) s x v A (HI.out.1.later HZ.out.2.2) (HI.out.2.1.later HZ.out.2.2) (HI.out.2.2.later HZ.out.2.2) (fun hok W i hi hb => brk_is s b w.heap.size (w.heap.size + 1 + 1 + 1) i W (HI.out.1.later (below_trans HZ.out.2.2 hb)) (worldOk_site hok) hi (blk_below HZ.out.1 hb) (blk_below HZ.out.2.1 hb)) (enters_of Tryz.func30 (by kernel_rfl) rfl)).mono ?_
  rintro e Z ⟨rfl, hb⟩
  have HF := Lib.hid (below_trans HZ.out.2.2 hb)
  clear hb
  rw [HG.out]
  go_wp2_with fail
  go_ret
  exact ⟨rfl, HF.out⟩
theorem feed_is (s : Site) (b : Int) (B C : Nat) (i : Nat) (w : World) (hs : s.At w) (hok : siteOk s = true) (hi : i < s.hosts.length) (hB : w.heap[B]? = some (.cells s.cells.toArray 29 (0, 0))) (hC : w.heap[C]? = some (.cells #[.int .i64 b] 3 (0, 0))) :
    Calls Tryz.prog 31 #[.int .i64 i, .pointer (some ⟨B, 0, none⟩), .pointer (some ⟨C, 0, none⟩)] w fun e W' => e = .returned (.bool (decide ((s.brks.getD (s.racks.getD (s.hosts.getD i default).rack.toNat default).brk.toNat default).feed = b))) ∧ Below w.heap.size w W' := by
  have hN : s.hosts.length = s.hh.2.1 := hs.hosts.len
  have hNr : s.racks.length = s.rh.2.1 := hs.racks.len
  have hNb : s.brks.length = s.bh.2.1 := hs.brks.len
  have hNl := hs.hosts.le
  have hNl2 := hs.racks.le
  have hNl3 := hs.brks.le
  obtain ⟨b1, o1, q1, hb1, p0, p1, p2, p3⟩ := hos_at hs.hosts.rows i hi
  have hr := (siteOk_host hok hi).1
  have d1 : w.cell? ⟨B, 1, none⟩ = some (.slice s.bh.1 s.bh.2.1 s.bh.2.2) := (blk_cell hB 1).trans rfl
  have d3 : w.cell? ⟨B, 3, none⟩ = some (.slice s.rh.1 s.rh.2.1 s.rh.2.2) := (blk_cell hB 3).trans rfl
  have d6 : w.cell? ⟨B, 6, none⟩ = some (.slice s.hh.1 s.hh.2.1 s.hh.2.2) := (blk_cell hB 6).trans rfl
  have c0 : w.cell? ⟨C, 0, none⟩ = some (.int .i64 b) := (blk_cell hC 0).trans rfl
  have dB := blk_lt hB
  have dC := blk_lt hC
  have hi1 : i < s.hh.2.1 := by omega
  have hi1I : (i : Int) < (s.hh.2.1 : Int) := by omega
  rw [q1] at d6
  generalize (s.hosts.getD i default).rack = y at p0 hr ⊢
  obtain ⟨j, rfl⟩ : ∃ j : Nat, y = j := ⟨y.toNat, by omega⟩
  rw [Int.toNat_natCast]
  have hj : j < s.racks.length := by omega
  obtain ⟨b2, o2, q2, hb2, r0, r1, r2, r3⟩ := rks_at hs.racks.rows j hj
  have hbk := siteOk_rack hok hj
  have hj1 : j < s.rh.2.1 := by omega
  have hj1I : (j : Int) < (s.rh.2.1 : Int) := by omega
  rw [q2] at d3
  generalize (s.racks.getD j default).brk = z at r1 hbk ⊢
  obtain ⟨k, rfl⟩ : ∃ k : Nat, z = k := ⟨z.toNat, by omega⟩
  rw [Int.toNat_natCast]
  have hk : k < s.brks.length := by omega
  obtain ⟨b3, o3, q3, hb3, u0, u1, u2, u3⟩ := bks_at hs.brks.rows k hk
  have hk1 : k < s.bh.2.1 := by omega
  have hk1I : (k : Int) < (s.bh.2.1 : Int) := by omega
  rw [q3] at d1
  generalize (s.brks.getD k default).feed = g at u0 ⊢
  clear u1 u2 u3
  clear hs hB hC hN hNr hNb hi hok p1 p2 p3 r0 r2 r3 hr hbk
  go_enter Tryz.func31, Tryz.ntmps31
  go_wp2_with fail
  go_quiet (fail)
  go_wp2_with fail
  go_ret
  exact ⟨rfl, below_drewN (below_self w) _⟩
theorem feed_ok (s : Site) (x : Wish) (v : Wld) (b : Int) (w : World) (hs : s.At w) (hx : x.At w) (hv : v.At w) :
    Calls Tryz.prog 13 #[s.val, x.val, v.val, .int .i64 b] w fun e W' => e = .returned (.int .i64 (ofFeed s x v b)) ∧ Below w.heap.size w W' := by
  obtain ⟨g, hg⟩ : ∃ g, ofFeed s x v b = g := ⟨_, rfl⟩
  have HG := Lib.hid (show (sumH s x v fun i => decide ((s.brks.getD (s.racks.getD (s.hosts.getD i default).rack.toNat default).brk.toNat default).feed = b)) = g from hg)
  have HI := Lib.hid (And.intro hs (And.intro hx hv))
  rw [hg]
  clear hg hs hx hv
  go_enter Tryz.func13, Tryz.ntmps13
  go_wp2_with fail
  obtain ⟨A, hA⟩ : ∃ W' : World, ((((w.alloc (.cells s.cells.toArray 29)).alloc (.cells x.cells.toArray 32)).alloc (.cells v.cells.toArray 36)).alloc (.cells #[.int .i64 b] 3)) = W' := ⟨_, rfl⟩
  have h : Has A [(w.heap.size + 1 + 1 + 1, .cells #[.int .i64 b] 3 (0, 0)), (w.heap.size + 1 + 1, .cells v.cells.toArray 36 (0, 0)), (w.heap.size + 1, .cells x.cells.toArray 32 (0, 0)), (w.heap.size, .cells s.cells.toArray 29 (0, 0))] := by rw [← hA]; simpa using (((((Has.nil w).new _).new _).new _).new _)
  have z : A.heap.size = w.heap.size + 1 + 1 + 1 + 1 := by rw [← hA]; simp
  have b0 : Below w.heap.size w A := by rw [← hA]; exact (below_alloc (below_alloc (below_alloc (below_alloc (below_self w) _) _) _) _)
  rw [hA]
  clear hA
  have HZ := Lib.hid (show A.heap[w.heap.size]? = some (.cells s.cells.toArray 29 (0, 0)) ∧ A.heap[w.heap.size + 1 + 1 + 1]? = some (.cells #[.int .i64 b] 3 (0, 0)) ∧ Below w.heap.size w A from ⟨h.tl.tl.tl.hd, h.hd, b0⟩)
  clear h z b0
  refine (sum_ok 31 #[.pointer (some ⟨w.heap.size, 0, none⟩), .pointer (some ⟨w.heap.size + 1 + 1 + 1, 0, none⟩)] (fun i => decide ((s.brks.getD (s.racks.getD (s.hosts.getD i default).rack.toNat default).brk.toNat default).feed = b)) s x v A (HI.out.1.later HZ.out.2.2) (HI.out.2.1.later HZ.out.2.2) (HI.out.2.2.later HZ.out.2.2) (fun hok W i hi hb => feed_is s b w.heap.size (w.heap.size + 1 + 1 + 1) i W (HI.out.1.later (below_trans HZ.out.2.2 hb)) (worldOk_site hok) hi (blk_below HZ.out.1 hb) (blk_below HZ.out.2.1 hb)) (enters_of Tryz.func31 (by kernel_rfl) rfl)).mono ?_
  rintro e Z ⟨rfl, hb⟩
  have HF := Lib.hid (below_trans HZ.out.2.2 hb)
  clear hb
  rw [HG.out]
  go_wp2_with fail
  go_ret
  exact ⟨rfl, HF.out⟩
theorem host_is (h : Int) (C : Nat) (i : Nat) (w : World) (hC : w.heap[C]? = some (.cells #[.int .i64 h] 3 (0, 0))) :
    Calls Tryz.prog 26 #[.int .i64 i, .pointer (some ⟨C, 0, none⟩)] w fun e W' => e = .returned (.bool (decide ((i : Int) = h))) ∧ Below w.heap.size w W' := by
  have c0 : w.cell? ⟨C, 0, none⟩ = some (.int .i64 h) := (blk_cell hC 0).trans rfl
  have dC := blk_lt hC
  clear hC
  go_enter Tryz.func26, Tryz.ntmps26
  go_wp2_with fail
  go_ret
  exact ⟨rfl, below_self w⟩
theorem watts0_ok (s : Site) (x : Wish) (v : Wld) (b : Int) (w : World) (hs : s.At w) (hx : x.At w) (hv : v.At w) :
    Calls Tryz.prog 7 #[s.val, x.val, v.val, .int .i64 b] w fun e W' => e = .returned (.int .i64 (wattsN s x v b)) ∧ Below w.heap.size w W' := by
  obtain ⟨g, hg⟩ : ∃ g, wattsN s x v b = g := ⟨_, rfl⟩
  have HG := Lib.hid (show (sumH s x v fun i => decide ((i : Int) = b)) = g from hg)
  have HI := Lib.hid (And.intro hs (And.intro hx hv))
  rw [hg]
  clear hg hs hx hv
  go_enter Tryz.func7, Tryz.ntmps7
  go_wp2_with fail
  obtain ⟨A, hA⟩ : ∃ W' : World, ((((w.alloc (.cells s.cells.toArray 29)).alloc (.cells x.cells.toArray 32)).alloc (.cells v.cells.toArray 36)).alloc (.cells #[.int .i64 b] 3)) = W' := ⟨_, rfl⟩
  have h : Has A [(w.heap.size + 1 + 1 + 1, .cells #[.int .i64 b] 3 (0, 0)), (w.heap.size + 1 + 1, .cells v.cells.toArray 36 (0, 0)), (w.heap.size + 1, .cells x.cells.toArray 32 (0, 0)), (w.heap.size, .cells s.cells.toArray 29 (0, 0))] := by rw [← hA]; simpa using (((((Has.nil w).new _).new _).new _).new _)
  have z : A.heap.size = w.heap.size + 1 + 1 + 1 + 1 := by rw [← hA]; simp
  have b0 : Below w.heap.size w A := by rw [← hA]; exact (below_alloc (below_alloc (below_alloc (below_alloc (below_self w) _) _) _) _)
  rw [hA]
  clear hA
  have HZ := Lib.hid (show A.heap[w.heap.size]? = some (.cells s.cells.toArray 29 (0, 0)) ∧ A.heap[w.heap.size + 1 + 1 + 1]? = some (.cells #[.int .i64 b] 3 (0, 0)) ∧ Below w.heap.size w A from ⟨h.tl.tl.tl.hd, h.hd, b0⟩)
  clear h z b0
  refine (sum_ok 26 #[.pointer (some ⟨w.heap.size + 1 + 1 + 1, 0, none⟩)] (fun i => decide ((i : Int) = b)) s x v A (HI.out.1.later HZ.out.2.2) (HI.out.2.1.later HZ.out.2.2) (HI.out.2.2.later HZ.out.2.2) (fun hok W i hi hb => host_is b (w.heap.size + 1 + 1 + 1) i W (blk_below HZ.out.2.1 hb)) (enters_of Tryz.func26 (by kernel_rfl) rfl)).mono ?_
  rintro e Z ⟨rfl, hb⟩
  have HF := Lib.hid (below_trans HZ.out.2.2 hb)
  clear hb
  rw [HG.out]
  go_wp2_with fail
  go_ret
  exact ⟨rfl, HF.out⟩
end Go.Proofs.YthlefdbhkbpejaaGreat
