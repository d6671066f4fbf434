/- Chapter 07: the examples that each law checks: works returns true. -/
import Derived.Test.YtojpbmaojbejjaaNext
namespace Go.Proofs.Ytojpbmaojbejjaa
open Go Go.RowKit

def sampB : Brk := ⟨0, 50, 40, 100⟩
theorem ints_blk {W : World} {g : Nat} {xs : List Int} {t : TypeId} (h : W.heap[g]? = some (.cells (xs.map (Value.int .i64)).toArray t (0, 0))) : RowsAt W.heap.size W (some ⟨g, 0, none⟩) 1 (Ints xs) := by
  intro i r hr
  have hg := blk_lt h
  obtain ⟨x, hx, rfl⟩ : ∃ x, xs[i]? = some x ∧ r = [.int .i64 x] := by
    rw [List.getElem?_map] at hr
    cases hxi : xs[i]? with
    | none => rw [hxi] at hr; simp at hr
    | some x => rw [hxi] at hr; exact ⟨x, rfl, by simpa using hr.symm⟩
  refine ⟨_, _, rfl, hg, fun j v hv => ?_⟩
  cases j with
  | zero =>
    rw [blk_cell h]
    simp at hv ⊢
    rw [hx]; simpa using hv
  | succ j => simp at hv
theorem sts_blk {W : World} {g : Nat} {ss : List BSt} {t : TypeId} (h : W.heap[g]? = some (.cells (flatS ss).toArray t (0, 0))) : RowsAt W.heap.size W (some ⟨g, 0, none⟩) 2 (Sts ss) := by
  intro i r hr
  refine ⟨g, 0, rfl, blk_lt h, fun j v hv => ?_⟩
  have := flat_get 2 (Sts ss) (sts_two ss) i r hr j v hv
  rw [blk_cell h]
  simp only [Nat.zero_add]
  simpa [flatS] using this

theorem sample_ok (w : World) : Calls Try.prog 18 #[] w fun e W' => e = .returned sampB.val ∧ Below w.heap.size w W' := by
  go_enter Try.func18, Try.ntmps18
  go_wp2_with fail
  exact bodyPost_ret (v := sampB.val) (by simp [results, Try.results18, go_sem, sampB]) rfl ⟨rfl, below_alloc (below_self w) _⟩

theorem wk1 : courseE sampB ⟨30, false⟩ [61] = 0 ∧ nextS sampB ⟨30, false⟩ 61 = ⟨41, true⟩ := by decide
theorem wk2 : courseE sampB ⟨0, false⟩ [70, 30] = 0 ∧ courseL sampB ⟨0, false⟩ [70, 30] = [⟨0, false⟩, ⟨20, false⟩, ⟨0, false⟩] := by decide
theorem wk3 : tripsE sampB 0 [70, 70, 30, 71] = 0 ∧ tripsN sampB 0 [70, 70, 30, 71] = 3 := by decide
theorem wk4 : okB sampB = true ∧ steadyE sampB 0 60 = 0 ∧ lastsN sampB 0 60 = 4 ∧ steadyE sampB 31 40 = 0 ∧ coolsN sampB 31 40 = 4 ∧ bearsE sampB 0 3 = 0 ∧ bearsN sampB 0 3 = 63 := by decide

set_option maxRecDepth 100000 in
set_option maxHeartbeats 4000000 in
theorem works_ok (w : World) : Calls Try.prog 16 #[] w fun e W' => e = .returned (.bool true) ∧ Below w.heap.size w W' := by
  have K1 := Lib.hid wk1
  have K2 := Lib.hid wk2
  have K3 := Lib.hid wk3
  have K4 := Lib.hid wk4
  go_enter Try.func16, Try.ntmps16
  go_wp2_with fail
  refine (sample_ok _).mono ?_
  rintro e W1 ⟨rfl, hb1⟩
  have B1 := Lib.hid hb1
  clear hb1
  go_wp2_with fail
  obtain ⟨A1, hA1⟩ : ∃ W' : World, (W1.alloc (.cells sampB.cells.toArray 23)) = W' := ⟨_, rfl⟩
  have H1 : Has A1 [(W1.heap.size, .cells sampB.cells.toArray 23 (0, 0))] := by rw [← hA1]; simpa using ((Has.nil W1).new _)
  have s1 : A1.heap.size = W1.heap.size + 1 := by rw [← hA1]; simp
  have b1 : Below W1.heap.size W1 A1 := by rw [← hA1]; exact (below_alloc (below_self W1) _)
  rw [hA1]
  clear hA1
  refine (next_ok sampB ⟨30, false⟩ 61 _).mono ?_
  rintro e W2 ⟨rfl, hb2⟩
  rw [K1.out.1, K1.out.2]
  have h2 := H1.below hb2
  have B2 := Lib.hid (below_trans (below_trans B1.out b1) hb2)
  have k0 := blk_cell h2.hd 0
  have k1 := blk_cell h2.hd 1
  have k2 := blk_cell h2.hd 2
  have k3 := blk_cell h2.hd 3
  simp at k0 k1 k2 k3
  have l1 : W1.heap.size < W2.heap.size := blk_lt h2.hd
  have H2 := Lib.hid h2
  clear h2 H1 b1 hb2 s1 B1
  go_wp2_with fail
  obtain ⟨A2, hA2⟩ : ∃ W' : World, ((W2.alloc (.cells #[.int .i64 41, .bool true] 37)).alloc (.cells #[.int .i64 70, .int .i64 30] 3)) = W' := ⟨_, rfl⟩
  have H3 : Has A2 [(W2.heap.size + 1, .cells #[.int .i64 70, .int .i64 30] 3 (0, 0)), (W2.heap.size, .cells #[.int .i64 41, .bool true] 37 (0, 0))] := by rw [← hA2]; simpa using (((Has.nil W2).new _).new _)
  have s3 : A2.heap.size = W2.heap.size + 1 + 1 := by rw [← hA2]; simp
  have b3 : Below W2.heap.size W2 A2 := by rw [← hA2]; exact (below_alloc (below_alloc (below_self W2) _) _)
  rw [hA2]
  clear hA2
  have hx := ints_blk (xs := [70, 30]) H3.hd
  refine (course_ok sampB ⟨0, false⟩ _ 2 2 [70, 30] _ rfl (by omega) hx).mono ?_
  rintro e W3 ⟨vL, rfl, hoL, hb3⟩
  rw [K2.out.1]
  rw [K2.out.2] at hoL
  obtain ⟨a3, cap3, rfl, hr3⟩ := hoL.rows
  have B3 := Lib.hid (below_trans (below_trans B2.out b3) hb3)
  have h3 := (Has.cons (blk_below (blk_below H2.out.hd b3) hb3) (Has.cons (H3.below hb3).tl.hd (Has.nil _)) : Has W3 [(W1.heap.size, .cells sampB.cells.toArray 23 (0, 0)), (W2.heap.size, .cells #[.int .i64 41, .bool true] 37 (0, 0))])
  clear k0 k1 k2 k3 l1
  have k0 := blk_cell h3.hd 0
  have k1 := blk_cell h3.hd 1
  have k2 := blk_cell h3.hd 2
  have k3 := blk_cell h3.hd 3
  simp at k0 k1 k2 k3
  have l1 : W1.heap.size < W3.heap.size := blk_lt h3.hd
  have H4 := Lib.hid (And.intro h3 hr3)
  clear H2 B2 hx H3 s3 b3 hoL hb3 h3 hr3
  go_wp2_with fail
  obtain ⟨A3, hA3⟩ : ∃ W' : World, (W3.alloc (.cells #[.int .i64 70, .int .i64 70, .int .i64 30, .int .i64 71] 3)) = W' := ⟨_, rfl⟩
  have H3 : Has A3 [(W3.heap.size, .cells #[.int .i64 70, .int .i64 70, .int .i64 30, .int .i64 71] 3 (0, 0))] := by rw [← hA3]; simpa using ((Has.nil W3).new _)
  have s3 : A3.heap.size = W3.heap.size + 1 := by rw [← hA3]; simp
  have b3 : Below W3.heap.size W3 A3 := by rw [← hA3]; exact (below_alloc (below_self W3) _)
  rw [hA3]
  clear hA3
  have hx := ints_blk (xs := [70, 70, 30, 71]) H3.hd
  refine (trips_ok sampB 0 _ 4 4 [70, 70, 30, 71] _ rfl (by omega) hx).mono ?_
  rintro e W4 ⟨rfl, hb4⟩
  rw [K3.out.1, K3.out.2]
  have B4 := Lib.hid (below_trans (below_trans B3.out b3) hb4)
  have h4 := (H4.out.1.below b3).below hb4
  have r4 := (H4.out.2.later b3).later hb4
  clear k0 k1 k2 k3 l1
  have k0 := blk_cell h4.hd 0
  have k1 := blk_cell h4.hd 1
  have k2 := blk_cell h4.hd 2
  have k3 := blk_cell h4.hd 3
  have c0 := blk_cell h4.tl.hd 0
  have c5 := blk_cell h4.tl.hd 1
  simp at k0 k1 k2 k3 c0 c5
  have l1 : W1.heap.size < W4.heap.size := blk_lt h4.hd
  have l2 : W2.heap.size < W4.heap.size := blk_lt h4.tl.hd
  have H5 := Lib.hid (And.intro h4 r4)
  clear H4 B3 hx H3 s3 b3 hb4 h4 r4
  go_wp2_with fail
  refine (valid_ok sampB _).mono ?_
  rintro e W5 ⟨rfl, rfl⟩
  rw [K4.out.1]
  have heq : ∀ w, (Op.equalIn 10000 37 (.agg #[.int .i64 41, .bool true]) (.agg #[.int .i64 41, .bool true])).run Try.prog w = .ok true w := fun w => by
    have := eq37 ⟨41, true⟩ ⟨41, true⟩ w
    simpa using this
  have hg := guard37
  go_wp2_with fail
  obtain ⟨A4, hA4⟩ : ∃ W' : World, ((W4.alloc (.cells sampB.cells.toArray 23)).alloc (.cells #[.int .i64 0, .bool false, .int .i64 20, .bool false, .int .i64 0, .bool false] 37)) = W' := ⟨_, rfl⟩
  have H6 : Has A4 [(W4.heap.size + 1, .cells #[.int .i64 0, .bool false, .int .i64 20, .bool false, .int .i64 0, .bool false] 37 (0, 0)), (W4.heap.size, .cells sampB.cells.toArray 23 (0, 0))] := by rw [← hA4]; simpa using (((Has.nil W4).new _).new _)
  have s6 : A4.heap.size = W4.heap.size + 1 + 1 := by rw [← hA4]; simp
  have b6 : Below W4.heap.size W4 A4 := by rw [← hA4]; exact (below_alloc (below_alloc (below_self W4) _) _)
  rw [hA4]
  clear hA4
  have hy := sts_blk (ss := [⟨0, false⟩, ⟨20, false⟩, ⟨0, false⟩]) H6.hd
  refine (equalS_ok a3 _ 3 cap3 3 3 _ _ _ rfl rfl (by omega) (H5.out.2.later b6) hy).mono ?_
  rintro e W6 ⟨rfl, hb6⟩
  have hd : decide ([(⟨0, false⟩ : BSt), ⟨20, false⟩, ⟨0, false⟩] = [⟨0, false⟩, ⟨20, false⟩, ⟨0, false⟩]) = true := by decide
  rw [hd]
  have B6 := Lib.hid (below_trans (below_trans B4.out b6) hb6)
  have h6 := (H5.out.1.below b6).below hb6
  clear k0 k1 k2 k3 l1 c0 c5 l2 heq hg hy hd
  have k0 := blk_cell h6.hd 0
  have k1 := blk_cell h6.hd 1
  have k2 := blk_cell h6.hd 2
  have k3 := blk_cell h6.hd 3
  simp at k0 k1 k2 k3
  have l1 : W1.heap.size < W6.heap.size := blk_lt h6.hd
  have H7 := Lib.hid h6
  clear H5 B4 H6 s6 b6 hb6 h6
  go_wp2_with fail
  refine (lasts_ok sampB 0 60 _).mono ?_
  rintro e W7 ⟨rfl, hb7⟩
  rw [K4.out.2.1, K4.out.2.2.1]
  have B7 := Lib.hid (below_trans B6.out hb7)
  have h7 := H7.out.below hb7
  clear k0 k1 k2 k3 l1
  have k0 := blk_cell h7.hd 0
  have k1 := blk_cell h7.hd 1
  have k2 := blk_cell h7.hd 2
  have k3 := blk_cell h7.hd 3
  simp at k0 k1 k2 k3
  have l1 : W1.heap.size < W7.heap.size := blk_lt h7.hd
  have H8 := Lib.hid h7
  clear H7 B6 hb7 h7
  go_wp2_with fail
  refine (cools_ok sampB 31 40 _).mono ?_
  rintro e W8 ⟨rfl, hb8⟩
  rw [K4.out.2.2.2.1, K4.out.2.2.2.2.1]
  have B8 := Lib.hid (below_trans B7.out hb8)
  have h8 := H8.out.below hb8
  clear k0 k1 k2 k3 l1
  have k0 := blk_cell h8.hd 0
  have k1 := blk_cell h8.hd 1
  have k2 := blk_cell h8.hd 2
  have k3 := blk_cell h8.hd 3
  simp at k0 k1 k2 k3
  have l1 : W1.heap.size < W8.heap.size := blk_lt h8.hd
  clear H8 B7 hb8 h8
  go_wp2_with fail
  refine (bears_ok sampB 0 3 _).mono ?_
  rintro e W9 ⟨rfl, hb9⟩
  rw [K4.out.2.2.2.2.2.1, K4.out.2.2.2.2.2.2]
  have B9 := Lib.hid (below_trans B8.out hb9)
  clear k0 k1 k2 k3 l1 B8 hb9
  go_wp2_with fail
  go_ret
  exact ⟨rfl, B9.out⟩
end Go.Proofs.Ytojpbmaojbejjaa
