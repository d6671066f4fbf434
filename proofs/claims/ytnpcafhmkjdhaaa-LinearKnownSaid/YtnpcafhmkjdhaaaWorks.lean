/- Chapter 06: the examples that each law checks: works returns true. -/
import Derived.Test.YtnpcafhmkjdhaaaLin
namespace Go.Proofs.Ytnpcafhmkjdhaaa
open Go Go.RowKit

def sampP : List Prt := [⟨0, 1, 0⟩, ⟨1, 2, 2⟩]
def sampI : List (List Int) := [[15, 15], [20]]
set_option maxHeartbeats 1000000 in
theorem sample_ok (w : World) : Calls Try.prog 18 #[] w fun e W' => ∃ g, e = .returned (.agg #[.int .i64 10, .slice (some ⟨g, 0, none⟩) 2 2]) ∧ RowsAt W'.heap.size W' (some ⟨g, 0, none⟩) 3 (Prts sampP) ∧ Below w.heap.size w W' := by
  go_enter Try.func18, Try.ntmps18
  go_wp2_with fail
  obtain ⟨W1, hW1⟩ : ∃ W' : World, ((w.alloc (.cells #[.int .i64 10, .slice (some ⟨w.heap.size + 1, 0, none⟩) 2 2] 28)).alloc (.cells #[.int .i64 0, .int .i64 1, .int .i64 0, .int .i64 1, .int .i64 2, .int .i64 2] 43)) = W' := ⟨_, rfl⟩
  have h1 : Has W1 [(w.heap.size + 1, .cells #[.int .i64 0, .int .i64 1, .int .i64 0, .int .i64 1, .int .i64 2, .int .i64 2] 43 (0, 0)), (w.heap.size, .cells #[.int .i64 10, .slice (some ⟨w.heap.size + 1, 0, none⟩) 2 2] 28 (0, 0))] := by rw [← hW1]; simpa using (((Has.nil w).new _).new _)
  have s1 : W1.heap.size = w.heap.size + 1 + 1 := by rw [← hW1]; simp
  have b1 : Below w.heap.size w W1 := by rw [← hW1]; exact (below_alloc (below_alloc (below_self w) _) _)
  rw [hW1]
  clear hW1
  have k0 := blk_cell h1.tl.hd 0
  have k1 := blk_cell h1.tl.hd 1
  simp at k0 k1
  have hp := prts_blk (ps := sampP) h1.hd
  refine bodyPost_ret (v := .agg #[.int .i64 10, .slice (some ⟨w.heap.size + 1, 0, none⟩) 2 2]) (by simp [results, Try.results18, go_sem, k0, k1]) rfl ⟨_, rfl, hp, b1⟩
set_option maxRecDepth 100000 in
theorem wk1 : arrV 10 sampP sampI 2 = 40 ∧ askedE 10 sampP 0 sampI 2 = 0 ∧ askedE 10 sampP 0 sampI 4 = 0 ∧ courseV 10 sampP sampI 0 4 = [0, 5, 10, 40, 30] ∧ okL 10 sampP = true := by decide +kernel
theorem wk2 : peakT 10 sampP sampI 0 4 = 3 ∧ peakV 10 sampP sampI 0 4 = 40 ∧ firstV 10 sampP sampI 0 4 9 = 2 := by decide +kernel
theorem wk3 : leastV 10 sampP sampI 0 4 20 = 20 ∧ leastE 10 sampP sampI 0 4 20 = 0 := by
  have h : leastN sampP sampI 0 4 20 = 20 := by
    unfold leastN
    refine leastOf_eq (fun c c' h1 h2 => fits_mono h1 h2) (by omega) (fun t ht => ?_) (fun _ => by decide +kernel)
    obtain rfl : t = 19 := by omega
    decide +kernel
  have h2 : leastN sampP sampI 0 (4 : Int).toNat 20 = 20 := h
  unfold leastV leastE
  rw [if_pos wk1.2.2.1, if_pos wk1.2.2.1, h2]
  decide

set_option maxRecDepth 100000 in
set_option maxHeartbeats 4000000 in
theorem works_ok (w : World) : Calls Try.prog 13 #[] w fun e W' => e = .returned (.bool true) ∧ Below w.heap.size w W' := by
  have K1 := Lib.hid wk1
  have K2 := Lib.hid wk2
  have K3 := Lib.hid wk3
  go_enter Try.func13, Try.ntmps13
  go_wp2_with fail
  refine (sample_ok _).mono ?_
  rintro e W1 ⟨g, rfl, hp, hb1⟩
  have B1 := Lib.hid (And.intro hp hb1)
  clear hb1 hp
  go_wp2_with fail
  obtain ⟨A1, hA1⟩ : ∃ W' : World, ((((W1.alloc (.cells #[.int .i64 10, .slice (some ⟨g, 0, none⟩) 2 2] 28)).alloc (.cells #[.int .i64 15, .int .i64 15] 3)).alloc (.cells #[.int .i64 20] 3)).alloc (.cells #[.slice (some ⟨W1.heap.size + 1, 0, none⟩) 2 2, .slice (some ⟨W1.heap.size + 1 + 1, 0, none⟩) 1 1] 32)) = W' := ⟨_, rfl⟩
  have H1 : Has A1 [(W1.heap.size + 1 + 1 + 1, .cells #[.slice (some ⟨W1.heap.size + 1, 0, none⟩) 2 2, .slice (some ⟨W1.heap.size + 1 + 1, 0, none⟩) 1 1] 32 (0, 0)), (W1.heap.size + 1 + 1, .cells #[.int .i64 20] 3 (0, 0)), (W1.heap.size + 1, .cells #[.int .i64 15, .int .i64 15] 3 (0, 0)), (W1.heap.size, .cells #[.int .i64 10, .slice (some ⟨g, 0, none⟩) 2 2] 28 (0, 0))] := by rw [← hA1]; simpa using (((((Has.nil W1).new _).new _).new _).new _)
  have s1 : A1.heap.size = W1.heap.size + 1 + 1 + 1 + 1 := by rw [← hA1]; simp
  have b1 : Below W1.heap.size W1 A1 := by rw [← hA1]; exact (below_alloc (below_alloc (below_alloc (below_alloc (below_self W1) _) _) _) _)
  rw [hA1]
  clear hA1
  have hl : Lin w A1 W1.heap.size 10 (some ⟨g, 0, none⟩, 2, 2) (some ⟨W1.heap.size + 1 + 1 + 1, 0, none⟩, 2, 2) sampP [(some ⟨W1.heap.size + 1, 0, none⟩, 2, 2), (some ⟨W1.heap.size + 1 + 1, 0, none⟩, 1, 1)] sampI :=
    ⟨H1.tl.tl.tl.hd, B1.out.1.later b1, ins_two (hds_blk (hs := [(some ⟨W1.heap.size + 1, 0, none⟩, 2, 2), (some ⟨W1.heap.size + 1 + 1, 0, none⟩, 1, 1)]) H1.hd) rfl rfl (show 2 ≤ 9223372036854775807 by omega) (show 1 ≤ 9223372036854775807 by omega) (ints_blk (xs := [15, 15]) H1.tl.tl.hd) (ints_blk (xs := [20]) H1.tl.hd), below_trans B1.out.2 b1⟩
  generalize W1.heap.size + 1 + 1 + 1 = gi at hl ⊢
  have k0 := hl.c0
  have k1 := hl.c1
  have kl := hl.lt
  have L1 := Lib.hid hl
  clear hl H1 s1 b1 B1
  go_wp2_with fail
  refine (arrives_ok 10 _ 2 2 sampP _ 2 2 _ sampI 2 _ rfl (by omega) L1.out.pr rfl (by omega) L1.out.ir).mono ?_
  rintro e W2 ⟨rfl, hb2⟩
  rw [K1.out.1, K1.out.2.1]
  have L2 := Lib.hid (L1.out.later hb2)
  clear k0 k1 kl hb2 L1
  have k0 := L2.out.c0
  have k1 := L2.out.c1
  have kl := L2.out.lt
  go_wp2_with fail
  refine (course_ok 10 _ 2 2 sampP 0 _ 2 2 _ sampI 4 _ rfl (by omega) L2.out.pr rfl (by omega) L2.out.ir).mono ?_
  rintro e W3 ⟨vc, rfl, ho, hb3⟩
  rw [K1.out.2.2.1]
  rw [K1.out.2.2.2.1] at ho
  obtain ⟨ac, cc, rfl, hrc⟩ := ho.rows
  have L3 := Lib.hid (L2.out.later hb3)
  have HC := Lib.hid hrc
  clear k0 k1 kl hb3 L2 ho hrc
  have k0 := L3.out.c0
  have k1 := L3.out.c1
  have kl := L3.out.lt
  go_wp2_with fail
  refine (valid_ok 10 _ 2 2 sampP _ rfl (by omega) L3.out.pr).mono ?_
  rintro e W4 ⟨rfl, hb4⟩
  rw [K1.out.2.2.2.2]
  have L4 := Lib.hid (L3.out.later hb4)
  have HC4 := Lib.hid (HC.out.later hb4)
  clear k0 k1 kl hb4 L3 HC
  have k0 := L4.out.c0
  have k1 := L4.out.c1
  have kl := L4.out.lt
  go_wp2_with fail
  obtain ⟨A4, hA4⟩ : ∃ W' : World, (W4.alloc (.cells #[.int .i64 0, .int .i64 5, .int .i64 10, .int .i64 40, .int .i64 30] 3)) = W' := ⟨_, rfl⟩
  have H5 : Has A4 [(W4.heap.size, .cells #[.int .i64 0, .int .i64 5, .int .i64 10, .int .i64 40, .int .i64 30] 3 (0, 0))] := by rw [← hA4]; simpa using ((Has.nil W4).new _)
  have s5 : A4.heap.size = W4.heap.size + 1 := by rw [← hA4]; simp
  have b5 : Below W4.heap.size W4 A4 := by rw [← hA4]; exact (below_alloc (below_self W4) _)
  rw [hA4]
  clear hA4
  refine (equalI_ok ac _ 5 cc 5 5 [0, 5, 10, 40, 30] [0, 5, 10, 40, 30] _ rfl rfl (by omega) (HC4.out.later b5) (ints_blk (xs := [0, 5, 10, 40, 30]) H5.hd)).mono ?_
  rintro e W5 ⟨rfl, hb5⟩
  have hd : decide ([(0 : Int), 5, 10, 40, 30] = [0, 5, 10, 40, 30]) = true := by decide
  rw [hd]
  have L5 := Lib.hid (L4.out.later (below_trans b5 hb5))
  clear k0 k1 kl hb5 b5 H5 s5 L4 HC4 hd
  have k0 := L5.out.c0
  have k1 := L5.out.c1
  have kl := L5.out.lt
  go_wp2_with fail
  refine (peak_ok 10 _ 2 2 sampP 0 _ 2 2 _ sampI 4 _ rfl (by omega) L5.out.pr rfl (by omega) L5.out.ir).mono ?_
  rintro e W6 ⟨rfl, hb6⟩
  rw [K1.out.2.2.1, K2.out.1, K2.out.2.1]
  have L6 := Lib.hid (L5.out.later hb6)
  clear k0 k1 kl hb6 L5
  have k0 := L6.out.c0
  have k1 := L6.out.c1
  have kl := L6.out.lt
  go_wp2_with fail
  refine (first_ok 10 _ 2 2 sampP 0 _ 2 2 _ sampI 4 9 _ rfl (by omega) L6.out.pr rfl (by omega) L6.out.ir).mono ?_
  rintro e W7 ⟨rfl, hb7⟩
  rw [K1.out.2.2.1, K2.out.2.2]
  have L7 := Lib.hid (L6.out.later hb7)
  clear k0 k1 kl hb7 L6
  have k0 := L7.out.c0
  have k1 := L7.out.c1
  have kl := L7.out.lt
  go_wp2_with fail
  refine (least_ok 10 _ 2 2 sampP 0 _ 2 2 _ sampI 4 20 _ rfl (by omega) L7.out.pr rfl (by omega) L7.out.ir).mono ?_
  rintro e W8 ⟨rfl, hb8⟩
  rw [K3.out.1, K3.out.2]
  have B8 := Lib.hid (L7.out.later hb8).bel
  clear k0 k1 kl hb8 L7
  go_wp2_with fail
  go_ret
  exact ⟨rfl, B8.out⟩
end Go.Proofs.Ytnpcafhmkjdhaaa
