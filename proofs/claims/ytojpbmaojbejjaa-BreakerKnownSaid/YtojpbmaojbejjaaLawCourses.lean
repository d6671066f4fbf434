/- Chapter 07, law BreakerCourses: its walk. -/
import Derived.Test.YtojpbmaojbejjaaClone
import Derived.Test.YtojpbmaojbejjaaRefTrips
import Derived.Deep.RegionHeld3
namespace Go.Proofs.Ytojpbmaojbejjaa
open Go Go.RowKit

theorem valid_b (b : Brk) (w : World) : Calls Try.prog 22 #[b.val] w fun e W' => e = .returned (.bool (okB b)) ∧ Below w.heap.size w W' :=
  (valid_ok b w).mono fun e W' ⟨h1, h2⟩ => ⟨h1, by rw [← h2]; exact below_alloc (below_self w) _⟩
theorem valid_rb (b : Brk) (w : World) : Calls Try.prog 27 #[b.val] w fun e W' => e = .returned (.bool (okB b)) ∧ Below w.heap.size w W' :=
  (valid_ref b w).mono fun e W' ⟨h1, h2⟩ => ⟨h1, by rw [← h2]; exact below_alloc (below_self w) _⟩

theorem own_again {xs : List Int} {n : Nat} (hn : xs.length = n) : (xs.take (ownN n)).take (ownN (xs.take (ownN n)).length) = xs.take (ownN n) := by
  apply List.take_of_length_le
  rw [List.length_take, hn]
  unfold ownN
  split <;> split <;> omega

set_option maxRecDepth 100000 in
set_option maxHeartbeats 2000000 in
theorem courses_walk (b : Brk) (s : BSt) (x : Int) (a : Option Addr) (n cap : Nat) (xs : List Int) (w : World)
    (hx : xs.length = n ∧ n ≤ cap ∧ cap ≤ maxLen ∧ (a = none → n = 0 ∧ cap = 0) ∧ RowsAt w.heap.size w a 1 (Ints xs)) :
    Calls Try.prog 6 #[b.val, s.val, .int .i64 x, .slice a n cap] w fun e W' => e = .returned (.bool true) ∧ Below w.heap.size w W' := by
  have hl : n ≤ 9223372036854775807 := by have := hx.2.1; have := hx.2.2.1; unfold maxLen at this; omega
  have HX := Lib.hid hx
  clear hx
  go_enter Try.func6, Try.ntmps6
  go_wp2_with fail
  obtain ⟨A, hA⟩ : ∃ W' : World, ((w.alloc (.cells b.cells.toArray 23)).alloc (.cells s.cells.toArray 37)) = W' := ⟨_, rfl⟩
  have H0 : Has A [(w.heap.size + 1, .cells s.cells.toArray 37 (0, 0)), (w.heap.size, .cells b.cells.toArray 23 (0, 0))] := by rw [← hA]; simpa using (((Has.nil w).new _).new _)
  have s0 : A.heap.size = w.heap.size + 1 + 1 := by rw [← hA]; simp
  have b0 : Below w.heap.size w A := by rw [← hA]; exact (below_alloc (below_alloc (below_self w) _) _)
  rw [hA]
  clear hA
  refine (own_ok a n cap xs A HX.out.1 hl HX.out.2.1 HX.out.2.2.2.1 (HX.out.2.2.2.2.later b0)).mono ?_
  rintro e W1 ⟨v1, rfl, ho1, hb1⟩
  obtain ⟨L, hL⟩ : ∃ L, xs.take (ownN n) = L := ⟨_, rfl⟩
  rw [hL] at ho1
  have hLq : L.length ≤ 1001 := by rw [← hL, List.length_take]; unfold ownN; split <;> omega
  obtain ⟨a1, c1, rfl, hc1, hz1, r1⟩ := ho1.full
  have hag : L.take (ownN L.length) = L := by rw [← hL]; exact own_again HX.out.1
  have h1 := H0.below hb1
  have w1 := below_trans b0 hb1
  have R1 := Lib.hid (And.intro h1 (And.intro w1 r1))
  obtain ⟨q, hq⟩ : ∃ q, L.length = q := ⟨_, rfl⟩
  rw [hq] at hLq hc1 hz1 hag ⊢
  have Hq := Lib.hid hq
  have HZ := Lib.hid (And.intro hc1 (And.intro hz1 hag))
  clear hc1 hz1 hag ho1 hb1 H0 s0 b0 h1 w1 r1 hL hq
  go_wp2_with fail
  refine (own_ok a1 q c1 L W1 Hq.out (by omega) HZ.out.1 HZ.out.2.1 R1.out.2.2).mono ?_
  rintro e W2 ⟨v2, rfl, ho2, hb2⟩
  rw [HZ.out.2.2] at ho2
  obtain ⟨a2, c2, rfl, r2⟩ := ho2.rows
  rw [Hq.out]
  have h2 := R1.out.1.below hb2
  have s0 := blk_cell h2.hd 0
  have s1 := blk_cell h2.hd 1
  simp at s0 s1
  have k0 := blk_cell h2.tl.hd 0
  have k1 := blk_cell h2.tl.hd 1
  have k2 := blk_cell h2.tl.hd 2
  have k3 := blk_cell h2.tl.hd 3
  simp at k0 k1 k2 k3
  have l1 : w.heap.size + 1 < W2.heap.size := blk_lt h2.hd
  have l0 : w.heap.size < W2.heap.size := blk_lt h2.tl.hd
  have R2 := Lib.hid (And.intro h2 (And.intro (below_trans R1.out.2.1 hb2) (And.intro (R1.out.2.2.later hb2) r2)))
  clear ho2 hb2 R1 h2 r2
  go_wp2_with fail
  refine (next_ok b s x _).mono ?_
  rintro e W3 ⟨rfl, hb3⟩
  have h3 := R2.out.1.below hb3
  have R3 := Lib.hid (And.intro h3 (And.intro (below_trans R2.out.2.1 hb3) (And.intro (R2.out.2.2.1.later hb3) (R2.out.2.2.2.later hb3))))
  clear s0 s1 k0 k1 k2 k3 l1 l0
  have s0 := blk_cell h3.hd 0
  have s1 := blk_cell h3.hd 1
  simp at s0 s1
  have k0 := blk_cell h3.tl.hd 0
  have k1 := blk_cell h3.tl.hd 1
  have k2 := blk_cell h3.tl.hd 2
  have k3 := blk_cell h3.tl.hd 3
  simp at k0 k1 k2 k3
  have l1 : w.heap.size + 1 < W3.heap.size := blk_lt h3.hd
  have l0 : w.heap.size < W3.heap.size := blk_lt h3.tl.hd
  clear hb3 R2 h3
  generalize hN : nextS b s x = N
  generalize hE : courseE b s [x] = E
  have HNE := Lib.hid (And.intro hN hE)
  clear hN hE
  go_wp2_with fail
  obtain ⟨A3, hA3⟩ : ∃ W' : World, (W3.alloc (.cells N.cells.toArray 37)) = W' := ⟨_, rfl⟩
  have H4 : Has A3 [(W3.heap.size, .cells N.cells.toArray 37 (0, 0))] := by rw [← hA3]; simpa using ((Has.nil W3).new _)
  have s4 : A3.heap.size = W3.heap.size + 1 := by rw [← hA3]; simp
  have b4 : Below W3.heap.size W3 A3 := by rw [← hA3]; exact (below_alloc (below_self W3) _)
  rw [hA3]
  clear hA3
  refine (next_ref b s x _).mono ?_
  rintro e W4 ⟨rfl, hb4⟩
  rw [HNE.out.1, HNE.out.2]
  have bb := below_trans b4 hb4
  have h4 : Has W4 [(W3.heap.size, .cells N.cells.toArray 37 (0, 0)), (w.heap.size + 1, .cells s.cells.toArray 37 (0, 0)), (w.heap.size, .cells b.cells.toArray 23 (0, 0))] := Has.cons (H4.below hb4).hd (R3.out.1.below bb)
  have R4 := Lib.hid (And.intro h4 (And.intro (below_trans R3.out.2.1 bb) (And.intro (R3.out.2.2.1.later bb) (R3.out.2.2.2.later bb))))
  clear s0 s1 k0 k1 k2 k3 l1 l0
  have s0 := blk_cell h4.tl.hd 0
  have s1 := blk_cell h4.tl.hd 1
  simp at s0 s1
  have k0 := blk_cell h4.tl.tl.hd 0
  have k1 := blk_cell h4.tl.tl.hd 1
  have k2 := blk_cell h4.tl.tl.hd 2
  have k3 := blk_cell h4.tl.tl.hd 3
  simp at k0 k1 k2 k3
  have l1 : w.heap.size + 1 < W4.heap.size := blk_lt h4.tl.hd
  have l0 : w.heap.size < W4.heap.size := blk_lt h4.tl.tl.hd
  clear hb4 R3 h4 H4 s4 b4 bb
  go_wp2_with fail
  obtain ⟨A4, hA4⟩ : ∃ W' : World, (W4.alloc (.cells N.cells.toArray 37)) = W' := ⟨_, rfl⟩
  have H5 : Has A4 [(W4.heap.size, .cells N.cells.toArray 37 (0, 0))] := by rw [← hA4]; simpa using ((Has.nil W4).new _)
  have s5 : A4.heap.size = W4.heap.size + 1 := by rw [← hA4]; simp
  have b5 : Below W4.heap.size W4 A4 := by rw [← hA4]; exact (below_alloc (below_self W4) _)
  rw [hA4]
  clear hA4
  refine (course_ok b s a1 q c1 L _ Hq.out (by omega) (R4.out.2.2.1.later b5)).mono ?_
  rintro e W5 ⟨v5, rfl, ho5, hb5⟩
  generalize hE : courseE b s L = E2
  generalize hN : courseL b s L = M at ho5
  have HME := Lib.hid (And.intro hN hE)
  have hM : M.length ≤ 1002 := by rw [← hN]; unfold courseL; split <;> (try rw [runB_len, Hq.out]) <;> simp <;> omega
  clear hN hE
  obtain ⟨a5, c5, rfl, r5⟩ := ho5.rows
  have bb := below_trans b5 hb5
  have h5 : Has W5 [(W4.heap.size, .cells N.cells.toArray 37 (0, 0)), (W3.heap.size, .cells N.cells.toArray 37 (0, 0)), (w.heap.size + 1, .cells s.cells.toArray 37 (0, 0)), (w.heap.size, .cells b.cells.toArray 23 (0, 0))] := Has.cons (H5.below hb5).hd (R4.out.1.below bb)
  have R5 := Lib.hid (And.intro h5 (And.intro (below_trans R4.out.2.1 bb) (And.intro (R4.out.2.2.1.later bb) (And.intro (R4.out.2.2.2.later bb) r5))))
  clear s0 s1 k0 k1 k2 k3 l1 l0
  have s0 := blk_cell h5.tl.tl.hd 0
  have s1 := blk_cell h5.tl.tl.hd 1
  simp at s0 s1
  have k0 := blk_cell h5.tl.tl.tl.hd 0
  have k1 := blk_cell h5.tl.tl.tl.hd 1
  have k2 := blk_cell h5.tl.tl.tl.hd 2
  have k3 := blk_cell h5.tl.tl.tl.hd 3
  simp at k0 k1 k2 k3
  have l1 : w.heap.size + 1 < W5.heap.size := blk_lt h5.tl.tl.hd
  have l0 : w.heap.size < W5.heap.size := blk_lt h5.tl.tl.tl.hd
  clear hb5 R4 h5 H5 s5 b5 bb ho5 r5
  obtain ⟨m, hm⟩ : ∃ m, M.length = m := ⟨_, rfl⟩
  rw [hm] at hM ⊢
  have Hm := Lib.hid hm
  clear hm
  go_wp2_with fail
  refine (course_ref b s a2 q c2 L _ Hq.out (by omega) R5.out.2.2.2.1).mono ?_
  rintro e W6 ⟨v6, rfl, ho6, hb6⟩
  rw [HME.out.1] at ho6
  rw [HME.out.2]
  obtain ⟨a6, c6, rfl, r6⟩ := ho6.rows
  rw [Hm.out]
  have h6 := R5.out.1.below hb6
  have R6 := Lib.hid (And.intro h6 (And.intro (below_trans R5.out.2.1 hb6) (And.intro (R5.out.2.2.1.later hb6) (And.intro (R5.out.2.2.2.1.later hb6) (And.intro (R5.out.2.2.2.2.later hb6) r6)))))
  clear s0 s1 k0 k1 k2 k3 l1 l0
  have y0 := blk_cell h6.hd 0
  have y1 := blk_cell h6.hd 1
  simp at y0 y1
  have x0 := blk_cell h6.tl.hd 0
  have x1 := blk_cell h6.tl.hd 1
  simp at x0 x1
  have s0 := blk_cell h6.tl.tl.hd 0
  have s1 := blk_cell h6.tl.tl.hd 1
  simp at s0 s1
  have k0 := blk_cell h6.tl.tl.tl.hd 0
  have k1 := blk_cell h6.tl.tl.tl.hd 1
  have k2 := blk_cell h6.tl.tl.tl.hd 2
  have k3 := blk_cell h6.tl.tl.tl.hd 3
  simp at k0 k1 k2 k3
  have ly := blk_lt h6.hd
  have lx := blk_lt h6.tl.hd
  have lk := blk_lt h6.tl.tl.tl.hd
  clear hb6 R5 h6 ho6 r6
  go_wp2_with fail
  have bX := (below_self W6).drew
  have heq : ∀ w, (Op.equalIn 10000 37 N.val N.val).run Try.prog w = .ok true w := fun w => by rw [eq37, decide_eq_true rfl]
  have hg := guard37
  have hdec : decide (M = M) = true := decide_eq_true rfl
  have HC := Lib.hid (fun W (hb : Below W6.heap.size W6 W) => (And.intro (cell_call hb ly y0) (And.intro (cell_call hb ly y1) (And.intro (cell_call hb lx x0) (And.intro (cell_call hb lx x1) (And.intro (cell_call hb lk k0) (And.intro (cell_call hb lk k1) (And.intro (cell_call hb lk k2) (cell_call hb lk k3)))))))))
  clear y0 y1 x0 x1 k0 k1 k2 k3 s0 s1
  go_region_held3 (fun w' => Below W6.heap.size W6 w' ∧ w'.cell? ⟨W4.heap.size, 0, none⟩ = some (.int .i64 N.heat) ∧ w'.cell? ⟨W4.heap.size, 1, none⟩ = some (.bool N.trip) ∧ w'.cell? ⟨W3.heap.size, 0, none⟩ = some (.int .i64 N.heat) ∧ w'.cell? ⟨W3.heap.size, 1, none⟩ = some (.bool N.trip) ∧
      w'.cell? ⟨w.heap.size, 0, none⟩ = some (.int .i64 b.feed) ∧ w'.cell? ⟨w.heap.size, 1, none⟩ = some (.int .i64 b.limit) ∧ w'.cell? ⟨w.heap.size, 2, none⟩ = some (.int .i64 b.slow) ∧ w'.cell? ⟨w.heap.size, 3, none⟩ = some (.int .i64 b.fast))
    ((first | exact ⟨bX, HC.out _ bX⟩ | exact ⟨bY3, HC.out _ bY3⟩ | exact ⟨bY2, HC.out _ bY2⟩ | exact ⟨bY1, HC.out _ bY1⟩))
    (first
      | (go_at_call 26; refine (equalS_ok a5 a6 m c5 m c6 M M _ Hm.out Hm.out (by omega) (R6.out.2.2.2.2.1.later bX) (R6.out.2.2.2.2.2.later bX)).mono ?_; rintro e WA ⟨rfl, hbA⟩; rw [hdec]; have bY1 := below_trans bX hbA)
      | (go_at_call 22; refine (valid_b b _).mono ?_; rintro e WB ⟨rfl, hbB⟩; have bY2 := below_trans (by first | exact bY1 | exact bY3) hbB)
      | (go_at_call 27; refine (valid_rb b _).mono ?_; rintro e WC ⟨rfl, hbC⟩; have bY3 := below_trans (by first | exact bY2 | exact bY1) hbC))
  have h7 := R6.out.1.below bY3
  have R7 := Lib.hid (And.intro h7 (And.intro (below_trans R6.out.2.1 bY3) (And.intro (R6.out.2.2.1.later bY3) (R6.out.2.2.2.1.later bY3))))
  clear HC ly lx lk hbA hbB hbC bY1 bY2 bY3 bX heq hg hdec R6
  have s0 := blk_cell h7.tl.tl.hd 0
  have s1 := blk_cell h7.tl.tl.hd 1
  simp at s0 s1
  have k0 := blk_cell h7.tl.tl.tl.hd 0
  have k1 := blk_cell h7.tl.tl.tl.hd 1
  have k2 := blk_cell h7.tl.tl.tl.hd 2
  have k3 := blk_cell h7.tl.tl.tl.hd 3
  simp at k0 k1 k2 k3
  have l1 := blk_lt h7.tl.tl.hd
  have l0 := blk_lt h7.tl.tl.tl.hd
  clear h7
  go_wp2_with fail
  refine (trips_ok b s.heat a1 q c1 L _ Hq.out (by omega) R7.out.2.2.1).mono ?_
  rintro e W8 ⟨rfl, hb8⟩
  generalize hN : tripsN b s.heat L = N8
  generalize hE : tripsE b s.heat L = E8
  have HT := Lib.hid (And.intro hN hE)
  have h8 := R7.out.1.below hb8
  have R8 := Lib.hid (And.intro (below_trans R7.out.2.1 hb8) (And.intro (R7.out.2.2.1.later hb8) (R7.out.2.2.2.later hb8)))
  clear hN hE s0 s1 k0 k1 k2 k3 l0 l1
  have s0 := blk_cell h8.tl.tl.hd 0
  have s1 := blk_cell h8.tl.tl.hd 1
  simp at s0 s1
  have k0 := blk_cell h8.tl.tl.tl.hd 0
  have k1 := blk_cell h8.tl.tl.tl.hd 1
  have k2 := blk_cell h8.tl.tl.tl.hd 2
  have k3 := blk_cell h8.tl.tl.tl.hd 3
  simp at k0 k1 k2 k3
  have l1 := blk_lt h8.tl.tl.hd
  have l0 := blk_lt h8.tl.tl.tl.hd
  clear hb8 R7 h8
  go_wp2_with fail
  refine (trips_ref b s.heat a2 q c2 L _ Hq.out (by omega) R8.out.2.2).mono ?_
  rintro e W9 ⟨rfl, hb9⟩
  rw [HT.out.1, HT.out.2]
  have R9 := Lib.hid (And.intro (below_trans R8.out.1 hb9) (And.intro (R8.out.2.1.later hb9) (R8.out.2.2.later hb9)))
  clear hb9 R8 s0 s1 k0 k1 k2 k3 l0 l1
  go_wp2_with fail
  refine (equalI_ok a1 a2 q c1 q c2 L L _ Hq.out Hq.out (by omega) R9.out.2.1 R9.out.2.2).mono ?_
  rintro e W10 ⟨rfl, hb10⟩
  have hdec : decide (L = L) = true := decide_eq_true rfl
  rw [hdec]
  have R10 := Lib.hid (below_trans R9.out.1 hb10)
  clear hb10 R9 hdec
  go_wp2_with fail
  refine (works_ok _).mono ?_
  rintro e W11 ⟨rfl, hb11⟩
  have R11 := Lib.hid (below_trans R10.out hb11)
  clear hb11 R10
  go_wp2_with fail
  go_ret
  exact ⟨rfl, R11.out⟩
end Go.Proofs.Ytojpbmaojbejjaa
