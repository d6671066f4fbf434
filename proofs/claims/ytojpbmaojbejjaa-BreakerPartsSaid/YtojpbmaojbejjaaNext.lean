/- Chapter 07: the program's Next and Trips. -/
import Derived.Test.YtojpbmaojbejjaaCourse
namespace Go.Proofs.Ytojpbmaojbejjaa
open Go Go.RowKit

theorem courseE_cases (b : Brk) (s : BSt) (ws : List Int) : courseE b s ws = 0 ∨ courseE b s ws = 1 ∨ courseE b s ws = 2 := by
  unfold courseE
  split
  · split
    · exact .inl rfl
    · exact .inr (.inr rfl)
  · exact .inr (.inl rfl)

set_option maxHeartbeats 1000000 in
theorem next_ok (b : Brk) (s : BSt) (x : Int) (w : World) : Calls Try.prog 19 #[b.val, s.val, .int .i64 x] w fun e W' => e = .returned (.tuple #[(nextS b s x).val, .int .i64 (courseE b s [x])]) ∧ Below w.heap.size w W' := by
  by_cases h0 : courseE b s [x] = 0
  · have e1 : nextS b s x = aft b s x := by unfold nextS; rw [if_pos h0]
    have e2 : courseL b s [x] = [s, aft b s x] := by unfold courseL; rw [if_pos h0]; rfl
    rw [e1, h0]
    have H0 := Lib.hid h0
    have H2 := Lib.hid e2
    clear e1 e2 h0
    generalize aft b s x = t at H2 ⊢
    go_enter Try.func19, Try.ntmps19
    go_wp2_with fail
    obtain ⟨W1, hW1⟩ : ∃ W' : World, ((((w.alloc (.cells b.cells.toArray 23)).alloc (.cells s.cells.toArray 37)).alloc (.cells #[.int .i64 0, .bool false] 37)).alloc (.cells #[.int .i64 x] 3)) = W' := ⟨_, rfl⟩
    have H1 : Has W1 [(w.heap.size + 1 + 1 + 1, .cells #[.int .i64 x] 3 (0, 0)), (w.heap.size + 1 + 1, .cells #[.int .i64 0, .bool false] 37 (0, 0)), (w.heap.size + 1, .cells s.cells.toArray 37 (0, 0)), (w.heap.size, .cells b.cells.toArray 23 (0, 0))] := by rw [← hW1]; simpa using (((((Has.nil w).new _).new _).new _).new _)
    have s1 : W1.heap.size = w.heap.size + 1 + 1 + 1 + 1 := by rw [← hW1]; simp
    have b1 : Below w.heap.size w W1 := by rw [← hW1]; exact (below_alloc (below_alloc (below_alloc (below_alloc (below_self w) _) _) _) _)
    rw [hW1]
    clear hW1
    have hx : RowsAt W1.heap.size W1 (some ⟨w.heap.size + 1 + 1 + 1, 0, none⟩) 1 (Ints [x]) := by
      intro i r hr
      obtain ⟨rfl, rfl⟩ : i = 0 ∧ r = [.int .i64 x] := by
        cases i with
        | zero => simpa using hr.symm
        | succ i => simp at hr
      refine ⟨_, _, rfl, by omega, fun j v hv => ?_⟩
      cases j with
      | zero => rw [blk_cell H1.hd]; simpa using hv
      | succ j => simp at hv
    refine (course_ok b s _ 1 1 [x] W1 rfl (by omega) hx).mono ?_
    rintro e W2 ⟨v, rfl, hoL, hb2⟩
    rw [H0.out]
    rw [H2.out] at hoL
    have h2 := H1.below hb2
    have w2 := below_trans b1 hb2
    obtain ⟨a2, cap2, rfl, hr⟩ := hoL.rows
    obtain ⟨b0, o0, rfl, hlt0, q0, q1⟩ := sts_at hr 1 (by simp)
    have r0 := blk_cell h2.tl.hd 0
    have r1 := blk_cell h2.tl.hd 1
    have f0 := blk_frozen h2.tl.hd 0
    have f1 := blk_frozen h2.tl.hd 1
    simp at q0 q1 r0 r1
    have lt2 : w.heap.size + 1 + 1 < W2.heap.size := blk_lt h2.tl.hd
    have HB := Lib.hid w2
    clear h2 w2 H1 s1 b1 hx hoL hb2 hr
    go_wp2_with fail
    refine bodyPost_ret (v := .tuple #[t.val, .int .i64 0]) (by simp [results, Try.results19, go_sem, r0, r1]) rfl ⟨rfl, ?_⟩
    exact (HB.out.setCell (by simp; omega) _).setCell (by simp; omega) _
  · have e1 : nextS b s x = ⟨0, false⟩ := by unfold nextS; rw [if_neg h0]
    have e2 : courseL b s [x] = [] := by unfold courseL; rw [if_neg h0]
    rw [e1]
    rcases courseE_cases b s [x] with h1 | h1 | h1
    · exact absurd h1 h0
    all_goals
      rw [h1]
      have H0 := Lib.hid h1
      have H2 := Lib.hid e2
      clear e1 e2 h0 h1
      go_enter Try.func19, Try.ntmps19
      go_wp2_with fail
      obtain ⟨W1, hW1⟩ : ∃ W' : World, ((((w.alloc (.cells b.cells.toArray 23)).alloc (.cells s.cells.toArray 37)).alloc (.cells #[.int .i64 0, .bool false] 37)).alloc (.cells #[.int .i64 x] 3)) = W' := ⟨_, rfl⟩
      have H1 : Has W1 [(w.heap.size + 1 + 1 + 1, .cells #[.int .i64 x] 3 (0, 0)), (w.heap.size + 1 + 1, .cells #[.int .i64 0, .bool false] 37 (0, 0)), (w.heap.size + 1, .cells s.cells.toArray 37 (0, 0)), (w.heap.size, .cells b.cells.toArray 23 (0, 0))] := by rw [← hW1]; simpa using (((((Has.nil w).new _).new _).new _).new _)
      have s1 : W1.heap.size = w.heap.size + 1 + 1 + 1 + 1 := by rw [← hW1]; simp
      have b1 : Below w.heap.size w W1 := by rw [← hW1]; exact (below_alloc (below_alloc (below_alloc (below_alloc (below_self w) _) _) _) _)
      rw [hW1]
      clear hW1
      have hx : RowsAt W1.heap.size W1 (some ⟨w.heap.size + 1 + 1 + 1, 0, none⟩) 1 (Ints [x]) := by
        intro i r hr
        obtain ⟨rfl, rfl⟩ : i = 0 ∧ r = [.int .i64 x] := by
          cases i with
          | zero => simpa using hr.symm
          | succ i => simp at hr
        refine ⟨_, _, rfl, by omega, fun j v hv => ?_⟩
        cases j with
        | zero => rw [blk_cell H1.hd]; simpa using hv
        | succ j => simp at hv
      refine (course_ok b s _ 1 1 [x] W1 rfl (by omega) hx).mono ?_
      rintro e W2 ⟨v, rfl, hoL, hb2⟩
      rw [H0.out]
      have h2 := H1.below hb2
      have w2 := below_trans b1 hb2
      obtain ⟨a2, cap2, rfl, hr⟩ := hoL.rows
      have r0 := blk_cell h2.tl.hd 0
      have r1 := blk_cell h2.tl.hd 1
      have f0 := blk_frozen h2.tl.hd 0
      have f1 := blk_frozen h2.tl.hd 1
      simp at r0 r1
      have lt2 : w.heap.size + 1 + 1 < W2.heap.size := blk_lt h2.tl.hd
      have HB := Lib.hid w2
      clear h2 w2 H1 s1 b1 hx hoL hb2 hr
      go_wp2_with fail
      refine bodyPost_ret (v := .tuple #[.agg #[.int .i64 0, .bool false], .int .i64 _]) (by simp [results, Try.results19, go_sem, r0, r1]) rfl ⟨rfl, ?_⟩
      exact (HB.out.setCell (by simp; omega) _).setCell (by simp; omega) _

theorem tripped_ok (s : BSt) (w : World) : Calls Try.prog 47 #[s.val] w fun e W' => e = .returned (.bool s.trip) ∧ Below w.heap.size w W' := by
  go_enter Try.func47, Try.ntmps47
  go_wp2_with fail
  go_ret
  exact ⟨rfl, below_alloc (below_self w) _⟩

theorem tripsN_zero {b : Brk} {h : Int} {ws : List Int} (e : ¬ tripsE b h ws = 0) : tripsN b h ws = 0 := by unfold tripsN; rw [if_neg e]

set_option maxHeartbeats 1000000 in
theorem trips_ok (b : Brk) (h : Int) (a : Option Addr) (n cap : Nat) (ws : List Int) (w : World) (hn : ws.length = n) (hl : n ≤ 9223372036854775807) (hm : RowsAt w.heap.size w a 1 (Ints ws)) :
    Calls Try.prog 21 #[b.val, .int .i64 h, .slice a n cap] w fun e W' => e = .returned (.tuple #[.int .i64 (tripsN b h ws), .int .i64 (tripsE b h ws)]) ∧ Below w.heap.size w W' := by
  have Hm := Lib.hid hm; clear hm
  have Hn := Lib.hid hn; clear hn
  by_cases h0 : steadyE b h 0 = 0
  · have eT : tripsE b h ws = courseE b ⟨h, false⟩ ws := by unfold tripsE; rw [if_pos h0]
    by_cases h1 : courseE b ⟨h, false⟩ ws = 0
    · have eN : tripsN b h ws = max (-1) (idxI (fun s => s.trip) (runB b ⟨h, false⟩ ws) - 1) := by unfold tripsN; rw [eT, if_pos h1]
      have eL : courseL b ⟨h, false⟩ ws = runB b ⟨h, false⟩ ws := by unfold courseL; rw [if_pos h1]
      have hlen : ws.length ≤ 1000 := by
        unfold courseE at h1
        split at h1
        · split at h1
          · rename_i h; exact h.1
          · omega
        · omega
      have hrl := runB_len b ws ⟨h, false⟩
      rw [eN, eT, h1]
      have H0 := Lib.hid h0
      have H1' := Lib.hid h1
      have HL := Lib.hid eL
      clear eT eN h0 h1 eL
      generalize runB b ⟨h, false⟩ ws = R at HL hrl ⊢
      obtain ⟨z0, z1⟩ := idxI_lt (fun s => s.trip) R
      generalize hz : idxI (fun s : BSt => s.trip) R = z at z0 z1 ⊢
      have HZ := Lib.hid hz
      have HRL := Lib.hid hrl
      have z2 : z ≤ 1001 := by omega
      clear hz hrl z0
      have hcase : z = -1 ∨ z = 0 ∨ 1 ≤ z := by omega
      rcases hcase with rfl | rfl | hz1
      case' inr.inr => rw [Int.max_eq_right (by omega)]
      all_goals
        go_enter Try.func21, Try.ntmps21
        go_wp2_with fail
        obtain ⟨W1, hW1⟩ : ∃ W' : World, (w.alloc (.cells b.cells.toArray 23)) = W' := ⟨_, rfl⟩
        have HW1 : Has W1 [(w.heap.size, .cells b.cells.toArray 23 (0, 0))] := by rw [← hW1]; simpa using ((Has.nil w).new _)
        have s1 : W1.heap.size = w.heap.size + 1 := by rw [← hW1]; simp
        have b1 : Below w.heap.size w W1 := by rw [← hW1]; exact (below_alloc (below_self w) _)
        rw [hW1]
        clear hW1
        refine (steady_ok _ _ _ _).mono ?_
        rintro e W2 ⟨rfl, hb2⟩
        rw [H0.out]
        have h2 := HW1.below hb2
        have w2 := Lib.hid (below_trans b1 hb2)
        have k0 := blk_cell h2.hd 0
        have k1 := blk_cell h2.hd 1
        have k2 := blk_cell h2.hd 2
        have k3 := blk_cell h2.hd 3
        simp at k0 k1 k2 k3
        clear h2 HW1 s1 b1 hb2
        go_wp2_with fail
        refine (course_ok b ⟨h, false⟩ a n cap ws _ Hn.out hl (Hm.out.later w2.out)).mono ?_
        rintro e W3 ⟨v, rfl, hoL, hb3⟩
        rw [H1'.out]
        rw [HL.out] at hoL
        obtain ⟨a3, cap3, rfl, hr⟩ := hoL.rows
        have w3 := Lib.hid (below_trans w2.out hb3)
        have HR := Lib.hid hr
        clear k0 k1 k2 k3 hoL hr hb3 w2
        go_wp2_with fail
        refine (indexS_ok 47 #[] (fun s => s.trip) a3 _ cap3 R _ rfl (by have := HRL.out; omega) HR.out
          (fun W x _ => tripped_ok x W) (enters_of Try.func47 (by kernel_rfl) rfl)).mono ?_
        rintro e W4 ⟨rfl, hb4⟩
        rw [HZ.out]
        have w4 := Lib.hid (below_trans w3.out hb4)
        clear hb4 HR w3
        go_wp2_with fail
        go_ret2
        exact ⟨rfl, w4.out⟩
    · have eN := tripsN_zero (b := b) (h := h) (ws := ws) (by rw [eT]; exact h1)
      rw [eN, eT]
      rcases courseE_cases b ⟨h, false⟩ ws with h2 | h2 | h2
      · exact absurd h2 h1
      all_goals
        rw [h2]
        have H0 := Lib.hid h0
        have H1' := Lib.hid h2
        clear eT eN h0 h1 h2
        go_enter Try.func21, Try.ntmps21
        go_wp2_with fail
        obtain ⟨W1, hW1⟩ : ∃ W' : World, (w.alloc (.cells b.cells.toArray 23)) = W' := ⟨_, rfl⟩
        have HW1 : Has W1 [(w.heap.size, .cells b.cells.toArray 23 (0, 0))] := by rw [← hW1]; simpa using ((Has.nil w).new _)
        have s1 : W1.heap.size = w.heap.size + 1 := by rw [← hW1]; simp
        have b1 : Below w.heap.size w W1 := by rw [← hW1]; exact (below_alloc (below_self w) _)
        rw [hW1]
        clear hW1
        refine (steady_ok _ _ _ _).mono ?_
        rintro e W2 ⟨rfl, hb2⟩
        rw [H0.out]
        have h2 := HW1.below hb2
        have w2 := Lib.hid (below_trans b1 hb2)
        have k0 := blk_cell h2.hd 0
        have k1 := blk_cell h2.hd 1
        have k2 := blk_cell h2.hd 2
        have k3 := blk_cell h2.hd 3
        simp at k0 k1 k2 k3
        clear h2 HW1 s1 b1 hb2
        go_wp2_with fail
        refine (course_ok b ⟨h, false⟩ a n cap ws _ Hn.out hl (Hm.out.later w2.out)).mono ?_
        rintro e W3 ⟨v, rfl, hoL, hb3⟩
        rw [H1'.out]
        have w3 := Lib.hid (below_trans w2.out hb3)
        clear k0 k1 k2 k3 hoL hb3 w2
        go_wp2_with fail
        go_ret2
        exact ⟨rfl, w3.out⟩
  · have eT : tripsE b h ws = steadyE b h 0 := by unfold tripsE; rw [if_neg h0]
    have eN := tripsN_zero (b := b) (h := h) (ws := ws) (by rw [eT]; exact h0)
    rw [eN, eT]
    rcases steadyE_ne h0 with h1 | h1
    all_goals
      rw [h1]
      have H1 := Lib.hid h1; clear h1 h0 eT eN
      go_enter Try.func21, Try.ntmps21
      go_wp2_with fail
      refine (steady_ok _ _ _ _).mono ?_
      rintro e W2 ⟨rfl, hb2⟩
      rw [H1.out]
      have w2 := Lib.hid (below_trans (below_alloc (below_self w) _) hb2)
      clear hb2
      go_wp2_with fail
      go_ret2
      exact ⟨rfl, w2.out⟩
end Go.Proofs.Ytojpbmaojbejjaa
