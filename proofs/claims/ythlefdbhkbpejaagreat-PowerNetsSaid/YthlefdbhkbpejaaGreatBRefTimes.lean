/- Chapter 07: the reference's Lasts, Cools, Bears. -/
import Derived.Test.YthlefdbhkbpejaaGreatBTimes
namespace Go.Proofs.YthlefdbhkbpejaaGreat.B7
open Go Go.RowKit

theorem okB_no {b : Brk} (h : ¬ ((0 ≤ b.limit ∧ b.limit ≤ 1000000) ∧ (0 ≤ b.slow ∧ b.slow ≤ 1000000) ∧ b.limit ≤ b.fast ∧ b.fast ≤ 1000000)) : okB b = false := by
  rw [← Bool.not_eq_true, okB_iff]; exact h

set_option maxHeartbeats 1000000 in
theorem valid_ref (b : Brk) (w : World) : Calls Tryz.prog 100 #[b.val] w fun e W' => e = .returned (.bool (okB b)) ∧ w.alloc (.cells b.cells.toArray 61) = W' := by
  by_cases c0 : 0 ≤ b.limit
  · skip
    by_cases c1 : b.limit ≤ 1000000
    · skip
      by_cases c2 : 0 ≤ b.slow
      · skip
        by_cases c3 : b.slow ≤ 1000000
        · skip
          by_cases c4 : b.limit ≤ b.fast
          · skip
            by_cases c5 : b.fast ≤ 1000000
            · skip
              rw [okB_iff.2 ⟨⟨c0, c1⟩, ⟨c2, c3⟩, c4, c5⟩]
              go_enter Tryz.func100, Tryz.ntmps100
              go_wp2_with fail
              go_ret
              exact ⟨rfl, rfl⟩
            · skip
              rw [okB_no (by omega)]
              go_enter Tryz.func100, Tryz.ntmps100
              go_wp2_with fail
              go_ret
              exact ⟨rfl, rfl⟩
          · skip
            rw [okB_no (by omega)]
            go_enter Tryz.func100, Tryz.ntmps100
            go_wp2_with fail
            go_ret
            exact ⟨rfl, rfl⟩
        · skip
          rw [okB_no (by omega)]
          go_enter Tryz.func100, Tryz.ntmps100
          go_wp2_with fail
          go_ret
          exact ⟨rfl, rfl⟩
      · skip
        rw [okB_no (by omega)]
        go_enter Tryz.func100, Tryz.ntmps100
        go_wp2_with fail
        go_ret
        exact ⟨rfl, rfl⟩
    · skip
      rw [okB_no (by omega)]
      go_enter Tryz.func100, Tryz.ntmps100
      go_wp2_with fail
      go_ret
      exact ⟨rfl, rfl⟩
  · skip
    rw [okB_no (by omega)]
    go_enter Tryz.func100, Tryz.ntmps100
    go_wp2_with fail
    go_ret
    exact ⟨rfl, rfl⟩

theorem aft_eq {b : Brk} {heat x M N : Int} {B : Bool} (hM : max 0 (heat + x - b.limit) = M) (hN : min M 100000000 = N) (hB : decide (b.fast < x ∨ b.slow < M) = B) : aft b ⟨heat, false⟩ x = ⟨N, B⟩ := by
  unfold aft; rw [if_neg (by simp)]; simp only [hM, hN, hB]
theorem aft_trip (b : Brk) (heat x : Int) : aft b ⟨heat, true⟩ x = ⟨heat, true⟩ := by unfold aft; rw [if_pos rfl]

set_option maxHeartbeats 1000000 in
theorem after_ref (b : Brk) (s : BSt) (x : Int) (w : World) (h0 : 0 ≤ s.heat) (h1 : s.heat ≤ 100000000) (x0 : 0 ≤ x) (x1 : x ≤ 100000000) (l0 : 0 ≤ b.limit) (l1 : b.limit ≤ 1000000) :
    Calls Tryz.prog 58 #[b.val, s.val, .int .i64 x] w fun e W' => e = .returned (aft b s x).val ∧ Below w.heap.size w W' := by
  obtain ⟨heat, trip⟩ := s
  simp only at h0 h1
  cases trip
  · by_cases c1 : b.limit < heat + x
    · by_cases c2 : heat + x - b.limit ≤ 100000000
      · skip
        by_cases c3 : b.fast < x
        · rw [aft_eq (M := heat + x - b.limit) (N := heat + x - b.limit) (B := true) (by omega) (by omega) (decide_eq_true (.inl c3))]
          go_enter Tryz.func58, Tryz.ntmps58
          go_wp2_with fail
          exact bodyPost_ret (v := BSt.val ⟨heat + x - b.limit, true⟩) (by simp [results, Tryz.results58, go_sem] <;> omega) rfl ⟨rfl, below_alloc (below_alloc (below_alloc (below_self w) _) _) _⟩
        · by_cases c4 : b.slow < heat + x - b.limit
          · rw [aft_eq (M := heat + x - b.limit) (N := heat + x - b.limit) (B := true) (by omega) (by omega) (decide_eq_true (.inr c4))]
            go_enter Tryz.func58, Tryz.ntmps58
            go_wp2_with fail
            exact bodyPost_ret (v := BSt.val ⟨heat + x - b.limit, true⟩) (by simp [results, Tryz.results58, go_sem] <;> omega) rfl ⟨rfl, below_alloc (below_alloc (below_alloc (below_self w) _) _) _⟩
          · rw [aft_eq (M := heat + x - b.limit) (N := heat + x - b.limit) (B := false) (by omega) (by omega) (decide_eq_false (by omega))]
            go_enter Tryz.func58, Tryz.ntmps58
            go_wp2_with fail
            exact bodyPost_ret (v := BSt.val ⟨heat + x - b.limit, false⟩) (by simp [results, Tryz.results58, go_sem] <;> omega) rfl ⟨rfl, below_alloc (below_alloc (below_alloc (below_self w) _) _) _⟩
      · skip
        by_cases c3 : b.fast < x
        · rw [aft_eq (M := heat + x - b.limit) (N := 100000000) (B := true) (by omega) (by omega) (decide_eq_true (.inl c3))]
          go_enter Tryz.func58, Tryz.ntmps58
          go_wp2_with fail
          exact bodyPost_ret (v := BSt.val ⟨100000000, true⟩) (by simp [results, Tryz.results58, go_sem] <;> omega) rfl ⟨rfl, below_alloc (below_alloc (below_alloc (below_self w) _) _) _⟩
        · by_cases c4 : b.slow < heat + x - b.limit
          · rw [aft_eq (M := heat + x - b.limit) (N := 100000000) (B := true) (by omega) (by omega) (decide_eq_true (.inr c4))]
            go_enter Tryz.func58, Tryz.ntmps58
            go_wp2_with fail
            exact bodyPost_ret (v := BSt.val ⟨100000000, true⟩) (by simp [results, Tryz.results58, go_sem] <;> omega) rfl ⟨rfl, below_alloc (below_alloc (below_alloc (below_self w) _) _) _⟩
          · rw [aft_eq (M := heat + x - b.limit) (N := 100000000) (B := false) (by omega) (by omega) (decide_eq_false (by omega))]
            go_enter Tryz.func58, Tryz.ntmps58
            go_wp2_with fail
            exact bodyPost_ret (v := BSt.val ⟨100000000, false⟩) (by simp [results, Tryz.results58, go_sem] <;> omega) rfl ⟨rfl, below_alloc (below_alloc (below_alloc (below_self w) _) _) _⟩
    · skip
      by_cases c3 : b.fast < x
      · rw [aft_eq (M := 0) (N := 0) (B := true) (by omega) (by omega) (decide_eq_true (.inl c3))]
        go_enter Tryz.func58, Tryz.ntmps58
        go_wp2_with fail
        exact bodyPost_ret (v := BSt.val ⟨0, true⟩) (by simp [results, Tryz.results58, go_sem] <;> omega) rfl ⟨rfl, below_alloc (below_alloc (below_alloc (below_self w) _) _) _⟩
      · by_cases c4 : b.slow < 0
        · rw [aft_eq (M := 0) (N := 0) (B := true) (by omega) (by omega) (decide_eq_true (.inr c4))]
          go_enter Tryz.func58, Tryz.ntmps58
          go_wp2_with fail
          exact bodyPost_ret (v := BSt.val ⟨0, true⟩) (by simp [results, Tryz.results58, go_sem] <;> omega) rfl ⟨rfl, below_alloc (below_alloc (below_alloc (below_self w) _) _) _⟩
        · rw [aft_eq (M := 0) (N := 0) (B := false) (by omega) (by omega) (decide_eq_false (by omega))]
          go_enter Tryz.func58, Tryz.ntmps58
          go_wp2_with fail
          exact bodyPost_ret (v := BSt.val ⟨0, false⟩) (by simp [results, Tryz.results58, go_sem] <;> omega) rfl ⟨rfl, below_alloc (below_alloc (below_alloc (below_self w) _) _) _⟩
  · rw [aft_trip]
    go_enter Tryz.func58, Tryz.ntmps58
    go_wp2_with fail
    exact bodyPost_ret (v := BSt.val ⟨heat, true⟩) (by simp [results, Tryz.results58, go_sem] <;> omega) rfl ⟨rfl, below_alloc (below_alloc (below_alloc (below_self w) _) _) _⟩

theorem steady_ref (b : Brk) (h x : Int) (w : World) : Calls Tryz.prog 57 #[b.val, .int .i64 h, .int .i64 x] w fun e W' => e = .returned (.int .i64 (steadyE b h x)) ∧ Below w.heap.size w W' := by
  cases hv : okB b
  · have e : steadyE b h x = 1 := by unfold steadyE; rw [hv]; rfl
    rw [e]; clear e
    have HV := Lib.hid hv; clear hv
    go_enter Tryz.func57, Tryz.ntmps57
    go_wp2_with fail
    refine (valid_ref _ _).mono ?_
    rintro e W' ⟨rfl, rfl⟩
    rw [HV.out]
    go_wp2_with fail
    go_ret
    exact ⟨rfl, below_alloc (below_alloc (below_self w) _) _⟩
  · have HV := Lib.hid hv
    by_cases c0 : h < 0
    · skip
      have e : steadyE b h x = 2 := by unfold steadyE; rw [if_pos hv]; rw [if_neg (by simp only [okW, inR_iff]; omega)]
      rw [e]; clear e hv
      go_enter Tryz.func57, Tryz.ntmps57
      go_wp2_with fail
      refine (valid_ref _ _).mono ?_
      rintro e W' ⟨rfl, rfl⟩
      rw [HV.out]
      go_wp2_with fail
      go_ret
      exact ⟨rfl, below_alloc (below_alloc (below_self w) _) _⟩
    · by_cases c1 : b.slow < h
      · skip
        have e : steadyE b h x = 2 := by unfold steadyE; rw [if_pos hv]; rw [if_neg (by simp only [okW, inR_iff]; omega)]
        rw [e]; clear e hv
        go_enter Tryz.func57, Tryz.ntmps57
        go_wp2_with fail
        refine (valid_ref _ _).mono ?_
        rintro e W' ⟨rfl, rfl⟩
        rw [HV.out]
        go_wp2_with fail
        go_ret
        exact ⟨rfl, below_alloc (below_alloc (below_self w) _) _⟩
      · by_cases c2 : x < 0
        · skip
          have e : steadyE b h x = 2 := by unfold steadyE; rw [if_pos hv]; rw [if_neg (by simp only [okW, inR_iff]; omega)]
          rw [e]; clear e hv
          go_enter Tryz.func57, Tryz.ntmps57
          go_wp2_with fail
          refine (valid_ref _ _).mono ?_
          rintro e W' ⟨rfl, rfl⟩
          rw [HV.out]
          go_wp2_with fail
          go_ret
          exact ⟨rfl, below_alloc (below_alloc (below_self w) _) _⟩
        · by_cases c3 : 100000000 < x
          · skip
            have e : steadyE b h x = 2 := by unfold steadyE; rw [if_pos hv]; rw [if_neg (by simp only [okW, inR_iff]; omega)]
            rw [e]; clear e hv
            go_enter Tryz.func57, Tryz.ntmps57
            go_wp2_with fail
            refine (valid_ref _ _).mono ?_
            rintro e W' ⟨rfl, rfl⟩
            rw [HV.out]
            go_wp2_with fail
            go_ret
            exact ⟨rfl, below_alloc (below_alloc (below_self w) _) _⟩
          · skip
            have e : steadyE b h x = 0 := by unfold steadyE; rw [if_pos hv]; rw [if_pos (by simp only [okW, inR_iff]; omega)]
            rw [e]; clear e hv
            go_enter Tryz.func57, Tryz.ntmps57
            go_wp2_with fail
            refine (valid_ref _ _).mono ?_
            rintro e W' ⟨rfl, rfl⟩
            rw [HV.out]
            go_wp2_with fail
            go_ret
            exact ⟨rfl, below_alloc (below_alloc (below_self w) _) _⟩

end Go.Proofs.YthlefdbhkbpejaaGreat.B7

namespace Go.Proofs.YthlefdbhkbpejaaGreat.B7
open Go Go.RowKit

theorem lasts_law {b : Brk} {h x : Int} {k : Nat} (h0 : steadyE b h x = 0) (hx : b.limit < x) (hk : k = 0 ∨ x ≤ b.fast) (hle : h + k * (x - b.limit) ≤ b.slow) (ht : b.fast < x ∨ b.slow < h + k * (x - b.limit) + x - b.limit) : lastsN b h x = (k : Int) := by
  unfold lastsN
  rw [if_pos h0, if_neg (by omega)]
  by_cases hf : b.fast < x
  · rw [if_pos hf]; omega
  · rw [if_neg hf]
    have h1 : (k : Int) ≤ (b.slow - h) / (x - b.limit) := (Int.le_ediv_iff_mul_le (by omega)).2 (by omega)
    have h2 : (b.slow - h) / (x - b.limit) < k + 1 := (Int.ediv_lt_iff_lt_mul (by omega)).2 (by rw [Int.add_mul]; omega)
    omega
theorem mul_ge (k : Nat) (d : Int) (hd : 1 ≤ d) : (k : Int) ≤ k * d := by
  have := Int.mul_le_mul_of_nonneg_left hd (show (0 : Int) ≤ k by omega)
  omega
theorem cools_law {b : Brk} {h x : Int} {k : Nat} (h0 : steadyE b h x = 0) (_hx : h = 0 ∨ x < b.limit) (hk : (k = 0 ∧ h ≤ 0) ∨ (x < b.limit ∧ 1 ≤ k ∧ 0 < h - (k - 1) * (b.limit - x) ∧ h ≤ k * (b.limit - x))) : coolsN b h x = (k : Int) := by
  obtain ⟨_, ⟨hh, _⟩, _⟩ := steadyE_zero h0
  unfold coolsN
  rw [if_pos h0]
  rcases hk with ⟨rfl, hk⟩ | ⟨hx, hk1, hk2, hk3⟩
  · rw [if_pos (by omega)]; rfl
  · have hpos : 0 ≤ ((k : Int) - 1) * (b.limit - x) := Int.mul_nonneg (by omega) (by omega)
    rw [if_neg (by omega), if_neg (by omega)]
    rw [Int.sub_mul] at hk2
    have h1 : (k : Int) ≤ (h + (b.limit - x) - 1) / (b.limit - x) := (Int.le_ediv_iff_mul_le (by omega)).2 (by omega)
    have h2 : (h + (b.limit - x) - 1) / (b.limit - x) < k + 1 := (Int.ediv_lt_iff_lt_mul (by omega)).2 (by rw [Int.add_mul]; omega)
    omega
theorem bears_law {b : Brk} {h t x : Int} (h0 : bearsE b h t = 0) (ht : 1 ≤ t) (hx : b.limit ≤ x ∧ x ≤ b.fast) (hk : h + t * (x - b.limit) ≤ b.slow) (he : b.fast ≤ x ∨ b.slow < h + t * (x + 1 - b.limit)) : bearsN b h t = x := by
  unfold bearsN
  rw [if_pos h0]
  have h1 : x - b.limit ≤ (b.slow - h) / t := (Int.le_ediv_iff_mul_le (by omega)).2 (by rw [Int.mul_comm]; omega)
  rcases he with he | he
  · rw [Int.min_eq_left (by omega)]; omega
  · have h2 : (b.slow - h) / t < x + 1 - b.limit := (Int.ediv_lt_iff_lt_mul (by omega)).2 (by rw [Int.mul_comm]; omega)
    rw [Int.min_eq_right (by omega)]; omega

/-- A loop's memory: the box of the breaker, the box of the state. -/
structure RL (w : World) (b : Brk) (g : Nat) (s : BSt) (W : World) : Prop where
  has : Has W [(g, .cells s.cells.toArray 101 (0, 0)), (w.heap.size, .cells b.cells.toArray 61 (0, 0))]
  below : Below w.heap.size w W
  ne : w.heap.size < g
theorem RL.next {w : World} {b : Brk} {g : Nat} {s : BSt} {W W2 : World} (h : RL w b g s W) (hb : Below W.heap.size W W2) (s' : BSt) :
    RL w b g s' ((W2.setCell ⟨g, 0, none⟩ (.int .i64 s'.heat)).setCell ⟨g, 1, none⟩ (.bool s'.trip)) := by
  have h1 := h.has.below hb
  have hne := h.ne
  refine ⟨Has.cons ?_ (Has.cons (blk_set (blk_set h1.tl.hd (by simp; omega) _) (by simp; omega) _) (Has.nil _)), ((below_trans h.below hb).setCell (by simp; omega) _).setCell (by simp; omega) _, hne⟩
  have h2 := h1.hd
  simp [World.setCell, Array.getElem?_modify, h2]

set_option maxHeartbeats 1000000 in
theorem lasts_ref (b : Brk) (h x : Int) (w : World) : Calls Tryz.prog 37 #[b.val, .int .i64 h, .int .i64 x] w fun e W' => e = .returned (.tuple #[.int .i64 (lastsN b h x), .int .i64 (steadyE b h x)]) ∧ Below w.heap.size w W' := by
  by_cases h0 : steadyE b h x = 0
  · obtain ⟨hb, ⟨hh0, hh1⟩, hx0, hx1⟩ := steadyE_zero h0
    obtain ⟨⟨l0, l1⟩, ⟨s0, s1⟩, f0, f1⟩ := okB_iff.1 hb
    clear hb
    have H0 := Lib.hid h0
    by_cases c1 : x ≤ b.limit
    · have e : lastsN b h x = -1 := by unfold lastsN; rw [if_pos h0, if_pos c1]
      rw [e, h0]; clear h0 e
      go_enter Tryz.func37, Tryz.ntmps37
      go_wp2_with fail
      obtain ⟨W1, hW1⟩ : ∃ W' : World, (w.alloc (.cells b.cells.toArray 61)) = W' := ⟨_, rfl⟩
      have H1 : Has W1 [(w.heap.size, .cells b.cells.toArray 61 (0, 0))] := by rw [← hW1]; simpa using ((Has.nil w).new _)
      have s1 : W1.heap.size = w.heap.size + 1 := by rw [← hW1]; simp
      have b1 : Below w.heap.size w W1 := by rw [← hW1]; exact (below_alloc (below_self w) _)
      rw [hW1]
      clear hW1
      refine (steady_ref _ _ _ _).mono ?_
      rintro e W2 ⟨rfl, hb2⟩
      rw [H0.out]
      have h2 := H1.below hb2
      have w2 := Lib.hid (below_trans b1 hb2)
      have k1 := blk_cell h2.hd 1
      simp at k1
      clear h2 H1 s1 b1 hb2
      go_wp2_with fail
      go_ret2
      exact ⟨rfl, w2.out⟩
    · rw [h0]; clear h0
      go_enter Tryz.func37, Tryz.ntmps37
      go_wp2_with fail
      obtain ⟨W1, hW1⟩ : ∃ W' : World, (w.alloc (.cells b.cells.toArray 61)) = W' := ⟨_, rfl⟩
      have H1 : Has W1 [(w.heap.size, .cells b.cells.toArray 61 (0, 0))] := by rw [← hW1]; simpa using ((Has.nil w).new _)
      have s1 : W1.heap.size = w.heap.size + 1 := by rw [← hW1]; simp
      have b1 : Below w.heap.size w W1 := by rw [← hW1]; exact (below_alloc (below_self w) _)
      rw [hW1]
      clear hW1
      refine (steady_ref _ _ _ _).mono ?_
      rintro e W2 ⟨rfl, hb2⟩
      rw [H0.out]
      have h2 := H1.below hb2
      have w2 := below_trans b1 hb2
      have k1 := blk_cell h2.hd 1
      simp at k1
      have lt1 : w.heap.size < W2.heap.size := blk_lt h2.hd
      have HR : RL w b W2.heap.size ⟨h, false⟩ (W2.alloc (.cells #[.int .i64 h, .bool false] 101)) :=
        ⟨Has.new h2 _, below_alloc w2 _, lt1⟩
      have HRL := Lib.hid HR
      clear h2 H1 s1 b1 hb2 w2 HR
      go_wp2_with fail
      generalize W2.alloc _ = W3 at HRL ⊢
      generalize W2.heap.size = g at HRL lt1 ⊢
      clear k1
      go_loopw [10] (fun n wr => ∃ (k : Nat) (y : Int) (X : World), (0 ≤ y ∧ y ≤ b.slow ∧ (k : Int) ≤ b.slow) ∧ Hid (y = h + k * (x - b.limit) ∧ (k = 0 ∨ x ≤ b.fast)) ∧ n = .int .i64 k ∧ X = wr ∧ RL w b g ⟨y, false⟩ X) (fun n _ => (b.slow + 1).toNat - (intOf n).toNat)
      case atStart => exact ⟨0, h, _, by omega, ⟨by simp, .inl rfl⟩, rfl, rfl, HRL.out⟩
      case round =>
        clear HRL
        obtain ⟨k, y, X, ⟨y0, y1, hk1⟩, Hk, rfl, rfl, hr⟩ := hrel
        have c0 := blk_cell hr.has.hd 0
        have c2 := blk_cell hr.has.hd 1
        have k0 := blk_cell hr.has.tl.hd 0
        have k1 := blk_cell hr.has.tl.hd 1
        have k2 := blk_cell hr.has.tl.hd 2
        have k3 := blk_cell hr.has.tl.hd 3
        simp at c0 c2 k0 k1 k2 k3
        have HR := Lib.hid hr
        clear hr
        go_wp2_with fail
        refine (after_ref b ⟨y, false⟩ x _ (by simp only; omega) (by simp only; omega) hx0 hx1 l0 l1).mono ?_
        rintro e W5 ⟨rfl, hb5⟩
        have h5 := HR.out.has.below hb5
        have g0 := blk_cell h5.hd 0
        have g1 := blk_cell h5.hd 1
        have q0 := blk_frozen h5.hd 0
        have q1 := blk_frozen h5.hd 1
        simp at g0 g1
        clear c0 c2 k0 k1 k2 k3
        by_cases ht : b.fast < x ∨ b.slow < y + x - b.limit
        · have he : aft b ⟨y, false⟩ x = ⟨min (y + x - b.limit) 100000000, true⟩ := aft_eq (M := y + x - b.limit) (by omega) rfl (decide_eq_true ht)
          rw [he]
          have hl := lasts_law H0.out (by omega) Hk.out.2 (by have := Hk.out.1; omega) (by have := Hk.out.1; omega)
          have HB := Lib.hid (HR.out.next hb5 ⟨min (y + x - b.limit) 100000000, true⟩).below
          have HL := Lib.hid hl
          generalize min (y + x - b.limit) 100000000 = N at HB ⊢
          clear he hl ht hb5 h5 HR Hk
          go_wp2_with fail
          go_ret2
          exact ⟨by rw [HL.out]; rfl, HB.out⟩
        · have he : aft b ⟨y, false⟩ x = ⟨y + x - b.limit, false⟩ := aft_eq (M := y + x - b.limit) (by omega) (by omega) (decide_eq_false ht)
          rw [he]
          have HB := Lib.hid (HR.out.next hb5 ⟨y + x - b.limit, false⟩)
          have HK : Hid (y + x - b.limit = h + ((k + 1 : Nat) : Int) * (x - b.limit) ∧ (k + 1 = 0 ∨ x ≤ b.fast)) := ⟨by have := Hk.out.1; rw [Int.natCast_succ, Int.add_mul]; omega, .inr (by omega)⟩
          have hk2 : ((k + 1 : Nat) : Int) ≤ b.slow := by
            have h1 := mul_ge (k + 1) (x - b.limit) (by omega)
            have h2 := HK.out.1
            omega
          have y3 : 0 ≤ y + x - b.limit := by omega
          have y4 : y + x - b.limit ≤ b.slow := by omega
          generalize y + x - b.limit = N at HB HK y3 y4 ⊢
          clear he ht hb5 h5 HR Hk
          go_wp2_with fail
          go_roundw
          case rel => exact ⟨k + 1, N, _, ⟨y3, y4, hk2⟩, HK, by go_num, rfl, HB.out⟩
          case measure => simp [intOf]; omega
  · have e : lastsN b h x = 0 := by unfold lastsN; rw [if_neg h0]
    rw [e]; clear e
    rcases steadyE_ne h0 with h1 | h1
    all_goals
      rw [h1]
      have H1 := Lib.hid h1; clear h1 h0
      go_enter Tryz.func37, Tryz.ntmps37
      go_wp2_with fail
      refine (steady_ref _ _ _ _).mono ?_
      rintro e W2 ⟨rfl, hb2⟩
      rw [H1.out]
      have w2 := Lib.hid (below_trans (below_alloc (below_self w) _) hb2)
      clear hb2
      go_wp2_with fail
      go_ret2
      exact ⟨rfl, w2.out⟩

end Go.Proofs.YthlefdbhkbpejaaGreat.B7
