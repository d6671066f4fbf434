/- Chapter 07, law BreakerGalois: its walk. -/
import Derived.Test.YtojpbmaojbejjaaMade
namespace Go.Proofs.Ytojpbmaojbejjaa
open Go Go.RowKit

theorem sml_ok {x : Sml} (hx : x.ok) : okB x.brk = true ∧ 0 ≤ x.h ∧ x.h ≤ x.slow := by
  obtain ⟨⟨l0, l1⟩, ⟨z0, z1⟩, ⟨y0, y1⟩, h0, h1⟩ := hx
  have hm0 : 0 ≤ x.heat % (x.slow + 1) := Int.emod_nonneg _ (by omega)
  have hm1 : x.heat % (x.slow + 1) < x.slow + 1 := Int.emod_lt_of_pos _ (by omega)
  refine ⟨okB_iff.2 ⟨⟨l0, ?_⟩, ⟨z0, ?_⟩, ?_, ?_⟩, hm0, ?_⟩ <;> simp only [Sml.brk, Sml.h] <;> omega
theorem steadyE_of {b : Brk} {h x : Int} (hb : okB b = true) (h0 : 0 ≤ h) (h1 : h ≤ b.slow) (x0 : 0 ≤ x) (x1 : x ≤ 100000000) : steadyE b h x = 0 := by
  unfold steadyE
  rw [if_pos hb, if_pos ⟨inR_iff.2 ⟨h0, h1⟩, inR_iff.2 ⟨x0, x1⟩⟩]
theorem galois (b : Brk) (h w k : Int) (hb : okB b = true) (h0 : 0 ≤ h) (h1 : h ≤ b.slow) (k0 : 1 ≤ k) (k1 : k ≤ 1000) (w0 : 0 ≤ w) (w1 : w ≤ 100000000) :
    (lastsN b h w = -1 ∧ w ≤ bearsN b h k) ∨ (¬ lastsN b h w = -1 ∧ k ≤ lastsN b h w ∧ w ≤ bearsN b h k) ∨ (¬ lastsN b h w = -1 ∧ ¬ k ≤ lastsN b h w ∧ ¬ w ≤ bearsN b h k) := by
  have hs := steadyE_of hb h0 h1 w0 w1
  have he : bearsE b h k = 0 := by unfold bearsE; rw [if_pos hb, if_pos ⟨inR_iff.2 ⟨h0, h1⟩, inR_iff.2 ⟨k0, k1⟩⟩]
  obtain ⟨⟨l0, l1⟩, ⟨s0, s1⟩, f0, f1⟩ := okB_iff.1 hb
  unfold lastsN bearsN
  rw [if_pos hs, if_pos he]
  have hq : 0 ≤ (b.slow - h) / k := Int.ediv_nonneg (by omega) (by omega)
  by_cases c1 : w ≤ b.limit
  · rw [if_pos c1]; exact .inl ⟨rfl, by omega⟩
  · rw [if_neg c1]
    by_cases c2 : b.fast < w
    · rw [if_pos c2]; exact .inr (.inr ⟨by omega, by omega, by omega⟩)
    · rw [if_neg c2]
      have hn : 0 ≤ (b.slow - h) / (w - b.limit) := Int.ediv_nonneg (by omega) (by omega)
      by_cases c3 : k ≤ (b.slow - h) / (w - b.limit)
      · have h3 := (Int.le_ediv_iff_mul_le (by omega)).1 c3
        have h4 : w - b.limit ≤ (b.slow - h) / k := (Int.le_ediv_iff_mul_le (by omega)).2 (by rw [Int.mul_comm]; exact h3)
        exact .inr (.inl ⟨by omega, c3, by omega⟩)
      · have h4 : ¬ w - b.limit ≤ (b.slow - h) / k := by
          intro h5
          have h6 := (Int.le_ediv_iff_mul_le (by omega)).1 h5
          exact c3 ((Int.le_ediv_iff_mul_le (by omega)).2 (by rw [Int.mul_comm]; exact h6))
        exact .inr (.inr ⟨by omega, c3, by omega⟩)

set_option maxRecDepth 100000 in
set_option maxHeartbeats 4000000 in
theorem galois_walk (x : Sml) (t u : Int) (w : World) (hx : x.ok) (ht : 0 ≤ t ∧ t ≤ 255) (hu : 0 ≤ u ∧ u ≤ 255) :
    Calls Try.prog 4 #[x.val, .int .u8 t, .int .u8 u] w fun e W' => e = .returned (.bool true) ∧ Below w.heap.size w W' := by
  obtain ⟨hb, h0, h1⟩ := sml_ok hx
  obtain ⟨t0, t1⟩ := ht
  obtain ⟨u0, u1⟩ := hu
  have hs : x.brk.slow = x.slow := rfl
  have k0 : 1 ≤ 1 + t % 40 := by omega
  have k1 : 1 + t % 40 ≤ 1000 := by omega
  have G := Lib.hid (galois x.brk x.h u (1 + t % 40) hb h0 (by rw [hs]; exact h1) k0 k1 u0 (by omega))
  have E1 := Lib.hid (steadyE_of hb h0 (by rw [hs]; exact h1) u0 (show u ≤ 100000000 by omega))
  have E2 : Hid (bearsE x.brk x.h (1 + t % 40) = 0) := by
    show _ = _
    unfold bearsE; rw [if_pos hb, if_pos ⟨inR_iff.2 ⟨h0, by rw [hs]; exact h1⟩, inR_iff.2 ⟨k0, k1⟩⟩]
  have HX := Lib.hid hx
  clear hx hb h0 h1 hs
  rcases G.out with g | g | g
  all_goals
    have GG := Lib.hid g
    clear g G
    go_enter Try.func4, Try.ntmps4
    go_wp2_with fail
    refine (made_ok x HX.out _).mono ?_
    rintro e W1 ⟨rfl, hb1⟩
    have B1 := Lib.hid (below_trans (below_alloc (below_self w) _) hb1)
    clear hb1
    generalize x.h = h at *
    generalize x.brk = b at *
    go_wp2_with fail
    obtain ⟨A1, hA1⟩ : ∃ W' : World, (W1.alloc (.cells b.cells.toArray 23)) = W' := ⟨_, rfl⟩
    have H1 : Has A1 [(W1.heap.size, .cells b.cells.toArray 23 (0, 0))] := by rw [← hA1]; simpa using ((Has.nil W1).new _)
    have s1 : A1.heap.size = W1.heap.size + 1 := by rw [← hA1]; simp
    have b1 : Below W1.heap.size W1 A1 := by rw [← hA1]; exact (below_alloc (below_self W1) _)
    rw [hA1]
    clear hA1
    have H2 := Lib.hid H1
    have B2 := Lib.hid (below_trans B1.out b1)
    have k0 := blk_cell H1.hd 0
    have k1 := blk_cell H1.hd 1
    have k2 := blk_cell H1.hd 2
    have k3 := blk_cell H1.hd 3
    simp at k0 k1 k2 k3
    have l1 : W1.heap.size < A1.heap.size := blk_lt H1.hd
    clear H1 s1 b1 B1
    refine (bears_ok b h _ _).mono ?_
    rintro e W2 ⟨rfl, hb2⟩
    rw [E2.out]
    have h2 := H2.out.below hb2
    have B3 := Lib.hid (below_trans B2.out hb2)
    clear k0 k1 k2 k3 l1
    have k0 := blk_cell h2.hd 0
    have k1 := blk_cell h2.hd 1
    have k2 := blk_cell h2.hd 2
    have k3 := blk_cell h2.hd 3
    simp at k0 k1 k2 k3
    have l1 : W1.heap.size < W2.heap.size := blk_lt h2.hd
    clear h2 hb2 B2 H2
    generalize bearsN b h (1 + t % 40) = M at *
    go_wp2_with fail
    refine (lasts_ok b h _ _).mono ?_
    rintro e W3 ⟨rfl, hb3⟩
    rw [E1.out]
    have B4 := Lib.hid (below_trans B3.out hb3)
    clear k0 k1 k2 k3 l1 hb3 B3
    generalize lastsN b h u = N at *
    obtain ⟨g0, g1⟩ := GG.out
    first
      | (subst g0; have e1 : decide (u ≤ M) = true := decide_eq_true g1; clear g1)
      | (obtain ⟨g1, g2⟩ := g1; have e1 : decide (u ≤ M) = true := decide_eq_true g2; have e2 : decide (1 + t % 40 ≤ N) = true := decide_eq_true g1; have e3 : (N == -1) = false := by simpa using g0)
      | (obtain ⟨g1, g2⟩ := g1; have e1 : decide (u ≤ M) = false := decide_eq_false (by omega); have e2 : decide (1 + t % 40 ≤ N) = false := decide_eq_false (by omega); have e3 : (N == -1) = false := by simpa using g0)
    go_wp2_with fail
    refine (works_ok _).mono ?_
    rintro e W9 ⟨rfl, hb⟩
    have B9 := Lib.hid (below_trans B4.out hb)
    clear hb B4
    go_wp2_with fail
    go_ret
    exact ⟨rfl, B9.out⟩
end Go.Proofs.Ytojpbmaojbejjaa
