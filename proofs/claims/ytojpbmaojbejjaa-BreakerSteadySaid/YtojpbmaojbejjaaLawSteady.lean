/- Chapter 07, law BreakerSteady: its walk. -/
import Derived.Test.YtojpbmaojbejjaaSteady
import Derived.Test.YtojpbmaojbejjaaRepeat
import Derived.Deep.RegionHeld3
namespace Go.Proofs.Ytojpbmaojbejjaa
open Go Go.RowKit

theorem tripped1_ok (s : BSt) (w : World) : Calls Try.prog 36 #[s.val] w fun e W' => e = .returned (.bool s.trip) ∧ Below w.heap.size w W' := by
  go_enter Try.func36, Try.ntmps36
  go_wp2_with fail
  go_ret
  exact ⟨rfl, below_alloc (below_self w) _⟩
theorem cold_ok (s : BSt) (w : World) : Calls Try.prog 37 #[s.val] w fun e W' => e = .returned (.bool (coldP s)) ∧ Below w.heap.size w W' := by
  obtain ⟨h, t⟩ := s
  by_cases hz : h = 0
  · subst hz
    cases t
    all_goals
      go_enter Try.func37, Try.ntmps37
      go_wp2_with fail
      go_ret
      exact ⟨rfl, below_alloc (below_self w) _⟩
  · have e : coldP ⟨h, t⟩ = false := by simp [coldP, hz]
    rw [e]
    have hz2 : (h == 0) = false := by simpa using hz
    clear e
    go_enter Try.func37, Try.ntmps37
    go_wp2_with fail
    go_ret
    exact ⟨rfl, below_alloc (below_self w) _⟩

set_option maxRecDepth 100000 in
set_option maxHeartbeats 4000000 in
theorem steady_walk (x : Sml) (u : Int) (w : World) (hx : x.ok) (hu : 0 ≤ u ∧ u ≤ 255) :
    Calls Try.prog 9 #[x.val, .int .u8 u] w fun e W' => e = .returned (.bool true) ∧ Below w.heap.size w W' := by
  obtain ⟨hb, h0, h1⟩ := sml_ok hx
  obtain ⟨u0, u1⟩ := hu
  have hs : x.brk.slow = x.slow := rfl
  have G := Lib.hid (steady x.brk x.h u hb h0 (by rw [hs]; exact h1) (by rw [hs]; exact hx.2.1.2) u0 u1)
  have E1 := Lib.hid (steadyE_of hb h0 (by rw [hs]; exact h1) u0 (show u ≤ 100000000 by omega))
  have o1 : okS x.brk ⟨x.h, false⟩ = true := by unfold okS mostOf; rw [hb]; simp [inR]; exact ⟨h0, by rw [hs]; exact h1⟩
  have hc : courseE x.brk ⟨x.h, false⟩ (List.replicate 300 u) = 0 := courseE_all o1 (by simp) (fun j hj => by
    rw [List.length_replicate] at hj
    rw [List.getD_eq_getElem?_getD, List.getElem?_replicate, if_pos hj]
    exact inR_iff.2 ⟨u0, by show u ≤ _; omega⟩)
  have hcl : courseL x.brk ⟨x.h, false⟩ (List.replicate 300 u) = runB x.brk ⟨x.h, false⟩ (List.replicate 300 u) := by unfold courseL; rw [if_pos hc]
  have hrl := run_rep_len x.brk ⟨x.h, false⟩ u 300
  have hwr : IntKind.i64.wrap u = u := IntWalk.i64_in _ ⟨by omega, by omega⟩
  obtain ⟨rp, hrp⟩ : ∃ rp, List.replicate 300 u = rp := ⟨_, rfl⟩
  have hrpl : rp.length = 300 := by rw [← hrp, List.length_replicate]
  rw [hrp] at hc hcl hrl
  have hG := G.out
  rw [hrp] at hG
  have G2 := Lib.hid hG
  have HX := Lib.hid hx
  have HP := Lib.hid (And.intro hrp (And.intro hrpl (And.intro hc (And.intro hcl hrl))))
  clear hx hb h0 h1 hs G hG o1 hc hcl hrl hrp hrpl
  go_enter Try.func9, Try.ntmps9
  go_wp2_with fail
  refine (made_ok x HX.out _).mono ?_
  rintro e W1 ⟨rfl, hb1⟩
  have B1 := Lib.hid (below_trans (below_alloc (below_self w) _) hb1)
  clear hb1
  generalize x.h = h at *
  generalize x.brk = b at *
  generalize runB b ⟨h, false⟩ rp = R at *
  go_wp2_with fail
  obtain ⟨A1, hA1⟩ : ∃ W' : World, (W1.alloc (.cells b.cells.toArray 23)) = W' := ⟨_, rfl⟩
  have H1 : Has A1 [(W1.heap.size, .cells b.cells.toArray 23 (0, 0))] := by rw [← hA1]; simpa using ((Has.nil W1).new _)
  have s1 : A1.heap.size = W1.heap.size + 1 := by rw [← hA1]; simp
  have b1 : Below W1.heap.size W1 A1 := by rw [← hA1]; exact (below_alloc (below_self W1) _)
  rw [hA1]
  clear hA1
  have H2 := Lib.hid (And.intro H1 (below_trans B1.out b1))
  have k0 := blk_cell H1.hd 0
  have k1 := blk_cell H1.hd 1
  have k2 := blk_cell H1.hd 2
  have k3 := blk_cell H1.hd 3
  simp at k0 k1 k2 k3
  have l1 : W1.heap.size < A1.heap.size := blk_lt H1.hd
  have bX := (below_self A1).drew
  have bX2 := (below_alloc (below_self A1) (.cells #[.int .i64 u] 3)).drew
  have hc2 : (A1.alloc (.cells #[.int .i64 u] 3)).drew.cell? ⟨A1.heap.size, 0, none⟩ = some (.int .i64 u) := (blk_cell (blk_new A1 (.cells #[.int .i64 u] 3)) 0 : _)
  have HC2 := Lib.hid hc2
  have HC := Lib.hid (fun W (hb : Below A1.heap.size A1 W) => (And.intro (cell_call hb l1 k0) (And.intro (cell_call hb l1 k1) (And.intro (cell_call hb l1 k2) (cell_call hb l1 k3)))))
  clear H1 s1 b1 B1 k0 k1 k2 k3 hc2
  go_region_held3 (fun w' => Below A1.heap.size A1 w' ∧ w'.cell? ⟨W1.heap.size, 0, none⟩ = some (.int .i64 b.feed) ∧ w'.cell? ⟨W1.heap.size, 1, none⟩ = some (.int .i64 b.limit) ∧ w'.cell? ⟨W1.heap.size, 2, none⟩ = some (.int .i64 b.slow) ∧ w'.cell? ⟨W1.heap.size, 3, none⟩ = some (.int .i64 b.fast))
    ((first | exact ⟨bX, HC.out _ bX⟩ | exact ⟨bX2, HC.out _ bX2⟩ | exact ⟨bY2, HC.out _ bY2⟩ | exact ⟨bY1, HC.out _ bY1⟩))
    (first
      | (go_at_call 34; refine (repeat_ok _ 0 u _ HC2.out).mono ?_; rintro e WR ⟨vR, rfl, hoR, hbR⟩; rw [HP.out.1] at hoR; (obtain ⟨aR, cR, rfl, hrR⟩ := hoR.rows); rw [HP.out.2.1]; have bY1 := below_trans bX2 hbR)
      | (go_at_call 20; refine (course_ok b ⟨h, false⟩ aR 300 cR rp _ HP.out.2.1 (by omega) hrR).mono ?_; rintro e WC ⟨vC, rfl, hoC, hbC⟩; rw [HP.out.2.2.1]; rw [HP.out.2.2.2.1] at hoC; (obtain ⟨aC, cC, rfl, hrC⟩ := hoC.rows); rw [HP.out.2.2.2.2]; have bY2 := below_trans bY1 hbC))
  have h3 := H2.out.1.below bY2
  have H3 := Lib.hid (And.intro h3 (And.intro (below_trans H2.out.2 bY2) hrC))
  have k0 := blk_cell h3.hd 0
  have k1 := blk_cell h3.hd 1
  have k2 := blk_cell h3.hd 2
  have k3 := blk_cell h3.hd 3
  simp at k0 k1 k2 k3
  have l1 : W1.heap.size < WC.heap.size := blk_lt h3.hd
  clear h3 bX bX2 bY1 bY2 hoR hbR hrR hoC hbC hrC HC HC2 H2
  go_wp2_with fail
  refine (lasts_ok b h u _).mono ?_
  rintro e W4 ⟨rfl, hb4⟩
  rw [E1.out]
  have h4 := H3.out.1.below hb4
  have H4 := Lib.hid (And.intro h4 (And.intro (below_trans H3.out.2.1 hb4) (H3.out.2.2.later hb4)))
  clear k0 k1 k2 k3 l1
  have k0 := blk_cell h4.hd 0
  have k1 := blk_cell h4.hd 1
  have k2 := blk_cell h4.hd 2
  have k3 := blk_cell h4.hd 3
  simp at k0 k1 k2 k3
  have l1 : W1.heap.size < W4.heap.size := blk_lt h4.hd
  clear h4 hb4 H3
  generalize lastsN b h u = N at *
  go_wp2_with fail
  refine (cools_ok b h u _).mono ?_
  rintro e W5 ⟨rfl, hb5⟩
  rw [E1.out]
  have h5 := H4.out.1.below hb5
  have H5 := Lib.hid (And.intro h5 (And.intro (below_trans H4.out.2.1 hb5) (H4.out.2.2.later hb5)))
  clear k0 k1 k2 k3 l1
  have k0 := blk_cell h5.hd 0
  have k1 := blk_cell h5.hd 1
  have k2 := blk_cell h5.hd 2
  have k3 := blk_cell h5.hd 3
  simp at k0 k1 k2 k3
  have l1 : W1.heap.size < W5.heap.size := blk_lt h5.hd
  clear h5 hb5 H4
  generalize coolsN b h u = C at *
  have HT := Lib.hid (show (fun s : BSt => s.trip) = (fun s => s.trip) from rfl)
  generalize hT : idxI (fun s : BSt => s.trip) R = T at *
  generalize hC : idxI coldP R = C2 at *
  have HTC := Lib.hid (And.intro hT hC)
  clear hT hC HT
  obtain ⟨g1, g2, g3, g4, g5, g6⟩ := G2.out
  clear G2
  subst g4
  by_cases hN : N = -1
  · have hT := g2 hN
    have hle := g1.1 hN
    subst hN hT
    clear g1 g2 g3
    go_wp2_with fail
    refine (indexS_ok 36 #[] (fun s => s.trip) aC 301 cC R _ HP.out.2.2.2.2 (by omega) H5.out.2.2 (fun W x _ => tripped1_ok x W) (enters_of Try.func36 (by kernel_rfl) rfl)).mono ?_
    rintro e W6 ⟨rfl, hb6⟩
    rw [HTC.out.1]
    have H6 := Lib.hid (And.intro (below_trans H5.out.2.1 hb6) (H5.out.2.2.later hb6))
    clear k0 k1 k2 k3 l1 hb6 H5
    go_wp2_with fail
    refine (indexS_ok 37 #[] coldP aC 301 cC R _ HP.out.2.2.2.2 (by omega) H6.out.2 (fun W x _ => cold_ok x W) (enters_of Try.func37 (by kernel_rfl) rfl)).mono ?_
    rintro e W7 ⟨rfl, hb7⟩
    rw [HTC.out.2]
    have H7 := Lib.hid (below_trans H6.out.1 hb7)
    clear hb7 H6
    go_wp2_with fail
    refine (works_ok _).mono ?_
    rintro e W9 ⟨rfl, hb⟩
    have B9 := Lib.hid (below_trans H7.out hb)
    clear hb H7
    go_wp2_with fail
    go_ret
    exact ⟨rfl, B9.out⟩
  · obtain ⟨hT, hN0, hN1⟩ := g3 hN
    have hle : ¬ u ≤ b.limit := fun h => hN (g1.2 h)
    have hle2 : decide (u ≤ b.limit) = false := decide_eq_false hle
    have hN2 : (N == -1) = false := by simpa using hN
    have hN3 : (N != -1) = true := by simpa using hN
    subst hT
    clear g1 g2 g3
    go_wp2_with fail
    refine (indexS_ok 36 #[] (fun s => s.trip) aC 301 cC R _ HP.out.2.2.2.2 (by omega) H5.out.2.2 (fun W x _ => tripped1_ok x W) (enters_of Try.func36 (by kernel_rfl) rfl)).mono ?_
    rintro e W6 ⟨rfl, hb6⟩
    rw [HTC.out.1]
    have H6 := Lib.hid (And.intro (below_trans H5.out.2.1 hb6) (H5.out.2.2.later hb6))
    clear k0 k1 k2 k3 l1 hb6 H5
    go_wp2_with fail
    refine (indexS_ok 37 #[] coldP aC 301 cC R _ HP.out.2.2.2.2 (by omega) H6.out.2 (fun W x _ => cold_ok x W) (enters_of Try.func37 (by kernel_rfl) rfl)).mono ?_
    rintro e W7 ⟨rfl, hb7⟩
    rw [HTC.out.2]
    have H7 := Lib.hid (below_trans H6.out.1 hb7)
    clear hb7 H6
    go_wp2_with fail
    refine (works_ok _).mono ?_
    rintro e W9 ⟨rfl, hb⟩
    have B9 := Lib.hid (below_trans H7.out hb)
    clear hb H7
    go_wp2_with fail
    go_ret
    exact ⟨rfl, B9.out⟩
end Go.Proofs.Ytojpbmaojbejjaa
