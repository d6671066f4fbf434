/- Chapter 14: the law of the examples: the walk (written by wip/gen14known.py). -/
import Derived.Test.YthlefdbhkbpejaaLive
import Derived.Deep.RegionHeld3
import Derived.BigQuiet
namespace Go.Proofs.Ythlefdbhkbpejaa
open Go Go.RowKit F5
set_option linter.unusedSimpArgs false

set_option maxRecDepth 100000 in
set_option maxHeartbeats 1000000 in
theorem world_blk (w : World) : Calls Try.prog 14 #[] w fun e W' => e = .returned (.agg #[.slice (some ⟨w.heap.size + 1, 0, none⟩) 2 2, .slice (some ⟨w.heap.size + 1 + 1, 0, none⟩) 2 2]) ∧ W'.heap[w.heap.size + 1]? = some (.cells (Hss [⟨0, 0⟩, ⟨0, 0⟩]).flatten.toArray 44 (0, 0)) ∧ W'.heap[w.heap.size + 1 + 1]? = some (.cells (Rps [⟨0, 0⟩, ⟨0, 1⟩]).flatten.toArray 60 (0, 0)) ∧ Below w.heap.size w W' := by
  obtain ⟨i0, hi, hz0, hz1, hz2⟩ := info_parts hst_info
  go_enter Try.func14, Try.ntmps14
  go_wp2_with (with_reducible refine wpList_make_row rfl 33 _ _ rfl 44 i0 _ 2 16 Try.underlying33 hi hz0 hz1 hz2 2 _ rfl rfl ?a2 ?a3 ?a4 ?_)
  case a2 => rfl
  case a3 => omega
  case a4 => omega
  intro W4 h4 hb4 hs4
  have hbox : W4.heap[w.heap.size]? = some (.cells #[.slice none 0 0, .slice none 0 0] 36 (0, 0)) := (hb4.block w.heap.size (by omega)).trans (heap_alloc_new _ _)
  have hho : W4.heap[w.heap.size + 1]? = some (.cells (Hss [⟨0, 0⟩, ⟨0, 0⟩]).flatten.toArray 44 (0, 0)) := h4.out.trans (by rw [hst_made])
  have hbb : Below w.heap.size w W4 := (below_alloc (below_self w) _).trans (hb4.mono (by omega))
  have HB := Lib.hid (And.intro hbox (And.intro hho hbb))
  have d0 : W4.cell? ⟨w.heap.size, 0, none⟩ = some (.slice none 0 0) := (blk_cell hbox 0).trans rfl
  have d1 : W4.cell? ⟨w.heap.size, 1, none⟩ = some (.slice none 0 0) := (blk_cell hbox 1).trans rfl
  have f0 := blk_frozen hbox 0
  have f1 := blk_frozen hbox 1
  have dl := blk_lt hbox
  clear h4 hb4 hbox hho hbb hi hz0 hz1 hz2
  go_wp2_with fail
  (try simp only [Exit.inBlock, Exit.then]); refine bodyPost_ret (results_cell_row rfl _ _ w.heap.size 36 (exWld (w.heap.size + 1) (w.heap.size + 1 + 1)).cells.toArray (0, 0) _ rfl (blk_alloc (blk_set_two HB.out.1) _) Try.underlying36 rfl world_info) rfl ?_
  exact ⟨rfl, blk_alloc (blk_set (blk_set HB.out.2.1 (by simp) _) (by simp) _) _, blk_at (by simp [hs4]) _, below_alloc ((HB.out.2.2.setCell (by simp) _).setCell (by simp) _) _⟩

/-- The example's world with its first host broken. -/
def exWldB (b c : Nat) : Wld := ⟨[⟨4, 0⟩, ⟨0, 0⟩], (some ⟨b, 0, none⟩, 2, 2), [⟨0, 0⟩, ⟨0, 1⟩], (some ⟨c, 0, none⟩, 2, 2)⟩
def exSiteE : Site := ⟨[], (none, 0, 0), [], (none, 0, 0), [], (none, 0, 0), [], (none, 0, 0), [], (none, 0, 0), [], (none, 0, 0), 0⟩
def exWishE : Wish := ⟨[], (none, 0, 0)⟩
def exWldE : Wld := ⟨[], (none, 0, 0), [], (none, 0, 0)⟩
theorem siteE_at (W : World) : exSiteE.At W := ⟨reads_nil _ _, reads_nil _ _, reads_nil _ _, reads_nil _ _, reads_nil _ _, reads_nil _ _⟩
theorem wishE_at (W : World) : exWishE.At W := ⟨reads_nil _ _, fun i hi => by simp [exWishE] at hi⟩
theorem wldE_at (W : World) : exWldE.At W := ⟨reads_nil _ _, reads_nil _ _⟩
theorem kn_rack (b c d e : Nat) : ofRack (exSite b) (exWish c) (exWld d e) 1 = 200 := by kernel_rfl
theorem kn_brk (b c d e : Nat) : ofBrk (exSite b) (exWish c) (exWld d e) 0 = 200 := by kernel_rfl
theorem kn_wattsB (b c d e : Nat) : wattsN (exSite b) (exWish c) (exWldB d e) 0 = 0 := by kernel_rfl
theorem kn_carB (b c d e : Nat) : carV (exSite b) (exWish c) (exWldB d e) = 200 := by kernel_rfl
theorem kn_watts2 (b c d e : Nat) : wattsN (exSite b) (exWish c) (exWld d e) 2 = 0 := by kernel_rfl
theorem kn_bear2 (b c d e : Nat) : bearV (exSite b) (exWish c) (exWld d e) 2 = 0 := by kernel_rfl
theorem kn_nodes (b c d e : Nat) : netN (exSite b) (exWish c) (exWld d e) = 7 := by kernel_rfl
theorem kn_arcs (b c d e : Nat) : (netL (exSite b) (exWish c) (exWld d e)).length = 7 := by kernel_rfl
theorem kn_empty : netN exSiteE exWishE exWldE = 0 := by kernel_rfl

set_option maxRecDepth 10000 in
set_option maxHeartbeats 16000000 in
theorem known_walk (w : World) : Calls Try.prog 4 #[] w fun e W' => e = .returned (.bool true) ∧ Below w.heap.size w W' := by
  go_enter Try.func4, Try.ntmps4
  go_wp2_with fail
  refine (world_blk w).mono ?_
  rintro e A ⟨rfl, h1, h2, b⟩
  have HA := Lib.hid (And.intro h1 (And.intro h2 b))
  have d0 : A.cell? ⟨w.heap.size + 1, 0, none⟩ = some (.int .u8 0) := (blk_cell h1 0).trans rfl
  have f0 := blk_frozen h1 0
  have dl := blk_lt h1
  clear h1 h2 b
  go_upto_region 3 with fail
  have HB := Lib.hid (show (exWldB (w.heap.size + 1) (w.heap.size + 1 + 1)).At ((A.setCell ⟨w.heap.size + 1, 0, none⟩ (.int .u8 4)).alloc (.cells #[.slice (some ⟨w.heap.size + 1, 0, none⟩) 2 2, .slice (some ⟨w.heap.size + 1 + 1, 0, none⟩) 2 2] 36)) ∧ ((A.setCell ⟨w.heap.size + 1, 0, none⟩ (.int .u8 4)).alloc (.cells #[.slice (some ⟨w.heap.size + 1, 0, none⟩) 2 2, .slice (some ⟨w.heap.size + 1 + 1, 0, none⟩) 2 2] 36)).heap[A.heap.size]? = some (.cells #[.slice (some ⟨w.heap.size + 1, 0, none⟩) 2 2, .slice (some ⟨w.heap.size + 1 + 1, 0, none⟩) 2 2] 36 (0, 0)) ∧ Below w.heap.size w ((A.setCell ⟨w.heap.size + 1, 0, none⟩ (.int .u8 4)).alloc (.cells #[.slice (some ⟨w.heap.size + 1, 0, none⟩) 2 2, .slice (some ⟨w.heap.size + 1 + 1, 0, none⟩) 2 2] 36)) from by
    have la := blk_lt HA.out.1
    have z1 : (A.setCell ⟨w.heap.size + 1, 0, none⟩ (.int .u8 4)).heap[w.heap.size + 1]? = some (.cells (Hss [⟨4, 0⟩, ⟨0, 0⟩]).flatten.toArray 44 (0, 0)) := by simp [World.setCell, Array.getElem?_modify, HA.out.1]
    have z2 := blk_set HA.out.2.1 (a := ⟨w.heap.size + 1, 0, none⟩) (by simp) (.int .u8 4)
    exact ⟨⟨reads_blk (rows := Hss [⟨4, 0⟩, ⟨0, 0⟩]) (blk_alloc z1 _) (by simp) rfl (by omega), reads_blk (rows := Rps [⟨0, 0⟩, ⟨0, 1⟩]) (blk_alloc z2 _) (by simp) rfl (by omega)⟩, blk_at (by simp) _, below_alloc (HA.out.2.2.setCell (by simp) _) _⟩)
  generalize (A.setCell _ _).alloc _ = B at HB ⊢
  generalize w.heap.size + 1 + 1 = rb at HB ⊢
  generalize w.heap.size + 1 = hb at HB ⊢
  generalize A.heap.size = wb at HB ⊢
  clear HA d0 f0 dl
  go_wp2_with fail
  refine (site_made B).mono ?_
  rintro e S0 ⟨rfl, hs, b⟩
  have HS0 := Lib.hid (And.intro hs b)
  clear hs b
  go_wp2_with fail
  refine (wish_made S0).mono ?_
  rintro e T0 ⟨rfl, hx, b⟩
  have HT0 := Lib.hid (And.intro hx (And.intro (HS0.out.1.later b) (below_trans HS0.out.2 b)))
  clear hx b HS0
  go_wp2_with fail
  refine (world_made T0).mono ?_
  rintro e C0 ⟨wb0, wc0, rfl, hv, b⟩
  have HC0 := Lib.hid (And.intro hv (And.intro (HT0.out.1.later b) (And.intro (HT0.out.2.1.later b) (below_trans HT0.out.2.2 b))))
  clear hv b HT0
  go_wp2_with fail
  refine (net_ok _ _ _ C0 HC0.out.2.2.1 HC0.out.2.1 HC0.out.1).mono ?_
  rintro e D ⟨na, nk, nc, rfl, ho, b⟩
  rw [kn_nodes _ _ _ _]
  obtain rfl : 7 = nk := by rw [← ho.2.1]; exact (kn_arcs _ _ _ _).symm
  have HD := Lib.hid (And.intro (HB.out.1.later (below_trans HC0.out.2.2.2 b)) (And.intro (blk_below HB.out.2.1 (below_trans HC0.out.2.2.2 b)) (below_trans HB.out.2.2 (below_trans HC0.out.2.2.2 b))))
  clear ho b HC0 HB
  go_upto_region 4 with fail
  have bE := below_alloc (below_self D) (.cells #[.int .i64 7, .slice na 7 nc] 47)
  have HE := Lib.hid (show (exWldB hb rb).At (D.alloc (.cells #[.int .i64 7, .slice na 7 nc] 47)) ∧ (D.alloc (.cells #[.int .i64 7, .slice na 7 nc] 47)).heap[wb]? = some (.cells #[.slice (some ⟨hb, 0, none⟩) 2 2, .slice (some ⟨rb, 0, none⟩) 2 2] 36 (0, 0)) ∧ (D.alloc (.cells #[.int .i64 7, .slice na 7 nc] 47)).heap[D.heap.size]? = some (.cells #[.int .i64 7, .slice na 7 nc] 47 (0, 0)) ∧ Below w.heap.size w (D.alloc (.cells #[.int .i64 7, .slice na 7 nc] 47)) from ⟨HD.out.1.later bE, blk_below HD.out.2.1 bE, blk_new D _, below_alloc HD.out.2.2 _⟩)
  clear bE HD
  generalize D.alloc _ = X at HE ⊢
  generalize D.heap.size = nb at HE ⊢
  have hkk : ∀ W, Below X.heap.size X W → W.cell? ⟨wb, 0, none⟩ = some (.slice (some ⟨hb, 0, none⟩) 2 2) ∧ W.cell? ⟨wb, 1, none⟩ = some (.slice (some ⟨rb, 0, none⟩) 2 2) ∧ W.cell? ⟨nb, 0, none⟩ = some (.int .i64 7) ∧ W.cell? ⟨nb, 1, none⟩ = some (.slice na 7 nc) := fun W hb => ⟨(blk_cell (blk_below HE.out.2.1 hb) 0).trans rfl, (blk_cell (blk_below HE.out.2.1 hb) 1).trans rfl, (blk_cell (blk_below HE.out.2.2.1 hb) 0).trans rfl, (blk_cell (blk_below HE.out.2.2.1 hb) 1).trans rfl⟩
  have HS := Lib.hid hkk
  have lw := blk_lt HE.out.2.1
  have ln := blk_lt HE.out.2.2.1
  have b0 : Below X.heap.size X X.drew := (below_self X).drew
  have hfd : ∀ (a : Option Addr) (k c : Nat) (W : World), (Instr.field 47 (.agg #[.int .i64 0, .slice a k c]) 0).run Try.prog W = .ok (.int .i64 0) W := fun _ _ _ _ => by kernel_rfl
  clear hkk
  go_region_held3 (fun W => W.cell? ⟨wb, 0, none⟩ = some (.slice (some ⟨hb, 0, none⟩) 2 2) ∧ W.cell? ⟨wb, 1, none⟩ = some (.slice (some ⟨rb, 0, none⟩) 2 2) ∧ W.cell? ⟨nb, 0, none⟩ = some (.int .i64 7) ∧ W.cell? ⟨nb, 1, none⟩ = some (.slice na 7 nc))
    (exact HS.out _ (by assumption))
    (first
      | (have hq := b23; clear hq; go_at_call 9; (with_reducible refine (live_ok _).mono ?_); rintro e Z24 ⟨rfl, c24⟩; have b24 := below_trans b23 c24)
      | (have hq := b22; clear hq; go_at_call 15; refine (net_ok exSiteE exWishE exWldE _ (siteE_at _) (wishE_at _) (wldE_at _)).mono ?_; rintro e Z23 ⟨ma, mk, mc, rfl, _, c23⟩; rw [kn_empty]; have b23 := below_trans b22 c23)
      | (have hq := b21; clear hq; go_at_call 19; refine (bears_ok _ _ _ 2 _ (h19.later (below_trans c20 c21)) (h20.later c21) h21).mono ?_; rintro e Z22 ⟨rfl, c22⟩; rw [kn_bear2 _ _ _ _]; have b22 := below_trans b21 c22)
      | (have hq := b20; clear hq; go_at_call 14; (with_reducible refine (world_made _).mono ?_); rintro e Z21 ⟨p21, q21, rfl, h21, c21⟩; have b21 := below_trans b20 c21)
      | (have hq := b19; clear hq; go_at_call 17; (with_reducible refine (wish_made _).mono ?_); rintro e Z20 ⟨rfl, h20, c20⟩; have b20 := below_trans b19 c20)
      | (have hq := b18; clear hq; go_at_call 16; (with_reducible refine (site_made _).mono ?_); rintro e Z19 ⟨rfl, h19, c19⟩; have b19 := below_trans b18 c19)
      | (have hq := b17; clear hq; go_at_call 10; refine (watts0_ok _ _ _ 2 _ (h15.later (below_trans c16 c17)) (h16.later c17) h17).mono ?_; rintro e Z18 ⟨rfl, c18⟩; rw [kn_watts2 _ _ _ _]; have b18 := below_trans b17 c18)
      | (have hq := b16; clear hq; go_at_call 14; (with_reducible refine (world_made _).mono ?_); rintro e Z17 ⟨p17, q17, rfl, h17, c17⟩; have b17 := below_trans b16 c17)
      | (have hq := b15; clear hq; go_at_call 17; (with_reducible refine (wish_made _).mono ?_); rintro e Z16 ⟨rfl, h16, c16⟩; have b16 := below_trans b15 c16)
      | (have hq := b14; clear hq; go_at_call 16; (with_reducible refine (site_made _).mono ?_); rintro e Z15 ⟨rfl, h15, c15⟩; have b15 := below_trans b14 c15)
      | (have hq := b13; clear hq; go_at_call 18; refine (carried_ok _ _ (exWldB hb rb) _ (h12.later c13) h13 (HE.out.1.later b13)).mono ?_; rintro e Z14 ⟨rfl, c14⟩; rw [kn_carB _ _ _ _]; have b14 := below_trans b13 c14)
      | (have hq := b12; clear hq; go_at_call 17; (with_reducible refine (wish_made _).mono ?_); rintro e Z13 ⟨rfl, h13, c13⟩; have b13 := below_trans b12 c13)
      | (have hq := b11; clear hq; go_at_call 16; (with_reducible refine (site_made _).mono ?_); rintro e Z12 ⟨rfl, h12, c12⟩; have b12 := below_trans b11 c12)
      | (have hq := b10; clear hq; go_at_call 10; refine (watts0_ok _ _ (exWldB hb rb) 0 _ (h9.later c10) h10 (HE.out.1.later b10)).mono ?_; rintro e Z11 ⟨rfl, c11⟩; rw [kn_wattsB _ _ _ _]; have b11 := below_trans b10 c11)
      | (have hq := b9; clear hq; go_at_call 17; (with_reducible refine (wish_made _).mono ?_); rintro e Z10 ⟨rfl, h10, c10⟩; have b10 := below_trans b9 c10)
      | (have hq := b8; clear hq; go_at_call 16; (with_reducible refine (site_made _).mono ?_); rintro e Z9 ⟨rfl, h9, c9⟩; have b9 := below_trans b8 c9)
      | (have hq := b7; clear hq; go_at_call 12; refine (brk_ok _ _ _ 0 _ (h5.later (below_trans c6 c7)) (h6.later c7) h7).mono ?_; rintro e Z8 ⟨rfl, c8⟩; rw [kn_brk _ _ _ _]; have b8 := below_trans b7 c8)
      | (have hq := b6; clear hq; go_at_call 14; (with_reducible refine (world_made _).mono ?_); rintro e Z7 ⟨p7, q7, rfl, h7, c7⟩; have b7 := below_trans b6 c7)
      | (have hq := b5; clear hq; go_at_call 17; (with_reducible refine (wish_made _).mono ?_); rintro e Z6 ⟨rfl, h6, c6⟩; have b6 := below_trans b5 c6)
      | (have hq := b4; clear hq; go_at_call 16; (with_reducible refine (site_made _).mono ?_); rintro e Z5 ⟨rfl, h5, c5⟩; have b5 := below_trans b4 c5)
      | (have hq := b3; clear hq; go_at_call 11; refine (ofrack_ok _ _ _ 1 _ (h1.later (below_trans c2 c3)) (h2.later c3) h3).mono ?_; rintro e Z4 ⟨rfl, c4⟩; rw [kn_rack _ _ _ _]; have b4 := below_trans b3 c4)
      | (have hq := b2; clear hq; go_at_call 14; (with_reducible refine (world_made _).mono ?_); rintro e Z3 ⟨p3, q3, rfl, h3, c3⟩; have b3 := below_trans b2 c3)
      | (have hq := b1; clear hq; go_at_call 17; (with_reducible refine (wish_made _).mono ?_); rintro e Z2 ⟨rfl, h2, c2⟩; have b2 := below_trans b1 c2)
      | (have hq := b0; clear hq; go_at_call 16; (with_reducible refine (site_made _).mono ?_); rintro e Z1 ⟨rfl, h1, c1⟩; have b1 := below_trans b0 c1))
  have HZ := Lib.hid (below_trans HE.out.2.2.2 b24)
  go_wp2_with fail
  go_ret
  exact ⟨rfl, HZ.out⟩
end Go.Proofs.Ythlefdbhkbpejaa
