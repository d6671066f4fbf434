/- Chapter 25, law CarrierKnown: its walk. -/
import Derived.Test.YtkfoclibejpbdaaLaw
import Derived.Deep.RegionHeld3
import Derived.Deep.DeepCutAuto
namespace Go.Proofs.Ytkfoclibejpbdaa
open Go Go.RowKit

set_option maxRecDepth 100000 in
set_option maxHeartbeats 4000000 in
theorem known_walk (w : World) :
    Calls Try.prog 9 #[] w fun e W' => e = .returned (.bool true) ∧ Below w.heap.size w W' := by
  go_enter Try.func9, Try.ntmps9
  go_wp2_with fail
  refine (three_ok _).mono ?_
  rintro e W1 ⟨rfl, b1⟩
  have B1 := Lib.hid b1; clear b1
  go_wp2_with fail
  generalize hX : World.alloc (World.alloc (World.alloc (World.alloc (World.alloc W1 _) _) _) _) _ = X
  have h2 : Has X [(W1.heap.size + 1 + 1 + 1 + 1, .cells #[.slice (some ⟨W1.heap.size + 1 + 1 + 1, 0, none⟩) 3 3] 24 (0, 0)), (W1.heap.size + 1 + 1 + 1, .cells (flatMs [mA, mB, mC]).toArray 34 (0, 0)), (W1.heap.size + 1 + 1, .cells mC.cells.toArray 34 (0, 0)), (W1.heap.size + 1, .cells mB.cells.toArray 34 (0, 0)), (W1.heap.size, .cells mA.cells.toArray 34 (0, 0))] := by
    rw [← hX]; simpa [flatMs, rowsOf] using (((((Has.nil W1).new _).new _).new _).new _).new _
  have hX1 : Below W1.heap.size W1 X := by rw [← hX]; exact below_alloc (below_alloc (below_alloc (below_alloc (below_alloc (below_self _) _) _) _) _) _
  have hX2 : X.heap.size = W1.heap.size + 1 + 1 + 1 + 1 + 1 := by rw [← hX]; simp
  clear hX
  have hmX := msgs_of_blk h2.tl.hd (show W1.heap.size + 1 + 1 + 1 < X.heap.size by omega)
  generalize W1.heap.size + 1 + 1 + 1 = g at h2 hmX hX2 ⊢
  generalize W1.heap.size + 1 + 1 = sC at h2 ⊢
  generalize W1.heap.size + 1 = sB at h2 ⊢
  have wX := below_trans B1.out hX1
  generalize W1.heap.size = sA at h2 ⊢
  have HX := Lib.hid (And.intro h2 (And.intro wX hmX))
  clear h2 wX hmX hX1 hX2 B1
  refine (lose_ok (some ⟨g, 0, none⟩) 3 3 0 [mA, mB, mC] X rfl (by omega) (by omega) HX.out.2.2).mono ?_
  rintro e W2 ⟨v, rfl, ho, hb⟩
  rw [show delE [mA, mB, mC] 0 = 0 by decide]
  rw [show delL [mA, mB, mC] 0 = [mB, mC] by decide] at ho
  obtain ⟨aY, cY, rfl, hcY⟩ := Car.own ho (by decide)
  rw [show [mB, mC].length = 2 from rfl] at hcY ⊢
  have d4 := blk_one (HX.out.1.below hb).hd
  have l4 : g + 1 < W2.heap.size := blk_lt (HX.out.1.below hb).hd
  have H2 := Lib.hid (And.intro hb hcY)
  clear hb ho hcY
  go_wp2_with fail
  obtain ⟨X2, hX2⟩ : ∃ W' : World, (W2.alloc (.cells #[.slice aY 2 cY] 24)) = W' := ⟨_, rfl⟩
  have H3 : Has X2 [(W2.heap.size, .cells #[.slice aY 2 cY] 24 (0, 0))] := by rw [← hX2]; simpa using ((Has.nil W2).new _)
  have s3 : X2.heap.size = W2.heap.size + 1 := by rw [← hX2]; simp
  have b3 : Below W2.heap.size W2 X2 := by rw [← hX2]; exact (below_alloc (below_self W2) _)
  rw [hX2]
  clear hX2
  clear d4 l4
  have bX := below_trans H2.out.1 b3
  refine (repeat_ok (some ⟨g, 0, none⟩) 3 3 0 [mA, mB, mC] X2 rfl (by omega) (HX.out.2.2.later bX)).mono ?_
  rintro e W3 ⟨v, rfl, ho, hb⟩
  rw [show repE [mA, mB, mC] 0 = 0 by decide]
  rw [show repL [mA, mB, mC] 0 = [mA, mB, mC, mA] by decide] at ho
  obtain ⟨aZ, cZ, rfl, hcZ⟩ := Car.own ho (by decide)
  rw [show [mA, mB, mC, mA].length = 4 from rfl] at hcZ ⊢
  have bX := below_trans bX hb
  have h := HX.out.1.below bX
  have dY := blk_one (H3.below hb).hd
  have lY : W2.heap.size < W3.heap.size := blk_lt (H3.below hb).hd
  obtain ⟨A0, A1, A2, A3, A4, A5, A6, A7, A8⟩ := blk_msg h.tl.tl.tl.tl.hd
  obtain ⟨B0, B1, B2, B3, B4, B5, B6, B7, B8⟩ := blk_msg h.tl.tl.tl.hd
  obtain ⟨C0, C1, C2, C3, C4, C5, C6, C7, C8⟩ := blk_msg h.tl.tl.hd
  have lA := blk_lt h.tl.tl.tl.tl.hd
  have lB := blk_lt h.tl.tl.tl.hd
  have lC := blk_lt h.tl.tl.hd
  have H4 := Lib.hid (And.intro bX (And.intro ((H2.out.2.below b3).below hb) hcZ))
  clear H2 H3 s3 b3 bX hb ho hcZ h
  go_upto_region 5 with fail
  go_cut [9] from 29 to 175 (fun s9 wx => s9 = .bool true ∧ Below X.heap.size X wx)
  case first =>
    go_wp2_with fail
    generalize hX4 : World.alloc (World.alloc W3 _) _ = X4
    have H5 : Has X4 [(W3.heap.size + 1, .cells (flatMs [mB, mC]).toArray 34 (0, 0)), (W3.heap.size, .cells #[.slice aZ 4 cZ] 24 (0, 0))] := by
      rw [← hX4]; simpa [flatMs, rowsOf] using ((Has.nil W3).new _).new _
    have b5 : Below W3.heap.size W3 X4 := by rw [← hX4]; exact below_alloc (below_alloc (below_self _) _) _
    have s5 : X4.heap.size = W3.heap.size + 1 + 1 := by rw [← hX4]; simp
    clear hX4 A0 A1 A2 A3 A4 A5 A6 A7 A8 B0 B1 B2 B3 B4 B5 B6 B7 B8 C0 C1 C2 C3 C4 C5 C6 C7 C8 lA lB lC dY lY
    have hcY := H4.out.2.1.below b5
    refine (same_ok aY _ 2 2 cY 2 [mB, mC] [mB, mC] X4 rfl rfl (by omega) (by omega) hcY.at' (msgs_of_blk H5.hd (by omega))).mono ?_
    rintro e W5 ⟨rfl, hb⟩
    rw [decide_eq_true rfl]
    have bX := below_trans (below_trans H4.out.1 b5) hb
    have h := HX.out.1.below bX
    have dZ := blk_one (H5.tl.below hb).hd
    have lZ : W3.heap.size < W5.heap.size := blk_lt (H5.tl.below hb).hd
    obtain ⟨A0, A1, A2, A3, A4, A5, A6, A7, A8⟩ := blk_msg h.tl.tl.tl.tl.hd
    obtain ⟨B0, B1, B2, B3, B4, B5, B6, B7, B8⟩ := blk_msg h.tl.tl.tl.hd
    obtain ⟨C0, C1, C2, C3, C4, C5, C6, C7, C8⟩ := blk_msg h.tl.tl.hd
    have lA := blk_lt h.tl.tl.tl.tl.hd
    have lB := blk_lt h.tl.tl.tl.hd
    have lC := blk_lt h.tl.tl.hd
    have H6 := Lib.hid (And.intro bX ((H4.out.2.2.below b5).below hb))
    clear H4 H5 s5 b5 bX hb hcY h
    go_wp2_with fail
    generalize hX6 : World.alloc W5 _ = X6
    have H7 : Has X6 [(W5.heap.size, .cells (flatMs [mA, mB, mC, mA]).toArray 34 (0, 0))] := by
      rw [← hX6]; simpa [flatMs, rowsOf] using (Has.nil W5).new _
    have b7 : Below W5.heap.size W5 X6 := by rw [← hX6]; exact below_alloc (below_self _) _
    clear hX6 A0 A1 A2 A3 A4 A5 A6 A7 A8 B0 B1 B2 B3 B4 B5 B6 B7 B8 C0 C1 C2 C3 C4 C5 C6 C7 C8 lA lB lC dZ lZ
    have hcZ := H6.out.2.below b7
    refine (same_ok aZ _ 4 4 cZ 4 [mA, mB, mC, mA] [mA, mB, mC, mA] X6 rfl rfl (by omega) (by omega) hcZ.at' (msgs_of_blk H7.hd (blk_lt H7.hd))).mono ?_
    rintro e W7 ⟨rfl, hb⟩
    rw [decide_eq_true rfl]
    have bX := below_trans (below_trans H6.out.1 b7) hb
    clear H6 H7 b7 hb hcZ
    have BX := Lib.hid bX
    clear bX
    go_wp2_with fail
    go_meet
    exact ⟨rfl, BX.out⟩
  case rest =>
    obtain ⟨rfl, bX⟩ := hcut
    clear H4
    have d4 := blk_one (HX.out.1.below bX).hd
    have BX := Lib.hid bX
    clear bX
    go_upto_region 6 with fail
    have bX := BX.out.drew
    go_region_held3 (fun w' => Below X.heap.size X w' ∧ w'.cell? ⟨g + 1, 0, none⟩ = some (.slice (some ⟨g, 0, none⟩) 3 3))
      ((first | exact ⟨bX, d4⟩ | exact ⟨bP, dP⟩ | exact ⟨bQ, dQ⟩ | exact ⟨bR, dR⟩))
      (first
        | (have hX0 := bQ; clear hX0; go_at_call 11; refine (waiting_ok (some ⟨g, 0, none⟩) 3 3 [mA, mB, mC] 5 _ rfl (by omega) (HX.out.2.2.later bQ)).mono ?_; rintro e WR ⟨vR, rfl, hoR, hbR⟩; have HOR := Lib.hid hoR; clear hoR; have bR := below_trans bQ hbR; have dR := blk_one (HX.out.1.below bR).hd; clear bQ)
        | (have hX0 := bP; clear hX0; go_at_call 11; refine (waiting_ok (some ⟨g, 0, none⟩) 3 3 [mA, mB, mC] 2 _ rfl (by omega) (HX.out.2.2.later bP)).mono ?_; rintro e WQ ⟨vQ, rfl, hoQ, hbQ⟩; have HOQ := Lib.hid hoQ; clear hoQ; have bQ := below_trans bP hbQ; have dQ := blk_one (HX.out.1.below bQ).hd; clear bP)
        | (have hX0 := bX; clear hX0; go_at_call 11; refine (waiting_ok (some ⟨g, 0, none⟩) 3 3 [mA, mB, mC] (-1) _ rfl (by omega) (HX.out.2.2.later bX)).mono ?_; rintro e WP ⟨vP, rfl, hoP, hbP⟩; have HOP := Lib.hid hoP; clear hoP; have bP := below_trans bX hbP; have dP := blk_one (HX.out.1.below bP).hd; clear bX))
    have hI1 : idxTo (fun x => x.to == -1) [mA, mB, mC] 3 = [0, 2] := by decide
    have hI2 : idxTo (fun x => x.to == 2) [mA, mB, mC] 3 = [1] := by decide
    have hI3 : idxTo (fun x => x.to == 5) [mA, mB, mC] 3 = [] := by decide
    have hoP := HOP.out
    have hoQ := HOQ.out
    have hoR := HOR.out
    rw [hI1] at hoP
    rw [hI2] at hoQ
    rw [hI3] at hoR
    obtain ⟨aP, cP, rfl, rP⟩ := owns_cells1 (owns_later (owns_later hoP hbQ) hbR)
    obtain ⟨aQ, cQ, rfl, rQ⟩ := owns_cells1 (owns_later hoQ hbR)
    obtain ⟨aR, cR, rfl, rR⟩ := owns_cells1 hoR
    obtain ⟨b1, o1, rfl, _, p0⟩ := rP.one (i := 0) (x := .int .i64 0) rfl
    obtain ⟨b1', o1', he, _, p1⟩ := rP.one (i := 1) (x := .int .i64 2) rfl
    cases he
    obtain ⟨b2, o2, rfl, _, q0⟩ := rQ.one (i := 0) (x := .int .i64 1) rfl
    rw [show [0, 2].length = 2 from rfl, show [1].length = 1 from rfl, show ([] : List Nat).length = 0 from rfl]
    have BR := Lib.hid bR
    clear HOP HOQ HOR hoP hoQ hoR hI1 hI2 hI3 rP rQ rR bR dR dP dQ hbP hbQ hbR d4
    rw [Nat.add_zero] at p0 q0
    go_upto_region 7 with fail
    go_cut [13] from 29 to 175 (fun s13 wx => s13 = .bool true ∧ WR = wx)
    case first =>
      go_wp2_with fail
      go_meet
      exact ⟨rfl, rfl⟩
    case rest =>
      obtain ⟨rfl, rfl⟩ := hcut
      clear p0 p1 q0
      obtain ⟨i0, hi, hz0, hz1, hz2⟩ := info_parts info34
      go_wp2_with (with_reducible refine wpList_make_row rfl 22 _ _ rfl 34 i0 _ 9 72 Try.underlying22 hi hz0 hz1 hz2 40 _ rfl rfl ?a2 ?a3 ?a4 ?_)
      case a2 => rfl
      case a3 => omega
      case a4 => omega
      intro W8 h8 b8 s8
      have hmk : madeCells (zeroMsg.val).cells 360 = (flatMs (List.replicate 40 zeroMsg)).toArray := by kernel_rfl
      have hF : W8.heap[WR.heap.size]? = some (.cells (flatMs (List.replicate 40 zeroMsg)).toArray 34 (0, 0)) := h8.out.trans (congrArg (fun c => some (Obj.cells c 34 (0, 0))) hmk)
      have bX := below_trans BR.out b8
      have d4 := blk_one (HX.out.1.below bX).hd
      have l4 : g + 1 < W8.heap.size := blk_lt (HX.out.1.below bX).hd
      have HF := Lib.hid (And.intro hF bX)
      clear hmk hF h8 b8 s8 bX BR hz0 hz1 hz2 hi
      go_wp2_with fail
      obtain ⟨X9, hX9⟩ : ∃ W' : World, (W8.alloc (.cells #[.slice (some ⟨WR.heap.size, 0, none⟩) 40 40] 24)) = W' := ⟨_, rfl⟩
      have H9 : Has X9 [(W8.heap.size, .cells #[.slice (some ⟨WR.heap.size, 0, none⟩) 40 40] 24 (0, 0))] := by rw [← hX9]; simpa using ((Has.nil W8).new _)
      have s9 : X9.heap.size = W8.heap.size + 1 := by rw [← hX9]; simp
      have b9 : Below W8.heap.size W8 X9 := by rw [← hX9]; exact (below_alloc (below_self W8) _)
      rw [hX9]
      clear hX9
      clear d4 l4
      have bX := below_trans HF.out.2 b9
      have hFX := msgs_of_blk (blk_below HF.out.1 b9) (show WR.heap.size < X9.heap.size by have := blk_lt HF.out.1; omega)
      have HF := Lib.hid (And.intro H9 (And.intro hFX bX))
      clear H9 hFX
      refine (deliver_ok (some ⟨g, 0, none⟩) 3 3 3 [mA, mB, mC] X9 rfl (by omega) (by omega) (HX.out.2.2.later bX)).mono ?_
      clear bX b9 s9
      rintro e V1 ⟨v, rfl, ho, hb⟩
      rw [show delE [mA, mB, mC] 3 = 2 by decide, show delM [mA, mB, mC] 3 = zeroMsg by decide]
      rcases owns_shape ho with ⟨a1, c1, rfl, _, _⟩
      have B1 := Lib.hid hb
      clear ho hb
      generalize (delL [mA, mB, mC] 3).length = q1
      go_wp2_with fail
      obtain ⟨V2, hV2⟩ : ∃ W' : World, ((V1.alloc (.cells zeroMsg.cells.toArray 34)).alloc (.cells #[.slice a1 q1 c1] 24)) = W' := ⟨_, rfl⟩
      have H0 : Has V2 [(V1.heap.size + 1, .cells #[.slice a1 q1 c1] 24 (0, 0)), (V1.heap.size, .cells zeroMsg.cells.toArray 34 (0, 0))] := by rw [← hV2]; simpa using (((Has.nil V1).new _).new _)
      have s0 : V2.heap.size = V1.heap.size + 1 + 1 := by rw [← hV2]; simp
      have b0 : Below V1.heap.size V1 V2 := by rw [← hV2]; exact (below_alloc (below_alloc (below_self V1) _) _)
      rw [hV2]
      clear hV2
      have B2 := Lib.hid (below_trans B1.out b0)
      clear B1 H0 s0 b0
      refine (lose_ok none 0 0 0 [] V2 rfl (by omega) (by omega) (RowsAt.nil _ _ _ _)).mono ?_
      rintro e V3 ⟨v, rfl, ho, hb⟩
      rw [show delE [] 0 = 2 by decide]
      rcases owns_shape ho with ⟨a2, c2, rfl, _, _⟩
      have hb := below_trans B2.out hb
      have d14 := blk_one (HF.out.1.below hb).hd
      have l14 : W8.heap.size < V3.heap.size := blk_lt (HF.out.1.below hb).hd
      have B3 := Lib.hid hb
      clear B2 ho hb
      generalize (delL [] 0).length = q2
      go_wp2_with fail
      have hb := below_trans B3.out (below_alloc (below_self V3) (.cells #[.slice a2 q2 c2] 24))
      generalize V3.alloc _ = V4 at hb ⊢
      clear d14 l14
      have B4 := Lib.hid hb
      clear hb B3
      refine (repeat_ok (some ⟨WR.heap.size, 0, none⟩) 40 40 40 (List.replicate 40 zeroMsg) V4 rfl (by omega) (HF.out.2.1.later B4.out)).mono ?_
      rintro e V5 ⟨v, rfl, ho, hb⟩
      rw [show repE (List.replicate 40 zeroMsg) 40 = 2 by decide]
      rcases owns_shape ho with ⟨a3, c3, rfl, _, _⟩
      have hb := below_trans B4.out hb
      have d14 := blk_one (HF.out.1.below hb).hd
      have l14 : W8.heap.size < V5.heap.size := blk_lt (HF.out.1.below hb).hd
      have B5 := Lib.hid hb
      clear B4 ho hb
      generalize (repL (List.replicate 40 zeroMsg) 40).length = q3
      go_wp2_with fail
      have hb := below_trans B5.out (below_alloc (below_self V5) (.cells #[.slice a3 q3 c3] 24))
      generalize V5.alloc _ = V6 at hb ⊢
      clear d14 l14
      have B6 := Lib.hid hb
      clear hb B5
      refine (repeat_ok (some ⟨WR.heap.size, 0, none⟩) 40 40 0 (List.replicate 40 zeroMsg) V6 rfl (by omega) (HF.out.2.1.later B6.out)).mono ?_
      rintro e V7 ⟨v, rfl, ho, hb⟩
      rw [show repE (List.replicate 40 zeroMsg) 0 = 9 by decide]
      rcases owns_shape ho with ⟨a4, c4, rfl, _, _⟩
      have hb := below_trans B6.out hb
      have d14 := blk_one (HF.out.1.below hb).hd
      have l14 : W8.heap.size < V7.heap.size := blk_lt (HF.out.1.below hb).hd
      have hx := HX.out.1.below (below_trans HF.out.2.2 hb)
      obtain ⟨A0, A1, A2, A3, A4, A5, A6, A7, A8⟩ := blk_msg hx.tl.tl.tl.tl.hd
      have lA : sA < V7.heap.size := blk_lt hx.tl.tl.tl.tl.hd
      have B7 := Lib.hid hb
      clear B6 ho hb hx
      generalize (repL (List.replicate 40 zeroMsg) 0).length = q4
      go_wp2_with fail
      have hb := below_trans B7.out (below_alloc (below_self V7) (.cells #[.slice a4 q4 c4] 24))
      generalize V7.alloc _ = V8 at hb ⊢
      clear d14 l14 lA A0 A1 A2 A3 A4 A5 A6 A7 A8
      have B8 := Lib.hid hb
      clear hb B7
      refine (send_ok (some ⟨WR.heap.size, 0, none⟩) 40 40 (List.replicate 40 zeroMsg) mA V8 rfl (by omega) (HF.out.2.1.later B8.out)).mono ?_
      rintro e V9 ⟨v, rfl, ho, hb⟩
      rw [show sendE (List.replicate 40 zeroMsg) = 9 by decide]
      rcases owns_shape ho with ⟨a5, c5, rfl, _, _⟩
      have hb := below_trans B8.out hb
      have hx := HX.out.1.below (below_trans HF.out.2.2 hb)
      have d4 := blk_one hx.hd
      have l4 : g + 1 < V9.heap.size := blk_lt hx.hd
      have B9 := Lib.hid hb
      clear B8 ho hb hx
      generalize (sendL (List.replicate 40 zeroMsg) mA).length = q5
      go_wp2_with fail
      have hb := below_trans B9.out (below_alloc (below_self V9) (.cells #[.slice a5 q5 c5] 24))
      generalize V9.alloc _ = V10 at hb ⊢
      clear d4 l4
      have B10 := Lib.hid hb
      clear hb B9
      refine (deliver_ok (some ⟨g, 0, none⟩) 3 3 (-1) [mA, mB, mC] V10 rfl (by omega) (by omega) (HX.out.2.2.later (below_trans HF.out.2.2 B10.out))).mono ?_
      rintro e V11 ⟨v, rfl, ho, hb⟩
      rw [show delE [mA, mB, mC] (-1) = 2 by decide, show delM [mA, mB, mC] (-1) = zeroMsg by decide]
      rcases owns_shape ho with ⟨a6, c6, rfl, _, _⟩
      have hb := below_trans B10.out hb
      have B11 := Lib.hid hb
      clear B10 ho hb
      generalize (delL [mA, mB, mC] (-1)).length = q6
      go_wp2_with fail
      obtain ⟨V12, hV12⟩ : ∃ W' : World, ((V11.alloc (.cells zeroMsg.cells.toArray 34)).alloc (.cells #[.slice a6 q6 c6] 24)) = W' := ⟨_, rfl⟩
      have H0 : Has V12 [(V11.heap.size + 1, .cells #[.slice a6 q6 c6] 24 (0, 0)), (V11.heap.size, .cells zeroMsg.cells.toArray 34 (0, 0))] := by rw [← hV12]; simpa using (((Has.nil V11).new _).new _)
      have s0 : V12.heap.size = V11.heap.size + 1 + 1 := by rw [← hV12]; simp
      have b0 : Below V11.heap.size V11 V12 := by rw [← hV12]; exact (below_alloc (below_alloc (below_self V11) _) _)
      rw [hV12]
      clear hV12
      have B12 := Lib.hid (below_trans B11.out b0)
      clear B11 H0 s0 b0
      refine (lives_ok V12).mono ?_
      rintro e V13 ⟨rfl, hb⟩
      have HZ := Lib.hid (below_trans HX.out.2.1 (below_trans HF.out.2.2 (below_trans B12.out hb)))
      clear B12 hb
      go_wp2
      go_ret
      exact ⟨rfl, HZ.out⟩
end Go.Proofs.Ytkfoclibejpbdaa
