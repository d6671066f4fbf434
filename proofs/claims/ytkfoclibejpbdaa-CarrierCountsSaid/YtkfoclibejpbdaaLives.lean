/- Chapter 25: the example of the chapter. -/
import Derived.Test.YtkfoclibejpbdaaRef2
namespace Go.Proofs.Ytkfoclibejpbdaa
open Go Go.RowKit

abbrev mA : Msg := ⟨-1, 0, 0, 0, 0, 0, 0, 1, 1⟩
abbrev mB : Msg := ⟨2, 2, 9, 0, 0, 0, 0, 0, 0⟩
abbrev mC : Msg := ⟨-1, 0, 0, 0, 0, 0, 0, 0, 0⟩

/-- A row of messages in a block of its own. -/
theorem msgs_of_blk {W : World} {k n : Nat} {ms : List Msg} {fr : Nat × Nat} (h : W.heap[k]? = some (.cells (flatMs ms).toArray 34 fr)) (hn : k < n) : MsgsAt n W (some ⟨k, 0, none⟩) ms := by
  intro i r hr
  refine ⟨k, 0, rfl, hn, fun j v hv => ?_⟩
  have := flat_get 9 (rowsOf ms) (rowsOf_nine ms) i r hr j v hv
  rw [blk_cell h, Nat.zero_add]
  simpa [flatMs] using this

set_option maxRecDepth 100000 in
set_option maxHeartbeats 2000000 in
theorem lives_ok (w : World) : Calls Try.prog 15 #[] w fun e W' => e = .returned (.bool true) ∧ Below w.heap.size w W' := by
  go_enter Try.func15, Try.ntmps15
  go_wp2_with fail
  refine (three_ok _).mono ?_
  rintro e W1 ⟨rfl, b1⟩
  have B1 := Lib.hid b1; clear b1
  go_wp2_with fail
  generalize hX : World.alloc (World.alloc (World.alloc (World.alloc W1 _) _) _) _ = X
  have h2 : Has X [(W1.heap.size + 1 + 1 + 1, .cells (flatMs [mA, mB]).toArray 34 (0, 0)), (W1.heap.size + 1 + 1, .cells mC.cells.toArray 34 (0, 0)), (W1.heap.size + 1, .cells mB.cells.toArray 34 (0, 0)), (W1.heap.size, .cells mA.cells.toArray 34 (0, 0))] := by
    rw [← hX]; simpa [flatMs, rowsOf] using ((((Has.nil W1).new _).new _).new _).new _
  have hX1 : Below W1.heap.size W1 X := by rw [← hX]; exact below_alloc (below_alloc (below_alloc (below_alloc (below_self _) _) _) _) _
  have hX2 : X.heap.size = W1.heap.size + 1 + 1 + 1 + 1 := by rw [← hX]; simp
  clear hX
  refine (send_ok _ 2 2 [mA, mB] mC X rfl (by omega) (msgs_of_blk h2.hd (by omega))).mono ?_
  rintro e W2 ⟨v, rfl, ho, hb⟩
  have hsl : sendL [mA, mB] mC = [mA, mB, mC] := by decide
  have hse : sendE [mA, mB] = 0 := by decide
  rw [hsl] at ho
  rw [hse]
  obtain ⟨a2, cap2, rfl, hm2⟩ := ho.msgs
  have h3 := h2.tl.below hb
  have hs2 := hb.size
  have HX := Lib.hid (And.intro h3 (And.intro ho (And.intro (below_trans (below_trans B1.out hX1) hb) (And.intro hm2 hX2))))
  have hl2 : [mA, mB, mC].length = 3 := rfl
  rw [hl2] at HX ⊢
  clear h2 h3 hX1 hX2 hb ho hm2 hsl hse hl2 B1
  go_wp2_with fail
  have hcap : 3 ≤ cap2 := by obtain ⟨_, _, he, h1, _⟩ := owns_shape HX.out.2.1; cases he; exact h1
  have b3 := below_alloc (below_self W2) (.cells #[.slice a2 3 cap2] 24)
  refine (deliver_ok a2 3 cap2 1 [mA, mB, mC] _ rfl (by omega) hcap (HX.out.2.2.2.1.later b3)).mono ?_
  rintro e W3 ⟨v, rfl, ho, hb⟩
  have e1 : delM [mA, mB, mC] 1 = mB := by decide
  have e2 : delL [mA, mB, mC] 1 = [mA, mC] := by decide
  have e3 : delE [mA, mB, mC] 1 = 0 := by decide
  rw [e1, e3]
  rw [e2] at ho
  obtain ⟨a3, cap3, rfl, hm3⟩ := ho.msgs
  have hl2 : [mA, mC].length = 2 := rfl
  rw [hl2] at ho ⊢
  have h3 := (HX.out.1.alloc (.cells #[.slice a2 3 cap2] 24)).below hb
  have w3 := below_trans (below_trans HX.out.2.2.1 b3) hb
  have hs3 := hb.size
  simp only [World.size_alloc] at hs3
  have hx2 := HX.out.2.2.2.2
  have s1 : W1.heap.size < W3.heap.size := by omega
  have s2 : W1.heap.size + 1 < W3.heap.size := by omega
  have s3 : W1.heap.size + 1 + 1 < W3.heap.size := by omega
  obtain ⟨A0, A1, A2, A3, A4, A5, A6, A7, A8⟩ := blk_msg h3.tl.tl.hd
  obtain ⟨B0, B1, B2, B3, B4, B5, B6, B7, B8⟩ := blk_msg h3.tl.hd
  obtain ⟨C0, C1, C2, C3, C4, C5, C6, C7, C8⟩ := blk_msg h3.hd
  have HY := Lib.hid (And.intro w3 hm3)
  have HA := Lib.hid (Has.cons h3.tl.tl.hd (Has.nil W3))
  clear hx2 h3 w3 hb ho hm3 e1 e2 e3 hl2 b3 hcap HX hs2 hs3
  have heq := eq34 mB mB
  have hg := guard34
  go_wp2_with fail
  generalize hX : World.alloc (World.alloc (World.alloc W3 _) _) _ = X4
  have hA : Has W3 [(W1.heap.size, .cells mA.cells.toArray 34 (0, 0))] := HA.out
  have h4 : Has X4 [(W3.heap.size + 1 + 1, .cells (flatMs [mA, mC]).toArray 34 (0, 0)), (W3.heap.size + 1, .cells #[.slice a3 2 cap3] 24 (0, 0)), (W3.heap.size, .cells mB.cells.toArray 34 (0, 0)), (W1.heap.size, .cells mA.cells.toArray 34 (0, 0))] := by
    rw [← hX]; simpa [flatMs, rowsOf] using ((hA.new _).new _).new _
  have hX1 : Below W3.heap.size W3 X4 := by rw [← hX]; exact below_alloc (below_alloc (below_alloc (below_self _) _) _) _
  have hX2 : X4.heap.size = W3.heap.size + 1 + 1 + 1 := by rw [← hX]; simp
  clear hX A0 A1 A2 A3 A4 A5 A6 A7 A8 B0 B1 B2 B3 B4 B5 B6 B7 B8 C0 C1 C2 C3 C4 C5 C6 C7 C8
  refine (same_ok a3 _ 2 2 cap3 2 [mA, mC] [mA, mC] X4 rfl rfl (by omega) (by omega) (HY.out.2.later hX1) (msgs_of_blk h4.hd (by omega))).mono ?_
  rintro e W5 ⟨rfl, hb5⟩
  rw [decide_eq_true rfl]
  have h5 := h4.tl.below hb5
  have w5 := below_trans (below_trans HY.out.1 hX1) hb5
  have hm5 := (HY.out.2.later hX1).later hb5
  have c0 := blk_one h5.hd
  obtain ⟨A0, A1, A2, A3, A4, A5, A6, A7, A8⟩ := blk_msg h5.tl.tl.hd
  have HZ := Lib.hid (And.intro w5 hm5)
  clear h4 h5 hA hX1 hX2 hb5 w5 hm5 HY HA s1 s2 s3
  go_wp2_with fail
  refine (count_ok a3 2 cap3 [mA, mC] mA W5 rfl (by omega) HZ.out.2).mono ?_
  rintro e W6 ⟨rfl, hb6⟩
  have hc : ([mA, mC].count mA : Int) = 1 := by decide
  rw [hc]
  have HW := Lib.hid (below_trans HZ.out.1 hb6)
  clear hb6 hc c0 A0 A1 A2 A3 A4 A5 A6 A7 A8
  go_wp2
  go_ret
  exact ⟨rfl, HW.out⟩
end Go.Proofs.Ytkfoclibejpbdaa
