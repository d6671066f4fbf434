/- Chapter 25: the reference's Deliver and Repeat. -/
import Derived.Test.YtkfoclibejpbdaaRef
namespace Go.Proofs.Ytkfoclibejpbdaa
open Go Go.RowKit
attribute [local go_sem ↓] Go.wp_at_zero Go.wp_at_succ

set_option maxRecDepth 100000 in
set_option maxHeartbeats 2000000 in
theorem deliver_ref (a : Option Addr) (n cap : Nat) (p : Int) (ms : List Msg) (w : World) (hn : ms.length = n) (hl : n ≤ 1000000) (hm : MsgsAt w.heap.size w a ms) :
    Calls Try.prog 17 #[.agg #[.slice a n cap], .int .i64 p] w fun e W' => ∃ v, e = .returned (.tuple #[(delM ms p).val, .agg #[v], .int .i64 (delE ms p)]) ∧ OwnMs w.heap.size W' v (delL ms p) ∧ Below w.heap.size w W' := by
  have Hn := Lib.hid hn
  have Hm := Lib.hid hm
  cases hin : inside p n with
  | false =>
    have e1 : delM ms p = zeroMsg := by unfold delM; rw [hn, hin]; rfl
    have e2 : delL ms p = [] := by unfold delL; rw [hn, hin]; rfl
    have e3 : delE ms p = 2 := by unfold delE; rw [hn, hin]; rfl
    have E2 := Lib.hid e2
    have E3 := Lib.hid e3
    rw [e1, e2, e3]
    have Hin := Lib.hid hin
    clear e1 e2 e3 hn hm hin
    go_enter Try.func17, Try.ntmps17
    go_wp2_with fail
    obtain ⟨W1, hW1⟩ : ∃ W' : World, (((w.alloc (.cells #[.slice a n cap] 24)).alloc (.cells #[.int .i64 0, .int .i64 0, .int .i64 0, .int .u8 0, .int .i64 0, .int .i64 0, .int .i64 0, .int .i64 0, .int .u8 0] 34)).alloc (.cells #[.slice none 0 0] 24)) = W' := ⟨_, rfl⟩
    have H1 : Has W1 [(w.heap.size + 1 + 1, .cells #[.slice none 0 0] 24 (0, 0)), (w.heap.size + 1, .cells #[.int .i64 0, .int .i64 0, .int .i64 0, .int .u8 0, .int .i64 0, .int .i64 0, .int .i64 0, .int .i64 0, .int .u8 0] 34 (0, 0)), (w.heap.size, .cells #[.slice a n cap] 24 (0, 0))] := by rw [← hW1]; simpa using ((((Has.nil w).new _).new _).new _)
    have s1 : W1.heap.size = w.heap.size + 1 + 1 + 1 := by rw [← hW1]; simp
    have b1 : Below w.heap.size w W1 := by rw [← hW1]; exact (below_alloc (below_alloc (below_alloc (below_self w) _) _) _)
    rw [hW1]
    clear hW1
    refine (lose_ref a n cap p ms W1 Hn.out hl (Hm.out.later b1)).mono ?_
    rintro e W2 ⟨v, rfl, ho, hb⟩
    rw [E3.out]
    rw [E2.out] at ho
    obtain ⟨a2, cap2, rfl, _⟩ := ho.msgs
    have h2 := H1.below hb
    have w2 := below_trans b1 hb
    have s2 := hb.size
    have c0 := blk_one h2.hd
    have f0 := blk_frozen h2.hd 0
    have m0 := blk_cell h2.tl.hd 0
    have m1 := blk_cell h2.tl.hd 1
    have m2 := blk_cell h2.tl.hd 2
    have m3 := blk_cell h2.tl.hd 3
    have m4 := blk_cell h2.tl.hd 4
    have m5 := blk_cell h2.tl.hd 5
    have m6 := blk_cell h2.tl.hd 6
    have m7 := blk_cell h2.tl.hd 7
    have m8 := blk_cell h2.tl.hd 8
    simp at m0 m1 m2 m3 m4 m5 m6 m7 m8
    have mf := blk_frozen h2.tl.hd
    have W := Lib.hid w2
    have l0 : w.heap.size + 1 + 1 < W2.heap.size := by omega
    have l1 : w.heap.size + 1 < W2.heap.size := by omega
    clear h2 w2 H1 b1 hb ho s1 s2
    go_wp2
    refine bodyPost_ret (v := .tuple #[zeroMsg.val, .agg #[.slice none 0 0], .int .i64 2]) (by simp [results, Try.results17, go_sem, m0, m1, m2, m3, m4, m5, m6, m7, m8, c0, zeroMsg, l0, l1, World.cell?_alloc_lt]) rfl ⟨_, rfl, OwnMs.nil _ _, ?_⟩
    repeat (first | with_reducible exact W.out | with_reducible refine Below.setCell ?_ (by simp; try omega) _ | with_reducible refine Below.alloc ?_ (by simp; omega) _)
  | true =>
    have e1 : delM ms p = ms.getD p.toNat default := by unfold delM; rw [hn, hin]; rfl
    have e3 : delE ms p = 0 := by unfold delE; rw [hn, hin]; rfl
    rw [e1, e3]
    have E3 := Lib.hid e3
    have hr : 0 ≤ p ∧ p < n := by unfold inside at hin; simpa using hin
    obtain ⟨k, rfl⟩ := Int.eq_ofNat_of_zero_le hr.1
    rw [Int.toNat_natCast]
    have hk : k < n := by omega
    obtain ⟨b, off, rfl, hb, hc⟩ := hm.at' k (by omega)
    generalize ms.getD k default = x at *
    clear e1 e3 hn hm hin hr
    go_enter Try.func17, Try.ntmps17
    go_wp2_with fail
    obtain ⟨W1, hW1⟩ : ∃ W' : World, (((w.alloc (.cells #[.slice (some ⟨b, off, none⟩) n cap] 24)).alloc (.cells #[.int .i64 0, .int .i64 0, .int .i64 0, .int .u8 0, .int .i64 0, .int .i64 0, .int .i64 0, .int .i64 0, .int .u8 0] 34)).alloc (.cells #[.slice none 0 0] 24)) = W' := ⟨_, rfl⟩
    have H1 : Has W1 [(w.heap.size + 1 + 1, .cells #[.slice none 0 0] 24 (0, 0)), (w.heap.size + 1, .cells #[.int .i64 0, .int .i64 0, .int .i64 0, .int .u8 0, .int .i64 0, .int .i64 0, .int .i64 0, .int .i64 0, .int .u8 0] 34 (0, 0)), (w.heap.size, .cells #[.slice (some ⟨b, off, none⟩) n cap] 24 (0, 0))] := by rw [← hW1]; simpa using ((((Has.nil w).new _).new _).new _)
    have s1 : W1.heap.size = w.heap.size + 1 + 1 + 1 := by rw [← hW1]; simp
    have b1 : Below w.heap.size w W1 := by rw [← hW1]; exact (below_alloc (below_alloc (below_alloc (below_self w) _) _) _)
    rw [hW1]
    clear hW1
    refine (lose_ref (some ⟨b, off, none⟩) n cap k ms W1 Hn.out hl (Hm.out.later b1)).mono ?_
    rintro e W2 ⟨v, rfl, ho, hb2⟩
    rw [E3.out]
    generalize hL : delL ms (k : Int) = L at *
    have HL := Lib.hid hL; clear hL
    obtain ⟨a2, cap2, rfl, _⟩ := ho.msgs
    have h2 := H1.below hb2
    have w2 := below_trans b1 hb2
    obtain ⟨hc0, hc1, hc2, hc3, hc4, hc5, hc6, hc7, hc8⟩ := hc
    have hcells : MsgCells W2 b (off + k * 9) x := ⟨cell_call w2 hb hc0, cell_call w2 hb hc1, cell_call w2 hb hc2, cell_call w2 hb hc3, cell_call w2 hb hc4, cell_call w2 hb hc5, cell_call w2 hb hc6, cell_call w2 hb hc7, cell_call w2 hb hc8⟩
    clear hc0 hc1 hc2 hc3 hc4 hc5 hc6 hc7 hc8
    obtain ⟨hc0, hc1, hc2, hc3, hc4, hc5, hc6, hc7, hc8⟩ := hcells
    have s2 : w.heap.size + 1 + 1 < W2.heap.size := by have := hb2.size; omega
    have s3 : w.heap.size + 1 < W2.heap.size := by omega
    have s4 : w.heap.size < W2.heap.size := by omega
    have hbs : b < W2.heap.size := by omega
    have C0 := blk_one h2.tl.tl.hd
    have D0 := blk_one h2.hd
    have F0 := blk_frozen h2.hd 0
    have M0 := blk_cell h2.tl.hd 0
    have M1 := blk_cell h2.tl.hd 1
    have M2 := blk_cell h2.tl.hd 2
    have M3 := blk_cell h2.tl.hd 3
    have M4 := blk_cell h2.tl.hd 4
    have M5 := blk_cell h2.tl.hd 5
    have M6 := blk_cell h2.tl.hd 6
    have M7 := blk_cell h2.tl.hd 7
    have M8 := blk_cell h2.tl.hd 8
    simp at M0 M1 M2 M3 M4 M5 M6 M7 M8
    have MF := blk_frozen h2.tl.hd
    have HX := Lib.hid (And.intro w2 (ho.base (by omega : w.heap.size + 1 + 1 + 1 ≤ W1.heap.size)))
    clear h2 w2 H1 s1 b1 hb2 ho
    have hk0 : (0 : Int) ≤ (k : Int) := by omega
    have hk1 : (k : Int) < (n : Int) := by omega
    have htn : (k : Int).toNat = k := by omega
    go_wp2
    go_region_with (fail)
    all_goals go_wp2
    all_goals
      refine bodyPost_ret (v := .tuple #[x.val, .agg #[.slice a2 L.length cap2], .int .i64 0]) (by simp [results, Try.results17, go_sem, s2, s3, World.cell?_alloc_lt, D0, M0, M1, M2, M3, M4, M5, M6, M7, M8]) rfl ⟨_, rfl, ?_, ?_⟩
      · rw [HL.out]
        refine OwnMs.base (b := w.heap.size + 1 + 1 + 1) ?_ (by omega)
        repeat (first | with_reducible exact HX.out.2 | with_reducible refine OwnMs.set ?_ (by simp; try omega) _ | with_reducible refine OwnMs.alloc ?_ _ | with_reducible refine OwnMs.drew ?_)
      · repeat (first | with_reducible exact HX.out.1 | with_reducible exact HX.out.1.drew | with_reducible refine Below.drew ?_ | with_reducible refine Below.setCell ?_ (by simp; try omega) _ | with_reducible refine Below.alloc ?_ (by simp; omega) _)

set_option maxRecDepth 100000 in
set_option maxHeartbeats 1000000 in
theorem repeat_ref (a : Option Addr) (n cap : Nat) (p : Int) (ms : List Msg) (w : World) (hn : ms.length = n) (hl : n ≤ 1000000) (hnone : a = none → n = 0 ∧ cap = 0) (hm : MsgsAt w.heap.size w a ms) :
    Calls Try.prog 23 #[.agg #[.slice a n cap], .int .i64 p] w fun e W' => ∃ v, e = .returned (.tuple #[.agg #[v], .int .i64 (repE ms p)]) ∧ OwnMs w.heap.size W' v (repL ms p) ∧ Below w.heap.size w W' := by
  have Hn := Lib.hid hn
  have Hm := Lib.hid hm
  cases hin : inside p n with
  | false =>
    have e2 : repL ms p = [] := by unfold repL; rw [hn, hin]; rfl
    have e3 : repE ms p = 2 := by unfold repE; rw [hn, hin]; rfl
    rw [e2, e3]
    have Hin := Lib.hid hin
    clear e2 e3 hn hm hin hnone
    go_enter Try.func23, Try.ntmps23
    go_wp2_with fail
    obtain ⟨W1, hW1⟩ : ∃ W' : World, ((w.alloc (.cells #[.slice a n cap] 24)).alloc (.cells #[.slice none 0 0] 24)) = W' := ⟨_, rfl⟩
    have H1 : Has W1 [(w.heap.size + 1, .cells #[.slice none 0 0] 24 (0, 0)), (w.heap.size, .cells #[.slice a n cap] 24 (0, 0))] := by rw [← hW1]; simpa using (((Has.nil w).new _).new _)
    have s1 : W1.heap.size = w.heap.size + 1 + 1 := by rw [← hW1]; simp
    have b1 : Below w.heap.size w W1 := by rw [← hW1]; exact (below_alloc (below_alloc (below_self w) _) _)
    rw [hW1]
    clear hW1
    refine (there_ok _ _ _ _ _ (by omega)).mono ?_
    rintro e W2 ⟨rfl, hb⟩
    have h2 := H1.below hb
    have w2 := below_trans b1 hb
    have c0 := blk_one h2.hd
    have f0 := blk_frozen h2.hd 0
    rw [Hin.out]
    have W := Lib.hid w2
    clear h2 w2 H1 s1 b1 hb
    go_wp2
    refine bodyPost_ret (v := .tuple #[.agg #[.slice none 0 0], .int .i64 2]) (by simp [results, Try.results23, go_sem, c0]) rfl ⟨_, rfl, OwnMs.nil _ _, ?_⟩
    exact W.out.setCell (by simp) _
  | true =>
    have e2 : repL ms p = sendL ms (ms.getD p.toNat default) := by unfold repL; rw [hn, hin]; rfl
    have e3 : repE ms p = sendE ms := by unfold repE; rw [hn, hin]; rfl
    rw [e2, e3]
    have hr : 0 ≤ p ∧ p < n := by unfold inside at hin; simpa using hin
    obtain ⟨k, rfl⟩ := Int.eq_ofNat_of_zero_le hr.1
    rw [Int.toNat_natCast]
    have hk : k < n := by omega
    have Hin := Lib.hid hin
    obtain ⟨b, off, rfl, hb, hc⟩ := hm.at' k (by omega)
    generalize ms.getD k default = x at *
    clear e2 e3 hn hm hin hr hnone
    go_enter Try.func23, Try.ntmps23
    go_wp2_with fail
    obtain ⟨W1, hW1⟩ : ∃ W' : World, ((w.alloc (.cells #[.slice (some ⟨b, off, none⟩) n cap] 24)).alloc (.cells #[.slice none 0 0] 24)) = W' := ⟨_, rfl⟩
    have H1 : Has W1 [(w.heap.size + 1, .cells #[.slice none 0 0] 24 (0, 0)), (w.heap.size, .cells #[.slice (some ⟨b, off, none⟩) n cap] 24 (0, 0))] := by rw [← hW1]; simpa using (((Has.nil w).new _).new _)
    have s1 : W1.heap.size = w.heap.size + 1 + 1 := by rw [← hW1]; simp
    have b1 : Below w.heap.size w W1 := by rw [← hW1]; exact (below_alloc (below_alloc (below_self w) _) _)
    rw [hW1]
    clear hW1
    refine (there_ok _ _ _ _ _ (by omega)).mono ?_
    rintro e W2 ⟨rfl, hb2⟩
    rw [Hin.out]
    have h2 := H1.below hb2
    have w2 := below_trans b1 hb2
    obtain ⟨hc0, hc1, hc2, hc3, hc4, hc5, hc6, hc7, hc8⟩ := hc
    have hcells : MsgCells W2 b (off + k * 9) x := ⟨cell_call w2 hb hc0, cell_call w2 hb hc1, cell_call w2 hb hc2, cell_call w2 hb hc3, cell_call w2 hb hc4, cell_call w2 hb hc5, cell_call w2 hb hc6, cell_call w2 hb hc7, cell_call w2 hb hc8⟩
    clear hc0 hc1 hc2 hc3 hc4 hc5 hc6 hc7 hc8
    obtain ⟨hc0, hc1, hc2, hc3, hc4, hc5, hc6, hc7, hc8⟩ := hcells
    have hm2 := Hm.out.later w2
    have s2 := hb2.size
    have C0 := blk_one h2.tl.hd
    have HX := Lib.hid (And.intro h2 (And.intro w2 hm2))
    have l1 : w.heap.size + 1 < W2.heap.size := by omega
    clear h2 w2 H1 b1 hb2 hm2
    have hk0 : (0 : Int) ≤ (k : Int) := by omega
    have hk1 : (k : Int) < (n : Int) := by omega
    have htn : (k : Int).toNat = k := by omega
    have D0 := blk_one HX.out.1.hd
    have F0 := blk_frozen HX.out.1.hd 0
    have hm3 : Hid (MsgsAt W2.drew.heap.size W2.drew (some ⟨b, off, none⟩) ms) := HX.out.2.2
    go_wp2
    go_region_with (go_at_call 21; refine (send_ref _ _ _ ms x W2.drew Hn.out (by omega) (fun h => by cases h) hm3.out).mono ?_; rintro e W3 ⟨v3, rfl, ho3, hb3⟩; obtain ⟨a3, cap3, rfl, _⟩ := ho3.msgs; have HO3 := Lib.hid ho3; clear ho3; obtain ⟨q1, q2⟩ := bcell hb3; have d0 := (q1 (w.heap.size + 1) 0 (by simp; omega)).trans D0; have df := (q2 (w.heap.size + 1) 0 (by simp; omega)).trans F0; clear q1 q2)
    all_goals go_wp2
    all_goals
      refine bodyPost_ret (v := .tuple #[.agg #[.slice a3 (sendL ms x).length cap3], .int .i64 (sendE ms)]) (by simp [results, Try.results23, go_sem, d0]) rfl ⟨_, rfl, ?_, ?_⟩
      · have hz := HX.out.2.1.size
        exact (HO3.out.set (by simp; omega) _).base (by simp; omega)
      · have hB : Below w.heap.size w W3 := HX.out.2.1.drew.trans (hb3.mono HX.out.2.1.size)
        exact hB.setCell (by simp) _

theorem three_ok (w : World) :
    Calls Try.prog 24 #[] w fun e W' => e = .returned (.tuple #[(⟨-1, 0, 0, 0, 0, 0, 0, 1, 1⟩ : Msg).val, (⟨2, 2, 9, 0, 0, 0, 0, 0, 0⟩ : Msg).val, (⟨-1, 0, 0, 0, 0, 0, 0, 0, 0⟩ : Msg).val]) ∧ Below w.heap.size w W' := by
  go_enter Try.func24, Try.ntmps24
  go_wp2
  refine bodyPost_ret (v := .tuple #[(⟨-1, 0, 0, 0, 0, 0, 0, 1, 1⟩ : Msg).val, (⟨2, 2, 9, 0, 0, 0, 0, 0, 0⟩ : Msg).val, (⟨-1, 0, 0, 0, 0, 0, 0, 0, 0⟩ : Msg).val]) (by simp [results, Try.results24, go_sem]) rfl ⟨rfl, ?_⟩
  exact below_alloc (below_alloc (below_alloc (below_self w) _) _) _
end Go.Proofs.Ytkfoclibejpbdaa
