/- Chapter 25: Lose, Repeat (program); the reference's Lose, Deliver, Repeat, Waiting. -/
import Derived.Test.YtkfoclibejpbdaaDel
namespace Go.Proofs.Ytkfoclibejpbdaa
open Go Go.RowKit
attribute [local go_sem ↓] Go.wp_at_zero Go.wp_at_succ

theorem lose_ok (a : Option Addr) (n cap : Nat) (p : Int) (ms : List Msg) (w : World) (hn : ms.length = n) (hl : n ≤ 1000000) (hcap : n ≤ cap) (hm : MsgsAt w.heap.size w a ms) :
    Calls Try.prog 18 #[.agg #[.slice a n cap], .int .i64 p] w fun e W' => ∃ v, e = .returned (.tuple #[.agg #[v], .int .i64 (delE ms p)]) ∧ OwnMs w.heap.size W' v (delL ms p) ∧ Below w.heap.size w W' := by
  have Hn := Lib.hid hn; clear hn
  have Hm := Lib.hid hm; clear hm
  go_enter Try.func18, Try.ntmps18
  go_wp2_with fail
  obtain ⟨W1, hW1⟩ : ∃ W' : World, ((w.alloc (.cells #[.slice a n cap] 24)).alloc (.cells #[.slice none 0 0] 24)) = W' := ⟨_, rfl⟩
  have H1 : Has W1 [(w.heap.size + 1, .cells #[.slice none 0 0] 24 (0, 0)), (w.heap.size, .cells #[.slice a n cap] 24 (0, 0))] := by rw [← hW1]; simpa using (((Has.nil w).new _).new _)
  have s1 : W1.heap.size = w.heap.size + 1 + 1 := by rw [← hW1]; simp
  have b1 : Below w.heap.size w W1 := by rw [← hW1]; exact (below_alloc (below_alloc (below_self w) _) _)
  rw [hW1]
  clear hW1
  refine (deliver_ok a n cap p ms W1 Hn.out hl hcap (Hm.out.later b1)).mono ?_
  rintro e W2 ⟨v, rfl, ho, hb⟩
  obtain ⟨a2, cap2, rfl, _⟩ := ho.msgs
  have h2 := H1.below hb
  have w2 := below_trans b1 hb
  have s2 := hb.size
  have c0 := blk_one h2.hd
  have f0 := blk_frozen h2.hd 0
  have HX := Lib.hid (And.intro w2 ho)
  have l1 : w.heap.size + 1 < W2.heap.size := by omega
  have l2 : w.heap.size < W2.heap.size := by omega
  clear h2 w2 H1 b1 hb ho
  generalize hk : (delL ms p).length = k at *
  have Hk := Lib.hid hk; clear hk
  go_wp2
  refine bodyPost_ret (v := .tuple #[.agg #[.slice a2 k cap2], .int .i64 (delE ms p)]) (by simp [results, Try.results18, go_sem, c0, World.cell?_alloc_lt, l1, Nat.lt_succ_of_lt l1]) rfl ⟨_, rfl, ?_, ?_⟩
  · exact (((HX.out.2.set (by simp; omega) _).alloc _).alloc _).base (by omega)
  · exact ((HX.out.1.setCell (by simp) _).alloc (by simp; omega) _).alloc (by simp; omega) _

def repE (ms : List Msg) (p : Int) : Int := if inside p ms.length = true then sendE ms else 2
def repL (ms : List Msg) (p : Int) : List Msg := if inside p ms.length = true then sendL ms (ms.getD p.toNat default) else []

set_option maxRecDepth 100000 in
set_option maxHeartbeats 1000000 in
theorem repeat_ok (a : Option Addr) (n cap : Nat) (p : Int) (ms : List Msg) (w : World) (hn : ms.length = n) (hl : n ≤ 1000000) (hm : MsgsAt w.heap.size w a ms) :
    Calls Try.prog 22 #[.agg #[.slice a n cap], .int .i64 p] w fun e W' => ∃ v, e = .returned (.tuple #[.agg #[v], .int .i64 (repE ms p)]) ∧ OwnMs w.heap.size W' v (repL ms p) ∧ Below w.heap.size w W' := by
  have Hn := Lib.hid hn
  have Hm := Lib.hid hm
  cases hin : inside p n with
  | false =>
    have e2 : repL ms p = [] := by unfold repL; rw [hn, hin]; rfl
    have e3 : repE ms p = 2 := by unfold repE; rw [hn, hin]; rfl
    rw [e2, e3]
    have Hin := Lib.hid hin
    clear e2 e3 hn hm hin
    go_enter Try.func22, Try.ntmps22
    go_wp2_with fail
    obtain ⟨W1, hW1⟩ : ∃ W' : World, ((w.alloc (.cells #[.slice a n cap] 24)).alloc (.cells #[.slice none 0 0] 24)) = W' := ⟨_, rfl⟩
    have H1 : Has W1 [(w.heap.size + 1, .cells #[.slice none 0 0] 24 (0, 0)), (w.heap.size, .cells #[.slice a n cap] 24 (0, 0))] := by rw [← hW1]; simpa using (((Has.nil w).new _).new _)
    have s1 : W1.heap.size = w.heap.size + 1 + 1 := by rw [← hW1]; simp
    have b1 : Below w.heap.size w W1 := by rw [← hW1]; exact (below_alloc (below_alloc (below_self w) _) _)
    rw [hW1]
    clear hW1
    refine (has_ok _ _ _ _ _ (by omega)).mono ?_
    rintro e W2 ⟨rfl, hb⟩
    have h2 := H1.below hb
    have w2 := below_trans b1 hb
    have c0 := blk_one h2.hd
    have f0 := blk_frozen h2.hd 0
    rw [Hin.out]
    have W := Lib.hid w2
    clear h2 w2 H1 s1 b1 hb
    go_wp2
    refine bodyPost_ret (v := .tuple #[.agg #[.slice none 0 0], .int .i64 2]) (by simp [results, Try.results22, go_sem, c0]) rfl ⟨_, rfl, OwnMs.nil _ _, ?_⟩
    exact W.out.setCell (by simp) _
  | true =>
    have e2 : repL ms p = sendL ms (ms.getD p.toNat default) := by unfold repL; rw [hn, hin]; rfl
    have e3 : repE ms p = sendE ms := by unfold repE; rw [hn, hin]; rfl
    rw [e2, e3]
    have hr : 0 ≤ p ∧ p < n := by unfold inside at hin; simpa using hin
    obtain ⟨k, rfl⟩ := Int.eq_ofNat_of_zero_le hr.1
    rw [Int.toNat_natCast]
    have hk : k < n := by omega
    have Hin := Lib.hid hin
    obtain ⟨b, off, rfl, hb, hc⟩ := hm.at' k (by omega)
    generalize ms.getD k default = x at *
    clear e2 e3 hn hm hin hr
    go_enter Try.func22, Try.ntmps22
    go_wp2_with fail
    obtain ⟨W1, hW1⟩ : ∃ W' : World, ((w.alloc (.cells #[.slice (some ⟨b, off, none⟩) n cap] 24)).alloc (.cells #[.slice none 0 0] 24)) = W' := ⟨_, rfl⟩
    have H1 : Has W1 [(w.heap.size + 1, .cells #[.slice none 0 0] 24 (0, 0)), (w.heap.size, .cells #[.slice (some ⟨b, off, none⟩) n cap] 24 (0, 0))] := by rw [← hW1]; simpa using (((Has.nil w).new _).new _)
    have s1 : W1.heap.size = w.heap.size + 1 + 1 := by rw [← hW1]; simp
    have b1 : Below w.heap.size w W1 := by rw [← hW1]; exact (below_alloc (below_alloc (below_self w) _) _)
    rw [hW1]
    clear hW1
    refine (has_ok _ _ _ _ _ (by omega)).mono ?_
    rintro e W2 ⟨rfl, hb2⟩
    rw [Hin.out]
    have h2 := H1.below hb2
    have w2 := below_trans b1 hb2
    obtain ⟨hc0, hc1, hc2, hc3, hc4, hc5, hc6, hc7, hc8⟩ := hc
    have hcells : MsgCells W2 b (off + k * 9) x := ⟨cell_call w2 hb hc0, cell_call w2 hb hc1, cell_call w2 hb hc2, cell_call w2 hb hc3, cell_call w2 hb hc4, cell_call w2 hb hc5, cell_call w2 hb hc6, cell_call w2 hb hc7, cell_call w2 hb hc8⟩
    clear hc0 hc1 hc2 hc3 hc4 hc5 hc6 hc7 hc8
    obtain ⟨hc0, hc1, hc2, hc3, hc4, hc5, hc6, hc7, hc8⟩ := hcells
    have hm2 := Hm.out.later w2
    have s2 := hb2.size
    have C0 := blk_one h2.tl.hd
    have HX := Lib.hid (And.intro h2 (And.intro w2 hm2))
    have l1 : w.heap.size + 1 < W2.heap.size := by omega
    clear h2 w2 H1 b1 hb2 hm2
    have hk0 : (0 : Int) ≤ (k : Int) := by omega
    have hk1 : (k : Int) < (n : Int) := by omega
    have htn : (k : Int).toNat = k := by omega
    have D0 := blk_one HX.out.1.hd
    have F0 := blk_frozen HX.out.1.hd 0
    have hm3 : Hid (MsgsAt W2.drew.heap.size W2.drew (some ⟨b, off, none⟩) ms) := HX.out.2.2
    go_wp2
    go_region_with (go_at_call 20; refine (send_ok _ _ _ ms x W2.drew Hn.out (by omega) hm3.out).mono ?_; rintro e W3 ⟨v3, rfl, ho3, hb3⟩; obtain ⟨a3, cap3, rfl, _⟩ := ho3.msgs; have HO3 := Lib.hid ho3; clear ho3; obtain ⟨q1, q2⟩ := bcell hb3; have d0 := (q1 (w.heap.size + 1) 0 (by simp; omega)).trans D0; have df := (q2 (w.heap.size + 1) 0 (by simp; omega)).trans F0; clear q1 q2)
    all_goals go_wp2
    all_goals
      refine bodyPost_ret (v := .tuple #[.agg #[.slice a3 (sendL ms x).length cap3], .int .i64 (sendE ms)]) (by simp [results, Try.results22, go_sem, d0]) rfl ⟨_, rfl, ?_, ?_⟩
      · have hz := HX.out.2.1.size
        exact (HO3.out.set (by simp; omega) _).base (by simp; omega)
      · have hB : Below w.heap.size w W3 := HX.out.2.1.drew.trans (hb3.mono HX.out.2.1.size)
        exact hB.setCell (by simp) _
end Go.Proofs.Ytkfoclibejpbdaa
