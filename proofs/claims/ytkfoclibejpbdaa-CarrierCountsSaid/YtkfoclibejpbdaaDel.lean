/- Chapter 25: Deliver, Lose (program). -/
import Derived.Test.YtkfoclibejpbdaaTake
namespace Go.Proofs.Ytkfoclibejpbdaa
open Go Go.RowKit
attribute [local go_sem ↓] Go.wp_at_zero Go.wp_at_succ

def zeroMsg : Msg := ⟨0, 0, 0, 0, 0, 0, 0, 0, 0⟩
def delM (ms : List Msg) (p : Int) : Msg := if inside p ms.length = true then ms.getD p.toNat default else zeroMsg
def delL (ms : List Msg) (p : Int) : List Msg := if inside p ms.length = true then drop1 ms p.toNat else []
def delE (ms : List Msg) (p : Int) : Int := if inside p ms.length = true then 0 else 2

set_option maxRecDepth 100000 in
set_option maxHeartbeats 2000000 in
theorem deliver_ok (a : Option Addr) (n cap : Nat) (p : Int) (ms : List Msg) (w : World) (hn : ms.length = n) (hl : n ≤ 1000000) (hcap : n ≤ cap) (hm : MsgsAt w.heap.size w a ms) :
    Calls Try.prog 16 #[.agg #[.slice a n cap], .int .i64 p] w fun e W' => ∃ v, e = .returned (.tuple #[(delM ms p).val, .agg #[v], .int .i64 (delE ms p)]) ∧ OwnMs w.heap.size W' v (delL ms p) ∧ Below w.heap.size w W' := by
  have Hn := Lib.hid hn
  have Hm := Lib.hid hm
  cases hin : inside p n with
  | false =>
    have e1 : delM ms p = zeroMsg := by unfold delM; rw [hn, hin]; rfl
    have e2 : delL ms p = [] := by unfold delL; rw [hn, hin]; rfl
    have e3 : delE ms p = 2 := by unfold delE; rw [hn, hin]; rfl
    rw [e1, e2, e3]
    have Hin := Lib.hid hin
    clear e1 e2 e3 hn hm hin
    go_enter Try.func16, Try.ntmps16
    go_wp2_with fail
    obtain ⟨W1, hW1⟩ : ∃ W' : World, (((w.alloc (.cells #[.slice a n cap] 24)).alloc (.cells #[.int .i64 0, .int .i64 0, .int .i64 0, .int .u8 0, .int .i64 0, .int .i64 0, .int .i64 0, .int .i64 0, .int .u8 0] 34)).alloc (.cells #[.slice none 0 0] 24)) = W' := ⟨_, rfl⟩
    have H1 : Has W1 [(w.heap.size + 1 + 1, .cells #[.slice none 0 0] 24 (0, 0)), (w.heap.size + 1, .cells #[.int .i64 0, .int .i64 0, .int .i64 0, .int .u8 0, .int .i64 0, .int .i64 0, .int .i64 0, .int .i64 0, .int .u8 0] 34 (0, 0)), (w.heap.size, .cells #[.slice a n cap] 24 (0, 0))] := by rw [← hW1]; simpa using ((((Has.nil w).new _).new _).new _)
    have s1 : W1.heap.size = w.heap.size + 1 + 1 + 1 := by rw [← hW1]; simp
    have b1 : Below w.heap.size w W1 := by rw [← hW1]; exact (below_alloc (below_alloc (below_alloc (below_self w) _) _) _)
    rw [hW1]
    clear hW1
    refine (has_ok _ _ _ _ _ (by omega)).mono ?_
    rintro e W2 ⟨rfl, hb⟩
    have h2 := H1.below hb
    have w2 := below_trans b1 hb
    have c0 := blk_one h2.hd
    have f0 := blk_frozen h2.hd 0
    have m0 := blk_cell h2.tl.hd 0
    have m1 := blk_cell h2.tl.hd 1
    have m2 := blk_cell h2.tl.hd 2
    have m3 := blk_cell h2.tl.hd 3
    have m4 := blk_cell h2.tl.hd 4
    have m5 := blk_cell h2.tl.hd 5
    have m6 := blk_cell h2.tl.hd 6
    have m7 := blk_cell h2.tl.hd 7
    have m8 := blk_cell h2.tl.hd 8
    simp at m0 m1 m2 m3 m4 m5 m6 m7 m8
    have mf := blk_frozen h2.tl.hd
    rw [Hin.out]
    have W := Lib.hid w2
    clear h2 w2 H1 s1 b1 hb
    go_wp2
    refine bodyPost_ret (v := .tuple #[zeroMsg.val, .agg #[.slice none 0 0], .int .i64 2]) (by simp [results, Try.results16, go_sem, m0, m1, m2, m3, m4, m5, m6, m7, m8, c0, zeroMsg]) rfl ⟨_, rfl, OwnMs.nil _ _, ?_⟩
    exact (((((((((W.out.setCell (by simp) _).setCell (by simp) _).setCell (by simp) _).setCell (by simp) _).setCell (by simp) _).setCell (by simp) _).setCell (by simp) _).setCell (by simp) _).setCell (by simp) _).setCell (by simp; omega) _
  | true =>
    have e1 : delM ms p = ms.getD p.toNat default := by unfold delM; rw [hn, hin]; rfl
    have e2 : delL ms p = drop1 ms p.toNat := by unfold delL; rw [hn, hin]; rfl
    have e3 : delE ms p = 0 := by unfold delE; rw [hn, hin]; rfl
    rw [e1, e2, e3]
    have hr : 0 ≤ p ∧ p < n := by unfold inside at hin; simpa using hin
    obtain ⟨k, rfl⟩ := Int.eq_ofNat_of_zero_le hr.1
    rw [Int.toNat_natCast]
    have hk : k < n := by omega
    have Hin := Lib.hid hin
    obtain ⟨b, off, rfl, hb, hc⟩ := hm.at' k (by omega)
    have hms := Lib.hid (show ms.getD k default = ms.getD k default from rfl)
    generalize hx : ms.getD k default = x at *
    clear e1 e2 e3 hn hm hin hr hx hms
    go_enter Try.func16, Try.ntmps16
    go_wp2_with fail
    obtain ⟨W1, hW1⟩ : ∃ W' : World, (((w.alloc (.cells #[.slice (some ⟨b, off, none⟩) n cap] 24)).alloc (.cells #[.int .i64 0, .int .i64 0, .int .i64 0, .int .u8 0, .int .i64 0, .int .i64 0, .int .i64 0, .int .i64 0, .int .u8 0] 34)).alloc (.cells #[.slice none 0 0] 24)) = W' := ⟨_, rfl⟩
    have H1 : Has W1 [(w.heap.size + 1 + 1, .cells #[.slice none 0 0] 24 (0, 0)), (w.heap.size + 1, .cells #[.int .i64 0, .int .i64 0, .int .i64 0, .int .u8 0, .int .i64 0, .int .i64 0, .int .i64 0, .int .i64 0, .int .u8 0] 34 (0, 0)), (w.heap.size, .cells #[.slice (some ⟨b, off, none⟩) n cap] 24 (0, 0))] := by rw [← hW1]; simpa using ((((Has.nil w).new _).new _).new _)
    have s1 : W1.heap.size = w.heap.size + 1 + 1 + 1 := by rw [← hW1]; simp
    have b1 : Below w.heap.size w W1 := by rw [← hW1]; exact (below_alloc (below_alloc (below_alloc (below_self w) _) _) _)
    rw [hW1]
    clear hW1
    refine (has_ok _ _ _ _ _ (by omega)).mono ?_
    rintro e W2 ⟨rfl, hb2⟩
    rw [Hin.out]
    have h2 := H1.below hb2
    have w2 := below_trans b1 hb2
    obtain ⟨hc0, hc1, hc2, hc3, hc4, hc5, hc6, hc7, hc8⟩ := hc
    have hcells : MsgCells W2 b (off + k * 9) x := ⟨(w2.cell (p := ⟨b, _, none⟩) hb).trans hc0, (w2.cell (p := ⟨b, _, none⟩) hb).trans hc1, (w2.cell (p := ⟨b, _, none⟩) hb).trans hc2, (w2.cell (p := ⟨b, _, none⟩) hb).trans hc3, (w2.cell (p := ⟨b, _, none⟩) hb).trans hc4, (w2.cell (p := ⟨b, _, none⟩) hb).trans hc5, (w2.cell (p := ⟨b, _, none⟩) hb).trans hc6, (w2.cell (p := ⟨b, _, none⟩) hb).trans hc7, (w2.cell (p := ⟨b, _, none⟩) hb).trans hc8⟩
    clear hc0 hc1 hc2 hc3 hc4 hc5 hc6 hc7 hc8
    obtain ⟨hc0, hc1, hc2, hc3, hc4, hc5, hc6, hc7, hc8⟩ := hcells
    have hm2 := Hm.out.later w2
    have s2 : w.heap.size + 1 + 1 < W2.heap.size := by have := hb2.size; omega
    have s3 : w.heap.size + 1 < W2.heap.size := by omega
    have s4 : w.heap.size < W2.heap.size := by omega
    have n1 : ¬ w.heap.size + 1 = b := by omega
    have n2 : ¬ b = w.heap.size + 1 := by omega
    have n3 : ¬ w.heap.size + 1 + 1 = b := by omega
    have n4 : ¬ b = w.heap.size + 1 + 1 := by omega
    have hbs : b < W2.heap.size := by omega
    have C0 := blk_one h2.tl.tl.hd
    have D0 := blk_one h2.hd
    have F0 := blk_frozen h2.hd 0
    have M0 := blk_cell h2.tl.hd 0
    have M1 := blk_cell h2.tl.hd 1
    have M2 := blk_cell h2.tl.hd 2
    have M3 := blk_cell h2.tl.hd 3
    have M4 := blk_cell h2.tl.hd 4
    have M5 := blk_cell h2.tl.hd 5
    have M6 := blk_cell h2.tl.hd 6
    have M7 := blk_cell h2.tl.hd 7
    have M8 := blk_cell h2.tl.hd 8
    simp at M0 M1 M2 M3 M4 M5 M6 M7 M8
    have MF := blk_frozen h2.tl.hd
    have HX := Lib.hid (And.intro h2 (And.intro w2 hm2))
    clear h2 w2 H1 s1 b1 hb2 hm2
    go_wp2
    have hk0 : (0 : Int) ≤ (k : Int) := by omega
    have hk1 : (k : Int) < (n : Int) := by omega
    have htn : (k : Int).toNat = k := by omega
    have hm3 : Hid (MsgsAt W2.drew.heap.size W2.drew (some ⟨b, off, none⟩) ms) := HX.out.2.2
    go_region_with (go_at_call 29; refine (without_ok _ _ _ k ms W2.drew Hn.out hl hcap hk hm3.out).mono ?_; rintro e W3 ⟨v3, rfl, ho3, hb3⟩; obtain ⟨a3, cap3, rfl, _⟩ := ho3.msgs; have HO3 := Lib.hid ho3; clear ho3; obtain ⟨q1, q2⟩ := bcell hb3; have r0 := (q1 (w.heap.size + 1) 0 (by simp; omega)).trans M0; have r1 := (q1 (w.heap.size + 1) 1 (by simp; omega)).trans M1; have r2 := (q1 (w.heap.size + 1) 2 (by simp; omega)).trans M2; have r3 := (q1 (w.heap.size + 1) 3 (by simp; omega)).trans M3; have r4 := (q1 (w.heap.size + 1) 4 (by simp; omega)).trans M4; have r5 := (q1 (w.heap.size + 1) 5 (by simp; omega)).trans M5; have r6 := (q1 (w.heap.size + 1) 6 (by simp; omega)).trans M6; have r7 := (q1 (w.heap.size + 1) 7 (by simp; omega)).trans M7; have r8 := (q1 (w.heap.size + 1) 8 (by simp; omega)).trans M8; have e0 := (q1 b (off + k * 9) (by simp; omega)).trans hc0; have e1 := (q1 b (off + k * 9 + 1) (by simp; omega)).trans hc1; have e2 := (q1 b (off + k * 9 + 2) (by simp; omega)).trans hc2; have e3 := (q1 b (off + k * 9 + 3) (by simp; omega)).trans hc3; have e4 := (q1 b (off + k * 9 + 4) (by simp; omega)).trans hc4; have e5 := (q1 b (off + k * 9 + 5) (by simp; omega)).trans hc5; have e6 := (q1 b (off + k * 9 + 6) (by simp; omega)).trans hc6; have e7 := (q1 b (off + k * 9 + 7) (by simp; omega)).trans hc7; have e8 := (q1 b (off + k * 9 + 8) (by simp; omega)).trans hc8; have c1 := (q1 w.heap.size 0 (by simp; omega)).trans C0; have rf := fun i => (q2 (w.heap.size + 1) i (by simp; omega)).trans (MF i); have d0 := (q1 (w.heap.size + 1 + 1) 0 (by simp; omega)).trans D0; have df := (q2 (w.heap.size + 1 + 1) 0 (by simp; omega)).trans F0; clear q1 q2)
    all_goals go_wp2
    all_goals
      refine bodyPost_ret (v := .tuple #[x.val, .agg #[.slice a3 (drop1 ms k).length cap3], .int .i64 0]) (by simp [results, Try.results16, go_sem, r0, r1, r2, r3, r4, r5, r6, r7, r8, d0]) rfl ⟨_, rfl, ?_, ?_⟩
      · have hz := HX.out.2.1.size
        exact ((((((((((HO3.out.set (by simp; omega) _).set (by simp; omega) _).set (by simp; omega) _).set (by simp; omega) _).set (by simp; omega) _).set (by simp; omega) _).set (by simp; omega) _).set (by simp; omega) _).set (by simp; omega) _).set (by simp; omega) _).base (by simp; omega)
      · have hB : Below w.heap.size w W3 := HX.out.2.1.drew.trans (hb3.mono HX.out.2.1.size)
        exact (((((((((hB.setCell (by simp) _).setCell (by simp) _).setCell (by simp) _).setCell (by simp) _).setCell (by simp) _).setCell (by simp) _).setCell (by simp) _).setCell (by simp) _).setCell (by simp) _).setCell (by simp; omega) _
end Go.Proofs.Ytkfoclibejpbdaa
