/- Chapter 25, law CarrierSends: its walk. -/
import Derived.Test.YtkfoclibejpbdaaLaw
namespace Go.Proofs.Ytkfoclibejpbdaa
open Go Go.RowKit

set_option maxRecDepth 100000 in
set_option maxHeartbeats 4000000 in
theorem sends_walk (a : Option Addr) (n cap : Nat) (ms : List Msg) (m : Msg) (p : Int) (w : World) (hn : ms.length = n) (hcap : n ≤ cap) (hmax : cap ≤ maxLen) (hnone : a = none → n = 0 ∧ cap = 0) (hm : MsgsAt w.heap.size w a ms) :
    Calls Try.prog 6 #[.agg #[.slice a n cap], m.val, .int .i64 p] w fun e W' => e = .returned (.bool true) ∧ Below w.heap.size w W' := by
  have hl : n ≤ 9223372036854775807 := by unfold maxLen at hmax; omega
  have Hn := Lib.hid hn
  have Hm := Lib.hid hm
  clear hn hm hmax
  go_enter Try.func6, Try.ntmps6
  go_wp2_with fail
  obtain ⟨W1, hW1⟩ : ∃ W' : World, ((w.alloc (.cells #[.slice a n cap] 24)).alloc (.cells m.cells.toArray 34)) = W' := ⟨_, rfl⟩
  have H1 : Has W1 [(w.heap.size + 1, .cells m.cells.toArray 34 (0, 0)), (w.heap.size, .cells #[.slice a n cap] 24 (0, 0))] := by rw [← hW1]; simpa using (((Has.nil w).new _).new _)
  have s1 : W1.heap.size = w.heap.size + 1 + 1 := by rw [← hW1]; simp
  have b1 : Below w.heap.size w W1 := by rw [← hW1]; exact (below_alloc (below_alloc (below_self w) _) _)
  rw [hW1]
  clear hW1
  refine (cut_ok a n cap ms W1 Hn.out hl hcap hnone (Hm.out.later b1)).mono ?_
  rintro e W2 ⟨v, rfl, ho, hb⟩
  have h50 := take50 ms
  generalize ms.take 50 = L at ho h50
  obtain ⟨a2, k, cap2, rfl, hk, hc2, _⟩ := Car.own' ho (by omega)
  rw [hk] at h50
  have h2 := H1.below hb
  have w2 := below_trans b1 hb
  have c0 := blk_one h2.tl.hd
  have f0 := blk_frozen h2.tl.hd 0
  obtain ⟨M0, M1, M2, M3, M4, M5, M6, M7, M8⟩ := blk_msg h2.hd
  have w3 : Below w.heap.size w (W2.setCell ⟨w.heap.size, 0, none⟩ (.slice a2 k cap2)) := w2.setCell (Nat.le_refl _) _
  have h3 : Has (W2.setCell ⟨w.heap.size, 0, none⟩ (.slice a2 k cap2)) [(w.heap.size, .cells #[.slice a2 k cap2] 24 (0, 0)), (w.heap.size + 1, .cells m.cells.toArray 34 (0, 0))] :=
    Has.cons (blk_set_same h2.tl.hd) (Has.cons (blk_set h2.hd (by simp) _) (Has.nil _))
  have hc3 : Car (W2.setCell ⟨w.heap.size, 0, none⟩ (.slice a2 k cap2)) a2 k cap2 L := by
    have ho3 := OwnMs.set (by assumption : OwnMs W1.heap.size W2 (.slice a2 k cap2) L) (a := ⟨w.heap.size, 0, none⟩) (by have := s1; simp at this ⊢; omega) (.slice a2 k cap2)
    obtain ⟨a', cap', he, hc'⟩ := Car.own ho3 (by rw [hk]; omega)
    rw [hk] at he hc'
    cases he
    exact hc'
  have HX := Lib.hid (And.intro h3 (And.intro w3 (And.intro hc3 h50)))
  have Hk := Lib.hid hk
  clear h2 w2 hc2 ho hb s1 H1 b1 h50 hk h3 w3 hc3
  go_wp2_with fail
  generalize W2.setCell _ _ = X at HX ⊢
  clear M0 M1 M2 M3 M4 M5 M6 M7 M8 c0 f0
  refine (send_ok a2 k cap2 L m X Hk.out HX.out.2.2.1.l64 HX.out.2.2.1.at').mono ?_
  rintro e W3 ⟨v, rfl, ho, hb⟩
  obtain ⟨a3, n3, cap3, rfl, hk3, hc3, _⟩ := Car.own' ho (sendL_len L m (by rw [Hk.out]; exact HX.out.2.2.2))
  have h3 := HX.out.1.below hb
  have w3 := below_trans HX.out.2.1 hb
  have hs := hb.size
  have lt0 := blk_lt HX.out.1.hd
  have lt1 := blk_lt HX.out.1.tl.hd
  have c0 := blk_one h3.hd
  obtain ⟨M0, M1, M2, M3, M4, M5, M6, M7, M8⟩ := blk_msg h3.tl.hd
  have HY := Lib.hid (And.intro h3 (And.intro w3 (And.intro (HX.out.2.2.1.below hb) (And.intro hc3 HX.out.2.2.2))))
  have e0 : w.heap.size < W3.heap.size := by omega
  have e1 : w.heap.size + 1 < W3.heap.size := by omega
  clear HX h3 w3 hs lt0 lt1 hb hc3 ho
  go_wp2_with fail
  have b3 := below_alloc (below_self W3) (.cells #[.slice a3 n3 cap3] 24)
  have H3 := HY.out.1.new (.cells #[.slice a3 n3 cap3] 24)
  have s3 : (W3.alloc (.cells #[.slice a3 n3 cap3] 24)).heap.size = W3.heap.size + 1 := by simp
  generalize W3.alloc _ = X3 at b3 H3 s3 ⊢
  clear M0 M1 M2 M3 M4 M5 M6 M7 M8 c0
  have hcL := HY.out.2.2.1.below b3
  refine (send_ref a2 k cap2 L m X3 Hk.out hcL.l64 hcL.nil hcL.at').mono ?_
  rintro e W4 ⟨v, rfl, ho, hb⟩
  obtain ⟨a4, n4, cap4, rfl, hk4, hc4, _⟩ := Car.own' ho (sendL_len L m (by rw [Hk.out]; exact HY.out.2.2.2.2))
  have h4 := H3.below hb
  have w4 := below_trans (below_trans HY.out.2.1 b3) hb
  have hs := hb.size
  have c0 := blk_one h4.tl.hd
  have c3 := blk_one h4.hd
  have hc3 := (HY.out.2.2.2.1.below b3).below hb
  have HZ := Lib.hid (And.intro h4 (And.intro w4 (And.intro (hcL.below hb) (And.intro hc3 (And.intro hc4 HY.out.2.2.2.2)))))
  have e2 : w.heap.size < W4.heap.size := by omega
  have e3 : W3.heap.size < W4.heap.size := by omega
  clear HY h4 w4 hs hb hc3 hc4 ho b3 H3 s3 hcL e0 e1
  go_wp2_with fail
  have b4 := below_alloc (below_self W4) (.cells #[.slice a4 n4 cap4] 24)
  have H4 := HZ.out.1.new (.cells #[.slice a4 n4 cap4] 24)
  have s4 : (W4.alloc (.cells #[.slice a4 n4 cap4] 24)).heap.size = W4.heap.size + 1 := by simp
  generalize W4.alloc _ = X4 at b4 H4 s4 ⊢
  clear c0 c3
  have hcL := HZ.out.2.2.1.below b4
  refine (repeat_ok a2 k cap2 p L X4 Hk.out hcL.le hcL.at').mono ?_
  rintro e W5 ⟨v, rfl, ho, hb⟩
  obtain ⟨a5, n5, cap5, rfl, hk5, hc5, _⟩ := Car.own' ho (repL_len L p (by rw [Hk.out]; exact HZ.out.2.2.2.2.2))
  have h5 := H4.below hb
  have w5 := below_trans (below_trans HZ.out.2.1 b4) hb
  have hs := hb.size
  have c0 := blk_one h5.tl.tl.hd
  have hc3 := (HZ.out.2.2.2.1.below b4).below hb
  have hc4 := (HZ.out.2.2.2.2.1.below b4).below hb
  have HY := Lib.hid (And.intro h5 (And.intro w5 (And.intro (hcL.below hb) (And.intro hc3 (And.intro hc4 (And.intro hc5 HZ.out.2.2.2.2.2))))))
  have e4 : w.heap.size < W5.heap.size := by omega
  have e5 : W3.heap.size < W5.heap.size := by omega
  have e6 : W4.heap.size < W5.heap.size := by omega
  clear HZ h5 w5 hs hb hc3 hc4 hc5 ho b4 H4 s4 hcL e2 e3
  go_wp2_with fail
  have b5 := below_alloc (below_self W5) (.cells #[.slice a5 n5 cap5] 24)
  have H5 := HY.out.1.new (.cells #[.slice a5 n5 cap5] 24)
  have s5 : (W5.alloc (.cells #[.slice a5 n5 cap5] 24)).heap.size = W5.heap.size + 1 := by simp
  generalize W5.alloc _ = X5 at b5 H5 s5 ⊢
  clear c0
  have hcL := HY.out.2.2.1.below b5
  refine (repeat_ref a2 k cap2 p L X5 Hk.out hcL.le hcL.nil hcL.at').mono ?_
  rintro e W6 ⟨v, rfl, ho, hb⟩
  obtain ⟨a6, n6, cap6, rfl, hk6, hc6, _⟩ := Car.own' ho (repL_len L p (by rw [Hk.out]; exact HY.out.2.2.2.2.2.2))
  have h6 := H5.below hb
  have w6 := below_trans (below_trans HY.out.2.1 b5) hb
  have hs := hb.size
  have hc3 := (HY.out.2.2.2.1.below b5).below hb
  have hc4 := (HY.out.2.2.2.2.1.below b5).below hb
  have hc5 := (HY.out.2.2.2.2.2.1.below b5).below hb
  have e0 : W3.heap.size < W6.heap.size := by omega
  have e1 : W4.heap.size < W6.heap.size := by omega
  have e2 : W5.heap.size < W6.heap.size := by omega
  have c3 := blk_one h6.tl.tl.hd
  have c4 := blk_one h6.tl.hd
  have c5 := blk_one h6.hd
  have HZ := Lib.hid (And.intro h6 (And.intro w6 (And.intro hc3 (And.intro hc4 (And.intro hc5 hc6)))))
  clear HY h6 w6 hs hb hc3 hc4 hc5 hc6 ho b5 H5 s5 hcL e4 e5 e6
  go_wp2_with fail
  have b6 := below_alloc (below_self W6) (.cells #[.slice a6 n6 cap6] 24)
  have H6 := HZ.out.1.new (.cells #[.slice a6 n6 cap6] 24)
  generalize W6.alloc _ = X6 at b6 H6 ⊢
  clear c3 c4 c5
  have hc3 := HZ.out.2.2.1.below b6
  have hc4 := HZ.out.2.2.2.1.below b6
  refine (same_ok a3 a4 n3 n4 cap3 cap4 (sendL L m) (sendL L m) X6 hk3 hk4 hc3.l64 hc4.l64 hc3.at' hc4.at').mono ?_
  rintro e W7 ⟨rfl, hb⟩
  rw [decide_eq_true rfl]
  have h7 := H6.below hb
  have w7 := below_trans (below_trans HZ.out.2.1 b6) hb
  have c5 := blk_one h7.tl.hd
  have c6 := blk_one h7.hd
  have hc5 := (HZ.out.2.2.2.2.1.below b6).below hb
  have hc6 := (HZ.out.2.2.2.2.2.below b6).below hb
  have HY := Lib.hid (And.intro w7 (And.intro hc5 hc6))
  clear HZ h7 w7 hb hc3 hc4 hc5 hc6 b6 H6
  go_wp2_with fail
  clear c5 c6
  refine (same_ok a5 a6 n5 n6 cap5 cap6 (repL L p) (repL L p) W7 hk5 hk6 HY.out.2.1.l64 HY.out.2.2.l64 HY.out.2.1.at' HY.out.2.2.at').mono ?_
  rintro e W8 ⟨rfl, hb⟩
  rw [decide_eq_true rfl]
  have HZ := Lib.hid (below_trans HY.out.1 hb)
  clear HY hb
  go_wp2_with fail
  refine (lives_ok W8).mono ?_
  rintro e W9 ⟨rfl, hb⟩
  have HY := Lib.hid (below_trans HZ.out hb)
  clear HZ hb
  go_wp2
  go_ret
  exact ⟨rfl, HY.out⟩
end Go.Proofs.Ytkfoclibejpbdaa
