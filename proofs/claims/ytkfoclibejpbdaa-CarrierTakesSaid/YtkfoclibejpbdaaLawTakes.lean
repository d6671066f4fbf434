/- Chapter 25, law CarrierTakes: its walk. -/
import Derived.Test.YtkfoclibejpbdaaLaw
namespace Go.Proofs.Ytkfoclibejpbdaa
open Go Go.RowKit

set_option maxRecDepth 100000 in
set_option maxHeartbeats 4000000 in
theorem takes_walk (a : Option Addr) (n cap : Nat) (ms : List Msg) (p : Int) (w : World) (hn : ms.length = n) (hcap : n ≤ cap) (hmax : cap ≤ maxLen) (hnone : a = none → n = 0 ∧ cap = 0) (hm : MsgsAt w.heap.size w a ms) :
    Calls Try.prog 4 #[.agg #[.slice a n cap], .int .i64 p] w fun e W' => e = .returned (.bool true) ∧ Below w.heap.size w W' := by
  have hl : n ≤ 9223372036854775807 := by unfold maxLen at hmax; omega
  have Hn := Lib.hid hn
  have Hm := Lib.hid hm
  clear hn hm hmax
  go_enter Try.func4, Try.ntmps4
  go_wp2_with fail
  obtain ⟨W1, hW1⟩ : ∃ W' : World, (w.alloc (.cells #[.slice a n cap] 24)) = W' := ⟨_, rfl⟩
  have H1 : Has W1 [(w.heap.size, .cells #[.slice a n cap] 24 (0, 0))] := by rw [← hW1]; simpa using ((Has.nil w).new _)
  have s1 : W1.heap.size = w.heap.size + 1 := by rw [← hW1]; simp
  have b1 : Below w.heap.size w W1 := by rw [← hW1]; exact (below_alloc (below_self w) _)
  rw [hW1]
  clear hW1
  refine (cut_ok a n cap ms W1 Hn.out hl hcap hnone (Hm.out.later b1)).mono ?_
  rintro e W2 ⟨v, rfl, ho, hb⟩
  have h50 := take50 ms
  generalize ms.take 50 = L at ho h50
  obtain ⟨a2, k, cap2, rfl, hk, hc2, _⟩ := Car.own' ho (by omega)
  rw [hk] at h50
  have h2 := H1.below hb
  have w2 := below_trans b1 hb
  have c0 := blk_one h2.hd
  have f0 := blk_frozen h2.hd 0
  have w3 : Below w.heap.size w (W2.setCell ⟨w.heap.size, 0, none⟩ (.slice a2 k cap2)) := w2.setCell (Nat.le_refl _) _
  have h3 : Has (W2.setCell ⟨w.heap.size, 0, none⟩ (.slice a2 k cap2)) [(w.heap.size, .cells #[.slice a2 k cap2] 24 (0, 0))] :=
    Has.cons (blk_set_same h2.hd) (Has.nil _)
  have hc3 : Car (W2.setCell ⟨w.heap.size, 0, none⟩ (.slice a2 k cap2)) a2 k cap2 L := by
    have ho3 := OwnMs.set (by assumption : OwnMs W1.heap.size W2 (.slice a2 k cap2) L) (a := ⟨w.heap.size, 0, none⟩) (by have := s1; simp at this ⊢; omega) (.slice a2 k cap2)
    obtain ⟨a', cap', he, hc'⟩ := Car.own ho3 (by rw [hk]; omega)
    rw [hk] at he hc'
    cases he
    exact hc'
  have HX := Lib.hid (And.intro h3 (And.intro w3 (And.intro hc3 h50)))
  have Hk := Lib.hid hk
  clear h2 w2 hc2 ho hb s1 H1 b1 h50 hk h3 w3 hc3
  go_wp2_with fail
  generalize W2.setCell _ _ = X at HX ⊢
  clear c0 f0
  refine (deliver_ok a2 k cap2 p L X Hk.out HX.out.2.2.1.le HX.out.2.2.1.leCap HX.out.2.2.1.at').mono ?_
  rintro e W3 ⟨v, rfl, ho, hb⟩
  obtain ⟨a3, n3, cap3, rfl, hk3, hc3, _⟩ := Car.own' ho (delL_len L p (by rw [Hk.out]; exact HX.out.2.2.2))
  have h3 := HX.out.1.below hb
  have w3 := below_trans HX.out.2.1 hb
  have hs := hb.size
  have lt0 := blk_lt HX.out.1.hd
  have c0 := blk_one h3.hd
  have HY := Lib.hid (And.intro h3 (And.intro w3 (And.intro (HX.out.2.2.1.below hb) (And.intro hc3 HX.out.2.2.2))))
  have e0 : w.heap.size < W3.heap.size := by omega
  clear HX h3 w3 hs lt0 hb hc3 ho
  generalize hDM : delM L p = M at *
  have HM := Lib.hid hDM; clear hDM
  generalize hDE : delE L p = E at *
  have HE := Lib.hid hDE; clear hDE
  go_wp2_with fail
  obtain ⟨X3, hX3⟩ : ∃ W' : World, ((W3.alloc (.cells M.cells.toArray 34)).alloc (.cells #[.slice a3 n3 cap3] 24)) = W' := ⟨_, rfl⟩
  have H3 : Has X3 [(W3.heap.size + 1, .cells #[.slice a3 n3 cap3] 24 (0, 0)), (W3.heap.size, .cells M.cells.toArray 34 (0, 0))] := by rw [← hX3]; simpa using (((Has.nil W3).new _).new _)
  have s3 : X3.heap.size = W3.heap.size + 1 + 1 := by rw [← hX3]; simp
  have b3 : Below W3.heap.size W3 X3 := by rw [← hX3]; exact (below_alloc (below_alloc (below_self W3) _) _)
  rw [hX3]
  clear hX3
  clear c0
  have hcL := HY.out.2.2.1.below b3
  have lt0 := blk_lt HY.out.1.hd
  refine (deliver_ref a2 k cap2 p L X3 Hk.out hcL.le hcL.at').mono ?_
  rintro e W4 ⟨v, rfl, ho, hb⟩
  rw [HE.out, HM.out]
  obtain ⟨a4, n4, cap4, rfl, hk4, hc4, _⟩ := Car.own' ho (delL_len L p (by rw [Hk.out]; exact HY.out.2.2.2.2))
  have h4 := H3.below hb
  have g4 := (HY.out.1.below b3).below hb
  have w4 := below_trans (below_trans HY.out.2.1 b3) hb
  have hs := hb.size
  have hc3 := (HY.out.2.2.2.1.below b3).below hb
  have c0 := blk_one g4.hd
  have e1 : w.heap.size < W4.heap.size := by omega
  have HZ := Lib.hid (And.intro h4 (And.intro w4 (And.intro (hcL.below hb) (And.intro hc3 (And.intro hc4 (And.intro HY.out.2.2.2.2 (And.intro g4 (by omega : W3.heap.size + 1 < W4.heap.size))))))))
  clear HY h4 g4 w4 hs hb hc3 hc4 ho b3 H3 s3 hcL e0 lt0
  go_wp2_with fail
  obtain ⟨X4, hX4⟩ : ∃ W' : World, ((W4.alloc (.cells M.cells.toArray 34)).alloc (.cells #[.slice a4 n4 cap4] 24)) = W' := ⟨_, rfl⟩
  have H4 : Has X4 [(W4.heap.size + 1, .cells #[.slice a4 n4 cap4] 24 (0, 0)), (W4.heap.size, .cells M.cells.toArray 34 (0, 0))] := by rw [← hX4]; simpa using (((Has.nil W4).new _).new _)
  have s4 : X4.heap.size = W4.heap.size + 1 + 1 := by rw [← hX4]; simp
  have b4 : Below W4.heap.size W4 X4 := by rw [← hX4]; exact (below_alloc (below_alloc (below_self W4) _) _)
  rw [hX4]
  clear hX4
  clear c0
  have hcL := HZ.out.2.2.1.below b4
  refine (lose_ok a2 k cap2 p L X4 Hk.out hcL.le hcL.leCap hcL.at').mono ?_
  rintro e W5 ⟨v, rfl, ho, hb⟩
  rw [HE.out]
  obtain ⟨a5, n5, cap5, rfl, hk5, hc5, _⟩ := Car.own' ho (delL_len L p (by rw [Hk.out]; exact HZ.out.2.2.2.2.2.1))
  have h5 := (HZ.out.1.below b4).below hb
  have g5 := H4.below hb
  have w5 := below_trans (below_trans HZ.out.2.1 b4) hb
  have hs := hb.size
  have hlt := HZ.out.2.2.2.2.2.2.2
  have hc3 := (HZ.out.2.2.2.1.below b4).below hb
  have hc4 := (HZ.out.2.2.2.2.1.below b4).below hb
  obtain ⟨A0, A1, A2, A3, A4, A5, A6, A7, A8⟩ := blk_msg h5.tl.hd
  obtain ⟨B0, B1, B2, B3, B4, B5, B6, B7, B8⟩ := blk_msg g5.tl.hd
  have d3 := blk_one h5.hd
  have d4 := blk_one g5.hd
  have e0 : W3.heap.size < W5.heap.size := by omega
  have e2 : W3.heap.size + 1 < W5.heap.size := by omega
  have e3 : W4.heap.size < W5.heap.size := by omega
  have e4 : W4.heap.size + 1 < W5.heap.size := by omega
  have hgM := guard34
  have heM := eq34 M M
  have HY := Lib.hid (And.intro h5 (And.intro g5 (And.intro w5 (And.intro hc3 (And.intro hc4 hc5)))))
  clear HZ h5 g5 w5 hs hlt hb hc3 hc4 hc5 ho b4 H4 s4 hcL e1
  go_wp2_with fail
  have b6 := below_alloc (below_self W5) (.cells #[.slice a5 n5 cap5] 24)
  have H6 := HY.out.2.1.new (.cells #[.slice a5 n5 cap5] 24)
  generalize W5.alloc _ = X6 at b6 H6 ⊢
  clear A0 A1 A2 A3 A4 A5 A6 A7 A8 B0 B1 B2 B3 B4 B5 B6 B7 B8 d3 d4
  have hc3 := HY.out.2.2.2.1.below b6
  have hc4 := HY.out.2.2.2.2.1.below b6
  refine (same_ok a3 a4 n3 n4 cap3 cap4 (delL L p) (delL L p) X6 hk3 hk4 hc3.l64 hc4.l64 hc3.at' hc4.at').mono ?_
  rintro e W7 ⟨rfl, hb⟩
  rw [decide_eq_true rfl]
  have h7 := H6.below hb
  have w7 := below_trans (below_trans HY.out.2.2.1 b6) hb
  have c4 := blk_one h7.tl.hd
  have c5 := blk_one h7.hd
  have hc4 := hc4.below hb
  have hc5 := (HY.out.2.2.2.2.2.below b6).below hb
  have HZ := Lib.hid (And.intro w7 (And.intro hc4 hc5))
  clear HY h7 w7 hb hc3 hc4 hc5 b6 H6
  go_wp2_with fail
  clear c4 c5
  refine (same_ok a5 a4 n5 n4 cap5 cap4 (delL L p) (delL L p) W7 hk5 hk4 HZ.out.2.2.l64 HZ.out.2.1.l64 HZ.out.2.2.at' HZ.out.2.1.at').mono ?_
  rintro e W8 ⟨rfl, hb⟩
  rw [decide_eq_true rfl]
  have HY := Lib.hid (below_trans HZ.out.1 hb)
  clear HZ hb
  go_wp2_with fail
  refine (lives_ok W8).mono ?_
  rintro e W9 ⟨rfl, hb⟩
  have HZ := Lib.hid (below_trans HY.out hb)
  clear HY hb
  go_wp2
  go_ret
  exact ⟨rfl, HZ.out⟩
end Go.Proofs.Ytkfoclibejpbdaa
