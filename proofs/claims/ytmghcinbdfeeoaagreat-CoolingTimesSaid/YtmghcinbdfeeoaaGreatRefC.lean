/- Chapter 06: the reference's given, arrives, Arrives. -/
import Derived.Test.YtmghcinbdfeeoaaGreatRefB
import Derived.Test.YtmghcinbdfeeoaaGreatComing
import Derived.Test.YtmghcinbdfeeoaaGreatLev
import Derived.OwnWalk
namespace Go.Proofs.YtmghcinbdfeeoaaGreat
open Go Go.RowKit

theorem InsAt.drewN {n : Nat} {w : World} {a : Option Addr} {hs : List Hd} {ins : List (List Int)} (h : InsAt n w a hs ins) (k : Nat) : InsAt n (w.drewN k) a hs ins := h.below (below_drewN (Below.refl _ w) k)

set_option maxHeartbeats 1000000 in
theorem given_ref (ai : Option Addr) (ni ci : Nat) (hs : List Hd) (ins : List (List Int)) (sN : Nat) (t : Int) (w : World) (hni : ins.length = ni) (hm : InsAt w.heap.size w ai hs ins) :
    Calls Tryz.prog 85 #[.slice ai ni ci, .int .i64 sN, .int .i64 t] w fun e W' => e = .returned (.int .i64 (given ins sN t)) ∧ w = W' := by
  have Hm := Lib.hid hm; clear hm
  have Hni := Lib.hid hni; clear hni
  by_cases hsl : sN < ni
  · have hg : decide (ni ≤ sN) = false := decide_eq_false (by omega)
    have hgI : (sN : Int) < (ni : Int) := by omega
    obtain ⟨bh, oh, rfl, hbh, hch⟩ := hds_at Hm.out.rows sN (by rw [Hm.out.len, Hni.out]; exact hsl)
    obtain ⟨q1, q2, q3⟩ := Hm.out.at' sN (by rw [Hni.out]; exact hsl)
    have Hq := Lib.hid (And.intro q1 q3)
    clear q1 q3
    generalize hs.getD sN default = hd at hch Hq q2
    obtain ⟨x, m, c⟩ := hd
    simp only at hch Hq q2
    replace hch : w.cell? ⟨bh, oh + sN, none⟩ = some (.slice x m c) := hch
    by_cases h0 : t < 0
    · have hz : given ins sN t = 0 := by unfold given; rw [if_neg]; omega
      rw [hz]
      clear hz
      go_enter Tryz.func85, Tryz.ntmps85
      go_wp2_with fail
      go_ret
      exact ⟨rfl, rfl⟩
    · have h0' : decide (t < 0) = false := decide_eq_false h0
      obtain ⟨d, rfl⟩ : ∃ d : Nat, t = d := ⟨t.toNat, by omega⟩
      by_cases h1 : d < m
      · have hz : given ins sN d = (ins.getD sN default).getD d default := by
          unfold given
          rw [if_pos ⟨by rw [Hni.out]; omega, by omega, by simp only [Int.toNat_natCast]; rw [Hq.out.1]; omega⟩]
          simp only [Int.toNat_natCast]
        obtain ⟨bx, ox, rfl, hbx, hcx⟩ := ints_cell Hq.out.2 d (by rw [Hq.out.1]; exact h1)
        rw [hz]
        generalize (ins.getD sN default).getD d default = z at hcx hz ⊢
        have h1I : (d : Int) < (m : Int) := by omega
        have h1d : decide (m ≤ d) = false := decide_eq_false (by omega)
        clear hz
        go_enter Tryz.func85, Tryz.ntmps85
        go_wp2_with fail
        go_ret
        exact ⟨rfl, rfl⟩
      · have hz : given ins sN d = 0 := by
          unfold given
          rw [if_neg]
          intro hc
          simp only [Int.toNat_natCast] at hc
          rw [Hq.out.1] at hc
          omega
        rw [hz]
        have h1I : ¬ (d : Int) < (m : Int) := by omega
        have h1d : decide (m ≤ d) = true := decide_eq_true (by omega)
        clear hz
        go_enter Tryz.func85, Tryz.ntmps85
        go_wp2_with fail
        go_ret
        exact ⟨rfl, rfl⟩
  · have hg : decide (ni ≤ sN) = true := decide_eq_true (by omega)
    have hz : given ins sN t = 0 := by
      unfold given
      rw [if_neg]
      intro hc
      rw [Hni.out] at hc
      omega
    rw [hz]
    clear hz
    go_enter Tryz.func85, Tryz.ntmps85
    go_wp2_with fail
    go_ret
    exact ⟨rfl, rfl⟩

set_option maxHeartbeats 2000000 in
theorem arr_ref (t : Int) (carry : Int) (a : Option Addr) (n cap : Nat) (ps : List Prt) (ai : Option Addr) (ni ci : Nat) (hs : List Hd) (ins : List (List Int)) (w : World) (hn : ps.length = n) (hm : RowsAt w.heap.size w a 3 (Prts ps)) (hni : ins.length = ni)
    (hmi : InsAt w.heap.size w ai hs ins) (hP : PsOk ps) (hI : InOk ins) (ht : 0 ≤ t ∧ t ≤ 1000) :
    Calls Tryz.prog 51 #[.agg #[.int .i64 carry, .slice a n cap], .slice ai ni ci, .int .i64 t] w fun e W' => e = .returned (.int .i64 (arr ps ins t)) ∧ Below w.heap.size w W' := by
  have Hm := Lib.hid hm; clear hm
  have Hmi := Lib.hid hmi; clear hmi
  have hn16 : n ≤ 16 := by rw [← hn]; exact hP.1
  have Hn := Lib.hid hn; clear hn
  have Hni := Lib.hid hni; clear hni
  have HP := Lib.hid hP; clear hP
  have HI := Lib.hid hI; clear hI
  go_enter Tryz.func51, Tryz.ntmps51
  go_wp2_with fail
  go_loopw [7, 13] (fun s i wr => ∃ (k : Nat) (X : World), k ≤ n ∧ s = .int .i64 (arr (ps.take k) ins t) ∧ i = .int .i64 k ∧ X = wr ∧ Hid (Below w.heap.size w X)) (fun _ i _ => n - (intOf i).toNat)
  case atStart => exact ⟨0, _, Nat.zero_le _, by simp [arr], rfl, rfl, Lib.hid (below_alloc (below_self w) _)⟩
  case round =>
    obtain ⟨k, X, hk, rfl, rfl, rfl, HB⟩ := hrel
    obtain ⟨v0, v1⟩ := arr_le HP.out HI.out t k (by rw [Hn.out]; exact hk)
    by_cases hlt : k < n
    · obtain ⟨b, off, rfl, hb, hc0, hc1, hc2⟩ := prts_at (Hm.out.below HB.out) k (by rw [Hn.out]; exact hlt)
      have hsn : arr (ps.take (k + 1)) ins t = _ := (by rw [takeP_snoc (by rw [Hn.out]; exact hlt), arr_snoc] : _ = arr (ps.take k) ins t + (ps.getD k default).times * given ins (ps.getD k default).src (t - (ps.getD k default).delay))
      have hp := HP.out.2 k (by rw [Hn.out]; exact hlt)
      have htm := term_le HI.out hp.1.1 hp.2.1 t
      generalize ps.getD k default = p at hc0 hc1 hc2 hsn hp htm
      generalize arr (ps.take k) ins t = v at v0 v1 hsn ⊢
      obtain ⟨sr, tm, dl⟩ := p
      simp only at hc0 hc1 hc2 hsn hp htm
      obtain ⟨⟨s0, s1⟩, ⟨m0, m1⟩, d0, d1⟩ := hp
      obtain ⟨sN, rfl⟩ : ∃ s : Nat, sr = s := ⟨sr.toNat, by omega⟩
      have hw1 : IntKind.i64.wrap (t - dl) = t - dl := IntWalk.i64_in _ (by omega)
      generalize hz : given ins sN (t - dl) = z at hsn htm
      have Hz := Lib.hid hz
      have hw3 : IntKind.i64.wrap (tm * z) = tm * z := IntWalk.i64_in _ (by omega)
      have hw4 : IntKind.i64.wrap (v + tm * z) = v + tm * z := IntWalk.i64_in _ (by omega)
      have Hsn := Lib.hid hsn
      clear hsn hz htm
      go_wp2_with fail
      obtain ⟨W1, hW1⟩ : ∃ W' : World, (X.alloc (.cells #[.int .i64 (sN : Int), .int .i64 tm, .int .i64 dl] 97)) = W' := ⟨_, rfl⟩
      have H1 : Has W1 [(X.heap.size, .cells #[.int .i64 (sN : Int), .int .i64 tm, .int .i64 dl] 97 (0, 0))] := by rw [← hW1]; simpa using ((Has.nil X).new _)
      have s1 : W1.heap.size = X.heap.size + 1 := by rw [← hW1]; simp
      have b1 : Below X.heap.size X W1 := by rw [← hW1]; exact (below_alloc (below_self X) _)
      rw [hW1]
      clear hW1
      have hB2 := below_trans HB.out b1
      have c0 := blk_cell H1.hd 0
      have c1 := blk_cell H1.hd 1
      have c2 := blk_cell H1.hd 2
      simp at c0 c1 c2
      have W2 := Lib.hid hB2
      have HM := Lib.hid (Hmi.out.later hB2)
      clear hB2 H1 s1 b1 hc0 hc1 hc2
      go_quiet (first | (go_at_call 85; exact Calls.quiet_of_same ((given_ref _ _ _ hs ins _ _ _ Hni.out (HM.out.drewN _)).mono fun e W' h => ⟨by rw [h.1, Hz.out], h.2.symm⟩)))
      go_wp2_with fail
      go_roundw
      case rel => exact ⟨k + 1, _, by omega, by rw [Hsn.out], by go_num, rfl, Lib.hid (below_drewN W2.out _)⟩
      case measure => simp [intOf]; omega
    · have e : ps.take k = ps := List.take_of_length_le (by rw [Hn.out]; omega)
      rw [e] at v0 v1 ⊢
      have HE := Lib.hid e
      clear e
      go_wp2_with fail
      go_ret
      exact ⟨rfl, HB.out⟩
end Go.Proofs.YtmghcinbdfeeoaaGreat
