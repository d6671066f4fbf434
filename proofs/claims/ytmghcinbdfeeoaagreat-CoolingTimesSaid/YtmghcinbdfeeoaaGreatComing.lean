/- Chapter 06: the walk of what arrives in a tick. -/
import Derived.Test.YtmghcinbdfeeoaaGreatArr
import Derived.BigQuiet
namespace Go.Proofs.YtmghcinbdfeeoaaGreat
open Go Go.RowKit

theorem to_quiet (n hi : Int) (w : World) : Calls Tryz.prog 99 #[.int .i64 n, .int .i64 hi] w fun e W' => e = .returned (.bool (inR n 0 hi)) ∧ W' = w :=
  (to_ok n hi w).mono fun _ _ h => ⟨h.1, h.2.symm⟩

theorem ints_cell {n : Nat} {w : World} {a : Option Addr} {xs : List Int} (h : RowsAt n w a 1 (Ints xs)) (k : Nat) (hk : k < xs.length) :
    ∃ b off, a = some ⟨b, off, none⟩ ∧ b < n ∧ w.cell? ⟨b, off + k, none⟩ = some (.int .i64 (xs.getD k default)) := by
  obtain ⟨b, off, ha, hb, hc⟩ := h k [.int .i64 (xs.getD k default)] (by simp [hk])
  exact ⟨b, off, ha, hb, by simpa using hc 0 _ rfl⟩

set_option maxHeartbeats 2000000 in
theorem in_ok (t : Int) (bl bi : Nat) (a : Option Addr) (n cap : Nat) (ps : List Prt) (ai : Option Addr) (ni ci : Nat) (hs : List Hd) (ins : List (List Int)) (hn : ps.length = n) (hni : ins.length = ni)
    (hP : PsOk ps) (hI : InOk ins) (ht : 0 ≤ t ∧ t ≤ 1000) (w : World) (hbi : bi < w.heap.size)
    (hcl : w.cell? ⟨bl, 1, none⟩ = some (.slice a n cap)) (hci : w.cell? ⟨bi, 0, none⟩ = some (.slice ai ni ci)) (hm : RowsAt w.heap.size w a 3 (Prts ps)) (hmi : InsAt w.heap.size w ai hs ins) :
    Calls Tryz.prog 104 #[.int .i64 t, .pointer (some ⟨bl, 0, none⟩), .pointer (some ⟨bi, 0, none⟩)] w fun e W' => e = .returned (.int .i64 (arr ps ins t)) ∧ Below w.heap.size w W' := by
  have Hm := Lib.hid hm; clear hm
  have Hmi := Lib.hid hmi; clear hmi
  have hn16 : n ≤ 16 := by rw [← hn]; exact hP.1
  have hi16 : ni ≤ 16 := by rw [← hni]; exact hI.1
  have Hn := Lib.hid hn; clear hn
  have Hni := Lib.hid hni; clear hni
  have HP := Lib.hid hP; clear hP
  have HI := Lib.hid hI; clear hI
  have Hci := Lib.hid hci; clear hci
  go_enter Tryz.func104, Tryz.ntmps104
  go_wp2_with fail
  clear hcl
  go_loopw [5, 11] (fun s i wr => ∃ (k : Nat) (X : World), k ≤ n ∧ s = .int .i64 (arr (ps.take k) ins t) ∧ i = .int .i64 k ∧ X = wr ∧ Hid (Below w.heap.size w X)) (fun _ i _ => n - (intOf i).toNat)
  case atStart => exact ⟨0, _, Nat.zero_le _, by simp [arr], rfl, rfl, below_self w⟩
  case round =>
    obtain ⟨k, X, hk, rfl, rfl, rfl, HB⟩ := hrel
    obtain ⟨v0, v1⟩ := arr_le HP.out HI.out t k (by rw [Hn.out]; exact hk)
    by_cases hlt : k < n
    · obtain ⟨b, off, rfl, hb, hc0, hc1, hc2⟩ := prts_at (Hm.out.below HB.out) k (by rw [Hn.out]; exact hlt)
      have hsn : arr (ps.take (k + 1)) ins t = _ := (by rw [takeP_snoc (by rw [Hn.out]; exact hlt), arr_snoc] : _ = arr (ps.take k) ins t + (ps.getD k default).times * given ins (ps.getD k default).src (t - (ps.getD k default).delay))
      have hp := HP.out.2 k (by rw [Hn.out]; exact hlt)
      generalize ps.getD k default = p at hc0 hc1 hc2 hsn hp
      generalize arr (ps.take k) ins t = v at v0 v1 hsn ⊢
      obtain ⟨sr, tm, dl⟩ := p
      simp only at hc0 hc1 hc2 hsn hp
      obtain ⟨⟨s0, s1⟩, ⟨m0, m1⟩, d0, d1⟩ := hp
      obtain ⟨sN, rfl⟩ : ∃ s : Nat, sr = s := ⟨sr.toNat, by omega⟩
      have Hsn := Lib.hid hsn
      clear hsn
      by_cases hsl : sN < ni
      · have hg : decide ((sN : Int) < (ni : Int)) = true := decide_eq_true (by omega)
        obtain ⟨bh, oh, rfl, hbh, hch⟩ := hds_at (Hmi.out.rows.below HB.out) sN (by rw [Hmi.out.len, Hni.out]; exact hsl)
        obtain ⟨q1, q2, q3⟩ := (Hmi.out.below HB.out).at' sN (by rw [Hni.out]; exact hsl)
        have Hq := Lib.hid (And.intro q1 q3)
        have hlen := (HI.out.2 sN (by rw [Hni.out]; exact hsl)).1
        rw [q1] at hlen
        clear q1 q3
        generalize hs.getD sN default = hd at hch Hq hlen q2
        obtain ⟨x, m, c⟩ := hd
        simp only at hch Hq hlen q2
        have hw1 : IntKind.i64.wrap (t - dl) = t - dl := IntWalk.i64_in _ (by omega)
        have hw2 : IntKind.i64.wrap ((m : Int) - 1) = (m : Int) - 1 := IntWalk.i64_in _ (by omega)
        cases hr : inR (t - dl) 0 ((m : Int) - 1)
        · have hz : given ins sN (t - dl) = 0 := by
            unfold given
            rw [if_neg]
            intro hc
            have := inR_not.1 hr
            simp only [Int.toNat_natCast] at hc
            rw [Hq.out.1] at hc
            omega
          have Hz := Lib.hid (And.intro hz hr)
          clear hz hr
          go_wp2_with fail
          obtain ⟨W1, hW1⟩ : ∃ W' : World, (X.alloc (.cells #[.int .i64 (sN : Int), .int .i64 tm, .int .i64 dl] 97)) = W' := ⟨_, rfl⟩
          have H1 : Has W1 [(X.heap.size, .cells #[.int .i64 (sN : Int), .int .i64 tm, .int .i64 dl] 97 (0, 0))] := by rw [← hW1]; simpa using ((Has.nil X).new _)
          have s1 : W1.heap.size = X.heap.size + 1 := by rw [← hW1]; simp
          have b1 : Below X.heap.size X W1 := by rw [← hW1]; exact (below_alloc (below_self X) _)
          rw [hW1]
          clear hW1
          have hB2 := below_trans HB.out b1
          have ec : W1.cell? ⟨bi, 0, none⟩ = _ := cell_call hB2 (a := ⟨bi, 0, none⟩) hbi Hci.out
          have eh : W1.cell? ⟨bh, oh + sN, none⟩ = some (.slice x m c) := cell_call b1 (a := ⟨bh, oh + sN, none⟩) (Nat.lt_of_lt_of_le hbh HB.out.size) hch
          have c0 := blk_cell H1.hd 0
          have c1 := blk_cell H1.hd 1
          have c2 := blk_cell H1.hd 2
          simp at c0 c1 c2
          have W2 := Lib.hid hB2
          clear hB2 H1 s1 b1 hc0 hc1 hc2 hch
          go_quiet (first | (go_at_call 99; exact Calls.quiet_of_same ((to_quiet _ _ _).mono fun e W' h => ⟨by rw [h.1, Hz.out.2], h.2⟩)))
          go_wp2_with fail
          go_roundw
          case rel => exact ⟨k + 1, _, by omega, by rw [Hsn.out, Hz.out.1]; simp, by go_num, rfl, below_drewN W2.out _⟩
          case measure => simp [intOf]; omega
        · obtain ⟨r0, r1⟩ := inR_iff.1 hr
          obtain ⟨d, hd⟩ : ∃ d : Nat, t - dl = d := ⟨(t - dl).toNat, by omega⟩
          have hdm : d < m := by omega
          rw [hd] at hr
          replace hw1 := hw1.trans hd
          have hz : given ins sN (t - dl) = (ins.getD sN default).getD d default := by
            unfold given
            rw [hd, if_pos ⟨by rw [Hni.out]; omega, by omega, by simp only [Int.toNat_natCast]; rw [Hq.out.1]; omega⟩]
            simp only [Int.toNat_natCast]
          obtain ⟨bx, ox, rfl, hbx, hcx⟩ := ints_cell Hq.out.2 d (by rw [Hq.out.1]; exact hdm)
          have hz1 := (HI.out.2 sN (by rw [Hni.out]; exact hsl)).2 d (by rw [Hq.out.1]; exact hdm)
          generalize (ins.getD sN default).getD d default = z at hcx hz hz1
          obtain ⟨z0, z1⟩ := hz1
          obtain ⟨y0, y1⟩ : 0 ≤ tm * z ∧ tm * z ≤ 100000000000 := by
            refine ⟨Int.mul_nonneg m0 z0, ?_⟩
            have := Int.mul_le_mul m1 z1 z0 (by omega)
            omega
          have hw3 : IntKind.i64.wrap (tm * z) = tm * z := IntWalk.i64_in _ (by omega)
          have hw4 : IntKind.i64.wrap (v + tm * z) = v + tm * z := IntWalk.i64_in _ (by omega)
          have Hz := Lib.hid (And.intro hz hr)
          have HD := Lib.hid hd
          clear hz hr hd
          clear y0 y1 z0 z1
          go_wp2_with fail
          obtain ⟨W1, hW1⟩ : ∃ W' : World, (X.alloc (.cells #[.int .i64 (sN : Int), .int .i64 tm, .int .i64 dl] 97)) = W' := ⟨_, rfl⟩
          have H1 : Has W1 [(X.heap.size, .cells #[.int .i64 (sN : Int), .int .i64 tm, .int .i64 dl] 97 (0, 0))] := by rw [← hW1]; simpa using ((Has.nil X).new _)
          have s1 : W1.heap.size = X.heap.size + 1 := by rw [← hW1]; simp
          have b1 : Below X.heap.size X W1 := by rw [← hW1]; exact (below_alloc (below_self X) _)
          rw [hW1]
          clear hW1
          have hB2 := below_trans HB.out b1
          have ec : W1.cell? ⟨bi, 0, none⟩ = _ := cell_call hB2 (a := ⟨bi, 0, none⟩) hbi Hci.out
          have eh : W1.cell? ⟨bh, oh + sN, none⟩ = some (.slice (some ⟨bx, ox, none⟩) m c) := cell_call b1 (a := ⟨bh, oh + sN, none⟩) (Nat.lt_of_lt_of_le hbh HB.out.size) hch
          have ex : W1.cell? ⟨bx, ox + d, none⟩ = some (.int .i64 z) := cell_call b1 (a := ⟨bx, ox + d, none⟩) (Nat.lt_of_lt_of_le hbx HB.out.size) hcx
          have c0 := blk_cell H1.hd 0
          have c1 := blk_cell H1.hd 1
          have c2 := blk_cell H1.hd 2
          simp at c0 c1 c2
          have W2 := Lib.hid hB2
          clear hB2 H1 s1 b1 hc0 hc1 hc2 hch hcx
          go_quiet (first | (go_at_call 99; exact Calls.quiet_of_same ((to_quiet _ _ _).mono fun e W' h => ⟨by rw [h.1, Hz.out.2], h.2⟩)))
          go_wp2_with fail
          go_quiet (fail)
          go_wp2_with fail
          go_roundw
          case rel => exact ⟨k + 1, _, by omega, by rw [Hsn.out, Hz.out.1], by go_num, rfl, by first | exact below_drewN W2.out _ | exact below_drewN (below_drewN W2.out _) _⟩
          case measure => simp [intOf]; omega
      · have hg : decide (sN < ni) = false := decide_eq_false hsl
        have hz : given ins sN (t - dl) = 0 := by
          unfold given
          rw [if_neg]
          intro hc
          rw [Hni.out] at hc
          omega
        have Hz := Lib.hid hz
        clear hz hsl
        go_wp2_with fail
        obtain ⟨W1, hW1⟩ : ∃ W' : World, (X.alloc (.cells #[.int .i64 (sN : Int), .int .i64 tm, .int .i64 dl] 97)) = W' := ⟨_, rfl⟩
        have H1 : Has W1 [(X.heap.size, .cells #[.int .i64 (sN : Int), .int .i64 tm, .int .i64 dl] 97 (0, 0))] := by rw [← hW1]; simpa using ((Has.nil X).new _)
        have s1 : W1.heap.size = X.heap.size + 1 := by rw [← hW1]; simp
        have b1 : Below X.heap.size X W1 := by rw [← hW1]; exact (below_alloc (below_self X) _)
        rw [hW1]
        clear hW1
        have hB2 := below_trans HB.out b1
        have ec : W1.cell? ⟨bi, 0, none⟩ = _ := cell_call hB2 (a := ⟨bi, 0, none⟩) hbi Hci.out
        have c0 := blk_cell H1.hd 0
        have c1 := blk_cell H1.hd 1
        have c2 := blk_cell H1.hd 2
        simp at c0 c1 c2
        have W2 := Lib.hid hB2
        clear hB2 H1 s1 b1 hc0 hc1 hc2
        go_quiet (fail)
        go_wp2_with fail
        go_roundw
        case rel => exact ⟨k + 1, _, by omega, by rw [Hsn.out, Hz.out]; simp, by go_num, rfl, below_drewN W2.out _⟩
        case measure => simp [intOf]; omega
    · have e : ps.take k = ps := List.take_of_length_le (by rw [Hn.out]; omega)
      rw [e] at v0 v1 ⊢
      have HE := Lib.hid e
      clear e
      go_wp2_with fail
      go_ret
      exact ⟨rfl, HB.out⟩
end Go.Proofs.YtmghcinbdfeeoaaGreat
