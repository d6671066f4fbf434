/- Chapter 15: the two ways to say that a site is valid; the reference's Ints. -/
import Derived.Test.YtmghcinbdfeeoaaRf12
namespace Go.Proofs.Ytmghcinbdfeeoaa
open Go Go.RowKit
set_option linter.unusedSimpArgs false

theorem idx_inR (n m : Int) : inR n 0 (m - 1) = idx n m := by
  unfold inR idx
  exact decide_eq_decide.2 (by omega)
theorem rBk_eq (n : Nat) : rBk n = okBk n := by
  funext b
  unfold rBk okBk num
  rw [idx_inR]
  simp only [Bool.and_assoc]
theorem rRk_eq (nb nl : Nat) (sw : Int) : rRk nb nl sw = okRk nb nl sw := by
  funext r
  unfold rRk okRk
  rw [idx_inR, idx_inR, idx_inR, show inR r.row 0 3 = idx r.row 4 from idx_inR r.row 4]
theorem rLk_eq (sw : Int) : rLk sw = okLk sw := by
  funext l
  unfold rLk okLk
  rw [idx_inR, idx_inR]
theorem rHo_eq (nr : Nat) : rHo nr = okHo nr := by
  funext h
  unfold rHo okHo
  rw [idx_inR]
theorem siteR_eq {s : Site} {w : World} (hs : s.At w) : siteR s = siteOk s := by
  unfold siteR powerOk roomsOk siteOk sizesOk
  rw [hs.feeds.len, hs.brks.len, hs.loops.len, hs.racks.len, hs.links.len, hs.hosts.len, rBk_eq, rRk_eq, rLk_eq, rHo_eq, show rFd = okFd from rfl, show rLp = okLp from rfl]
  ac_rfl
theorem site_ref (s : Site) (w : World) (hs : s.At w) : Calls Try.prog 24 #[s.val] w fun e W' => e = .returned (.bool (siteOk s)) ∧ Below w.heap.size w W' := by
  rw [← siteR_eq hs]
  exact sitev_ref s w hs

set_option maxHeartbeats 1000000 in
theorem ints_ref (a : Option Addr) (n cap : Nat) (xs : List Int) (b : Option Addr) (m kap : Nat) (ys : List Int) (w : World) (hx : Reads w (a, n, cap) 1 xs.length (Ints xs)) (hy : Reads w (b, m, kap) 1 ys.length (Ints ys)) :
    Calls Try.prog 16 #[.slice a n cap, .slice b m kap] w fun e W' => e = .returned (.bool (decide (xs = ys))) ∧ Below w.heap.size w W' := by
  have HN := Lib.hid (show xs.length = n from hx.len)
  have HM := Lib.hid (show ys.length = m from hy.len)
  have hnl : n ≤ 9223372036854775807 := hx.le
  have hml : m ≤ 9223372036854775807 := hy.le
  have HX := Lib.hid (And.intro hx.rows hy.rows)
  clear hx hy
  by_cases e : n = m
  · subst e
    go_enter Try.func16, Try.ntmps16
    go_wp2_with fail
    go_loopw [5] (fun i wr => ∃ k d : Nat, k ≤ n ∧ i = .int .i64 k ∧ wr = w.drewN d ∧ Hid (∀ j, j < k → xs.getD j default = ys.getD j default)) (fun i _ => n - (intOf i).toNat)
    case atStart => exact ⟨0, 0, Nat.zero_le _, rfl, rfl, Lib.hid (fun j hj => absurd hj (Nat.not_lt_zero _))⟩
    case round =>
      obtain ⟨k, d, hk, rfl, rfl, HI⟩ := hrel
      by_cases hlt : k < n
      · have hltI : (k : Int) < (n : Int) := by omega
        obtain ⟨b1, o1, rfl, _, c1⟩ := ints_at HX.out.1 k (by rw [HN.out]; exact hlt)
        obtain ⟨b2, o2, rfl, _, c2⟩ := ints_at HX.out.2 k (by rw [HM.out]; exact hlt)
        have HU := Lib.hid (show xs.getD k default = ys.getD k default → ∀ j, j < k + 1 → xs.getD j default = ys.getD j default from fun h j hj => by
          by_cases e : j = k
          · rw [e]; exact h
          · exact HI.out j (by omega))
        have HV := Lib.hid (show xs.getD k default ≠ ys.getD k default → decide (xs = ys) = false from fun h => decide_eq_false (fun e => h (by rw [e])))
        by_cases e : xs.getD k default = ys.getD k default
        · have HT := Lib.hid (HU.out e)
          rw [← e] at c2
          clear HU HV e
          generalize xs.getD k default = y at c1 c2
          go_wp2_with fail
          go_quiet (fail)
          clear c1 c2
          go_wp2_with fail
          go_roundw
          case rel => exact ⟨k + 1, d + nq, by omega, by go_num, rfl, HT⟩
          case measure => simp [intOf]; omega
        · have HF := Lib.hid (HV.out e)
          clear HU HV
          generalize xs.getD k default = y1 at c1 e
          generalize ys.getD k default = y2 at c2 e
          have eB : (y1 == y2) = false := beq_eq_false_iff_ne.2 e
          go_wp2_with fail
          go_quiet (fail)
          go_wp2_with fail
          go_ret
          exact ⟨by rw [HF.out]; rfl, below_drewN (below_drewN (below_self w) _) _⟩
      · have hltI : ¬ (k : Int) < (n : Int) := by omega
        have HT := Lib.hid (show decide (xs = ys) = true from decide_eq_true (by
          apply List.ext_getElem (by rw [HN.out, HM.out])
          intro i h1 h2
          have := HI.out i (by rw [HN.out] at h1; omega)
          rw [List.getD_eq_getElem?_getD, List.getD_eq_getElem?_getD, List.getElem?_eq_getElem h1, List.getElem?_eq_getElem h2] at this
          exact this))
        go_wp2_with fail
        go_ret
        exact ⟨by rw [HT.out]; rfl, below_drewN (below_self w) _⟩
  · have HE := Lib.hid (show decide (xs = ys) = false from decide_eq_false (fun h => e (by rw [← HN.out, ← HM.out, h])))
    have eI : ¬ (n : Int) = m := by omega
    have eB : ((n : Int) == m) = false := beq_eq_false_iff_ne.2 eI
    go_enter Try.func16, Try.ntmps16
    go_wp2_with fail
    go_ret
    exact ⟨by rw [HE.out]; rfl, below_self _⟩
end Go.Proofs.Ytmghcinbdfeeoaa
