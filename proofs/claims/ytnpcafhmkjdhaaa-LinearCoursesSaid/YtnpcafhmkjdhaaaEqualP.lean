/- Chapter 06: slices.Equal over parts. -/
import Derived.Test.YtnpcafhmkjdhaaaLn
import Derived.BigQuiet
namespace Go.Proofs.Ytnpcafhmkjdhaaa
open Go Go.RowKit

theorem guardP : Try.prog.eqGuardType Try.prog.depth 43 = false := by kernel_rfl
theorem stoodP : Try.prog.stoodInHeld 43 = false := by kernel_rfl
theorem eqP (x m : Prt) (w : World) : (Op.equalIn 10000 43 x.val m.val).run Try.prog w = .ok (decide (x = m)) w := by
  have e0 := stoodP
  obtain ⟨x0, x1, x2⟩ := x
  obtain ⟨m0, m1, m2⟩ := m
  simp [go_sem, e0]
  by_cases h0 : x0 = m0 <;> simp [h0]
  by_cases h1 : x1 = m1 <;> simp [h1]
  by_cases h2 : x2 = m2 <;> simp [h2]

set_option maxHeartbeats 1000000 in
theorem equalP_ok (a1 a2 : Option Addr) (n1 c1 n2 c2 : Nat) (xs ys : List Prt) (w : World) (h1 : xs.length = n1) (h2 : ys.length = n2) (hl : n1 ≤ 9223372036854775807) (m1 : RowsAt w.heap.size w a1 3 (Prts xs)) (m2 : RowsAt w.heap.size w a2 3 (Prts ys)) :
    Calls Try.prog 26 #[.slice a1 n1 c1, .slice a2 n2 c2] w fun e W' => e = .returned (.bool (decide (xs = ys))) ∧ Below w.heap.size w W' := by
  have H1 := Lib.hid h1
  have H2 := Lib.hid h2
  have M1 := Lib.hid m1
  have M2 := Lib.hid m2
  clear m1 m2
  by_cases hne : n1 = n2
  · subst hne
    clear h1 h2
    have hg := guardP
    go_enter Try.func26, Try.ntmps26
    go_wp2_with fail
    go_loopw [13] (fun i wr => ∃ k d : Nat, k ≤ n1 ∧ i = .int .i64 k ∧ wr = w.drewN d ∧ Hid (∀ j, j < k → xs.getD j default = ys.getD j default)) (fun i _ => n1 - (intOf i).toNat)
    case atStart => exact ⟨0, 0, Nat.zero_le _, rfl, rfl, fun j hj => by omega⟩
    case round =>
      obtain ⟨k, d, hk, rfl, rfl, Hs⟩ := hrel
      by_cases hlt : k < n1
      · obtain ⟨b1, o1, rfl, _, p0, p1, p2⟩ := prts_at M1.out k (by rw [H1.out]; exact hlt)
        obtain ⟨b2, o2, rfl, _, q0, q1, q2⟩ := prts_at M2.out k (by rw [H2.out]; exact hlt)
        generalize hx : xs.getD k default = x at p0 p1 p2
        generalize hy : ys.getD k default = y at q0 q1 q2
        have HX := Lib.hid hx; clear hx
        have HY := Lib.hid hy; clear hy
        have hltI : (k : Int) < (n1 : Int) := by omega
        by_cases he : x = y
        · have heq : ∀ w, (Op.equalIn 10000 43 x.val y.val).run Try.prog w = .ok true w := fun w => by rw [eqP, decide_eq_true he]
          have HN : Hid (∀ j, j < k + 1 → xs.getD j default = ys.getD j default) := same_succ Hs.out (by rw [HX.out, HY.out]; exact he)
          clear he
          go_wp2_with fail
          go_quiet (fail)
          clear heq p0 p1 p2 q0 q1 q2
          go_wp2_with fail
          go_roundw
          case rel => exact ⟨k + 1, d + nq, by omega, by go_num, rfl, HN⟩
          case measure => simp [intOf]; omega
        · have heq : ∀ w, (Op.equalIn 10000 43 x.val y.val).run Try.prog w = .ok false w := fun w => by rw [eqP, decide_eq_false he]
          have HN := Lib.hid (show ¬ xs = ys by intro h; apply he; rw [← HX.out, ← HY.out, h])
          clear he
          go_wp2_with fail
          go_quiet (fail)
          clear heq p0 p1 p2 q0 q1 q2
          go_wp2_with fail
          go_ret
          exact ⟨by rw [decide_eq_false HN.out]; rfl, below_drewN (below_drewN (below_self w) d) nq⟩
      · have HE := Lib.hid (eq_of_get (by rw [H1.out, H2.out]) (fun j hj => Hs.out j (by rw [H1.out] at hj; omega)))
        go_wp2_with fail
        go_ret
        exact ⟨by rw [decide_eq_true HE.out]; rfl, below_drewN (below_self w) d⟩
  · have hd : decide (xs = ys) = false := decide_eq_false (by intro h; apply hne; rw [← h1, ← h2, h])
    rw [hd]
    have hne2 : ¬ (n1 : Int) = (n2 : Int) := by omega
    clear hd h1 h2
    go_enter Try.func26, Try.ntmps26
    go_wp2_with fail
    go_ret
    exact ⟨rfl, below_self w⟩
end Go.Proofs.Ytnpcafhmkjdhaaa
