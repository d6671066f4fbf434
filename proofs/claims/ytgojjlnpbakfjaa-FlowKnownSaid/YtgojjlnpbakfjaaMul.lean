/- Chapter 15: bits.Mul of 1 and a small number. -/
import Derived.Test.YtgojjlnpbakfjaaInts
namespace Go.Proofs.Ytgojjlnpbakfjaa
open Go Go.RowKit

theorem and_small : ∀ n : Nat, n ≤ 1000 → bits BinOp.and IntKind.u64 n 4294967295 = n := by decide +kernel
theorem and_zero : bits BinOp.and IntKind.u64 0 4294967295 = 0 := by rfl
theorem and_one : bits BinOp.and IntKind.u64 1 4294967295 = 1 := by rfl
theorem u64_in {z : Int} (h : 0 ≤ z) (h2 : z < 18446744073709551616) : IntKind.u64.wrap z = z := by
  unfold IntKind.wrap
  simp [IntKind.bits, IntKind.signed]
  omega
set_option maxHeartbeats 1000000 in
theorem mul64_n (n : Nat) (hn : n ≤ 1000) (w : World) : Calls Try.prog 52 #[.int .u64 1, .int .u64 n] w fun e W' => e = .returned (.tuple #[.int .u64 0, .int .u64 n]) ∧ w = W' := by
  go_enter Try.func52, Try.ntmps52
  go_wp2_with fail
  go_ret2
  have ha := and_small n hn
  have hc : (n : Int) / 4294967296 = 0 := by omega
  have hw := u64_in (z := (n : Int)) (by omega) (by omega)
  have hz := u64_in (z := 0) (by omega) (by omega)
  refine ⟨?_, rfl⟩
  simp [ha, hc, hw, hz, and_one, and_zero]
end Go.Proofs.Ytgojjlnpbakfjaa
