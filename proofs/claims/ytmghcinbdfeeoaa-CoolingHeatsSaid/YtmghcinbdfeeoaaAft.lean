/- Chapter 15: cooling.After, cooling.Longest. -/
import Derived.Test.YtmghcinbdfeeoaaTim
namespace Go.Proofs.Ytmghcinbdfeeoaa
open Go Go.RowKit
set_option linter.unusedSimpArgs false

set_option maxHeartbeats 4000000 in
theorem after_ok (s : Site) (x : Wish) (v : Wld) (loop start n : Int) (w : World) (hs : s.At w) (hx : x.At w) (hv : v.At w) :
    Calls Try.prog 18 #[s.val, x.val, v.val, .int .i64 loop, .int .i64 start, .int .i64 n] w fun e W' => e = .returned (.tuple #[.int .i64 (aftV s x v loop start n), .int .i64 (conE s x v loop start n)]) ∧ Below w.heap.size w W' := by
  have HI := Lib.hid (And.intro hs (And.intro hx hv))
  clear hs hx hv
  by_cases he : conE s x v loop start n = 0
  · have HE := Lib.hid (show aftV s x v loop start n = (conV s x v loop start n).getD n.toNat default by unfold aftV; rw [if_pos he])
    obtain ⟨h0, h1, h2⟩ := con_len he
    obtain ⟨k, rfl⟩ : ∃ k : Nat, n = k := ⟨n.toNat, by omega⟩
    have HH := Lib.hid (And.intro he h2)
    rw [HE.out, he]
    clear he h2
    go_enter Try.func18, Try.ntmps18
    go_wp2_with fail
    obtain ⟨A, hA⟩ : ∃ W' : World, (((w.alloc (.cells s.cells.toArray 29)).alloc (.cells x.cells.toArray 32)).alloc (.cells v.cells.toArray 36)) = W' := ⟨_, rfl⟩
    have h : Has A [(w.heap.size + 1 + 1, .cells v.cells.toArray 36 (0, 0)), (w.heap.size + 1, .cells x.cells.toArray 32 (0, 0)), (w.heap.size, .cells s.cells.toArray 29 (0, 0))] := by rw [← hA]; simpa using ((((Has.nil w).new _).new _).new _)
    have z : A.heap.size = w.heap.size + 1 + 1 + 1 := by rw [← hA]; simp
    have b : Below w.heap.size w A := by rw [← hA]; exact (below_alloc (below_alloc (below_alloc (below_self w) _) _) _)
    rw [hA]
    clear hA
    have HA := Lib.hid b
    clear h z b
    refine (constant_ok s x v loop start k A (HI.out.1.later HA.out) (HI.out.2.1.later HA.out) (HI.out.2.2.later HA.out)).mono ?_
    rintro e B ⟨u, rfl, ho, hb⟩
    have HB := Lib.hid (below_trans HA.out hb)
    clear hb HA
    rw [HH.out.1]
    have hl : (conV s x v loop start k).length = k + 1 := by have := HH.out.2; simpa using this
    obtain ⟨L, hL⟩ : ∃ L, conV s x v loop start k = L := ⟨_, rfl⟩
    rw [hL] at ho hl
    have HL := Lib.hid hL
    clear hL
    obtain ⟨a, cap, rfl, hr⟩ := ownI_reads ho hl
    obtain ⟨b1, o1, q1, hb1, c0⟩ := ints_at hr.rows k (by omega)
    simp only at q1
    subst q1
    have hlt : (k : Int) < ((k + 1 : Nat) : Int) := by omega
    generalize hz : L.getD k default = y at c0
    have HZ := Lib.hid hz
    clear hz hr ho
    go_wp2_with fail
    go_ret2
    exact ⟨by rw [HL.out, Int.toNat_natCast, HZ.out]; rfl, HB.out⟩
  · have HE := Lib.hid (show aftV s x v loop start n = 0 by unfold aftV; rw [if_neg he])
    rw [HE.out]
    have hD : decide (conE s x v loop start n = 0) = false := decide_eq_false he
    go_enter Try.func18, Try.ntmps18
    go_wp2_with fail
    obtain ⟨A, hA⟩ : ∃ W' : World, (((w.alloc (.cells s.cells.toArray 29)).alloc (.cells x.cells.toArray 32)).alloc (.cells v.cells.toArray 36)) = W' := ⟨_, rfl⟩
    have h : Has A [(w.heap.size + 1 + 1, .cells v.cells.toArray 36 (0, 0)), (w.heap.size + 1, .cells x.cells.toArray 32 (0, 0)), (w.heap.size, .cells s.cells.toArray 29 (0, 0))] := by rw [← hA]; simpa using ((((Has.nil w).new _).new _).new _)
    have z : A.heap.size = w.heap.size + 1 + 1 + 1 := by rw [← hA]; simp
    have b : Below w.heap.size w A := by rw [← hA]; exact (below_alloc (below_alloc (below_alloc (below_self w) _) _) _)
    rw [hA]
    clear hA
    have HA := Lib.hid b
    clear h z b
    refine (constant_ok s x v loop start n A (HI.out.1.later HA.out) (HI.out.2.1.later HA.out) (HI.out.2.2.later HA.out)).mono ?_
    rintro e B ⟨u, rfl, ho, hb⟩
    have HB := Lib.hid (below_trans HA.out hb)
    clear hb HA
    clear ho
    obtain ⟨q, hq⟩ : ∃ q, conE s x v loop start n = q := ⟨_, rfl⟩
    rw [hq] at he hD ⊢
    have HQ := Lib.hid hq
    clear hq
    go_wp2_with fail
    go_ret2
    exact ⟨by rw [HQ.out]; rfl, HB.out⟩

end Go.Proofs.Ytmghcinbdfeeoaa
