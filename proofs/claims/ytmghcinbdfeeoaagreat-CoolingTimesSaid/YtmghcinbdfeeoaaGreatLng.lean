/- Chapter 15: cooling.Longest. -/
import Derived.Test.YtmghcinbdfeeoaaGreatTim
namespace Go.Proofs.YtmghcinbdfeeoaaGreat
open Go Go.RowKit
set_option linter.unusedSimpArgs false

set_option maxHeartbeats 4000000 in
theorem after_ok (s : Site) (x : Wish) (v : Wld) (loop start n : Int) (w : World) (hs : s.At w) (hx : x.At w) (hv : v.At w) :
    Calls Tryz.prog 6 #[s.val, x.val, v.val, .int .i64 loop, .int .i64 start, .int .i64 n] w fun e W' => e = .returned (.tuple #[.int .i64 (aftV s x v loop start n), .int .i64 (conE s x v loop start n)]) ∧ Below w.heap.size w W' := by
  have HI := Lib.hid (And.intro hs (And.intro hx hv))
  clear hs hx hv
  by_cases he : conE s x v loop start n = 0
  · have HE := Lib.hid (show aftV s x v loop start n = (conV s x v loop start n).getD n.toNat default by unfold aftV; rw [if_pos he])
    obtain ⟨h0, h1, h2⟩ := con_len he
    obtain ⟨k, rfl⟩ : ∃ k : Nat, n = k := ⟨n.toNat, by omega⟩
    have HH := Lib.hid (And.intro he h2)
    rw [HE.out, he]
    clear he h2
    go_enter Tryz.func6, Tryz.ntmps6
    go_wp2_with fail
    obtain ⟨A, hA⟩ : ∃ W' : World, (((w.alloc (.cells s.cells.toArray 29)).alloc (.cells x.cells.toArray 32)).alloc (.cells v.cells.toArray 36)) = W' := ⟨_, rfl⟩
    have h : Has A [(w.heap.size + 1 + 1, .cells v.cells.toArray 36 (0, 0)), (w.heap.size + 1, .cells x.cells.toArray 32 (0, 0)), (w.heap.size, .cells s.cells.toArray 29 (0, 0))] := by rw [← hA]; simpa using ((((Has.nil w).new _).new _).new _)
    have z : A.heap.size = w.heap.size + 1 + 1 + 1 := by rw [← hA]; simp
    have b : Below w.heap.size w A := by rw [← hA]; exact (below_alloc (below_alloc (below_alloc (below_self w) _) _) _)
    rw [hA]
    clear hA
    have HA := Lib.hid b
    clear h z b
    refine (constant_ok s x v loop start k A (HI.out.1.later HA.out) (HI.out.2.1.later HA.out) (HI.out.2.2.later HA.out)).mono ?_
    rintro e B ⟨u, rfl, ho, hb⟩
    have HB := Lib.hid (below_trans HA.out hb)
    clear hb HA
    rw [HH.out.1]
    have hl : (conV s x v loop start k).length = k + 1 := by have := HH.out.2; simpa using this
    obtain ⟨L, hL⟩ : ∃ L, conV s x v loop start k = L := ⟨_, rfl⟩
    rw [hL] at ho hl
    have HL := Lib.hid hL
    clear hL
    obtain ⟨a, cap, rfl, hr⟩ := ownI_reads ho hl
    obtain ⟨b1, o1, q1, hb1, c0⟩ := ints_at hr.rows k (by omega)
    simp only at q1
    subst q1
    have hlt : (k : Int) < ((k + 1 : Nat) : Int) := by omega
    generalize hz : L.getD k default = y at c0
    have HZ := Lib.hid hz
    clear hz hr ho
    go_wp2_with fail
    go_ret2
    exact ⟨by rw [HL.out, Int.toNat_natCast, HZ.out]; rfl, HB.out⟩
  · have HE := Lib.hid (show aftV s x v loop start n = 0 by unfold aftV; rw [if_neg he])
    rw [HE.out]
    have hD : decide (conE s x v loop start n = 0) = false := decide_eq_false he
    go_enter Tryz.func6, Tryz.ntmps6
    go_wp2_with fail
    obtain ⟨A, hA⟩ : ∃ W' : World, (((w.alloc (.cells s.cells.toArray 29)).alloc (.cells x.cells.toArray 32)).alloc (.cells v.cells.toArray 36)) = W' := ⟨_, rfl⟩
    have h : Has A [(w.heap.size + 1 + 1, .cells v.cells.toArray 36 (0, 0)), (w.heap.size + 1, .cells x.cells.toArray 32 (0, 0)), (w.heap.size, .cells s.cells.toArray 29 (0, 0))] := by rw [← hA]; simpa using ((((Has.nil w).new _).new _).new _)
    have z : A.heap.size = w.heap.size + 1 + 1 + 1 := by rw [← hA]; simp
    have b : Below w.heap.size w A := by rw [← hA]; exact (below_alloc (below_alloc (below_alloc (below_self w) _) _) _)
    rw [hA]
    clear hA
    have HA := Lib.hid b
    clear h z b
    refine (constant_ok s x v loop start n A (HI.out.1.later HA.out) (HI.out.2.1.later HA.out) (HI.out.2.2.later HA.out)).mono ?_
    rintro e B ⟨u, rfl, ho, hb⟩
    have HB := Lib.hid (below_trans HA.out hb)
    clear hb HA
    clear ho
    obtain ⟨q, hq⟩ : ∃ q, conE s x v loop start n = q := ⟨_, rfl⟩
    rw [hq] at he hD ⊢
    have HQ := Lib.hid hq
    clear hq
    go_wp2_with fail
    go_ret2
    exact ⟨by rw [HQ.out]; rfl, HB.out⟩

end Go.Proofs.YtmghcinbdfeeoaaGreat

namespace Go.Proofs.YtmghcinbdfeeoaaGreat
open Go Go.RowKit
set_option linter.unusedSimpArgs false

theorem lover_ok (y limit : Int) (b : Nat) (w : World) (hc : w.cell? ⟨b, 0, none⟩ = some (.int .i64 limit)) : Calls Tryz.prog 20 #[.int .i64 y, .pointer (some ⟨b, 0, none⟩)] w fun e W' => e = .returned (.bool (decide (limit < y))) ∧ w = W' := by
  go_enter Tryz.func20, Tryz.ntmps20
  go_wp2_with fail
  go_ret
  exact ⟨rfl, rfl⟩
/-- What Longest returns: the error, the number. -/
def lngE (s : Site) (x : Wish) (v : Wld) (loop start limit : Int) : Int := if conE s x v loop start 1000 = 0 then (if inR limit 0 1000000 = true then 0 else 1) else conE s x v loop start 1000
def lngI (s : Site) (x : Wish) (v : Wld) (loop start limit : Int) : Int := idxI (fun y => decide (limit < y)) (conV s x v loop start 1000)
def lngV (s : Site) (x : Wish) (v : Wld) (loop start limit : Int) : Int := if lngE s x v loop start limit = 0 then (if lngI s x v loop start limit < 0 then 1000 else lngI s x v loop start limit - 1) else 0

set_option maxHeartbeats 4000000 in
theorem longest_ok (s : Site) (x : Wish) (v : Wld) (loop start limit : Int) (w : World) (hs : s.At w) (hx : x.At w) (hv : v.At w) :
    Calls Tryz.prog 8 #[s.val, x.val, v.val, .int .i64 loop, .int .i64 start, .int .i64 limit] w fun e W' => e = .returned (.tuple #[.int .i64 (lngV s x v loop start limit), .int .i64 (lngE s x v loop start limit)]) ∧ Below w.heap.size w W' := by
  have HI := Lib.hid (And.intro hs (And.intro hx hv))
  clear hs hx hv
  by_cases he : conE s x v loop start 1000 = 0
  · have hE : lngE s x v loop start limit = (if inR limit 0 1000000 = true then 0 else 1) := by unfold lngE; rw [if_pos he]
    obtain ⟨_, _, h2⟩ := con_len he
    have HH := Lib.hid (And.intro he h2)
    clear he h2
    by_cases hr : inR limit 0 1000000 = true
    · rw [if_pos hr] at hE
      have HE := Lib.hid (And.intro hE (show lngV s x v loop start limit = (if lngI s x v loop start limit < 0 then 1000 else lngI s x v loop start limit - 1) by unfold lngV; rw [if_pos hE]))
      rw [HE.out.1]
      have hr := inR_iff.1 hr
      have hr0 := hr.1
      have hr1 := hr.2
      clear hE hr
      go_enter Tryz.func8, Tryz.ntmps8
      go_wp2_with fail
      obtain ⟨A, hA⟩ : ∃ W' : World, ((((w.alloc (.cells s.cells.toArray 29)).alloc (.cells x.cells.toArray 32)).alloc (.cells v.cells.toArray 36)).alloc (.cells #[.int .i64 limit] 3)) = W' := ⟨_, rfl⟩
      have h : Has A [(w.heap.size + 1 + 1 + 1, .cells #[.int .i64 limit] 3 (0, 0)), (w.heap.size + 1 + 1, .cells v.cells.toArray 36 (0, 0)), (w.heap.size + 1, .cells x.cells.toArray 32 (0, 0)), (w.heap.size, .cells s.cells.toArray 29 (0, 0))] := by rw [← hA]; simpa using (((((Has.nil w).new _).new _).new _).new _)
      have z : A.heap.size = w.heap.size + 1 + 1 + 1 + 1 := by rw [← hA]; simp
      have b : Below w.heap.size w A := by rw [← hA]; exact (below_alloc (below_alloc (below_alloc (below_alloc (below_self w) _) _) _) _)
      rw [hA]
      clear hA
      have HA := Lib.hid (And.intro h.hd b)
      clear h z b
      refine (constant_ok s x v loop start 1000 A (HI.out.1.later HA.out.2) (HI.out.2.1.later HA.out.2) (HI.out.2.2.later HA.out.2)).mono ?_
      rintro e B ⟨u, rfl, ho, hb⟩
      have HB := Lib.hid (And.intro (blk_below HA.out.1 hb) (below_trans HA.out.2 hb))
      clear hb HA
      rw [HH.out.1]
      have hl : (conV s x v loop start 1000).length = 1001 := by have := HH.out.2; simpa using this
      obtain ⟨L, hL⟩ : ∃ L, conV s x v loop start 1000 = L := ⟨_, rfl⟩
      rw [hL] at ho hl
      have HL := Lib.hid (show lngI s x v loop start limit = idxI (fun y => decide (limit < y)) L by unfold lngI; rw [hL])
      clear hL
      obtain ⟨a, cap, rfl, hrd⟩ := ownI_reads ho hl
      have dl : w.heap.size + 1 + 1 + 1 < B.heap.size := blk_lt HB.out.1
      have c0 : B.cell? ⟨w.heap.size + 1 + 1 + 1, 0, none⟩ = some (.int .i64 limit) := (blk_cell HB.out.1 0).trans rfl
      have HR := Lib.hid hrd.rows
      have hll := Lib.hid hl
      clear hrd ho hl
      go_wp2_with fail
      refine (indexI_ok 20 #[.pointer (some ⟨w.heap.size + 1 + 1 + 1, 0, none⟩)] (fun y => decide (limit < y)) a 1001 cap L B hll.out (by omega) HR.out
        (fun W y hb => (lover_ok y limit (w.heap.size + 1 + 1 + 1) W (cell_call hb dl c0)).mono (by rintro e W' ⟨rfl, rfl⟩; exact ⟨rfl, below_self _⟩)) (enters_of Tryz.func20 (by kernel_rfl) rfl)).mono ?_
      rintro e Z ⟨rfl, hb⟩
      have HZ := Lib.hid (below_trans HB.out.2 hb)
      have hq0 := idxI_lt (fun y => decide (limit < y)) L
      rw [hll.out] at hq0
      obtain ⟨q, hq⟩ : ∃ q, idxI (fun y => decide (limit < y)) L = q := ⟨_, rfl⟩
      rw [hq] at HL hq0 ⊢
      clear hb hq
      by_cases hqn : q < 0
      · go_wp2_with fail
        go_ret2
        exact ⟨by rw [HE.out.2, HL.out, if_pos hqn]; rfl, HZ.out⟩
      · have hw1 : IntKind.i64.wrap (q - 1) = q - 1 := IntWalk.i64_in _ (by omega)
        go_wp2_with fail
        go_ret2
        exact ⟨by rw [HE.out.2, HL.out, if_neg (show ¬ q < 0 by omega)]; rfl, HZ.out⟩
    · rw [if_neg hr] at hE
      have HE := Lib.hid (And.intro hE (show lngV s x v loop start limit = 0 by unfold lngV; rw [if_neg (by rw [hE]; omega)]))
      rw [HE.out.1, HE.out.2]
      have hr2 : ¬ (0 ≤ limit ∧ limit ≤ 1000000) := fun h => hr (inR_iff.2 h)
      clear hE hr
      go_enter Tryz.func8, Tryz.ntmps8
      go_wp2_with fail
      obtain ⟨A, hA⟩ : ∃ W' : World, ((((w.alloc (.cells s.cells.toArray 29)).alloc (.cells x.cells.toArray 32)).alloc (.cells v.cells.toArray 36)).alloc (.cells #[.int .i64 limit] 3)) = W' := ⟨_, rfl⟩
      have h : Has A [(w.heap.size + 1 + 1 + 1, .cells #[.int .i64 limit] 3 (0, 0)), (w.heap.size + 1 + 1, .cells v.cells.toArray 36 (0, 0)), (w.heap.size + 1, .cells x.cells.toArray 32 (0, 0)), (w.heap.size, .cells s.cells.toArray 29 (0, 0))] := by rw [← hA]; simpa using (((((Has.nil w).new _).new _).new _).new _)
      have z : A.heap.size = w.heap.size + 1 + 1 + 1 + 1 := by rw [← hA]; simp
      have b : Below w.heap.size w A := by rw [← hA]; exact (below_alloc (below_alloc (below_alloc (below_alloc (below_self w) _) _) _) _)
      rw [hA]
      clear hA
      have HA := Lib.hid (And.intro h.hd b)
      clear h z b
      refine (constant_ok s x v loop start 1000 A (HI.out.1.later HA.out.2) (HI.out.2.1.later HA.out.2) (HI.out.2.2.later HA.out.2)).mono ?_
      rintro e B ⟨u, rfl, ho, hb⟩
      have HB := Lib.hid (And.intro (blk_below HA.out.1 hb) (below_trans HA.out.2 hb))
      clear hb HA
      rw [HH.out.1]
      clear ho
      have dl : w.heap.size + 1 + 1 + 1 < B.heap.size := blk_lt HB.out.1
      have c0 : B.cell? ⟨w.heap.size + 1 + 1 + 1, 0, none⟩ = some (.int .i64 limit) := (blk_cell HB.out.1 0).trans rfl
      by_cases l0 : 0 ≤ limit
      · have l1 : ¬ limit ≤ 1000000 := fun h => hr2 ⟨l0, h⟩
        clear hr2
        go_wp2_with fail
        go_ret2
        exact ⟨rfl, HB.out.2⟩
      · clear hr2
        go_wp2_with fail
        go_ret2
        exact ⟨rfl, HB.out.2⟩
  · have HE := Lib.hid (And.intro (show lngE s x v loop start limit = conE s x v loop start 1000 by unfold lngE; rw [if_neg he]) (show lngV s x v loop start limit = 0 by unfold lngV lngE; rw [if_neg he, if_neg he]))
    rw [HE.out.1, HE.out.2]
    have hD : decide (conE s x v loop start 1000 = 0) = false := decide_eq_false he
    go_enter Tryz.func8, Tryz.ntmps8
    go_wp2_with fail
    obtain ⟨A, hA⟩ : ∃ W' : World, ((((w.alloc (.cells s.cells.toArray 29)).alloc (.cells x.cells.toArray 32)).alloc (.cells v.cells.toArray 36)).alloc (.cells #[.int .i64 limit] 3)) = W' := ⟨_, rfl⟩
    have h : Has A [(w.heap.size + 1 + 1 + 1, .cells #[.int .i64 limit] 3 (0, 0)), (w.heap.size + 1 + 1, .cells v.cells.toArray 36 (0, 0)), (w.heap.size + 1, .cells x.cells.toArray 32 (0, 0)), (w.heap.size, .cells s.cells.toArray 29 (0, 0))] := by rw [← hA]; simpa using (((((Has.nil w).new _).new _).new _).new _)
    have z : A.heap.size = w.heap.size + 1 + 1 + 1 + 1 := by rw [← hA]; simp
    have b : Below w.heap.size w A := by rw [← hA]; exact (below_alloc (below_alloc (below_alloc (below_alloc (below_self w) _) _) _) _)
    rw [hA]
    clear hA
    have HA := Lib.hid (And.intro h.hd b)
    clear h z b
    refine (constant_ok s x v loop start 1000 A (HI.out.1.later HA.out.2) (HI.out.2.1.later HA.out.2) (HI.out.2.2.later HA.out.2)).mono ?_
    rintro e B ⟨u, rfl, ho, hb⟩
    have HB := Lib.hid (And.intro (blk_below HA.out.1 hb) (below_trans HA.out.2 hb))
    clear hb HA
    clear ho
    obtain ⟨q, hq⟩ : ∃ q, conE s x v loop start 1000 = q := ⟨_, rfl⟩
    rw [hq] at he hD ⊢
    have HQ := Lib.hid hq
    clear hq
    go_wp2_with fail
    go_ret2
    exact ⟨by rw [HQ.out]; rfl, HB.out.2⟩
end Go.Proofs.YtmghcinbdfeeoaaGreat
