/- Chapter 05: the reference's Max. -/
import Derived.Test.YtgojjlnpbakfjaaGre
import Derived.Test.YtgojjlnpbakfjaaChkR
import Derived.Test.YtgojjlnpbakfjaaMax
namespace Go.Proofs.Ytgojjlnpbakfjaa
open Go Go.RowKit
set_option linter.unusedSimpArgs false

theorem chk_flow {n : Nat} {l : List Ar} {s t : Nat} {f : List Int} (h0 : askF n l s t = 0) (hf : Flw n l s t f) : chkE n l s t f = 0 ∧ chkV n l s t f = net l f s := by
  have h1 : chkE n l s t f = 0 := by
    unfold chkE
    rw [if_pos h0, Int.toNat_natCast, flw_iff.2 hf]
    rfl
  refine ⟨h1, ?_⟩
  unfold chkV
  rw [if_pos h1]

set_option maxRecDepth 100000 in
set_option maxHeartbeats 4000000 in
theorem maxref_ok (N : Int) (a : Option Addr) (k c : Nat) (l : List Ar) (s t : Int) (w : World) (hn : l.length = k) (hl : k ≤ 9223372036854775807) (hm : RowsAt w.heap.size w a 3 (Ars l)) :
    Calls Try.prog 12 #[.agg #[.int .i64 N, .slice a k c], .int .i64 s, .int .i64 t] w fun e W' => ∃ r v, e = .returned (.tuple #[.int .i64 r, v, .int .i64 (askF N l s t)]) ∧ ∃ f, OwnI w.heap.size W' v f ∧ MaxIs N l s t r f ∧ Below w.heap.size w W' := by
  have HM := Lib.hid (And.intro hn hm)
  by_cases h0 : askF N l s t = 0
  · obtain ⟨hv, hs, ht, hst⟩ := askF_zero h0
    obtain ⟨h2, h64, h128, hA⟩ := netOk_iff.1 hv
    obtain ⟨n, rfl⟩ : ∃ n : Nat, N = n := ⟨N.toNat, by omega⟩
    obtain ⟨s, rfl⟩ : ∃ z : Nat, s = z := ⟨s.toNat, by omega⟩
    obtain ⟨t, rfl⟩ : ∃ z : Nat, t = z := ⟨t.toNat, by omega⟩
    have H0 := Lib.hid (And.intro h0 (And.intro hv (show s < n ∧ t < n ∧ s ≠ t by omega)))
    have hk : k ≤ 128 := by omega
    rw [h0]
    clear hn hm hv hs ht hst h2 h64 h128 hA h0
    go_enter Try.func12, Try.ntmps12
    go_wp2_with fail
    obtain ⟨A, hA⟩ : ∃ W' : World, (w.alloc (.cells #[.int .i64 n, .slice a k c] 24)) = W' := ⟨_, rfl⟩
    have h : Has A [(w.heap.size, .cells #[.int .i64 n, .slice a k c] 24 (0, 0))] := by rw [← hA]; simpa using ((Has.nil w).new _)
    have z : A.heap.size = w.heap.size + 1 := by rw [← hA]; simp
    have b : Below w.heap.size w A := by rw [← hA]; exact (below_alloc (below_self w) _)
    rw [hA]
    clear hA
    have HA := Lib.hid (And.intro h.hd b)
    clear h z b
    refine (askedref_ok n a k c l s t A HM.out.1 hl (HM.out.2.later HA.out.2)).mono ?_
    rintro e B ⟨rfl, hb⟩
    rw [H0.out.1]
    have HB := Lib.hid (And.intro (blk_below HA.out.1 hb) (below_trans HA.out.2 hb))
    clear hb HA
    have c0 : B.cell? ⟨w.heap.size, 0, none⟩ = some (.int .i64 n) := (blk_cell HB.out.1 0).trans rfl
    have c1 : B.cell? ⟨w.heap.size, 1, none⟩ = some (.slice a k c) := (blk_cell HB.out.1 1).trans rfl
    have lb := blk_lt HB.out.1
    go_wp2_with fail
    refine (greatest_ok n a k c l s t B HM.out.1 H0.out.2.1 (HM.out.2.later HB.out.2) H0.out.2.2.1 H0.out.2.2.2.1 H0.out.2.2.2.2).mono ?_
    rintro e C ⟨g, rfl, f, ho, hf, hb⟩
    have HC := Lib.hid (And.intro (blk_below HB.out.1 hb) (And.intro (below_trans HB.out.2 hb) (And.intro (owns_base ho HB.out.2.size) hf)))
    clear c0 c1 lb ho hf hb HB
    have c0 : C.cell? ⟨w.heap.size, 0, none⟩ = some (.int .i64 n) := (blk_cell HC.out.1 0).trans rfl
    have c1 : C.cell? ⟨w.heap.size, 1, none⟩ = some (.slice a k c) := (blk_cell HC.out.1 1).trans rfl
    have lb := blk_lt HC.out.1
    have hfl : f.length = k := by rw [okF_len HC.out.2.2.2.flw.ok, HM.out.1]
    have HFL := Lib.hid hfl
    clear hfl
    have hrow : OwnI w.heap.size C (.slice (some ⟨g, 0, none⟩) k k) f := HC.out.2.2.1
    obtain ⟨_, _, he, hr⟩ := hrow.rows
    injection he with he1 he2 he3
    subst he1
    have HR := Lib.hid hr
    clear hrow he2 he3 hr
    go_wp2_with fail
    refine (checkref_ok n a k c l s t (some ⟨g, 0, none⟩) k k f C HM.out.1 hl (HM.out.2.later HC.out.2.1) HFL.out hl HR.out).mono ?_
    rintro e D ⟨rfl, hb⟩
    obtain ⟨e1, e2⟩ := chk_flow H0.out.1 HC.out.2.2.2.flw
    rw [e1, e2]
    have HD := Lib.hid (And.intro (owns_later HC.out.2.2.1 hb) (below_trans HC.out.2.1 hb))
    clear e1 e2 hb c0 c1 lb
    go_wp2_with fail
    go_ret3
    refine ⟨_, _, rfl, f, HD.out.1, ⟨fun _ => ⟨?_, rfl⟩, fun h => absurd H0.out.1 h⟩, HD.out.2⟩
    rw [Int.toNat_natCast]
    exact HC.out.2.2.2
  · have H0 := Lib.hid h0
    have h0b : (askF N l s t != 0) = true := by simpa using h0
    clear hn hm
    obtain ⟨E, hE⟩ : ∃ E, askF N l s t = E := ⟨_, rfl⟩
    rw [hE] at h0 h0b
    rw [hE]
    have HE := Lib.hid hE
    clear hE
    go_enter Try.func12, Try.ntmps12
    go_wp2_with fail
    obtain ⟨A, hA⟩ : ∃ W' : World, (w.alloc (.cells #[.int .i64 N, .slice a k c] 24)) = W' := ⟨_, rfl⟩
    have h : Has A [(w.heap.size, .cells #[.int .i64 N, .slice a k c] 24 (0, 0))] := by rw [← hA]; simpa using ((Has.nil w).new _)
    have z : A.heap.size = w.heap.size + 1 := by rw [← hA]; simp
    have b : Below w.heap.size w A := by rw [← hA]; exact (below_alloc (below_self w) _)
    rw [hA]
    clear hA
    have HA := Lib.hid (And.intro h.hd b)
    clear h z b
    refine (askedref_ok N a k c l s t A HM.out.1 hl (HM.out.2.later HA.out.2)).mono ?_
    rintro e B ⟨rfl, hb⟩
    rw [HE.out]
    have HB := Lib.hid (below_trans HA.out.2 hb)
    clear hb HA
    go_wp2_with fail
    go_ret3
    exact ⟨_, _, rfl, [], OwnI.nil _ _, ⟨fun h => absurd h H0.out, fun _ => ⟨rfl, rfl⟩⟩, HB.out⟩
end Go.Proofs.Ytgojjlnpbakfjaa
