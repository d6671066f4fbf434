/- Chapter 05: flow.Cut. -/
import Derived.Test.YtgojjlnpbakfjaaMax
namespace Go.Proofs.Ytgojjlnpbakfjaa
open Go Go.RowKit
set_option linter.unusedSimpArgs false

/-- What Cut returns. -/
def CutIs (N : Int) (l : List Ar) (s t : Int) (c : List Int) : Prop := (askF N l s t = 0 → IsCut N.toNat l s t c) ∧ (askF N l s t ≠ 0 → c = [])
theorem sel_yes {P : Nat → Bool} {j : Nat} (h : P j = true) : sel P (j + 1) = sel P j ++ [(j : Int)] := by simp only [sel]; rw [if_pos h]
theorem sel_no {P : Nat → Bool} {j : Nat} (h : P j = false) : sel P (j + 1) = sel P j := by simp only [sel]; rw [if_neg (by rw [h]; decide), List.append_nil]

set_option maxRecDepth 100000 in
set_option maxHeartbeats 4000000 in
theorem cut_ok (N : Int) (a : Option Addr) (k c : Nat) (l : List Ar) (s t : Int) (w : World) (hn : l.length = k) (hl : k ≤ 9223372036854775807) (hm : RowsAt w.heap.size w a 3 (Ars l)) :
    Calls Try.prog 16 #[.agg #[.int .i64 N, .slice a k c], .int .i64 s, .int .i64 t] w fun e W' => ∃ v, e = .returned (.tuple #[v, .int .i64 (askF N l s t)]) ∧ ∃ f, OwnI w.heap.size W' v f ∧ CutIs N l s t f ∧ Below w.heap.size w W' := by
  have HM := Lib.hid (And.intro hn hm)
  by_cases h0 : askF N l s t = 0
  · obtain ⟨hv, hs, ht, hst⟩ := askF_zero h0
    obtain ⟨h2, h64, h128, hA⟩ := netOk_iff.1 hv
    obtain ⟨n, rfl⟩ : ∃ n : Nat, N = n := ⟨N.toNat, by omega⟩
    obtain ⟨s, rfl⟩ : ∃ z : Nat, s = z := ⟨s.toNat, by omega⟩
    obtain ⟨t, rfl⟩ : ∃ z : Nat, t = z := ⟨t.toNat, by omega⟩
    have HN := Lib.hid (netA_of h0)
    have H0 := Lib.hid (And.intro h0 hv)
    have hk : k ≤ 128 := by omega
    have hn64 : n ≤ 64 := by omega
    rw [h0]
    clear hn hm hv hs ht hst h2 h64 h128 hA h0
    go_enter Try.func16, Try.ntmps16
    go_wp2_with fail
    obtain ⟨A, hA⟩ : ∃ W' : World, (w.alloc (.cells #[.int .i64 n, .slice a k c] 24)) = W' := ⟨_, rfl⟩
    have h : Has A [(w.heap.size, .cells #[.int .i64 n, .slice a k c] 24 (0, 0))] := by rw [← hA]; simpa using ((Has.nil w).new _)
    have z : A.heap.size = w.heap.size + 1 := by rw [← hA]; simp
    have b : Below w.heap.size w A := by rw [← hA]; exact (below_alloc (below_self w) _)
    rw [hA]
    clear hA
    have HA := Lib.hid (And.intro h.hd b)
    clear h z b
    refine (asked_ok n a k c l s t A HM.out.1 hl (HM.out.2.later HA.out.2)).mono ?_
    rintro e B ⟨rfl, hb⟩
    rw [H0.out.1]
    have HB := Lib.hid (And.intro (blk_below HA.out.1 hb) (below_trans HA.out.2 hb))
    clear hb HA
    have c0 : B.cell? ⟨w.heap.size, 0, none⟩ = some (.int .i64 n) := (blk_cell HB.out.1 0).trans rfl
    have c1 : B.cell? ⟨w.heap.size, 1, none⟩ = some (.slice a k c) := (blk_cell HB.out.1 1).trans rfl
    have lb := blk_lt HB.out.1
    go_wp2_with fail
    refine (new_ok n a k c l (-1) B HM.out.1 H0.out.2 (HM.out.2.later HB.out.2)).mono ?_
    rintro e C ⟨vt, vl, va, rows, rfl, hR, hb⟩
    rw [woL_none] at hR
    have HC := Lib.hid (And.intro hR (And.intro (blk_below HB.out.1 hb) (And.intro (below_trans HB.out.2 hb) (And.intro lb hb.size))))
    clear c0 c1 hR hb lb
    go_wp2_with fail
    refine (fill_ok B.heap.size l n (B.heap.size + 2) vt vl va rows (List.replicate k 0) s t C HN.out (by rw [← HM.out.1]; exact Flw.idle (fun x hx => (HN.out.cap x hx).1)) HC.out.1 (net_zero _ _ _) HC.out.2.2.2.2).mono ?_
    rintro e D ⟨f, rfl, hf, hR2, hF⟩
    have HD := Lib.hid (And.intro hf (And.intro hR2 (Full.of HC.out.2.1 HC.out.2.2.1 HC.out.2.2.2.1 HC.out.1 hR2 hF)))
    clear hf hR2 hF HC
    go_wp2_with fail
    refine (levels_ok B.heap.size l n (B.heap.size + 2) vt vl va rows f s D HN.out.s1 HN.out.n64 HN.out.len HN.out.inn HN.out.ne HD.out.1.flw.ok HD.out.2.1).mono ?_
    rintro e E ⟨v, L, rfl, ho, hlen, hL, hb⟩
    obtain ⟨av0, cv0, rfl, hr⟩ := ho.rows
    rw [hlen]
    have HE := Lib.hid (And.intro hL (And.intro hlen (And.intro (below_trans HD.out.2.2.bel hb) hr)))
    have HBst := Lib.hid HD.out.1
    clear ho hlen hL hb hr HD HB
    obtain ⟨P, hP⟩ : ∃ P : Nat → Bool, P = fun x => decide (0 ≤ L.getD x default) := ⟨_, rfl⟩
    have HP := Lib.hid hP
    clear hP
    go_wp2_with fail
    go_loopw [10, 30] (fun v i wr => ∃ (j : Nat) (X : World) (av : Option Addr) (cv q : Nat), j ≤ n ∧ q ≤ j ∧ v = .slice av q cv ∧ i = .int .i64 j ∧ X = wr ∧ Hid (Below E.heap.size E X ∧ (sel P j).length = q ∧ X.ownsRow E.heap.size 3 1 (.slice av q cv) q (intsV (sel P j)))) (fun _ i _ => n - (intOf i).toNat)
    case atStart => exact ⟨0, _, _, _, 0, Nat.zero_le _, Nat.zero_le _, rfl, rfl, rfl, Lib.hid ⟨below_self E, rfl, World.ownsRow_nil _ _ _ _⟩⟩
    case round =>
      obtain ⟨j, X, av, cv, q, hj, hq, rfl, rfl, rfl, HX⟩ := hrel
      by_cases hlt : j < n
      · have hltI : (j : Int) < (n : Int) := by omega
        obtain ⟨g, o, rfl, hg, q1⟩ := ints_at (HE.out.2.2.2.later HX.out.1) j (by rw [HE.out.2.1]; exact hlt)
        have hPj : P j = decide (0 ≤ L.getD j default) := by rw [HP.out]
        obtain ⟨y, hy⟩ : ∃ y, L.getD j default = y := ⟨_, rfl⟩
        rw [hy] at q1 hPj
        by_cases hpos : 0 ≤ y
        · have HS := Lib.hid (sel_yes (P := P) (j := j) (by rw [hPj, decide_eq_true hpos]))
          clear hPj hy
          obtain ⟨i0, hi, hz0, hz1, hz2⟩ := info_parts info3
          go_wp2_with (at_builtin; go_must (refine wpList_append_any rfl _ _ 26 rfl E.heap.size 3 i0 _ 1 8 Try.underlying26 hi hz0 hz1 hz2 rfl (by decide) _ _ _ rfl (HX.out.2.2.alloc _) _ _ _ [.int .i64 j] rfl ?c0 ?c1 ?c2 ?c3 ?c4 ?c5 ?c6 ?_))
          case c0 => intro h; cases h
          case c1 => rfl
          case c2 => exact fun _ => ⟨_, rfl, src_new _ _ _⟩
          case c3 => simp [Value.oneCell']
          case c4 => unfold maxLen; omega
          case c5 => omega
          case c6 => have := HX.out.1.size; simp; omega
          intro a2 cap2 W3 hown3 hgrow3
          have hoA := HX.out.2.2.alloc (.cells #[.int .i64 j] 3)
          have h3w : Below E.heap.size E W3 := grown_below (below_alloc HX.out.1 _) hoA hgrow3.out (Nat.le_refl _) (by have := HX.out.1.size; simp; omega)
          have H3 := Lib.hid (And.intro h3w (And.intro (show (sel P (j + 1)).length = q + 1 by rw [HS.out, List.length_append, HX.out.2.1]; rfl) (show W3.ownsRow E.heap.size 3 1 (.slice a2 (q + 1) cap2) (q + 1) (intsV (sel P (j + 1))) by rw [HS.out, intsV_app]; exact hown3.out.1)))
          clear h3w hgrow3 hown3 hoA HX hi hz0 hz1 hz2 q1 HS
          go_wp2_with fail
          go_roundw
          case rel => exact ⟨j + 1, _, _, _, q + 1, by omega, by omega, rfl, by go_num, rfl, H3⟩
          case measure => simp [intOf]; omega
        · have HS := sel_no (P := P) (j := j) (by rw [hPj, decide_eq_false hpos])
          have H3 := Lib.hid (show Below E.heap.size E X ∧ (sel P (j + 1)).length = q ∧ X.ownsRow E.heap.size 3 1 (.slice av q cv) q (intsV (sel P (j + 1))) by rw [HS]; exact HX.out)
          clear hPj hy HS HX
          go_wp2_with fail
          go_roundw
          case rel => exact ⟨j + 1, _, _, _, q, by omega, by omega, rfl, by go_num, rfl, H3⟩
          case measure => simp [intOf]; omega
      · have hltI : ¬ (j : Int) < (n : Int) := by omega
        obtain rfl : j = n := by omega
        have HO := Lib.hid (show OwnI w.heap.size X (.slice av q cv) (sel P j) ∧ Below w.heap.size w X by
          refine ⟨?_, below_trans HE.out.2.2.1 HX.out.1⟩
          unfold OwnI
          rw [HX.out.2.1]
          exact owns_base HX.out.2.2 HE.out.2.2.1.size)
        clear HX
        go_wp2_with fail
        go_ret2
        refine ⟨_, rfl, _, HO.out.1, ⟨fun _ => ⟨f, ?_, P, fun x hx => ?_, ?_⟩, fun h => absurd H0.out.1 h⟩, HO.out.2⟩
        · rw [Int.toNat_natCast]
          exact HBst.out
        · rw [Int.toNat_natCast] at hx
          rw [HP.out, decide_eq_true_eq, ← HE.out.1.rch_iff (x := (x : Int)) (by omega) (by omega)]
          unfold fv
          rw [Int.toNat_natCast]
        · rw [Int.toNat_natCast]
  · have H0 := Lib.hid h0
    have h0b : (askF N l s t != 0) = true := by simpa using h0
    clear hn hm
    obtain ⟨E, hE⟩ : ∃ E, askF N l s t = E := ⟨_, rfl⟩
    rw [hE] at h0 h0b
    rw [hE]
    have HE := Lib.hid hE
    clear hE
    go_enter Try.func16, Try.ntmps16
    go_wp2_with fail
    obtain ⟨A, hA⟩ : ∃ W' : World, (w.alloc (.cells #[.int .i64 N, .slice a k c] 24)) = W' := ⟨_, rfl⟩
    have h : Has A [(w.heap.size, .cells #[.int .i64 N, .slice a k c] 24 (0, 0))] := by rw [← hA]; simpa using ((Has.nil w).new _)
    have z : A.heap.size = w.heap.size + 1 := by rw [← hA]; simp
    have b : Below w.heap.size w A := by rw [← hA]; exact (below_alloc (below_self w) _)
    rw [hA]
    clear hA
    have HA := Lib.hid (And.intro h.hd b)
    clear h z b
    refine (asked_ok N a k c l s t A HM.out.1 hl (HM.out.2.later HA.out.2)).mono ?_
    rintro e B ⟨rfl, hb⟩
    rw [HE.out]
    have HB := Lib.hid (below_trans HA.out.2 hb)
    clear hb HA
    go_wp2_with fail
    go_ret2
    exact ⟨_, rfl, [], OwnI.nil _ _, ⟨fun h => absurd h H0.out, fun _ => rfl⟩, HB.out⟩
end Go.Proofs.Ytgojjlnpbakfjaa
