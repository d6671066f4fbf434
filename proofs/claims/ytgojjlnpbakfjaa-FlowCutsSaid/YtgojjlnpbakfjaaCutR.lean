/- Chapter 05: the reference's Cut. -/
import Derived.Test.YtgojjlnpbakfjaaGre
import Derived.Test.YtgojjlnpbakfjaaNetR
import Derived.Test.YtgojjlnpbakfjaaCut
import Derived.Deep.RegionHeld3
namespace Go.Proofs.Ytgojjlnpbakfjaa
open Go Go.RowKit
set_option linter.unusedSimpArgs false

set_option maxRecDepth 100000 in
set_option maxHeartbeats 8000000 in
theorem cutref_ok (N : Int) (a : Option Addr) (k c : Nat) (l : List Ar) (s t : Int) (w : World) (hn : l.length = k) (hl : k ≤ 9223372036854775807) (hm : RowsAt w.heap.size w a 3 (Ars l)) :
    Calls Try.prog 17 #[.agg #[.int .i64 N, .slice a k c], .int .i64 s, .int .i64 t] w fun e W' => ∃ v, e = .returned (.tuple #[v, .int .i64 (askF N l s t)]) ∧ ∃ f, OwnI w.heap.size W' v f ∧ CutIs N l s t f ∧ Below w.heap.size w W' := by
  have HM := Lib.hid (And.intro hn hm)
  by_cases h0 : askF N l s t = 0
  · obtain ⟨hv, hs, ht, hst⟩ := askF_zero h0
    obtain ⟨h2, h64, h128, hA⟩ := netOk_iff.1 hv
    obtain ⟨n, rfl⟩ : ∃ n : Nat, N = n := ⟨N.toNat, by omega⟩
    obtain ⟨s, rfl⟩ : ∃ z : Nat, s = z := ⟨s.toNat, by omega⟩
    obtain ⟨t, rfl⟩ : ∃ z : Nat, t = z := ⟨t.toNat, by omega⟩
    have HN := Lib.hid (netA_of h0)
    have H0 := Lib.hid (And.intro h0 (And.intro hv (show s < n ∧ t < n ∧ s ≠ t by omega)))
    have hk : k ≤ 128 := by omega
    have hn64 : n ≤ 64 := by omega
    rw [h0]
    clear hn hm hv hs ht hst h2 h64 h128 hA h0
    go_enter Try.func17, Try.ntmps17
    go_wp2_with fail
    obtain ⟨A, hA⟩ : ∃ W' : World, (w.alloc (.cells #[.int .i64 n, .slice a k c] 24)) = W' := ⟨_, rfl⟩
    have h : Has A [(w.heap.size, .cells #[.int .i64 n, .slice a k c] 24 (0, 0))] := by rw [← hA]; simpa using ((Has.nil w).new _)
    have z : A.heap.size = w.heap.size + 1 := by rw [← hA]; simp
    have b : Below w.heap.size w A := by rw [← hA]; exact (below_alloc (below_self w) _)
    rw [hA]
    clear hA
    have HA := Lib.hid (And.intro h.hd b)
    clear h z b
    refine (askedref_ok n a k c l s t A HM.out.1 hl (HM.out.2.later HA.out.2)).mono ?_
    rintro e B ⟨rfl, hb⟩
    rw [H0.out.1]
    have HB := Lib.hid (And.intro (blk_below HA.out.1 hb) (below_trans HA.out.2 hb))
    clear hb HA
    go_upto_region 4 with fail
    have bX := (below_self B).drew
    have HS := Lib.hid (show ∀ W, Below B.heap.size B W → W.cell? ⟨w.heap.size, 0, none⟩ = some (.int .i64 n) ∧ W.cell? ⟨w.heap.size, 1, none⟩ = some (.slice a k c) from fun W hb => ⟨(blk_cell (blk_below HB.out.1 hb) 0).trans rfl, (blk_cell (blk_below HB.out.1 hb) 1).trans rfl⟩)
    go_region_held3 (fun W => W.cell? ⟨w.heap.size, 0, none⟩ = some (.int .i64 n) ∧ W.cell? ⟨w.heap.size, 1, none⟩ = some (.slice a k c))
      (exact HS.out _ (by assumption))
      (first
        | (go_at_call 37; (have hZ9 := reached_ok n a k c l s (some ⟨g1, 0, none⟩) k f1 _ HM.out.1 H0.out.2.1 (HM.out.2.later (below_trans HB.out.2 bG)) H0.out.2.2.1 HG.out.2.flw.ok HG.out.1); (with_reducible refine hZ9.mono ?_); rintro e Z9 ⟨g9, B9, rfl, hR9, hrow9, hg9, b9⟩; have bZ := below_trans bG b9)
        | (go_at_call 35; (with_reducible refine (greatest_ok n a k c l s t _ HM.out.1 H0.out.2.1 (HM.out.2.later (below_trans HB.out.2 bX)) H0.out.2.2.1 H0.out.2.2.2.1 H0.out.2.2.2.2).mono ?_); rintro e Y1 ⟨g1, rfl, f1, ho1, hf1, b1⟩; have bG := below_trans bX b1; (obtain ⟨_, _, he1, hr1⟩ := ho1.rows); injection he1 with he1 he2 he3; subst he1; have HG := Lib.hid (And.intro hr1 hf1); clear hr1 hf1 ho1 he2 he3))
    obtain ⟨r9, hR9⟩ := hR9
    have HE := Lib.hid (And.intro hR9 (And.intro hR9.len (And.intro hrow9 (And.intro (below_trans HB.out.2 bZ) (And.intro (blk_below HB.out.1 bZ) HG.out.2)))))
    clear hR9 hrow9 hg9 bX bZ bG b9 b1 HS HG HB
    obtain ⟨P, hP⟩ : ∃ P : Nat → Bool, P = fun x => (B9.getD x default).is := ⟨_, rfl⟩
    have HP := Lib.hid hP
    clear hP
    go_wp2_with fail
    go_loopw [10, 11] (fun v i wr => ∃ (j : Nat) (X : World) (av : Option Addr) (cv q : Nat), j ≤ n ∧ q ≤ j ∧ v = .slice av q cv ∧ i = .int .i64 j ∧ X = wr ∧ Hid (Below Z9.heap.size Z9 X ∧ (sel P j).length = q ∧ X.ownsRow Z9.heap.size 3 1 (.slice av q cv) q (intsV (sel P j)))) (fun _ i _ => n - (intOf i).toNat)
    case atStart => exact ⟨0, _, _, _, 0, Nat.zero_le _, Nat.zero_le _, rfl, rfl, rfl, Lib.hid ⟨below_self Z9, rfl, World.ownsRow_nil _ _ _ _⟩⟩
    case round =>
      obtain ⟨j, X, av, cv, q, hj, hq, rfl, rfl, rfl, HX⟩ := hrel
      have d0 : X.cell? ⟨w.heap.size, 0, none⟩ = some (.int .i64 n) := (blk_cell (blk_below HE.out.2.2.2.2.1 HX.out.1) 0).trans rfl
      have ld := blk_lt (blk_below HE.out.2.2.2.2.1 HX.out.1)
      by_cases hlt : j < n
      · have hltI : (j : Int) < (n : Int) := by omega
        obtain ⟨_, _, _, q1⟩ := stp_at (blk_below HE.out.2.2.1 HX.out.1) (x := j) (by rw [HE.out.2.1]; exact hlt)
        have lg := blk_lt (blk_below HE.out.2.2.1 HX.out.1)
        have hPj : P j = (B9.getD j default).is := by rw [HP.out]
        cases his : (B9.getD j default).is
        · rw [his] at q1 hPj
          have HS := sel_no (P := P) (j := j) hPj
          have H3 := Lib.hid (show Below Z9.heap.size Z9 X ∧ (sel P (j + 1)).length = q ∧ X.ownsRow Z9.heap.size 3 1 (.slice av q cv) q (intsV (sel P (j + 1))) by rw [HS]; exact HX.out)
          clear hPj his HS HX
          go_wp2_with fail
          go_roundw
          case rel => exact ⟨j + 1, _, _, _, q, by omega, by omega, rfl, by go_num, rfl, H3⟩
          case measure => simp [intOf]; omega
        · rw [his] at q1 hPj
          have HS := Lib.hid (sel_yes (P := P) (j := j) hPj)
          clear hPj his
          obtain ⟨i0, hi, hz0, hz1, hz2⟩ := info_parts info3
          go_wp2_with (at_builtin; go_must (refine wpList_append_any rfl _ _ 26 rfl Z9.heap.size 3 i0 _ 1 8 Try.underlying26 hi hz0 hz1 hz2 rfl (by decide) _ _ _ rfl (HX.out.2.2.alloc _) _ _ _ [.int .i64 j] rfl ?c0 ?c1 ?c2 ?c3 ?c4 ?c5 ?c6 ?_))
          case c0 => intro h; cases h
          case c1 => rfl
          case c2 => exact fun _ => ⟨_, rfl, src_new _ _ _⟩
          case c3 => simp [Value.oneCell']
          case c4 => unfold maxLen; omega
          case c5 => omega
          case c6 => have := HX.out.1.size; simp; omega
          intro a2 cap2 W3 hown3 hgrow3
          have hoA := HX.out.2.2.alloc (.cells #[.int .i64 j] 3)
          have h3w : Below Z9.heap.size Z9 W3 := grown_below (below_alloc HX.out.1 _) hoA hgrow3.out (Nat.le_refl _) (by have := HX.out.1.size; simp; omega)
          have H3 := Lib.hid (And.intro h3w (And.intro (show (sel P (j + 1)).length = q + 1 by rw [HS.out, List.length_append, HX.out.2.1]; rfl) (show W3.ownsRow Z9.heap.size 3 1 (.slice a2 (q + 1) cap2) (q + 1) (intsV (sel P (j + 1))) by rw [HS.out, intsV_app]; exact hown3.out.1)))
          clear h3w hgrow3 hown3 hoA HX hi hz0 hz1 hz2 q1 HS d0 ld lg
          go_wp2_with fail
          go_roundw
          case rel => exact ⟨j + 1, _, _, _, q + 1, by omega, by omega, rfl, by go_num, rfl, H3⟩
          case measure => simp [intOf]; omega
      · have hltI : ¬ (j : Int) < (n : Int) := by omega
        obtain rfl : j = n := by omega
        have HO := Lib.hid (show OwnI w.heap.size X (.slice av q cv) (sel P j) ∧ Below w.heap.size w X by
          refine ⟨?_, below_trans HE.out.2.2.2.1 HX.out.1⟩
          unfold OwnI
          rw [HX.out.2.1]
          exact owns_base HX.out.2.2 HE.out.2.2.2.1.size)
        clear HX
        go_wp2_with fail
        go_ret2
        refine ⟨_, rfl, _, HO.out.1, ⟨fun _ => ⟨f1, ?_, P, fun x hx => ?_, ?_⟩, fun h => absurd H0.out.1 h⟩, HO.out.2⟩
        · rw [Int.toNat_natCast]
          exact HE.out.2.2.2.2.2
        · rw [Int.toNat_natCast] at hx
          rw [HP.out, ← HE.out.1.rch_iff (x := (x : Int)) (by omega) (by omega)]
          unfold sv
          rw [Int.toNat_natCast]
        · rw [Int.toNat_natCast]
  · have H0 := Lib.hid h0
    have h0b : (askF N l s t != 0) = true := by simpa using h0
    clear hn hm
    obtain ⟨E, hE⟩ : ∃ E, askF N l s t = E := ⟨_, rfl⟩
    rw [hE] at h0 h0b
    rw [hE]
    have HE := Lib.hid hE
    clear hE
    go_enter Try.func17, Try.ntmps17
    go_wp2_with fail
    obtain ⟨A, hA⟩ : ∃ W' : World, (w.alloc (.cells #[.int .i64 N, .slice a k c] 24)) = W' := ⟨_, rfl⟩
    have h : Has A [(w.heap.size, .cells #[.int .i64 N, .slice a k c] 24 (0, 0))] := by rw [← hA]; simpa using ((Has.nil w).new _)
    have z : A.heap.size = w.heap.size + 1 := by rw [← hA]; simp
    have b : Below w.heap.size w A := by rw [← hA]; exact (below_alloc (below_self w) _)
    rw [hA]
    clear hA
    have HA := Lib.hid (And.intro h.hd b)
    clear h z b
    refine (askedref_ok N a k c l s t A HM.out.1 hl (HM.out.2.later HA.out.2)).mono ?_
    rintro e B ⟨rfl, hb⟩
    rw [HE.out]
    have HB := Lib.hid (below_trans HA.out.2 hb)
    clear hb HA
    go_wp2_with fail
    go_ret2
    exact ⟨_, rfl, [], OwnI.nil _ _, ⟨fun h => absurd h H0.out, fun _ => rfl⟩, HB.out⟩
end Go.Proofs.Ytgojjlnpbakfjaa
