/- Chapter 05: the reference's Critical. -/
import Derived.Test.YtgojjlnpbakfjaaMaxR
import Derived.Test.YtgojjlnpbakfjaaCrit
import Derived.Test.YtgojjlnpbakfjaaArs
namespace Go.Proofs.Ytgojjlnpbakfjaa
open Go Go.RowKit
set_option linter.unusedSimpArgs false

theorem erase_take (l : List Ar) (j : Nat) : l.take j ++ l.drop (j + 1) = l.eraseIdx j := (List.eraseIdx_eq_take_drop_succ l j).symm
theorem erase_ok {n : Nat} {l : List Ar} {j : Nat} (h : netOk n l = true) (hj : j < l.length) : netOk n (l.eraseIdx j) = true := by
  obtain ⟨h1, h2, h3, h4⟩ := netOk_iff.1 h
  refine netOk_iff.2 ⟨h1, h2, ?_, fun a ha => h4 a (List.mem_of_mem_eraseIdx ha)⟩
  rw [List.length_eraseIdx]
  split <;> omega
theorem erase_ask {n : Nat} {l : List Ar} {s t : Nat} {j : Nat} (h : askF n l s t = 0) (hj : j < l.length) : askF n (l.eraseIdx j) s t = 0 := by
  obtain ⟨hv, hs, ht, hst⟩ := askF_zero h
  unfold askF
  rw [if_pos (erase_ok hv hj), if_pos ⟨inR_iff.2 (by omega), inR_iff.2 (by omega), hst⟩]

set_option maxRecDepth 100000 in
set_option maxHeartbeats 16000000 in
theorem critref_ok (N : Int) (a : Option Addr) (k c : Nat) (l : List Ar) (s t : Int) (w : World) (hn : l.length = k) (hkc : k ≤ c) (hnil : a = none → k = 0 ∧ c = 0) (hl : k ≤ 9223372036854775807) (hm : RowsAt w.heap.size w a 3 (Ars l)) :
    Calls Try.prog 21 #[.agg #[.int .i64 N, .slice a k c], .int .i64 s, .int .i64 t] w fun e W' => ∃ v, e = .returned (.tuple #[v, .int .i64 (askF N l s t)]) ∧ ∃ f, OwnI w.heap.size W' v f ∧ CritIs N l s t f ∧ Below w.heap.size w W' := by
  have HM := Lib.hid (And.intro hn (And.intro hm hnil))
  by_cases h0 : askF N l s t = 0
  · obtain ⟨hv, hs, ht, hst⟩ := askF_zero h0
    obtain ⟨h2, h64, h128, hA⟩ := netOk_iff.1 hv
    obtain ⟨n, rfl⟩ : ∃ n : Nat, N = n := ⟨N.toNat, by omega⟩
    obtain ⟨s, rfl⟩ : ∃ z : Nat, s = z := ⟨s.toNat, by omega⟩
    obtain ⟨t, rfl⟩ : ∃ z : Nat, t = z := ⟨t.toNat, by omega⟩
    have HN := Lib.hid (netA_of h0)
    have H0 := Lib.hid (And.intro h0 hv)
    have hk : k ≤ 128 := by omega
    rw [h0]
    clear hn hm hv hs ht hst h2 h64 h128 hA h0 hnil
    go_enter Try.func21, Try.ntmps21
    go_wp2_with fail
    obtain ⟨A, hA⟩ : ∃ W' : World, (w.alloc (.cells #[.int .i64 n, .slice a k c] 24)) = W' := ⟨_, rfl⟩
    have h : Has A [(w.heap.size, .cells #[.int .i64 n, .slice a k c] 24 (0, 0))] := by rw [← hA]; simpa using ((Has.nil w).new _)
    have z : A.heap.size = w.heap.size + 1 := by rw [← hA]; simp
    have b : Below w.heap.size w A := by rw [← hA]; exact (below_alloc (below_self w) _)
    rw [hA]
    clear hA
    have HA := Lib.hid (And.intro h.hd b)
    clear h z b
    refine (maxref_ok n a k c l s t A HM.out.1 hl (HM.out.2.1.later HA.out.2)).mono ?_
    rintro e E ⟨r, v, rfl, f, ho, hX, hb⟩
    rw [H0.out.1]
    obtain ⟨hB, hr⟩ := hX.1 H0.out.1
    rw [Int.toNat_natCast] at hB
    obtain ⟨av0, cv0, rfl, _⟩ := ho.rows
    have HE := Lib.hid (And.intro (blk_below HA.out.1 hb) (And.intro (below_trans HA.out.2 hb) (And.intro hB hr)))
    obtain ⟨P, hP⟩ := bool_ex (Needed n l s t)
    have HP := Lib.hid hP
    clear hb HA ho hX hB hr hP
    have d1 : E.cell? ⟨w.heap.size, 1, none⟩ = some (.slice a k c) := (blk_cell HE.out.1 1).trans rfl
    have ld := blk_lt HE.out.1
    go_wp2_with fail
    clear d1 ld
    go_loopw [11, 31] (fun v i wr => ∃ (j : Nat) (X : World) (av : Option Addr) (cv q : Nat), j ≤ k ∧ q ≤ j ∧ v = .slice av q cv ∧ i = .int .i64 j ∧ X = wr ∧ Hid (Below E.heap.size E X ∧ (sel P j).length = q ∧ X.ownsRow E.heap.size 3 1 (.slice av q cv) q (intsV (sel P j)))) (fun _ i _ => k - (intOf i).toNat)
    case atStart => exact ⟨0, _, _, _, 0, Nat.zero_le _, Nat.zero_le _, rfl, rfl, rfl, Lib.hid ⟨below_self E, rfl, World.ownsRow_nil _ _ _ _⟩⟩
    case round =>
      obtain ⟨j, X, av, cv, q, hj, hq, rfl, rfl, rfl, HX⟩ := hrel
      by_cases hlt : j < k
      · have hltI : (j : Int) < (k : Int) := by omega
        have hjc : (j : Int) ≤ (c : Int) := by omega
        have hjl : j < l.length := by rw [HM.out.1]; exact hlt
        obtain ⟨bb, oo, ha, _⟩ := ars_at HM.out.2.1 j hjl
        subst ha
        obtain ⟨jj, hjj⟩ : ∃ jj, jj = j + 1 := ⟨_, rfl⟩
        have hwj : IntKind.i64.wrap ((j : Int) + 1) = jj := by rw [IntWalk.i64_in _ (by omega)]; omega
        have hj1 : (jj : Int) ≤ (k : Int) := by omega
        have hj1c : (jj : Int) ≤ (c : Int) := by omega
        have hjj0 : (0 : Int) ≤ (jj : Int) := by omega
        have HJJ := Lib.hid hjj
        have hjjk : jj ≤ k := by omega
        clear hjj
        have hkcI : (k : Int) ≤ (c : Int) := by omega
        have d1 : X.cell? ⟨w.heap.size, 1, none⟩ = some (.slice (some ⟨bb, oo, none⟩) k c) := (blk_cell (blk_below HE.out.1 HX.out.1) 1).trans rfl
        have ld := blk_lt (blk_below HE.out.1 HX.out.1)
        have HJ := Lib.hid hjl
        clear hjl
        obtain ⟨i0, hi, hz0, hz1, hz2⟩ := info_parts infoA
        go_wp2_with (at_builtin; go_must (refine wpList_append_any rfl _ _ 22 rfl X.heap.size 32 i0 _ 3 24 Try.underlying22 hi hz0 hz1 hz2 rfl (by decide) _ 0 [] rfl (World.ownsRow_nil _ _ _ _) _ _ _ (flatA (l.take j)) rfl ?aq0 ?aq1 ?aq2 ?aq3 ?aq4 ?aq5 ?aq6 ?_))
        case aq0 => intro h; cases h
        case aq1 => rw [flatA_len, List.length_take]; have := HJ.out; omega
        case aq2 => exact ars_src (by rw [List.length_take]; have := HJ.out; omega) (ars_take (HM.out.2.1.later (below_trans HE.out.2.1 HX.out.1)) j)
        case aq3 => exact flatA_one _
        case aq4 => unfold maxLen; omega
        case aq5 => omega
        case aq6 => exact Nat.le_refl _
        intro a2 cap2 W3 hown3 hgrow3
        have ho3 := hown3.out.1
        have hg3 : X.grownBy W3 none := hgrow3.out
        have hbW3 : Below X.heap.size X W3 := (below_self X).grown hg3 (Nat.le_refl _) (fun j hj => by cases hj)
        have HW3 := Lib.hid (And.intro ho3 hbW3)
        obtain ⟨m2, hm2⟩ : ∃ m2, k - jj = m2 := ⟨_, rfl⟩
        obtain ⟨c3, hc3⟩ : ∃ c3, c - jj = c3 := ⟨_, rfl⟩
        have hm2c : m2 ≤ c3 := by omega
        have HMC := Lib.hid (show m2 = k - jj ∧ c3 = c - jj from ⟨hm2.symm, hc3.symm⟩)
        have d1 : W3.cell? ⟨w.heap.size, 1, none⟩ = some (.slice (some ⟨bb, oo, none⟩) k c) := (blk_cell (blk_below (blk_below HE.out.1 HX.out.1) hbW3) 1).trans rfl
        have ld := blk_lt (blk_below (blk_below HE.out.1 HX.out.1) hbW3)
        clear ho3 hg3 hown3 hgrow3 hbW3
        by_cases hcz : c3 = 0
        · have hm0 : m2 = 0 := by omega
          subst hcz
          subst hm0
          go_wp2_with (at_builtin; go_must (refine wpList_append_any rfl _ _ 22 rfl X.heap.size 32 i0 _ 3 24 Try.underlying22 hi hz0 hz1 hz2 rfl (by decide) _ j (flatA (l.take j)) rfl HW3.out.1 _ _ _ (flatA (l.drop jj)) rfl ?bq0 ?bq1 ?bq2 ?bq3 ?bq4 ?bq5 ?bq6 ?_))
          case bq1 => rw [flatA_len, List.length_drop]; have h1 := HMC.out.1; have h2 := HM.out.1; have h3 := HJJ.out; omega
          case bq2 => intro h; omega
          case bq3 => exact flatA_one _
          case bq4 => unfold maxLen; omega
          case bq5 => omega
          case bq6 => exact HW3.out.2.size
          intro a4 cap4 W5 hown5 hgrow5
          have ho5 := hown5.out.1
          rw [← flatA_app, HJJ.out, erase_take] at ho5
          have hl4 : (l.eraseIdx j).length = j := by rw [List.length_eraseIdx, if_pos HJ.out]; have h1 := HMC.out.1; have h2 := HM.out.1; have h3 := HJJ.out; omega
          have hz4 : a4 = none → j = 0 ∧ cap4 = 0 := fun h => by
            subst h
            refine ⟨?_, hown5.out.2 rfl⟩
            rcases ho5.2 with ⟨_, h0⟩ | ⟨g, cap, cur, hv, _⟩
            · exact h0
            · cases hv
          have hoA : OwnA X.heap.size W5 a4 j cap4 (l.eraseIdx j) := ⟨ho5, hl4, hz4⟩
          have hb5 : Below X.heap.size X W5 := grown_below HW3.out.2 HW3.out.1 hgrow5.out (Nat.le_refl _) HW3.out.2.size
          have HW5 := Lib.hid (And.intro hoA hb5)
          have hK4l : j ≤ 9223372036854775807 := by omega
          have d0 : W5.cell? ⟨w.heap.size, 0, none⟩ = some (.int .i64 n) := (blk_cell (blk_below (blk_below HE.out.1 HX.out.1) hb5) 0).trans rfl
          have ld5 := blk_lt (blk_below (blk_below HE.out.1 HX.out.1) hb5)
          clear ho5 hl4 hz4 hoA hb5 hown5 hgrow5 d1 ld hm2 hc3 hm2c HW3 hi hz0 hz1 hz2
          go_wp2_with fail
          refine (maxref_ok n a4 j cap4 (l.eraseIdx j) s t W5 HW5.out.1.2.1 hK4l HW5.out.1.rows).mono ?_
          rintro e W6 ⟨r2, v2, rfl, f2, ho2, hm2, hb6⟩
          rw [erase_ask H0.out.1 HJ.out]
          obtain ⟨hB2, hr2⟩ := hm2.1 (erase_ask H0.out.1 HJ.out)
          rw [Int.toNat_natCast] at hB2
          have hnd := (HE.out.2.2.1.val).needed hB2.val HN.out.inn (by omega) (by have := HN.out.s1; omega)
          rw [← HE.out.2.2.2, ← hr2, ← HP.out] at hnd
          obtain ⟨av2, cv2, rfl, _⟩ := ho2.rows
          have HD := Lib.hid (show Below E.heap.size E W6 ∧ (sel P j).length = q ∧ W6.ownsRow E.heap.size 3 1 (.slice av q cv) q (intsV (sel P j)) from ⟨below_trans (below_trans HX.out.1 HW5.out.2) hb6, HX.out.2.1, owns_later HX.out.2.2 (below_trans HW5.out.2 hb6)⟩)
          clear ho2 hm2 hb6 hB2 hr2 HX HW5 d0 ld5
          have hjj := HJJ.out
          clear hwj HMC HJJ hj1 hj1c hjj0 hjjk
          subst hjj
          by_cases hlv : r2 < r
          · have HS := Lib.hid (sel_yes (P := P) (j := j) (hnd.2 hlv))
            clear hnd
            obtain ⟨i0, hi, hz0, hz1, hz2⟩ := info_parts info3
            go_wp2_with (at_builtin; go_must (refine wpList_append_any rfl _ _ 26 rfl E.heap.size 3 i0 _ 1 8 Try.underlying26 hi hz0 hz1 hz2 rfl (by decide) _ _ _ rfl (HD.out.2.2.alloc _) _ _ _ [.int .i64 j] rfl ?cq0 ?cq1 ?cq2 ?cq3 ?cq4 ?cq5 ?cq6 ?_))
            case cq0 => intro h; cases h
            case cq1 => rfl
            case cq2 => exact fun _ => ⟨_, rfl, src_new _ _ _⟩
            case cq3 => simp [Value.oneCell']
            case cq4 => unfold maxLen; omega
            case cq5 => omega
            case cq6 => have := HD.out.1.size; simp; omega
            intro a7 cap7 W7 hown7 hgrow7
            have hoA := HD.out.2.2.alloc (.cells #[.int .i64 j] 3)
            have h3w : Below E.heap.size E W7 := grown_below (below_alloc HD.out.1 _) hoA hgrow7.out (Nat.le_refl _) (by have := HD.out.1.size; simp; omega)
            have H3 := Lib.hid (And.intro h3w (And.intro (show (sel P (j + 1)).length = q + 1 by rw [HS.out, List.length_append, HD.out.2.1]; rfl) (show W7.ownsRow E.heap.size 3 1 (.slice a7 (q + 1) cap7) (q + 1) (intsV (sel P (j + 1))) by rw [HS.out, intsV_app]; exact hown7.out.1)))
            clear h3w hgrow7 hown7 hoA HD hi hz0 hz1 hz2 HS
            go_wp2_with fail
            go_roundw
            case rel => exact ⟨j + 1, _, _, _, q + 1, by omega, by omega, rfl, by go_num, rfl, H3⟩
            case measure => simp [intOf]; omega
          · have HS := sel_no (P := P) (j := j) (by cases hb : P j; exact rfl; exact absurd (hnd.1 hb) hlv)
            have H3 := Lib.hid (show Below E.heap.size E W6 ∧ (sel P (j + 1)).length = q ∧ W6.ownsRow E.heap.size 3 1 (.slice av q cv) q (intsV (sel P (j + 1))) by rw [HS]; exact HD.out)
            clear HS HD hnd
            go_wp2_with fail
            go_roundw
            case rel => exact ⟨j + 1, _, _, _, q, by omega, by omega, rfl, by go_num, rfl, H3⟩
            case measure => simp [intOf]; omega
        · have hcz2 : ¬ c - jj = 0 := by omega
          go_wp2_with (at_builtin; go_must (refine wpList_append_any rfl _ _ 22 rfl X.heap.size 32 i0 _ 3 24 Try.underlying22 hi hz0 hz1 hz2 rfl (by decide) _ j (flatA (l.take j)) rfl HW3.out.1 _ _ _ (flatA (l.drop jj)) rfl ?dq0 ?dq1 ?dq2 ?dq3 ?dq4 ?dq5 ?dq6 ?_))
          case dq0 => intro h; cases h
          case dq1 => rw [flatA_len, List.length_drop]; have h1 := HMC.out.1; have h2 := HM.out.1; omega
          case dq2 => exact ars_src (by rw [List.length_drop]; have h1 := HMC.out.1; have h2 := HM.out.1; omega) (ars_drop (HM.out.2.1.later (below_trans (below_trans HE.out.2.1 HX.out.1) HW3.out.2)) jj)
          case dq3 => exact flatA_one _
          case dq4 => unfold maxLen; omega
          case dq5 => omega
          case dq6 => exact HW3.out.2.size
          intro a4 cap4 W5 hown5 hgrow5
          have ho5 := hown5.out.1
          rw [← flatA_app, HJJ.out, erase_take] at ho5
          have hl4 : (l.eraseIdx j).length = (j + m2) := by rw [List.length_eraseIdx, if_pos HJ.out]; have h1 := HMC.out.1; have h2 := HM.out.1; have h3 := HJJ.out; omega
          have hz4 : a4 = none → (j + m2) = 0 ∧ cap4 = 0 := fun h => by
            subst h
            refine ⟨?_, hown5.out.2 rfl⟩
            rcases ho5.2 with ⟨_, h0⟩ | ⟨g, cap, cur, hv, _⟩
            · exact h0
            · cases hv
          have hoA : OwnA X.heap.size W5 a4 (j + m2) cap4 (l.eraseIdx j) := ⟨ho5, hl4, hz4⟩
          have hb5 : Below X.heap.size X W5 := grown_below HW3.out.2 HW3.out.1 hgrow5.out (Nat.le_refl _) HW3.out.2.size
          have HW5 := Lib.hid (And.intro hoA hb5)
          have hK4l : (j + m2) ≤ 9223372036854775807 := by omega
          have d0 : W5.cell? ⟨w.heap.size, 0, none⟩ = some (.int .i64 n) := (blk_cell (blk_below (blk_below HE.out.1 HX.out.1) hb5) 0).trans rfl
          have ld5 := blk_lt (blk_below (blk_below HE.out.1 HX.out.1) hb5)
          clear ho5 hl4 hz4 hoA hb5 hown5 hgrow5 d1 ld hm2 hc3 hm2c HW3 hi hz0 hz1 hz2 hcz hcz2
          go_wp2_with fail
          refine (maxref_ok n a4 (j + m2) cap4 (l.eraseIdx j) s t W5 HW5.out.1.2.1 hK4l HW5.out.1.rows).mono ?_
          rintro e W6 ⟨r2, v2, rfl, f2, ho2, hm2, hb6⟩
          rw [erase_ask H0.out.1 HJ.out]
          obtain ⟨hB2, hr2⟩ := hm2.1 (erase_ask H0.out.1 HJ.out)
          rw [Int.toNat_natCast] at hB2
          have hnd := (HE.out.2.2.1.val).needed hB2.val HN.out.inn (by omega) (by have := HN.out.s1; omega)
          rw [← HE.out.2.2.2, ← hr2, ← HP.out] at hnd
          obtain ⟨av2, cv2, rfl, _⟩ := ho2.rows
          have HD := Lib.hid (show Below E.heap.size E W6 ∧ (sel P j).length = q ∧ W6.ownsRow E.heap.size 3 1 (.slice av q cv) q (intsV (sel P j)) from ⟨below_trans (below_trans HX.out.1 HW5.out.2) hb6, HX.out.2.1, owns_later HX.out.2.2 (below_trans HW5.out.2 hb6)⟩)
          clear ho2 hm2 hb6 hB2 hr2 HX HW5 d0 ld5
          have hjj := HJJ.out
          clear hwj HMC HJJ hj1 hj1c hjj0 hjjk
          subst hjj
          by_cases hlv : r2 < r
          · have HS := Lib.hid (sel_yes (P := P) (j := j) (hnd.2 hlv))
            clear hnd
            obtain ⟨i0, hi, hz0, hz1, hz2⟩ := info_parts info3
            go_wp2_with (at_builtin; go_must (refine wpList_append_any rfl _ _ 26 rfl E.heap.size 3 i0 _ 1 8 Try.underlying26 hi hz0 hz1 hz2 rfl (by decide) _ _ _ rfl (HD.out.2.2.alloc _) _ _ _ [.int .i64 j] rfl ?eq0 ?eq1 ?eq2 ?eq3 ?eq4 ?eq5 ?eq6 ?_))
            case eq0 => intro h; cases h
            case eq1 => rfl
            case eq2 => exact fun _ => ⟨_, rfl, src_new _ _ _⟩
            case eq3 => simp [Value.oneCell']
            case eq4 => unfold maxLen; omega
            case eq5 => omega
            case eq6 => have := HD.out.1.size; simp; omega
            intro a7 cap7 W7 hown7 hgrow7
            have hoA := HD.out.2.2.alloc (.cells #[.int .i64 j] 3)
            have h3w : Below E.heap.size E W7 := grown_below (below_alloc HD.out.1 _) hoA hgrow7.out (Nat.le_refl _) (by have := HD.out.1.size; simp; omega)
            have H3 := Lib.hid (And.intro h3w (And.intro (show (sel P (j + 1)).length = q + 1 by rw [HS.out, List.length_append, HD.out.2.1]; rfl) (show W7.ownsRow E.heap.size 3 1 (.slice a7 (q + 1) cap7) (q + 1) (intsV (sel P (j + 1))) by rw [HS.out, intsV_app]; exact hown7.out.1)))
            clear h3w hgrow7 hown7 hoA HD hi hz0 hz1 hz2 HS
            go_wp2_with fail
            go_roundw
            case rel => exact ⟨j + 1, _, _, _, q + 1, by omega, by omega, rfl, by go_num, rfl, H3⟩
            case measure => simp [intOf]; omega
          · have HS := sel_no (P := P) (j := j) (by cases hb : P j; exact rfl; exact absurd (hnd.1 hb) hlv)
            have H3 := Lib.hid (show Below E.heap.size E W6 ∧ (sel P (j + 1)).length = q ∧ W6.ownsRow E.heap.size 3 1 (.slice av q cv) q (intsV (sel P (j + 1))) by rw [HS]; exact HD.out)
            clear HS HD hnd
            go_wp2_with fail
            go_roundw
            case rel => exact ⟨j + 1, _, _, _, q, by omega, by omega, rfl, by go_num, rfl, H3⟩
            case measure => simp [intOf]; omega
      · have hltI : ¬ (j : Int) < (k : Int) := by omega
        obtain rfl : j = k := by omega
        have HO := Lib.hid (show OwnI w.heap.size X (.slice av q cv) (sel P j) ∧ Below w.heap.size w X by
          refine ⟨?_, below_trans HE.out.2.1 HX.out.1⟩
          unfold OwnI
          rw [HX.out.2.1]
          exact owns_base HX.out.2.2 HE.out.2.1.size)
        clear HX
        go_wp2_with fail
        go_ret2
        refine ⟨_, rfl, _, HO.out.1, ⟨fun _ => ⟨P, fun i _ => ?_, ?_⟩, fun h => absurd H0.out.1 h⟩, HO.out.2⟩
        · rw [Int.toNat_natCast]; exact HP.out i
        · rw [HM.out.1]
  · have H0 := Lib.hid h0
    have h0b : (askF N l s t != 0) = true := by simpa using h0
    clear hn hm
    obtain ⟨E, hE⟩ : ∃ E, askF N l s t = E := ⟨_, rfl⟩
    rw [hE] at h0 h0b
    rw [hE]
    have HE := Lib.hid hE
    clear hE
    go_enter Try.func21, Try.ntmps21
    go_wp2_with fail
    obtain ⟨A, hA⟩ : ∃ W' : World, (w.alloc (.cells #[.int .i64 N, .slice a k c] 24)) = W' := ⟨_, rfl⟩
    have h : Has A [(w.heap.size, .cells #[.int .i64 N, .slice a k c] 24 (0, 0))] := by rw [← hA]; simpa using ((Has.nil w).new _)
    have z : A.heap.size = w.heap.size + 1 := by rw [← hA]; simp
    have b : Below w.heap.size w A := by rw [← hA]; exact (below_alloc (below_self w) _)
    rw [hA]
    clear hA
    have HA := Lib.hid (And.intro h.hd b)
    clear h z b
    refine (maxref_ok N a k c l s t A HM.out.1 hl (HM.out.2.1.later HA.out.2)).mono ?_
    rintro e B ⟨r, v, rfl, f, ho, hX, hb⟩
    rw [HE.out]
    obtain ⟨av, cv, rfl, _⟩ := ho.rows
    have HB := Lib.hid (below_trans HA.out.2 hb)
    clear hb HA ho hX
    go_wp2_with fail
    go_ret2
    exact ⟨_, rfl, [], OwnI.nil _ _, ⟨fun h => absurd h H0.out, fun _ => rfl⟩, HB.out⟩
end Go.Proofs.Ytgojjlnpbakfjaa
