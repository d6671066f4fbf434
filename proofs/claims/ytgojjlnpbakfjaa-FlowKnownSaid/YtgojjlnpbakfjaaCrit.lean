/- Chapter 05: flow.Critical. -/
import Derived.Test.YtgojjlnpbakfjaaCut
namespace Go.Proofs.Ytgojjlnpbakfjaa
open Go Go.RowKit
set_option linter.unusedSimpArgs false

/-- What Critical returns. -/
def CritIs (N : Int) (l : List Ar) (s t : Int) (c : List Int) : Prop := (askF N l s t = 0 → IsCrit N.toNat l s t c) ∧ (askF N l s t ≠ 0 → c = [])
theorem woL_more {l : List Ar} {j : Nat} (hj : j < l.length) : woL l (j : Int) = moreL l j 0 := by
  unfold woL
  rw [if_pos (by omega), Int.toNat_natCast]
theorem moreL_len (l : List Ar) (i : Nat) (c : Int) : (moreL l i c).length = l.length := by simp [moreL]
theorem NetA.zero {n : Nat} {l : List Ar} {s t : Nat} (h : NetA n l s t) {j : Nat} (hj : j < l.length) : NetA n (moreL l j 0) s t := by
  have hmem : ∀ x ∈ moreL l j 0, ∃ y ∈ l, x.u = y.u ∧ x.v = y.v ∧ 0 ≤ x.c ∧ x.c ≤ 100000000 := by
    intro x hx
    rcases List.mem_or_eq_of_mem_set hx with hx | rfl
    · exact ⟨x, hx, rfl, rfl, h.cap x hx⟩
    · refine ⟨l.getD j default, ?_, rfl, rfl, by simp⟩
      rw [List.getD_eq_getElem?_getD, List.getElem?_eq_getElem hj]
      exact List.getElem_mem _
  refine ⟨inN_more h.inn, fun x hx => ?_, fun x hx => ?_, by rw [moreL_len]; exact h.len, h.n64, h.s1, h.t1, h.st⟩
  · obtain ⟨y, hy, h1, h2, _⟩ := hmem x hx
    rw [h1, h2]; exact h.ne y hy
  · obtain ⟨y, hy, _, _, h3⟩ := hmem x hx
    exact h3
theorem fill_below {B C D : World} {l : List Ar} {n p : Nat} {vt vl va : Value} {rows : List Value} {lv : List Int} (hb : Below B.heap.size B C) (hR : Rst B.heap.size l n p vt vl va rows lv C) (hF : Frm C.heap.size vl.ownBlock none C D) : Below B.heap.size B D :=
  hb.trans (hF.low hb.size (fun g e => (hR.lf.lt g e).1) (fun g e => by cases e))

set_option maxRecDepth 100000 in
set_option maxHeartbeats 4000000 in
theorem crit_ok (N : Int) (a : Option Addr) (k c : Nat) (l : List Ar) (s t : Int) (w : World) (hn : l.length = k) (hl : k ≤ 9223372036854775807) (hm : RowsAt w.heap.size w a 3 (Ars l)) :
    Calls Try.prog 20 #[.agg #[.int .i64 N, .slice a k c], .int .i64 s, .int .i64 t] w fun e W' => ∃ v, e = .returned (.tuple #[v, .int .i64 (askF N l s t)]) ∧ ∃ f, OwnI w.heap.size W' v f ∧ CritIs N l s t f ∧ Below w.heap.size w W' := by
  have HM := Lib.hid (And.intro hn hm)
  by_cases h0 : askF N l s t = 0
  · obtain ⟨hv, hs, ht, hst⟩ := askF_zero h0
    obtain ⟨h2, h64, h128, hA⟩ := netOk_iff.1 hv
    obtain ⟨n, rfl⟩ : ∃ n : Nat, N = n := ⟨N.toNat, by omega⟩
    obtain ⟨s, rfl⟩ : ∃ z : Nat, s = z := ⟨s.toNat, by omega⟩
    obtain ⟨t, rfl⟩ : ∃ z : Nat, t = z := ⟨t.toNat, by omega⟩
    have HN := Lib.hid (netA_of h0)
    have H0 := Lib.hid (And.intro h0 hv)
    have hk : k ≤ 128 := by omega
    rw [h0]
    clear hn hm hv hs ht hst h2 h64 h128 hA h0
    go_enter Try.func20, Try.ntmps20
    go_wp2_with fail
    obtain ⟨A, hA⟩ : ∃ W' : World, (w.alloc (.cells #[.int .i64 n, .slice a k c] 24)) = W' := ⟨_, rfl⟩
    have h : Has A [(w.heap.size, .cells #[.int .i64 n, .slice a k c] 24 (0, 0))] := by rw [← hA]; simpa using ((Has.nil w).new _)
    have z : A.heap.size = w.heap.size + 1 := by rw [← hA]; simp
    have b : Below w.heap.size w A := by rw [← hA]; exact (below_alloc (below_self w) _)
    rw [hA]
    clear hA
    have HA := Lib.hid (And.intro h.hd b)
    clear h z b
    refine (max_ok n a k c l s t A HM.out.1 hl (HM.out.2.later HA.out.2)).mono ?_
    rintro e E ⟨r, v, rfl, f, ho, hX, hb⟩
    rw [H0.out.1]
    obtain ⟨hB, hr⟩ := hX.1 H0.out.1
    rw [Int.toNat_natCast] at hB
    have hfl := okF_len hB.flw.ok
    rw [HM.out.1] at hfl
    obtain ⟨av0, cv0, rfl, hrw⟩ := ho.rows
    rw [hfl]
    have HE := Lib.hid (And.intro (blk_below HA.out.1 hb) (And.intro (below_trans HA.out.2 hb) (And.intro hrw (And.intro hfl (And.intro hB hr)))))
    obtain ⟨P, hP⟩ := bool_ex (Needed n l s t)
    have HP := Lib.hid hP
    clear hb HA ho hX hB hr hfl hrw hP
    go_wp2_with fail
    go_loopw [11, 27] (fun v i wr => ∃ (j : Nat) (X : World) (av : Option Addr) (cv q : Nat), j ≤ k ∧ q ≤ j ∧ v = .slice av q cv ∧ i = .int .i64 j ∧ X = wr ∧ Hid (Below E.heap.size E X ∧ (sel P j).length = q ∧ X.ownsRow E.heap.size 3 1 (.slice av q cv) q (intsV (sel P j)))) (fun _ i _ => k - (intOf i).toNat)
    case atStart => exact ⟨0, _, _, _, 0, Nat.zero_le _, Nat.zero_le _, rfl, rfl, rfl, Lib.hid ⟨below_self E, rfl, World.ownsRow_nil _ _ _ _⟩⟩
    case round =>
      obtain ⟨j, X, av, cv, q, hj, hq, rfl, rfl, rfl, HX⟩ := hrel
      by_cases hlt : j < k
      · have hltI : (j : Int) < (k : Int) := by omega
        have hjl : j < l.length := by rw [HM.out.1]; exact hlt
        obtain ⟨g, o, rfl, hg, q1⟩ := ints_at (HE.out.2.2.1.later HX.out.1) j (by rw [HE.out.2.2.2.1]; exact hlt)
        obtain ⟨y, hy⟩ : ∃ y, f.getD j default = y := ⟨_, rfl⟩
        rw [hy] at q1
        have HY := Lib.hid (And.intro hy hjl)
        clear hy hjl
        by_cases hpos : 0 < y
        · have d0 : X.cell? ⟨w.heap.size, 0, none⟩ = some (.int .i64 n) := (blk_cell (blk_below HE.out.1 HX.out.1) 0).trans rfl
          have d1 : X.cell? ⟨w.heap.size, 1, none⟩ = some (.slice a k c) := (blk_cell (blk_below HE.out.1 HX.out.1) 1).trans rfl
          have ld := blk_lt (blk_below HE.out.1 HX.out.1)
          go_wp2_with fail
          refine (new_ok n a k c l j X HM.out.1 H0.out.2 (HM.out.2.later (below_trans HE.out.2.1 HX.out.1))).mono ?_
          rintro e C ⟨vt, vl, va, rows, rfl, hR, hb⟩
          rw [woL_more HY.out.2] at hR
          have HC := Lib.hid (And.intro hR hb)
          clear d0 d1 ld hR hb q1
          go_wp2_with fail
          refine (fill_ok X.heap.size (moreL l j 0) n (X.heap.size + 2) vt vl va rows (List.replicate k 0) s t C (HN.out.zero HY.out.2) (by rw [← HM.out.1, ← moreL_len l j 0]; exact Flw.idle (fun x hx => ((HN.out.zero HY.out.2).cap x hx).1)) HC.out.1 (net_zero _ _ _) HC.out.2.size).mono ?_
          rintro e D ⟨f2, rfl, hf, hR2, hF⟩
          have hbD := fill_below HC.out.2 HC.out.1 hF
          have hnd := HE.out.2.2.2.2.1.needs HN.out.inn (by omega) (by have := HN.out.s1; omega) HY.out.2 hf
          rw [← HE.out.2.2.2.2.2, ← HP.out] at hnd
          obtain ⟨z, hz⟩ : ∃ z, net (moreL l j 0) f2 s = z := ⟨_, rfl⟩
          rw [hz] at hnd ⊢
          have HD := Lib.hid (show Below E.heap.size E D ∧ (sel P j).length = q ∧ D.ownsRow E.heap.size 3 1 (.slice av q cv) q (intsV (sel P j)) from ⟨below_trans HX.out.1 hbD, HX.out.2.1, owns_later HX.out.2.2 hbD⟩)
          clear hf hR2 hF HC HX hbD hz
          by_cases hlv : z < r
          · have HS := Lib.hid (sel_yes (P := P) (j := j) (hnd.2 hlv))
            clear hnd
            obtain ⟨i0, hi, hz0, hz1, hz2⟩ := info_parts info3
            go_wp2_with (at_builtin; go_must (refine wpList_append_any rfl _ _ 26 rfl E.heap.size 3 i0 _ 1 8 Try.underlying26 hi hz0 hz1 hz2 rfl (by decide) _ _ _ rfl (HD.out.2.2.alloc _) _ _ _ [.int .i64 j] rfl ?c0 ?c1 ?c2 ?c3 ?c4 ?c5 ?c6 ?_))
            case c0 => intro h; cases h
            case c1 => rfl
            case c2 => exact fun _ => ⟨_, rfl, src_new _ _ _⟩
            case c3 => simp [Value.oneCell']
            case c4 => unfold maxLen; omega
            case c5 => omega
            case c6 => have := HD.out.1.size; simp; omega
            intro a2 cap2 W3 hown3 hgrow3
            have hoA := HD.out.2.2.alloc (.cells #[.int .i64 j] 3)
            have h3w : Below E.heap.size E W3 := grown_below (below_alloc HD.out.1 _) hoA hgrow3.out (Nat.le_refl _) (by have := HD.out.1.size; simp; omega)
            have H3 := Lib.hid (And.intro h3w (And.intro (show (sel P (j + 1)).length = q + 1 by rw [HS.out, List.length_append, HD.out.2.1]; rfl) (show W3.ownsRow E.heap.size 3 1 (.slice a2 (q + 1) cap2) (q + 1) (intsV (sel P (j + 1))) by rw [HS.out, intsV_app]; exact hown3.out.1)))
            clear h3w hgrow3 hown3 hoA HD hi hz0 hz1 hz2 HS
            go_wp2_with fail
            go_roundw
            case rel => exact ⟨j + 1, _, _, _, q + 1, by omega, by omega, rfl, by go_num, rfl, H3⟩
            case measure => simp [intOf]; omega
          · have HS := sel_no (P := P) (j := j) (by cases hb : P j; exact rfl; exact absurd (hnd.1 hb) hlv)
            have H3 := Lib.hid (show Below E.heap.size E D ∧ (sel P (j + 1)).length = q ∧ D.ownsRow E.heap.size 3 1 (.slice av q cv) q (intsV (sel P (j + 1))) by rw [HS]; exact HD.out)
            clear HS HD hnd
            go_wp2_with fail
            go_roundw
            case rel => exact ⟨j + 1, _, _, _, q, by omega, by omega, rfl, by go_num, rfl, H3⟩
            case measure => simp [intOf]; omega
        · have hz : f.getD j 0 = 0 := by
            have := okF_at HE.out.2.2.2.2.1.flw.ok HY.out.2
            have h2 : f.getD j 0 = y := HY.out.1
            omega
          have HS := sel_no (P := P) (j := j) (by
            cases hb : P j
            · rfl
            · exact absurd ((HP.out j).1 hb) (HE.out.2.2.2.2.1.unneeded HN.out.inn (by omega) (by have := HN.out.s1; omega) (fun x hx => (HN.out.cap x hx).1) HY.out.2 hz))
          have H3 := Lib.hid (show Below E.heap.size E X ∧ (sel P (j + 1)).length = q ∧ X.ownsRow E.heap.size 3 1 (.slice av q cv) q (intsV (sel P (j + 1))) by rw [HS]; exact HX.out)
          clear HS HX hz
          go_wp2_with fail
          go_roundw
          case rel => exact ⟨j + 1, _, _, _, q, by omega, by omega, rfl, by go_num, rfl, H3⟩
          case measure => simp [intOf]; omega
      · have hltI : ¬ (j : Int) < (k : Int) := by omega
        obtain rfl : j = k := by omega
        have HO := Lib.hid (show OwnI w.heap.size X (.slice av q cv) (sel P j) ∧ Below w.heap.size w X by
          refine ⟨?_, below_trans HE.out.2.1 HX.out.1⟩
          unfold OwnI
          rw [HX.out.2.1]
          exact owns_base HX.out.2.2 HE.out.2.1.size)
        clear HX
        go_wp2_with fail
        go_ret2
        refine ⟨_, rfl, _, HO.out.1, ⟨fun _ => ⟨P, fun i _ => ?_, ?_⟩, fun h => absurd H0.out.1 h⟩, HO.out.2⟩
        · rw [Int.toNat_natCast]; exact HP.out i
        · rw [HM.out.1]
  · have H0 := Lib.hid h0
    have h0b : (askF N l s t != 0) = true := by simpa using h0
    clear hn hm
    obtain ⟨E, hE⟩ : ∃ E, askF N l s t = E := ⟨_, rfl⟩
    rw [hE] at h0 h0b
    rw [hE]
    have HE := Lib.hid hE
    clear hE
    go_enter Try.func20, Try.ntmps20
    go_wp2_with fail
    obtain ⟨A, hA⟩ : ∃ W' : World, (w.alloc (.cells #[.int .i64 N, .slice a k c] 24)) = W' := ⟨_, rfl⟩
    have h : Has A [(w.heap.size, .cells #[.int .i64 N, .slice a k c] 24 (0, 0))] := by rw [← hA]; simpa using ((Has.nil w).new _)
    have z : A.heap.size = w.heap.size + 1 := by rw [← hA]; simp
    have b : Below w.heap.size w A := by rw [← hA]; exact (below_alloc (below_self w) _)
    rw [hA]
    clear hA
    have HA := Lib.hid (And.intro h.hd b)
    clear h z b
    refine (max_ok N a k c l s t A HM.out.1 hl (HM.out.2.later HA.out.2)).mono ?_
    rintro e B ⟨r, v, rfl, f, ho, hX, hb⟩
    rw [HE.out]
    obtain ⟨av, cv, rfl, _⟩ := ho.rows
    have HB := Lib.hid (below_trans HA.out.2 hb)
    clear hb HA ho hX
    go_wp2_with fail
    go_ret2
    exact ⟨_, rfl, [], OwnI.nil _ _, ⟨fun h => absurd h H0.out, fun _ => rfl⟩, HB.out⟩
end Go.Proofs.Ytgojjlnpbakfjaa
