/- Chapter 05: flow.Max. -/
import Derived.Test.YthlefdbhkbpejaaGreatFFill
import Derived.Test.YthlefdbhkbpejaaGreatFNew
import Derived.Test.YthlefdbhkbpejaaGreatFMst
import Derived.WalkMore
namespace Go.Proofs.YthlefdbhkbpejaaGreat.F5
open Go Go.RowKit
set_option linter.unusedSimpArgs false

/-- What Max returns. -/
def MaxIs (N : Int) (l : List Ar) (s t r : Int) (f : List Int) : Prop := (askF N l s t = 0 → Best N.toNat l s t f ∧ r = net l f s) ∧ (askF N l s t ≠ 0 → r = 0 ∧ f = [])
theorem woL_none (l : List Ar) : woL l (-1) = l := by
  unfold woL
  rw [if_neg (by omega)]
theorem netA_of {n : Nat} {l : List Ar} {s t : Nat} (h : askF n l s t = 0) : NetA n l s t := by
  obtain ⟨hv, hs, ht, hst⟩ := askF_zero h
  obtain ⟨h2, h64, h128, hA⟩ := netOk_iff.1 hv
  exact ⟨fun a ha => by have := okA_iff.1 (hA a ha); omega, fun a ha => (okA_iff.1 (hA a ha)).2.2.1, fun a ha => (okA_iff.1 (hA a ha)).2.2.2, h128, by omega, by omega, by omega, by omega⟩
/-- The net of a call in its box; what is left of it. -/
structure Full (w : World) (a : Option Addr) (k c : Nat) (l : List Ar) (n p : Nat) (vt vl va : Value) (rows : List Value) (f : List Int) (D : World) : Prop where
  box : D.heap[w.heap.size]? = some (.cells #[.int .i64 n, .slice a k c] 44 (0, 0))
  rst : ∃ B, w.heap.size < B ∧ Rst B l n p vt vl va rows (leftL l f) D
  bel : Below w.heap.size w D
theorem Full.later {w : World} {a : Option Addr} {k c : Nat} {l : List Ar} {n p : Nat} {vt vl va : Value} {rows : List Value} {f : List Int} {D D' : World} (h : Full w a k c l n p vt vl va rows f D) (hb : Below D.heap.size D D') : Full w a k c l n p vt vl va rows f D' := by
  obtain ⟨B, hB, hR⟩ := h.rst
  exact ⟨blk_below h.box hb, ⟨B, hB, hR.later hb⟩, below_trans h.bel hb⟩
/-- The heads and what is left: a load of what flows along an arc. -/
theorem Full.back {w : World} {a : Option Addr} {k c : Nat} {l : List Ar} {n p : Nat} {vt vl va : Value} {rows : List Value} {f : List Int} {D : World} (h : Full w a k c l n p vt vl va rows f D) (hl : l.length = k) (hf : f.length = k) {j : Nat} (hj : j < k) :
    ∃ g cl, vl = .slice (some ⟨g, 0, none⟩) (2 * k) cl ∧ D.cell? ⟨p, 1, none⟩ = some (.slice (some ⟨g, 0, none⟩) (2 * k) cl) ∧ D.cell? ⟨g, 2 * j + 1, none⟩ = some (.int .i64 (f.getD j default)) ∧ p < D.heap.size ∧ g < D.heap.size := by
  obtain ⟨B, hB, hR⟩ := h.rst
  have hlen : (leftL l f).length = 2 * k := by rw [leftL_len (by omega), hl]
  obtain ⟨g, cl, hv, _, hg, hc, _⟩ := hR.lf.at (e := 2 * j + 1) (by omega)
  rw [hlen] at hv
  refine ⟨g, cl, hv, ?_, ?_, blk_lt hR.blk, hg⟩
  · rw [blk_cell hR.blk 1, hv]; rfl
  · rw [hc, leftL_at (by omega) (by omega)]
    unfold room
    rw [if_neg (by omega), show (2 * j + 1) / 2 = j by omega]
    rfl
theorem Full.of {w B C D : World} {a : Option Addr} {k c : Nat} {l : List Ar} {n : Nat} {vt vl va : Value} {rows : List Value} {f : List Int} {p : Nat} (hbox : C.heap[w.heap.size]? = some (.cells #[.int .i64 n, .slice a k c] 44 (0, 0))) (hbel : Below w.heap.size w C) (hw : w.heap.size < B.heap.size)
    {lv : List Int} (hR : Rst B.heap.size l n p vt vl va rows lv C) (hR2 : Rst B.heap.size l n p vt vl va rows (leftL l f) D) (hF : Frm C.heap.size vl.ownBlock none C D) : Full w a k c l n p vt vl va rows f D := by
  have hg : ∀ g, vl.ownBlock = some g → B.heap.size ≤ g := fun g hg => (hR.lf.lt g hg).1
  refine ⟨?_, ⟨_, hw, hR2⟩, ?_⟩
  · exact hF.blk hbox (blk_lt hbox) (fun e => by have := hg _ e.symm; omega) (by simp)
  · exact hbel.trans (hF.low (by exact hbel.size) (fun g e => by have := hg _ e; omega) (fun g e => by cases e))

set_option maxRecDepth 100000 in
set_option maxHeartbeats 4000000 in
theorem max_ok (N : Int) (a : Option Addr) (k c : Nat) (l : List Ar) (s t : Int) (w : World) (hn : l.length = k) (hl : k ≤ 9223372036854775807) (hm : RowsAt w.heap.size w a 3 (Ars l)) :
    Calls Tryz.prog 34 #[.agg #[.int .i64 N, .slice a k c], .int .i64 s, .int .i64 t] w fun e W' => ∃ r v, e = .returned (.tuple #[.int .i64 r, v, .int .i64 (askF N l s t)]) ∧ ∃ f, OwnI w.heap.size W' v f ∧ MaxIs N l s t r f ∧ Below w.heap.size w W' := by
  have HM := Lib.hid (And.intro hn hm)
  by_cases h0 : askF N l s t = 0
  · obtain ⟨hv, hs, ht, hst⟩ := askF_zero h0
    obtain ⟨h2, h64, h128, hA⟩ := netOk_iff.1 hv
    obtain ⟨n, rfl⟩ : ∃ n : Nat, N = n := ⟨N.toNat, by omega⟩
    obtain ⟨s, rfl⟩ : ∃ z : Nat, s = z := ⟨s.toNat, by omega⟩
    obtain ⟨t, rfl⟩ : ∃ z : Nat, t = z := ⟨t.toNat, by omega⟩
    have HN := Lib.hid (netA_of h0)
    have H0 := Lib.hid (And.intro h0 hv)
    have hk : k ≤ 128 := by omega
    rw [h0]
    clear hn hm hv hs ht hst h2 h64 h128 hA h0
    go_enter Tryz.func34, Tryz.ntmps34
    go_wp2_with fail
    obtain ⟨A, hA⟩ : ∃ W' : World, (w.alloc (.cells #[.int .i64 n, .slice a k c] 44)) = W' := ⟨_, rfl⟩
    have h : Has A [(w.heap.size, .cells #[.int .i64 n, .slice a k c] 44 (0, 0))] := by rw [← hA]; simpa using ((Has.nil w).new _)
    have z : A.heap.size = w.heap.size + 1 := by rw [← hA]; simp
    have b : Below w.heap.size w A := by rw [← hA]; exact (below_alloc (below_self w) _)
    rw [hA]
    clear hA
    have HA := Lib.hid (And.intro h.hd b)
    clear h z b
    refine (asked_ok n a k c l s t A HM.out.1 hl (HM.out.2.later HA.out.2)).mono ?_
    rintro e B ⟨rfl, hb⟩
    rw [H0.out.1]
    have HB := Lib.hid (And.intro (blk_below HA.out.1 hb) (below_trans HA.out.2 hb))
    clear hb HA
    have c0 : B.cell? ⟨w.heap.size, 0, none⟩ = some (.int .i64 n) := (blk_cell HB.out.1 0).trans rfl
    have c1 : B.cell? ⟨w.heap.size, 1, none⟩ = some (.slice a k c) := (blk_cell HB.out.1 1).trans rfl
    have lb := blk_lt HB.out.1
    go_wp2_with fail
    refine (new_ok n a k c l (-1) B HM.out.1 H0.out.2 (HM.out.2.later HB.out.2)).mono ?_
    rintro e C ⟨vt, vl, va, rows, rfl, hR, hb⟩
    rw [woL_none] at hR
    have HC := Lib.hid (And.intro hR (And.intro (blk_below HB.out.1 hb) (And.intro (below_trans HB.out.2 hb) (And.intro lb hb.size))))
    clear c0 c1 hR hb lb
    go_wp2_with fail
    refine (fill_ok B.heap.size l n (B.heap.size + 2) vt vl va rows (List.replicate k 0) s t C HN.out (by rw [← HM.out.1]; exact Flw.idle (fun x hx => (HN.out.cap x hx).1)) HC.out.1 (net_zero _ _ _) HC.out.2.2.2.2).mono ?_
    rintro e D ⟨f, rfl, hf, hR2, hF⟩
    have HD := Lib.hid (And.intro hf (Full.of HC.out.2.1 HC.out.2.2.1 HC.out.2.2.2.1 HC.out.1 hR2 hF))
    have hfl := okF_len hf.flw.ok
    rw [HM.out.1] at hfl
    have HFL := Lib.hid hfl
    clear hf hR2 hF HC HB hfl
    generalize B.heap.size + 2 = p at HD ⊢
    have d1 : D.cell? ⟨w.heap.size, 1, none⟩ = some (.slice a k c) := (blk_cell HD.out.2.box 1).trans rfl
    have ld := blk_lt HD.out.2.box
    go_wp2_with fail
    clear d1 ld
    go_loopw [7, 28] (fun v i wr => ∃ (j : Nat) (X : World) (av : Option Addr) (cv : Nat), j ≤ k ∧ v = .slice av j cv ∧ i = .int .i64 j ∧ X = wr ∧ Hid (Below D.heap.size D X ∧ X.ownsRow D.heap.size 3 1 (.slice av j cv) j (intsV (f.take j)))) (fun _ i _ => k - (intOf i).toNat)
    case atStart => exact ⟨0, _, _, _, Nat.zero_le _, rfl, rfl, rfl, Lib.hid ⟨below_self D, World.ownsRow_nil _ _ _ _⟩⟩
    case round =>
      obtain ⟨j, X, av, cv, hj, rfl, rfl, rfl, HX⟩ := hrel
      by_cases hlt : j < k
      · have hltI : (j : Int) < (k : Int) := by omega
        obtain ⟨g, cl, hvl, q1, q2, l1, l2⟩ := (HD.out.2.later HX.out.1).back HM.out.1 HFL.out hlt
        have hw1 : IntKind.i64.wrap (2 * (j : Int)) = 2 * j := IntWalk.i64_in _ (by omega)
        have hw2 : IntKind.i64.wrap (2 * (j : Int) + 1) = 2 * j + 1 := IntWalk.i64_in _ (by omega)
        have hts := take_snocI (xs := f) (k := j) (by rw [HFL.out]; exact hlt)
        obtain ⟨y, hy⟩ : ∃ y, f.getD j default = y := ⟨_, rfl⟩
        rw [hy] at q2 hts
        have HTS := Lib.hid (And.intro hts (And.intro hvl hy))
        clear hts hvl hy
        obtain ⟨i0, hi, hz0, hz1, hz2⟩ := info_parts info3
        go_wp2_with (at_builtin; go_must (refine wpList_append_any rfl _ _ 68 rfl D.heap.size 3 i0 _ 1 8 Tryz.underlying68 hi hz0 hz1 hz2 rfl (by decide) _ _ _ rfl (HX.out.2.alloc _) _ _ _ [.int .i64 y] rfl ?c0 ?c1 ?c2 ?c3 ?c4 ?c5 ?c6 ?_))
        case c0 => intro h; cases h
        case c1 => rfl
        case c2 => exact fun _ => ⟨_, rfl, src_new _ _ _⟩
        case c3 => simp [Value.oneCell']
        case c4 => unfold maxLen; omega
        case c5 => omega
        case c6 => have := HX.out.1.size; simp; omega
        intro a2 cap2 W3 hown3 hgrow3
        have hoA := HX.out.2.alloc (.cells #[.int .i64 y] 3)
        have h3w : Below D.heap.size D W3 := grown_below (below_alloc HX.out.1 _) hoA hgrow3.out (Nat.le_refl _) (by have := HX.out.1.size; simp; omega)
        have H3 := Lib.hid (And.intro h3w (show W3.ownsRow D.heap.size 3 1 (.slice a2 (j + 1) cap2) (j + 1) (intsV (f.take (j + 1))) by rw [HTS.out.1, intsV_app]; exact hown3.out.1))
        clear h3w hgrow3 hown3 hoA HX hi hz0 hz1 hz2 q1 q2 l1 l2 HTS
        go_wp2_with fail
        go_roundw
        case rel => exact ⟨j + 1, _, _, _, by omega, rfl, by go_num, rfl, H3⟩
        case measure => simp [intOf]; omega
      · have hltI : ¬ (j : Int) < (k : Int) := by omega
        obtain rfl : j = k := by omega
        have hft : f.take j = f := List.take_of_length_le (by rw [HFL.out]; exact Nat.le_refl _)
        have HO := Lib.hid (show OwnI w.heap.size X (.slice av j cv) f ∧ Below w.heap.size w X by
          refine ⟨?_, below_trans HD.out.2.bel HX.out.1⟩
          unfold OwnI
          rw [HFL.out]
          have := owns_base HX.out.2 HD.out.2.bel.size
          rw [hft] at this
          exact this)
        clear HX hft
        go_wp2_with fail
        go_ret3
        refine ⟨_, _, rfl, f, HO.out.1, ⟨fun _ => ⟨?_, rfl⟩, fun h => absurd H0.out.1 h⟩, HO.out.2⟩
        rw [Int.toNat_natCast]
        exact HD.out.1
  · have H0 := Lib.hid h0
    have h0b : (askF N l s t != 0) = true := by simpa using h0
    clear hn hm
    obtain ⟨E, hE⟩ : ∃ E, askF N l s t = E := ⟨_, rfl⟩
    rw [hE] at h0 h0b
    rw [hE]
    have HE := Lib.hid hE
    clear hE
    go_enter Tryz.func34, Tryz.ntmps34
    go_wp2_with fail
    obtain ⟨A, hA⟩ : ∃ W' : World, (w.alloc (.cells #[.int .i64 N, .slice a k c] 44)) = W' := ⟨_, rfl⟩
    have h : Has A [(w.heap.size, .cells #[.int .i64 N, .slice a k c] 44 (0, 0))] := by rw [← hA]; simpa using ((Has.nil w).new _)
    have z : A.heap.size = w.heap.size + 1 := by rw [← hA]; simp
    have b : Below w.heap.size w A := by rw [← hA]; exact (below_alloc (below_self w) _)
    rw [hA]
    clear hA
    have HA := Lib.hid (And.intro h.hd b)
    clear h z b
    refine (asked_ok N a k c l s t A HM.out.1 hl (HM.out.2.later HA.out.2)).mono ?_
    rintro e B ⟨rfl, hb⟩
    rw [HE.out]
    have HB := Lib.hid (below_trans HA.out.2 hb)
    clear hb HA
    go_wp2_with fail
    go_ret3
    exact ⟨_, _, rfl, [], OwnI.nil _ _, ⟨fun h => absurd h H0.out, fun _ => ⟨rfl, rfl⟩⟩, HB.out⟩
end Go.Proofs.YthlefdbhkbpejaaGreat.F5
