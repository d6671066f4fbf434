/- Chapter 06: numbers: at most 30 small numbers as ints. -/
import Derived.Test.YtnpcafhmkjdhaaaTypes
import Derived.Test.YtnpcafhmkjdhaaaLin
namespace Go.Proofs.Ytnpcafhmkjdhaaa
open Go Go.RowKit

theorem u8s_at {n : Nat} {w : World} {a : Option Addr} {xs : List Int} (h : RowsAt n w a 1 (U8s xs)) (k : Nat) (hk : k < xs.length) :
    ∃ b off, a = some ⟨b, off, none⟩ ∧ b < n ∧ w.cell? ⟨b, off + k, none⟩ = some (.int .u8 (xs.getD k default)) := by
  obtain ⟨b, off, ha, hb, hc⟩ := h k [.int .u8 (xs.getD k default)] (by simp [hk])
  exact ⟨b, off, ha, hb, by simpa using hc 0 _ rfl⟩
theorem takeI_succ {xs : List Int} {k : Nat} (hk : k < xs.length) : xs.take (k + 1) = xs.take k ++ [xs.getD k default] := by
  rw [List.take_succ_eq_append_getElem hk]
  simp [List.getD, List.getElem?_eq_getElem hk]
theorem intsV_add (xs : List Int) (x : Int) : intsV (xs ++ [x]) = intsV xs ++ [.int .i64 x] := by simp [intsV]

set_option maxHeartbeats 1000000 in
theorem numbers_ok (a : Option Addr) (n cap : Nat) (xs : List Int) (w : World) (hn : xs.length = n) (hl : n ≤ 9223372036854775807) (hb : ∀ z ∈ xs, u8 z) (hm : RowsAt w.heap.size w a 1 (U8s xs)) :
    Calls Try.prog 14 #[.slice a n cap] w fun e W' => ∃ v, e = .returned v ∧ OwnI w.heap.size W' v (xs.take 30) ∧ Below w.heap.size w W' := by
  have Hn := Lib.hid hn; clear hn
  have Hm := Lib.hid hm; clear hm
  have Hb := Lib.hid hb; clear hb
  go_enter Try.func14, Try.ntmps14
  go_wp2_with fail
  go_loopw [3, 4] (fun v i wr => ∃ (k : Nat) (X : World) (av : Option Addr) (cv : Nat), k ≤ n ∧ k ≤ 30 ∧ v = .slice av k cv ∧ i = .int .i64 k ∧ X = wr ∧ Hid (Below w.heap.size w X ∧ X.ownsRow w.heap.size 3 1 (.slice av k cv) k (intsV (xs.take k)))) (fun _ i _ => n - (intOf i).toNat)
  case atStart => exact ⟨0, _, _, _, Nat.zero_le _, Nat.zero_le _, rfl, rfl, rfl, Lib.hid ⟨below_self w, World.ownsRow_nil _ _ _ _⟩⟩
  case round =>
    obtain ⟨k, X, av, cv, hk, hk2, rfl, rfl, rfl, HX⟩ := hrel
    by_cases hlt : k < n
    · have hltI : (k : Int) < (n : Int) := by omega
      by_cases h30 : k < 30
      · have h30I : (k : Int) < 30 := by omega
        obtain ⟨b, off, rfl, hbn, hc⟩ := u8s_at (Hm.out.later HX.out.1) k (by rw [Hn.out]; exact hlt)
        have hts := takeI_succ (xs := xs) (k := k) (by rw [Hn.out]; exact hlt)
        have hx := Hb.out (xs.getD k default) (getD_mem (by rw [Hn.out]; exact hlt))
        generalize xs.getD k default = x at hc hts hx
        have HT := Lib.hid hts
        obtain ⟨hx0, hx1⟩ := hx
        have hw : IntKind.i64.wrap x = x := IntWalk.i64_in _ (by omega)
        clear hts hbn
        obtain ⟨i0, hi, hz0, hz1, hz2⟩ := info_parts info3
        go_wp2_with (at_builtin; go_must (refine wpList_append_any rfl _ _ 32 rfl w.heap.size 3 i0 _ 1 8 Try.underlying32 hi hz0 hz1 hz2 rfl (by decide) _ _ _ rfl (HX.out.2.alloc _) _ _ _ [.int .i64 x] rfl ?c0 ?c1 ?c2 ?c3 ?c4 ?c5 ?c6 ?_))
        case c0 => intro h; cases h
        case c1 => rfl
        case c2 => exact fun _ => ⟨_, rfl, src_new _ _ _⟩
        case c3 => simp [Value.oneCell']
        case c4 => unfold maxLen; omega
        case c5 => omega
        case c6 => have := HX.out.1.size; simp; omega
        intro a2 cap2 W3 hown3 hgrow3
        have hoA := HX.out.2.alloc (.cells #[.int .i64 x] 3)
        have h3w : Below w.heap.size w W3 := grown_below (below_alloc HX.out.1 _) hoA hgrow3.out (Nat.le_refl _) (by have := HX.out.1.size; simp; omega)
        have H3 := Lib.hid (And.intro h3w (show W3.ownsRow w.heap.size 3 1 (.slice a2 (k + 1) cap2) (k + 1) (intsV (xs.take (k + 1))) by rw [HT.out, intsV_add]; exact hown3.out.1))
        clear h3w hgrow3 hown3 hoA HX hc hi hz0 hz1 hz2 hw
        go_wp2_with fail
        go_roundw
        case rel => exact ⟨k + 1, _, _, _, by omega, by omega, rfl, by go_num, rfl, H3⟩
        case measure => simp [intOf]; omega
      · have h30I : ¬ (k : Int) < 30 := by omega
        have hke : k = 30 := by omega
        have HO := Lib.hid (show Below w.heap.size w X ∧ OwnI w.heap.size X (.slice av k cv) (xs.take 30) by
          refine ⟨HX.out.1, ?_⟩
          unfold OwnI
          rw [List.length_take, Hn.out, Nat.min_eq_left (by omega), ← hke]
          exact HX.out.2)
        clear HX hke
        go_wp2_with fail
        go_ret
        exact ⟨_, rfl, HO.out.2, HO.out.1⟩
    · have hltI : ¬ (k : Int) < (n : Int) := by omega
      have hke : k = n := by omega
      have HO := Lib.hid (show Below w.heap.size w X ∧ OwnI w.heap.size X (.slice av k cv) (xs.take 30) by
        refine ⟨HX.out.1, ?_⟩
        have h1 : xs.take 30 = xs.take k := by rw [List.take_of_length_le (by rw [Hn.out]; omega), List.take_of_length_le (by rw [Hn.out]; omega)]
        unfold OwnI
        rw [h1, List.length_take, Hn.out, Nat.min_eq_left (by omega)]
        exact HX.out.2)
      clear HX hke
      go_wp2_with fail
      go_ret
      exact ⟨_, rfl, HO.out.2, HO.out.1⟩
end Go.Proofs.Ytnpcafhmkjdhaaa
