/- Chapter 25: the reference's Lose and Waiting. -/
import Derived.Test.YtkfoclibejpbdaaDel2
import Derived.Test.YtkfoclibejpbdaaIter
namespace Go.Proofs.Ytkfoclibejpbdaa
open Go Go.RowKit

theorem drop1_same (ms : List Msg) (k : Nat) (h : k < ms.length) : drop1 (ms.take (k + 1)) k = drop1 (ms.take k) k := by
  rw [take_snoc ms k h]
  unfold drop1
  have hl : (ms.take k).length = k := by rw [List.length_take]; omega
  rw [List.take_append_of_le_length (by omega), List.drop_of_length_le (by simp; omega), List.drop_of_length_le (by omega)]
theorem drop1_snoc (ms : List Msg) (j k : Nat) (h : k < ms.length) (hne : k ≠ j) : drop1 (ms.take (k + 1)) j = drop1 (ms.take k) j ++ [ms.getD k default] := by
  rw [take_snoc ms k h]
  unfold drop1
  have hl : (ms.take k).length = k := by rw [List.length_take]; omega
  generalize ms.take k = L at *
  rcases Nat.lt_or_ge j k with hj | hj
  · rw [List.take_append_of_le_length (by omega), List.drop_append_of_le_length (by omega), List.append_assoc]
  · rw [List.take_of_length_le (by rw [List.length_append]; simp; omega), List.take_of_length_le (by omega), List.drop_of_length_le (by rw [List.length_append]; simp; omega), List.drop_of_length_le (by omega)]
    simp

set_option maxHeartbeats 2000000 in
theorem lose_ref (a : Option Addr) (n cap : Nat) (p : Int) (ms : List Msg) (w : World) (hn : ms.length = n) (hl : n ≤ 1000000) (hm : MsgsAt w.heap.size w a ms) :
    Calls Try.prog 30 #[.agg #[.slice a n cap], .int .i64 p] w fun e W' => ∃ v, e = .returned (.tuple #[.agg #[v], .int .i64 (delE ms p)]) ∧ OwnMs w.heap.size W' v (delL ms p) ∧ Below w.heap.size w W' := by
  have Hn := Lib.hid hn
  have Hm := Lib.hid hm; clear hm
  cases hin : inside p n with
  | false =>
    have e2 : delL ms p = [] := by unfold delL; rw [hn, hin]; rfl
    have e3 : delE ms p = 2 := by unfold delE; rw [hn, hin]; rfl
    rw [e2, e3]
    have Hin := Lib.hid hin
    clear e2 e3 hn hin
    go_enter Try.func30, Try.ntmps30
    go_wp2_with fail
    obtain ⟨W1, hW1⟩ : ∃ W' : World, ((w.alloc (.cells #[.slice a n cap] 24)).alloc (.cells #[.slice none 0 0] 24)) = W' := ⟨_, rfl⟩
    have H1 : Has W1 [(w.heap.size + 1, .cells #[.slice none 0 0] 24 (0, 0)), (w.heap.size, .cells #[.slice a n cap] 24 (0, 0))] := by rw [← hW1]; simpa using (((Has.nil w).new _).new _)
    have s1 : W1.heap.size = w.heap.size + 1 + 1 := by rw [← hW1]; simp
    have b1 : Below w.heap.size w W1 := by rw [← hW1]; exact (below_alloc (below_alloc (below_self w) _) _)
    rw [hW1]
    clear hW1
    refine (there_ok _ _ _ _ _ (by omega)).mono ?_
    rintro e W2 ⟨rfl, hb⟩
    have h2 := H1.below hb
    have w2 := below_trans b1 hb
    have c0 := blk_one h2.hd
    have f0 := blk_frozen h2.hd 0
    rw [Hin.out]
    have W := Lib.hid w2
    clear h2 w2 H1 s1 b1 hb
    go_wp2
    refine bodyPost_ret (v := .tuple #[.agg #[.slice none 0 0], .int .i64 2]) (by simp [results, Try.results30, go_sem, c0]) rfl ⟨_, rfl, OwnMs.nil _ _, ?_⟩
    exact W.out.setCell (by simp) _
  | true =>
    have e2 : delL ms p = drop1 ms p.toNat := by unfold delL; rw [hn, hin]; rfl
    have e3 : delE ms p = 0 := by unfold delE; rw [hn, hin]; rfl
    rw [e2, e3]
    have hr : 0 ≤ p ∧ p < n := by unfold inside at hin; simpa using hin
    obtain ⟨j, rfl⟩ := Int.eq_ofNat_of_zero_le hr.1
    rw [Int.toNat_natCast]
    have hj : j < n := by omega
    have Hin := Lib.hid hin
    clear e2 e3 hn hin hr
    go_enter Try.func30, Try.ntmps30
    go_wp2_with fail
    obtain ⟨W1, hW1⟩ : ∃ W' : World, ((w.alloc (.cells #[.slice a n cap] 24)).alloc (.cells #[.slice none 0 0] 24)) = W' := ⟨_, rfl⟩
    have H1 : Has W1 [(w.heap.size + 1, .cells #[.slice none 0 0] 24 (0, 0)), (w.heap.size, .cells #[.slice a n cap] 24 (0, 0))] := by rw [← hW1]; simpa using (((Has.nil w).new _).new _)
    have s1 : W1.heap.size = w.heap.size + 1 + 1 := by rw [← hW1]; simp
    have b1 : Below w.heap.size w W1 := by rw [← hW1]; exact (below_alloc (below_alloc (below_self w) _) _)
    rw [hW1]
    clear hW1
    refine (there_ok _ _ _ _ _ (by omega)).mono ?_
    rintro e W2 ⟨rfl, hb2⟩
    rw [Hin.out]
    have h2 := H1.below hb2
    have w2 := below_trans b1 hb2
    have s2 := hb2.size
    have HX := Lib.hid (And.intro h2 w2)
    have l1 : w.heap.size + 1 < W2.heap.size := by omega
    clear h2 w2 H1 b1 hb2
    go_wp2
    have l0 : w.heap.size < W2.heap.size := by omega
    go_loopw [6, 7] (fun l i wr => ∃ k : Nat, k ≤ n ∧ i = .int .i64 k ∧ OwnMs W2.heap.size wr l (drop1 (ms.take k) j) ∧ Below W2.heap.size W2 wr) (fun _ i _ => n - (intOf i).toNat)
    case atStart => exact ⟨0, Nat.zero_le _, rfl, by simpa [drop1] using OwnMs.nil _ _, below_self _⟩
    case round =>
      obtain ⟨k, hk, rfl, ho, hbr⟩ := hrel
      obtain ⟨al, capl, rfl, _⟩ := ho.msgs
      have hlen : (drop1 (ms.take k) j).length ≤ k := by unfold drop1; simp; omega
      have hr := HX.out.1.below hbr
      have c0 := blk_one hr.tl.hd
      have hsr := hbr.size
      by_cases hlt : k < n
      · obtain ⟨b, off, rfl, hb, hc⟩ := (Hm.out.later (below_trans HX.out.2 hbr)).at' k (by rw [Hn.out]; exact hlt)
        by_cases hkj : k = j
        · subst hkj
          have hs := drop1_same ms k (by rw [Hn.out]; exact hlt)
          have HO := Lib.hid (And.intro ho (And.intro hbr hs))
          clear ho hbr hr hc hs
          go_wp2
          go_roundw
          case rel => exact ⟨k + 1, by omega, by go_num, by rw [HO.out.2.2]; exact HO.out.1, HO.out.2.1⟩
          case measure => simp [intOf]; omega
        · have hkj1 : ((k : Int) == (j : Int)) = false := by simp; omega
          have hkj2 : ((k : Int) != (j : Int)) = true := by simp; omega
          have hs := drop1_snoc ms j k (by rw [Hn.out]; exact hlt) hkj
          generalize ms.getD k default = x at *
          generalize hL : drop1 (ms.take k) j = L at *
          have HO := Lib.hid (And.intro ho (And.intro hbr hs))
          obtain ⟨hc0, hc1, hc2, hc3, hc4, hc5, hc6, hc7, hc8⟩ := hc
          obtain ⟨i0, hi, hz0, hz1, hz2⟩ := info_parts info34
          clear ho hbr hr hs hL hkj
          go_wp2_with (at_builtin; go_must (refine wpList_append_any rfl _ _ 22 rfl W2.heap.size 34 i0 _ 9 72 Try.underlying22 hi hz0 hz1 hz2 rfl (by decide) _ _ _ rfl (HO.out.1.alloc _) _ _ _ x.cells rfl ?c0 ?c1 ?c2 ?c3 ?c4 ?c5 ?c6 ?_))
          case c0 => intro h; cases h
          case c1 => rfl
          case c2 => exact fun _ => ⟨_, rfl, src_new _ _ _⟩
          case c3 => exact fun v hv => flatMs_oneCell [x] v (by rw [flatMs_one]; exact hv)
          case c4 => unfold maxLen; omega
          case c5 => omega
          case c6 => simp; omega
          intro a2 cap2 W3 hown3 hgrow3
          have hoA := HO.out.1.alloc (.cells x.cells.toArray 34)
          have h3w : Below W2.heap.size W2 W3 := grown_below (HO.out.2.1.alloc hsr _) hoA hgrow3.out (Nat.le_refl _) (by simp; omega)
          have hown3' := hown3.out.1
          rw [← flatMs_one, ← flatMs_app] at hown3'
          have H3 := Lib.hid (And.intro h3w (And.intro hown3' HO.out.2.2))
          clear h3w hgrow3 hown3 hown3' hoA HO hc0 hc1 hc2 hc3 hc4 hc5 hc6 hc7 hc8 hi hz0 hz1 hz2
          go_wp2
          go_roundw
          case rel => exact ⟨k + 1, by omega, by go_num, by rw [H3.out.2.2]; unfold OwnMs; rw [List.length_append]; exact H3.out.2.1, H3.out.1⟩
          case measure => simp [intOf]; omega
      · have hkn : k = n := by omega
        subst hkn
        have htk : ms.take k = ms := List.take_of_length_le (by rw [Hn.out]; omega)
        rw [htk] at ho hlen ⊢
        have d0 := blk_one hr.hd
        have df := blk_frozen hr.hd 0
        have HO := Lib.hid (And.intro ho (below_trans HX.out.2 hbr))
        clear ho hbr hr htk
        go_wp2
        refine bodyPost_ret (v := .tuple #[.agg #[.slice al (drop1 ms j).length capl], .int .i64 0]) (by simp [results, Try.results30, go_sem, d0]) rfl ⟨_, rfl, ?_, ?_⟩
        · exact (HO.out.1.set (by simp; omega) _).base (by omega)
        · exact HO.out.2.setCell (by simp) _

set_option maxHeartbeats 2000000 in
theorem waiting_ref (a : Option Addr) (n cap : Nat) (ms : List Msg) (to : Int) (w : World) (hn : ms.length = n) (hl : n ≤ 1000000) (hm : MsgsAt w.heap.size w a ms) :
    Calls Try.prog 12 #[.agg #[.slice a n cap], .int .i64 to] w fun e W' =>
      ∃ v, e = .returned v ∧ W'.ownsRow w.heap.size 3 1 v (idxTo (fun x => x.to == to) ms n).length (ints (idxTo (fun x => x.to == to) ms n)) ∧ Below w.heap.size w W' := by
  have Hn := Lib.hid hn
  have Hm := Lib.hid hm; clear hm hn
  go_enter Try.func12, Try.ntmps12
  go_wp2_with fail
  obtain ⟨W2, hW2⟩ : ∃ W' : World, (w.alloc (.cells #[.slice a n cap] 24)) = W' := ⟨_, rfl⟩
  have H1 : Has W2 [(w.heap.size, .cells #[.slice a n cap] 24 (0, 0))] := by rw [← hW2]; simpa using ((Has.nil w).new _)
  have s1 : W2.heap.size = w.heap.size + 1 := by rw [← hW2]; simp
  have b1 : Below w.heap.size w W2 := by rw [← hW2]; exact (below_alloc (below_self w) _)
  rw [hW2]
  clear hW2
  have HX := Lib.hid (And.intro H1 b1)
  have S1 := Lib.hid s1
  clear H1 b1 s1
  go_loopw [5, 6] (fun l i wr => ∃ k : Nat, k ≤ n ∧ i = .int .i64 k ∧ wr.ownsRow W2.heap.size 3 1 l (idxTo (fun x => x.to == to) ms k).length (ints (idxTo (fun x => x.to == to) ms k)) ∧ Below W2.heap.size W2 wr) (fun _ i _ => n - (intOf i).toNat)
  case atStart => exact ⟨0, Nat.zero_le _, rfl, by simpa [idxTo, ints] using World.ownsRow_nil _ _ _ _, below_self _⟩
  case round =>
    obtain ⟨k, hk, rfl, ho, hbr⟩ := hrel
    obtain ⟨al, capl, rfl, _⟩ := owns_shape ho
    have hlen := idxTo_len (fun x => x.to == to) ms k
    have hr := HX.out.1.below hbr
    have c0 := blk_one hr.hd
    have hsr := hbr.size
    by_cases hlt : k < n
    · obtain ⟨b, off, rfl, hb, hc⟩ := (Hm.out.later (below_trans HX.out.2 hbr)).at' k (by rw [Hn.out]; exact hlt)
      have hyes : Hid (((ms.getD k default).to == to) = true → idxTo (fun x => x.to == to) ms (k + 1) = idxTo (fun x => x.to == to) ms k ++ [k]) := fun h => idxTo_yes h
      have hno : Hid (((ms.getD k default).to == to) = false → idxTo (fun x => x.to == to) ms (k + 1) = idxTo (fun x => x.to == to) ms k) := fun h => idxTo_no h
      generalize ms.getD k default = x at *
      generalize hL : idxTo (fun x => x.to == to) ms k = L at *
      have HO := Lib.hid (And.intro ho (And.intro hbr True.intro))
      obtain ⟨hc0, _⟩ := hc
      clear ho hbr hr hL
      cases hx : x.to == to with
      | false =>
        go_wp2
        go_roundw
        case rel => exact ⟨k + 1, by omega, by go_num, by rw [hno.out hx]; exact HO.out.1, HO.out.2.1⟩
        case measure => simp [intOf]; omega
      | true =>
        obtain ⟨i0, hi, hz0, hz1, hz2⟩ := info_parts info3
        go_wp2_with (at_builtin; go_must (refine wpList_append_any rfl _ _ 36 rfl W2.heap.size 3 i0 _ 1 8 Try.underlying36 hi hz0 hz1 hz2 rfl (by decide) _ _ _ rfl (HO.out.1.alloc _) _ _ _ [.int .i64 k] rfl ?c0 ?c1 ?c2 ?c3 ?c4 ?c5 ?c6 ?_))
        case c0 => intro h; cases h
        case c1 => rfl
        case c2 => exact fun _ => ⟨_, rfl, src_new _ _ _⟩
        case c3 => simp [Value.oneCell']
        case c4 => unfold maxLen; omega
        case c5 => omega
        case c6 => simp; omega
        intro a2 cap2 W3 hown3 hgrow3
        have hoA := HO.out.1.alloc (.cells #[.int .i64 (k : Int)] 3)
        have h3w : Below W2.heap.size W2 W3 := grown_below (HO.out.2.1.alloc hsr _) hoA hgrow3.out (Nat.le_refl _) (by simp; omega)
        have H3 := Lib.hid (And.intro h3w (And.intro hown3.out.1 (hyes.out hx)))
        clear h3w hgrow3 hown3 hoA HO hc0 hi hz0 hz1 hz2 hx
        go_wp2
        go_roundw
        case rel => exact ⟨k + 1, by omega, by go_num, by rw [H3.out.2.2]; simp only [ints, List.map_append, List.length_append]; exact H3.out.2.1, H3.out.1⟩
        case measure => simp [intOf]; omega
    · have hkn : k = n := by omega
      subst hkn
      have HO := Lib.hid (And.intro ho (below_trans HX.out.2 hbr))
      clear ho hbr hr
      go_wp2
      go_ret
      exact ⟨_, rfl, owns_base HO.out.1 HX.out.2.size, HO.out.2⟩
end Go.Proofs.Ytkfoclibejpbdaa
