/- Chapter 07: slices.Grow and Concat (two slices), for loads and for states. -/
import Derived.Test.YtojpbmaojbejjaaClone
import Derived.Lib.AppendZeros
namespace Go.Proofs.Ytojpbmaojbejjaa
open Go Go.RowKit

theorem intsV_len (xs : List Int) : (intsV xs).length = xs.length * 1 := by simp [intsV]
theorem intsV_app2 (xs ys : List Int) : intsV (xs ++ ys) = intsV xs ++ intsV ys := by simp [intsV]
theorem ints_src2 {n : Nat} {w : World} {a : Option Addr} {xs : List Int} (h : RowsAt n w a 1 (Ints xs)) (h0 : 0 < xs.length) : ∃ ad, a = some ad ∧ ∀ j u, (intsV xs)[j]? = some u → w.cell? (ad.add j) = some u := by
  obtain ⟨b, off, ha, _, _⟩ := ints_at h 0 h0
  subst ha
  exact ⟨_, rfl, ints_src h⟩
theorem flatS_len (xs : List BSt) : (flatS xs).length = xs.length * 2 := by
  unfold flatS
  rw [flat_length 2 _ (sts_two xs)]
  simp
theorem flatS_one' (xs : List BSt) : ∀ v ∈ flatS xs, v.oneCell' = true := by
  intro v hv
  obtain ⟨r, hr, hv⟩ := List.mem_flatten.1 hv
  obtain ⟨m, _, rfl⟩ := List.mem_map.1 hr
  exact cells_one m v hv
theorem sts_src2 {n : Nat} {w : World} {a : Option Addr} {xs : List BSt} (h : RowsAt n w a 2 (Sts xs)) (h0 : 0 < xs.length) : ∃ ad, a = some ad ∧ ∀ j u, (flatS xs)[j]? = some u → w.cell? (ad.add j) = some u := by
  obtain ⟨b, off, ha, _, _⟩ := sts_at h 0 h0
  subst ha
  refine ⟨_, rfl, fun j u hu => ?_⟩
  have hj : j < xs.length * 2 := by rw [← flatS_len]; exact (List.getElem?_eq_some_iff.1 hu).1
  obtain ⟨b', off', he, _, q0, q1⟩ := sts_at h (j / 2) (by omega)
  cases he
  have hr : (Sts xs)[j / 2]? = some (xs.getD (j / 2) default).cells := by simp [show j / 2 < xs.length by omega]
  have h2 := fun i v hv => flat_get 2 (Sts xs) (sts_two xs) (j / 2) _ hr i v hv
  rw [Addr.add_mid]
  rcases Nat.mod_two_eq_zero_or_one j with hm | hm
  · have h3 := h2 0 _ rfl
    rw [show j / 2 * 2 + 0 = j by omega] at h3
    have e := hu.symm.trans h3
    injection e with e
    rw [e, show off + j = off + j / 2 * 2 by omega]; exact q0
  · have h3 := h2 1 _ rfl
    rw [show j / 2 * 2 + 1 = j by omega] at h3
    have e := hu.symm.trans h3
    injection e with e
    rw [e, show off + j = off + j / 2 * 2 + 1 by omega]; exact q1


set_option maxHeartbeats 1000000 in
theorem growI_ok (n : Nat) (m : Int) (hm : m = n) (w : World) (hn : n ≤ 1000000) :
    Calls Try.prog 49 #[.slice none 0 0, .int .i64 m] w fun e W' => ∃ v, e = .returned v ∧ OwnI w.heap.size W' v [] ∧ Below w.heap.size w W' := by
  subst hm
  by_cases h0 : n = 0
  · subst h0
    go_enter Try.func49, Try.ntmps49
    go_wp2_with fail
    go_ret
    exact ⟨_, rfl, OwnI.nil _ _, below_self w⟩
  · obtain ⟨i0, hi, hz0, hz1, hz2⟩ := info_parts info3
    have hpos : 0 < (n : Int) := by omega
    have hrun := Lib.run_append_nil_zeros (P := Try.prog) w 43 3 43 3 i0 _ .i64 .i64 Try.underlying43 Try.underlying3 hi hz0 n (by omega) (by omega) (by omega) (by rw [hz2]; omega)
    have HR := Lib.hid hrun
    have hge := grownCap_ge w n 0 3
    have hle := grownCap_le_maxLen w n 0 3 (by unfold maxLen; omega)
    generalize hcp : grownCap w n 0 3 = cp at hge hle
    have HC := Lib.hid (And.intro hcp (And.intro hge hle))
    clear hrun hcp hge hle
    go_enter Try.func49, Try.ntmps49
    go_wp2_with (at_builtin; refine Lib.wpList_append_run _ rfl _ _ _ _ rfl _ _ rfl rfl _ _ HR.out ?_)
    have hsz : (Builtin.zeroCells (.int .i64 0 : Value).cells n ++ Builtin.zeroCells (.int .i64 0 : Value).cells (cp - n)).size = cp * 1 := by
      rw [Array.size_append, size_zeroCells, size_zeroCells]
      have := HC.out.2.1
      show n * 1 + (cp - n) * 1 = _
      omega
    have ho : (w.alloc (.cells (Builtin.zeroCells (.int .i64 0 : Value).cells n ++ Builtin.zeroCells (.int .i64 0 : Value).cells (cp - n)) 3)).drew.ownsRow w.heap.size 3 1 (.slice (some ⟨w.heap.size, 0, none⟩) 0 cp) 0 [] :=
      ⟨rfl, .inr ⟨w.heap.size, cp, _, rfl, Nat.le_refl _, (blk_new w (.cells _ 3) : _), Nat.zero_le _, HC.out.2.2, hsz, rfl⟩⟩
    have hb : Below w.heap.size w (w.alloc (.cells (Builtin.zeroCells (.int .i64 0 : Value).cells n ++ Builtin.zeroCells (.int .i64 0 : Value).cells (cp - n)) 3)).drew := (below_alloc (below_self w) _).drew
    rw [HC.out.1]
    go_ret
    exact ⟨_, rfl, ho, hb⟩


set_option maxRecDepth 100000 in
set_option maxHeartbeats 2000000 in
theorem concatI_ok (g : Nat) (t : TypeId) (a1 a2 : Option Addr) (n1 c1 n2 c2 : Nat) (xs ys : List Int) (w : World) (h1 : xs.length = n1) (h2 : ys.length = n2) (l1 : n1 ≤ 100000) (l2 : n2 ≤ 100000) (z1 : a1 = none → n1 = 0 ∧ c1 = 0) (z2 : a2 = none → n2 = 0 ∧ c2 = 0)
    (hg : w.heap[g]? = some (.cells #[.slice a1 n1 c1, .slice a2 n2 c2] t (0, 0))) (m1 : RowsAt w.heap.size w a1 1 (Ints xs)) (m2 : RowsAt w.heap.size w a2 1 (Ints ys)) :
    Calls Try.prog 32 #[.slice (some ⟨g, 0, none⟩) 2 2] w fun e W' => ∃ v, e = .returned v ∧ OwnI w.heap.size W' v (xs ++ ys) ∧ Below w.heap.size w W' := by
  have Hg := Lib.hid hg
  have H := Lib.hid (And.intro h1 (And.intro h2 (And.intro z1 (And.intro z2 (And.intro m1 m2)))))
  have lg := blk_lt hg
  have q0 := blk_cell hg 0
  have q1 := blk_cell hg 1
  simp at q0 q1
  clear hg h1 h2 z1 z2 m1 m2
  go_enter Try.func32, Try.ntmps32
  go_wp2_with fail
  refine wp_loop_rounds 3 ?_
  rw [rounds_succ]
  go_wp2_with fail
  rw [rounds_succ]
  go_wp2_with fail
  rw [rounds_succ]
  go_wp2_with fail
  refine (growI_ok (n1 + n2) ((n1 : Int) + (n2 : Int)) (by omega) _ (by omega)).mono ?_
  rintro e W1 ⟨v0, rfl, ho, hb⟩
  obtain ⟨av, cv, rfl, _⟩ := owns_shape ho
  obtain ⟨i0, hi, hz0, hz1, hz2⟩ := info_parts info3
  have q0 := cell_call hb lg q0
  have q1 := cell_call hb lg q1
  have lg1 := Nat.lt_of_lt_of_le lg hb.size
  have HO := Lib.hid (And.intro ho hb)
  have hs1 := hb.size
  clear ho hb
  go_wp2_with fail
  refine wp_loop_rounds 3 ?_
  rw [rounds_succ]
  go_wp2_with (at_builtin; go_must (refine wpList_append_any rfl _ _ 43 rfl w.heap.size 3 i0 _ 1 8 Try.underlying43 hi hz0 hz1 hz2 rfl (by decide) _ _ _ rfl HO.out.1 _ _ _ (intsV xs) rfl ?c0 ?c1 ?c2 ?c3 ?c4 ?c5 ?c6 ?_))
  case c0 => exact H.out.2.2.1
  case c1 => rw [intsV_len, H.out.1]
  case c2 =>
    intro h0
    obtain ⟨ad, ha, hc⟩ := ints_src2 (H.out.2.2.2.2.1.below HO.out.2) (by rw [H.out.1]; exact h0)
    exact ⟨ad, ha, hc⟩
  case c3 => exact intsV_one _
  case c4 => unfold maxLen; simp; omega
  case c5 => simp; omega
  case c6 => exact hs1
  intro a3 cap3 W2 hown2 hgrow2
  have hb2 := grown_below HO.out.2 HO.out.1 hgrow2.out (Nat.le_refl _) hs1
  have q1 := World.grownBy.cell hgrow2.out q1 (own_ne HO.out.1 lg)
  have ho2 := hown2.out.1
  try simp only [Nat.zero_add, List.nil_append] at ho2
  try simp only [Nat.zero_add]
  have H2 := Lib.hid (And.intro ho2 hb2)
  have hs2 := hb2.size
  have lg2 := Nat.lt_of_lt_of_le lg hs2
  clear ho2 hb2 hown2 hgrow2 HO hs1 lg1
  go_wp2_with fail
  rw [rounds_succ]
  go_wp2_with (at_builtin; go_must (refine wpList_append_any rfl _ _ 43 rfl w.heap.size 3 i0 _ 1 8 Try.underlying43 hi hz0 hz1 hz2 rfl (by decide) _ _ _ rfl H2.out.1 _ _ _ (intsV ys) rfl ?d0 ?d1 ?d2 ?d3 ?d4 ?d5 ?d6 ?_))
  case d0 => exact H.out.2.2.2.1
  case d1 => rw [intsV_len, H.out.2.1]
  case d2 =>
    intro h0
    obtain ⟨ad, ha, hc⟩ := ints_src2 (H.out.2.2.2.2.2.below H2.out.2) (by rw [H.out.2.1]; exact h0)
    exact ⟨ad, ha, hc⟩
  case d3 => exact intsV_one _
  case d4 => unfold maxLen; omega
  case d5 => omega
  case d6 => exact hs2
  intro a4 cap4 W3 hown3 hgrow3
  have hb3 := grown_below H2.out.2 H2.out.1 hgrow3.out (Nat.le_refl _) hs2
  have ho3 : OwnI w.heap.size W3 (.slice a4 (n1 + n2) cap4) (xs ++ ys) := by
    unfold OwnI
    rw [List.length_append, H.out.1, H.out.2.1, intsV_app2]
    exact hown3.out.1
  have H3 := Lib.hid (And.intro ho3 hb3)
  clear ho3 hb3 hown3 hgrow3 H2 hs2 q0 q1 lg lg2 hi hz0 hz1 hz2
  go_wp2_with fail
  rw [rounds_succ]
  go_wp2_with fail
  go_ret
  exact ⟨_, rfl, H3.out⟩


set_option maxHeartbeats 1000000 in
theorem growS_ok (n : Nat) (m : Int) (hm : m = n) (w : World) (hn : n ≤ 1000000) :
    Calls Try.prog 50 #[.slice none 0 0, .int .i64 m] w fun e W' => ∃ v, e = .returned v ∧ OwnS w.heap.size W' v [] ∧ Below w.heap.size w W' := by
  subst hm
  by_cases h0 : n = 0
  · subst h0
    go_enter Try.func50, Try.ntmps50
    go_wp2_with fail
    go_ret
    exact ⟨_, rfl, OwnS.nil _ _, below_self w⟩
  · obtain ⟨i0, hi, hz0, hz1, hz2⟩ := info_parts info37
    have hpos : 0 < (n : Int) := by omega
    have hrun := Lib.run_append_nil_zeros (P := Try.prog) w 40 3 40 37 i0 _ .i64 .i64 Try.underlying40 Try.underlying3 hi hz0 n (by omega) (by omega) (by omega) (by rw [hz2]; omega)
    have HR := Lib.hid hrun
    have hge := grownCap_ge w n 0 37
    have hle := grownCap_le_maxLen w n 0 37 (by unfold maxLen; omega)
    generalize hcp : grownCap w n 0 37 = cp at hge hle
    have HC := Lib.hid (And.intro hcp (And.intro hge hle))
    clear hrun hcp hge hle
    go_enter Try.func50, Try.ntmps50
    go_wp2_with (at_builtin; refine Lib.wpList_append_run _ rfl _ _ _ _ rfl _ _ rfl rfl _ _ HR.out ?_)
    have hsz : (Builtin.zeroCells (.agg #[.int .i64 0, .bool false] : Value).cells n ++ Builtin.zeroCells (.agg #[.int .i64 0, .bool false] : Value).cells (cp - n)).size = cp * 2 := by
      rw [Array.size_append, size_zeroCells, size_zeroCells]
      have := HC.out.2.1
      show n * 2 + (cp - n) * 2 = _
      omega
    have ho : (w.alloc (.cells (Builtin.zeroCells (.agg #[.int .i64 0, .bool false] : Value).cells n ++ Builtin.zeroCells (.agg #[.int .i64 0, .bool false] : Value).cells (cp - n)) 37)).drew.ownsRow w.heap.size 37 2 (.slice (some ⟨w.heap.size, 0, none⟩) 0 cp) 0 [] :=
      ⟨rfl, .inr ⟨w.heap.size, cp, _, rfl, Nat.le_refl _, (blk_new w (.cells _ 37) : _), Nat.zero_le _, HC.out.2.2, hsz, rfl⟩⟩
    have hb : Below w.heap.size w (w.alloc (.cells (Builtin.zeroCells (.agg #[.int .i64 0, .bool false] : Value).cells n ++ Builtin.zeroCells (.agg #[.int .i64 0, .bool false] : Value).cells (cp - n)) 37)).drew := (below_alloc (below_self w) _).drew
    rw [HC.out.1]
    go_ret
    exact ⟨_, rfl, ho, hb⟩


set_option maxRecDepth 100000 in
set_option maxHeartbeats 2000000 in
theorem concatS_ok (g : Nat) (t : TypeId) (a1 a2 : Option Addr) (n1 c1 n2 c2 : Nat) (xs ys : List BSt) (w : World) (h1 : xs.length = n1) (h2 : ys.length = n2) (l1 : n1 ≤ 100000) (l2 : n2 ≤ 100000) (z1 : a1 = none → n1 = 0 ∧ c1 = 0) (z2 : a2 = none → n2 = 0 ∧ c2 = 0)
    (hg : w.heap[g]? = some (.cells #[.slice a1 n1 c1, .slice a2 n2 c2] t (0, 0))) (m1 : RowsAt w.heap.size w a1 2 (Sts xs)) (m2 : RowsAt w.heap.size w a2 2 (Sts ys)) :
    Calls Try.prog 33 #[.slice (some ⟨g, 0, none⟩) 2 2] w fun e W' => ∃ v, e = .returned v ∧ OwnS w.heap.size W' v (xs ++ ys) ∧ Below w.heap.size w W' := by
  have Hg := Lib.hid hg
  have H := Lib.hid (And.intro h1 (And.intro h2 (And.intro z1 (And.intro z2 (And.intro m1 m2)))))
  have lg := blk_lt hg
  have q0 := blk_cell hg 0
  have q1 := blk_cell hg 1
  simp at q0 q1
  clear hg h1 h2 z1 z2 m1 m2
  go_enter Try.func33, Try.ntmps33
  go_wp2_with fail
  refine wp_loop_rounds 3 ?_
  rw [rounds_succ]
  go_wp2_with fail
  rw [rounds_succ]
  go_wp2_with fail
  rw [rounds_succ]
  go_wp2_with fail
  refine (growS_ok (n1 + n2) ((n1 : Int) + (n2 : Int)) (by omega) _ (by omega)).mono ?_
  rintro e W1 ⟨v0, rfl, ho, hb⟩
  obtain ⟨av, cv, rfl, _⟩ := owns_shape ho
  obtain ⟨i0, hi, hz0, hz1, hz2⟩ := info_parts info37
  have q0 := cell_call hb lg q0
  have q1 := cell_call hb lg q1
  have lg1 := Nat.lt_of_lt_of_le lg hb.size
  have HO := Lib.hid (And.intro ho hb)
  have hs1 := hb.size
  clear ho hb
  go_wp2_with fail
  refine wp_loop_rounds 3 ?_
  rw [rounds_succ]
  go_wp2_with (at_builtin; go_must (refine wpList_append_any rfl _ _ 40 rfl w.heap.size 37 i0 _ 2 16 Try.underlying40 hi hz0 hz1 hz2 rfl (by decide) _ _ _ rfl HO.out.1 _ _ _ (flatS xs) rfl ?c0 ?c1 ?c2 ?c3 ?c4 ?c5 ?c6 ?_))
  case c0 => exact H.out.2.2.1
  case c1 => rw [flatS_len, H.out.1]
  case c2 =>
    intro h0
    obtain ⟨ad, ha, hc⟩ := sts_src2 (H.out.2.2.2.2.1.below HO.out.2) (by rw [H.out.1]; exact h0)
    exact ⟨ad, ha, hc⟩
  case c3 => exact flatS_one' _
  case c4 => unfold maxLen; simp; omega
  case c5 => simp; omega
  case c6 => exact hs1
  intro a3 cap3 W2 hown2 hgrow2
  have hb2 := grown_below HO.out.2 HO.out.1 hgrow2.out (Nat.le_refl _) hs1
  have q1 := World.grownBy.cell hgrow2.out q1 (own_ne HO.out.1 lg)
  have ho2 := hown2.out.1
  try simp only [Nat.zero_add, List.nil_append] at ho2
  try simp only [Nat.zero_add]
  have H2 := Lib.hid (And.intro ho2 hb2)
  have hs2 := hb2.size
  have lg2 := Nat.lt_of_lt_of_le lg hs2
  clear ho2 hb2 hown2 hgrow2 HO hs1 lg1
  go_wp2_with fail
  rw [rounds_succ]
  go_wp2_with (at_builtin; go_must (refine wpList_append_any rfl _ _ 40 rfl w.heap.size 37 i0 _ 2 16 Try.underlying40 hi hz0 hz1 hz2 rfl (by decide) _ _ _ rfl H2.out.1 _ _ _ (flatS ys) rfl ?d0 ?d1 ?d2 ?d3 ?d4 ?d5 ?d6 ?_))
  case d0 => exact H.out.2.2.2.1
  case d1 => rw [flatS_len, H.out.2.1]
  case d2 =>
    intro h0
    obtain ⟨ad, ha, hc⟩ := sts_src2 (H.out.2.2.2.2.2.below H2.out.2) (by rw [H.out.2.1]; exact h0)
    exact ⟨ad, ha, hc⟩
  case d3 => exact flatS_one' _
  case d4 => unfold maxLen; omega
  case d5 => omega
  case d6 => exact hs2
  intro a4 cap4 W3 hown3 hgrow3
  have hb3 := grown_below H2.out.2 H2.out.1 hgrow3.out (Nat.le_refl _) hs2
  have ho3 : OwnS w.heap.size W3 (.slice a4 (n1 + n2) cap4) (xs ++ ys) := by
    unfold OwnS
    rw [List.length_append, H.out.1, H.out.2.1, flatS_app]
    exact hown3.out.1
  have H3 := Lib.hid (And.intro ho3 hb3)
  clear ho3 hb3 hown3 hgrow3 H2 hs2 q0 q1 lg lg2 hi hz0 hz1 hz2
  go_wp2_with fail
  rw [rounds_succ]
  go_wp2_with fail
  go_ret
  exact ⟨_, rfl, H3.out⟩

end Go.Proofs.Ytojpbmaojbejjaa
