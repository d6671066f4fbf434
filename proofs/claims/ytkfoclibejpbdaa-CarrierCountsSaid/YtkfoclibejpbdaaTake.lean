/- Chapter 25: without, Lose, Deliver, Repeat. -/
import Derived.Test.YtkfoclibejpbdaaSend
import Derived.Test.YtkfoclibejpbdaaRead
import Derived.Deep.RegionHeld3
import Derived.Deep.RegionWith
import Derived.Deep.DrawnRows
namespace Go.Proofs.Ytkfoclibejpbdaa
open Go Go.RowKit
attribute [local go_sem ↓] Go.wp_at_zero Go.wp_at_succ

def drop1 (ms : List Msg) (p : Nat) : List Msg := ms.take p ++ ms.drop (p + 1)

set_option maxHeartbeats 1000000 in
theorem without_ok (a : Option Addr) (n cap p : Nat) (ms : List Msg) (w : World) (hn : ms.length = n) (hl : n ≤ 1000000) (hcap : n ≤ cap) (hp : p < n) (hm : MsgsAt w.heap.size w a ms) :
    Calls Try.prog 29 #[.agg #[.slice a n cap], .int .i64 p] w fun e W' => ∃ v, e = .returned (.agg #[v]) ∧ OwnMs w.heap.size W' v (drop1 ms p) ∧ Below w.heap.size w W' := by
  have Hn := Lib.hid hn; clear hn
  have Hm := Lib.hid hm
  obtain ⟨b, off, rfl, hbl⟩ := hm.some (by rw [Hn.out]; omega)
  clear hm
  obtain ⟨n', rfl⟩ : ∃ n', n = n' + 1 := ⟨n - 1, by omega⟩
  obtain ⟨i0, hi, hz0, hz1, hz2⟩ := info_parts info34
  go_enter Try.func29, Try.ntmps29
  go_wp2_with (with_reducible refine wpList_make_row rfl 22 _ _ rfl 34 i0 _ 9 72 Try.underlying22 hi hz0 hz1 hz2 n' _ rfl rfl ?a2 ?a3 ?a4 ?_)
  case a2 => omega
  case a3 => omega
  case a4 => omega
  intro W3 h3 hb3 hs3
  have h0 : Has ((w.alloc (.cells #[.slice (some ⟨b, off, none⟩) (n' + 1) cap] 24)).alloc (.cells #[.slice none 0 0] 24))
      [(w.heap.size + 1, .cells #[.slice none 0 0] 24 (0, 0)), (w.heap.size, .cells #[.slice (some ⟨b, off, none⟩) (n' + 1) cap] 24 (0, 0))] := by
    simpa using ((Has.nil w).new _).new _
  have h3h := h0.below (by simpa using hb3)
  have h3w : Below w.heap.size w W3 := below_trans (below_alloc (below_alloc (below_self w) _) _) (by simpa using hb3)
  obtain ⟨cur, hcur, hrow⟩ : ∃ cur : List Value, cur.length = n' * 9 ∧ W3.heap[w.heap.size + 1 + 1]? = some (.cells cur.toArray 34 (0, 0)) := ⟨_, made_length _ _, h3.out⟩
  have c0 := blk_one h3h.tl.hd
  generalize hg : w.heap.size + 1 + 1 = g at *
  have H3 := Lib.hid (And.intro hrow (And.intro h3w (And.intro h3h (And.intro hcur (And.intro hg hs3)))))
  clear h0 h3 hb3 hs3 h3h h3w hcur hrow hi hz0 hz1 hz2 hg
  have hp' : p ≤ n' := by omega
  go_wp2_with (with_reducible refine wpList_copy_k rfl _ _ _ _ rfl 34 9 Try.underlying22 (by kernel_rfl) _ _ _ _ _ _ rfl rfl g 0 cur 34 H3.out.1 (flatMs (ms.take p)) (by decide) ?b1 ?b2 ?b3 ?b4 ?_)
  case b1 => rw [flatMs_len, List.length_take, Hn.out, show p.min n' = p from Nat.min_eq_left hp', show min p (n' + 1) = p from Nat.min_eq_left (by omega)]
  case b2 =>
    intro _ j v hv
    have := (Hm.out.below H3.out.2.1 |>.take p).flat rfl j v hv
    rwa [Addr.add_mid] at this
  case b3 => rw [flatMs_len, List.length_take, Hn.out, H3.out.2.2.2.1]; omega
  case b4 => exact flatMs_oneCell _
  intro W4 hr4 hb4
  obtain ⟨hgw, hs3⟩ := H3.out.2.2.2.2
  have h4h := hb4.has H3.out.2.2.1 (by simp; omega)
  have h4w := hb4.below H3.out.2.1 (by omega)
  have c1 := blk_one h4h.tl.hd
  have H4 := Lib.hid (And.intro hr4.out (And.intro h4w (And.intro h4h (And.intro H3.out.2.2.2.1 hgw))))
  clear hr4 hb4 h4h h4w hgw hs3 c0 H3
  go_wp2
  by_cases hpe : p < n'
  · have hne1 : ¬ n' = p := by omega
    have hne2 : ¬ cap = p + 1 := by omega
    have hge : (0 : Int) ≤ (p : Int) + 1 := by omega
    have htn : ((p : Int) + 1).toNat = p + 1 := by omega
    have hwr : IntKind.i64.wrap ((p : Int) + 1) = (p : Int) + 1 := IntWalk.i64_in _ (by omega)
    go_still_tail 8, (by kernel_rfl)
    have g5 : (W4.drew).heap[g]? = some (.cells (splice cur 0 (flatMs (ms.take p))).toArray 34 (0, 0)) := H4.out.1
    have w5 : Below w.heap.size w W4.drew := H4.out.2.1.drew
    have h5 : Has W4.drew [(w.heap.size + 1, .cells #[.slice none 0 0] 24 (0, 0)), (w.heap.size, .cells #[.slice (some ⟨b, off, none⟩) (n' + 1) cap] 24 (0, 0))] := H4.out.2.2.1
    change wpList _ _ _ _ _ W4.drew
    generalize W4.drew = W5 at *
    have H5 := Lib.hid (And.intro g5 (And.intro w5 (And.intro h5 H4.out.2.2.2)))
    clear g5 w5 h5 H4 hwr hne1 hne2 hge htn c1
    refine wpList_copy_k rfl _ _ _ _ rfl 34 9 Try.underlying22 (by kernel_rfl) _ _ _ _ _ _ rfl rfl g (p * 9) _ 34 H5.out.1 (flatMs (ms.drop (p + 1))) (by decide) ?b1 ?b2 ?b3 ?b4 ?_
    case b1 => rw [flatMs_len, List.length_drop, Hn.out]; simp; try omega
    case b2 => exact fun _ => ⟨rfl, _, rfl, (Hm.out.below H5.out.2.1 |>.drop (p + 1)).flat rfl⟩
    case b3 =>
      rw [length_splice _ _ _ (by rw [flatMs_len, List.length_take, Hn.out, H5.out.2.2.2.1]; omega), flatMs_len, List.length_drop, Hn.out, H5.out.2.2.2.1]; omega
    case b4 => exact flatMs_oneCell _
    intro W6 hr6 hb6
    have hr6' := hr6.out
    rw [show p * 9 = (flatMs (ms.take p)).length by rw [flatMs_len, List.length_take, Hn.out, Nat.min_eq_left (by omega)],
      splice_all cur _ _ (by rw [flatMs_len, flatMs_len, List.length_take, List.length_drop, Hn.out, H5.out.2.2.2.1]; omega), ← flatMs_app] at hr6'
    have hgw := H5.out.2.2.2.2
    have h6h := hb6.has H5.out.2.2.1 (by simp; omega)
    have h6w := hb6.below H5.out.2.1 (by omega)
    have c0 := blk_one h6h.hd
    have f0 := blk_frozen h6h.hd 0
    have H6 := Lib.hid (And.intro hr6' (And.intro h6w hgw))
    clear hr6 hb6 h6h h6w hgw hr6' H5
    go_wp2
    refine bodyPost_ret (v := .agg #[.slice (some ⟨g, 0, none⟩) n' n']) (by simp [results, Try.results29, go_sem, c0]) rfl ⟨_, rfl, ?_, ?_⟩
    · have hgw := H6.out.2.2
      refine (OwnMs.set (base := g) ?_ (by simp; omega) _).base (by omega)
      unfold OwnMs drop1
      rw [show (List.take p ms ++ List.drop (p + 1) ms).length = n' by rw [List.length_append, List.length_take, List.length_drop, Hn.out]; omega]
      exact owns_of_blk H6.out.1 (Nat.le_refl _) (by rw [flatMs_len, List.length_append, List.length_take, List.length_drop, Hn.out]; omega) (by unfold maxLen; omega)
    · exact H6.out.2.1.setCell (by simp) _
  · obtain rfl : p = n' := by omega
    have hne1 : True := trivial
    have hge : (0 : Int) ≤ (p : Int) + 1 := by omega
    have htn : ((p : Int) + 1).toNat = p + 1 := by omega
    have hwr : IntKind.i64.wrap ((p : Int) + 1) = (p : Int) + 1 := IntWalk.i64_in _ (by omega)
    by_cases hcc : cap = p + 1
    · subst hcc
      have hne2 : True := trivial
      go_still_tail 8, (by kernel_rfl)
      have g5 : (W4.drew).heap[g]? = some (.cells (splice cur 0 (flatMs (ms.take p))).toArray 34 (0, 0)) := H4.out.1
      have w5 : Below w.heap.size w W4.drew := H4.out.2.1.drew
      have h5 : Has W4.drew [(w.heap.size + 1, .cells #[.slice none 0 0] 24 (0, 0)), (w.heap.size, .cells #[.slice (some ⟨b, off, none⟩) (p + 1) (p + 1)] 24 (0, 0))] := H4.out.2.2.1
      change wpList _ _ _ _ _ W4.drew
      generalize W4.drew = W5 at *
      have H5 := Lib.hid (And.intro g5 (And.intro w5 (And.intro h5 H4.out.2.2.2)))
      clear g5 w5 h5 H4 hwr hne1 hne2 hge htn c1
      refine wpList_copy_k rfl _ _ _ _ rfl 34 9 Try.underlying22 (by kernel_rfl) _ _ _ _ _ _ rfl rfl g (p * 9) _ 34 H5.out.1 (flatMs (ms.drop (p + 1))) (by decide) ?b1 ?b2 ?b3 ?b4 ?_
      case b1 => rw [flatMs_len, List.length_drop, Hn.out]; simp; try omega
      case b2 => intro h0; exfalso; rw [flatMs_len, List.length_drop, Hn.out] at h0; omega
      case b3 =>
        rw [length_splice _ _ _ (by rw [flatMs_len, List.length_take, Hn.out, H5.out.2.2.2.1]; omega), flatMs_len, List.length_drop, Hn.out, H5.out.2.2.2.1]; omega
      case b4 => exact flatMs_oneCell _
      intro W6 hr6 hb6
      have hr6' := hr6.out
      rw [show p * 9 = (flatMs (ms.take p)).length by rw [flatMs_len, List.length_take, Hn.out, Nat.min_eq_left (by omega)],
        splice_all cur _ _ (by rw [flatMs_len, flatMs_len, List.length_take, List.length_drop, Hn.out, H5.out.2.2.2.1]; omega), ← flatMs_app] at hr6'
      have hgw := H5.out.2.2.2.2
      have h6h := hb6.has H5.out.2.2.1 (by simp; omega)
      have h6w := hb6.below H5.out.2.1 (by omega)
      have c0 := blk_one h6h.hd
      have f0 := blk_frozen h6h.hd 0
      have H6 := Lib.hid (And.intro hr6' (And.intro h6w hgw))
      clear hr6 hb6 h6h h6w hgw hr6' H5
      go_wp2
      refine bodyPost_ret (v := .agg #[.slice (some ⟨g, 0, none⟩) p p]) (by simp [results, Try.results29, go_sem, c0]) rfl ⟨_, rfl, ?_, ?_⟩
      · have hgw := H6.out.2.2
        refine (OwnMs.set (base := g) ?_ (by simp; omega) _).base (by omega)
        unfold OwnMs drop1
        rw [show (List.take p ms ++ List.drop (p + 1) ms).length = p by rw [List.length_append, List.length_take, List.length_drop, Hn.out]; omega]
        exact owns_of_blk H6.out.1 (Nat.le_refl _) (by rw [flatMs_len, List.length_append, List.length_take, List.length_drop, Hn.out]; omega) (by unfold maxLen; omega)
      · exact H6.out.2.1.setCell (by simp) _
    · have hne2 : ¬ cap = p + 1 := hcc
      go_still_tail 8, (by kernel_rfl)
      have g5 : (W4.drew).heap[g]? = some (.cells (splice cur 0 (flatMs (ms.take p))).toArray 34 (0, 0)) := H4.out.1
      have w5 : Below w.heap.size w W4.drew := H4.out.2.1.drew
      have h5 : Has W4.drew [(w.heap.size + 1, .cells #[.slice none 0 0] 24 (0, 0)), (w.heap.size, .cells #[.slice (some ⟨b, off, none⟩) (p + 1) cap] 24 (0, 0))] := H4.out.2.2.1
      change wpList _ _ _ _ _ W4.drew
      generalize W4.drew = W5 at *
      have H5 := Lib.hid (And.intro g5 (And.intro w5 (And.intro h5 H4.out.2.2.2)))
      clear g5 w5 h5 H4 hwr hne1 hne2 hge htn c1
      refine wpList_copy_k rfl _ _ _ _ rfl 34 9 Try.underlying22 (by kernel_rfl) _ _ _ _ _ _ rfl rfl g (p * 9) _ 34 H5.out.1 (flatMs (ms.drop (p + 1))) (by decide) ?b1 ?b2 ?b3 ?b4 ?_
      case b1 => rw [flatMs_len, List.length_drop, Hn.out]; simp; try omega
      case b2 => intro h0; exfalso; rw [flatMs_len, List.length_drop, Hn.out] at h0; omega
      case b3 =>
        rw [length_splice _ _ _ (by rw [flatMs_len, List.length_take, Hn.out, H5.out.2.2.2.1]; omega), flatMs_len, List.length_drop, Hn.out, H5.out.2.2.2.1]; omega
      case b4 => exact flatMs_oneCell _
      intro W6 hr6 hb6
      have hr6' := hr6.out
      rw [show p * 9 = (flatMs (ms.take p)).length by rw [flatMs_len, List.length_take, Hn.out, Nat.min_eq_left (by omega)],
        splice_all cur _ _ (by rw [flatMs_len, flatMs_len, List.length_take, List.length_drop, Hn.out, H5.out.2.2.2.1]; omega), ← flatMs_app] at hr6'
      have hgw := H5.out.2.2.2.2
      have h6h := hb6.has H5.out.2.2.1 (by simp; omega)
      have h6w := hb6.below H5.out.2.1 (by omega)
      have c0 := blk_one h6h.hd
      have f0 := blk_frozen h6h.hd 0
      have H6 := Lib.hid (And.intro hr6' (And.intro h6w hgw))
      clear hr6 hb6 h6h h6w hgw hr6' H5
      go_wp2
      refine bodyPost_ret (v := .agg #[.slice (some ⟨g, 0, none⟩) p p]) (by simp [results, Try.results29, go_sem, c0]) rfl ⟨_, rfl, ?_, ?_⟩
      · have hgw := H6.out.2.2
        refine (OwnMs.set (base := g) ?_ (by simp; omega) _).base (by omega)
        unfold OwnMs drop1
        rw [show (List.take p ms ++ List.drop (p + 1) ms).length = p by rw [List.length_append, List.length_take, List.length_drop, Hn.out]; omega]
        exact owns_of_blk H6.out.1 (Nat.le_refl _) (by rw [flatMs_len, List.length_append, List.length_take, List.length_drop, Hn.out]; omega) (by unfold maxLen; omega)
      · exact H6.out.2.1.setCell (by simp) _
end Go.Proofs.Ytkfoclibejpbdaa
