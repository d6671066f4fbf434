/- Chapter 25: the functions that only read: there, has, Count (reference), Same, Waiting (reference). -/
import Derived.Test.YtkfoclibejpbdaaMsg
namespace Go.Proofs.Ytkfoclibejpbdaa
open Go Go.RowKit

def inside (p : Int) (n : Nat) : Bool := decide (0 ≤ p ∧ p < n)

theorem there_ok (a : Option Addr) (n cap : Nat) (p : Int) (w : World) (_hl : n ≤ 9223372036854775807) :
    Calls Try.prog 31 #[.agg #[.slice a n cap], .int .i64 p] w fun e w' => e = .returned (.bool (inside p n)) ∧ Below w.heap.size w w' := by
  have hp : inside p n = decide (0 ≤ p ∧ p < n) := rfl
  have Hp := Lib.hid hp; clear hp
  go_enter Try.func31, Try.ntmps31
  go_wp2
  all_goals
    go_ret
    refine ⟨?_, (below_self w).alloc (Nat.le_refl _) _⟩
    rw [Hp.out]
    congr 2
    simp <;> omega

theorem has_ok (a : Option Addr) (n cap : Nat) (p : Int) (w : World) (_hl : n ≤ 9223372036854775807) :
    Calls Try.prog 28 #[.agg #[.slice a n cap], .int .i64 p] w fun e w' => e = .returned (.bool (inside p n)) ∧ Below w.heap.size w w' := by
  have hp : inside p n = decide (0 ≤ p ∧ p < n) := rfl
  have Hp := Lib.hid hp; clear hp
  go_enter Try.func28, Try.ntmps28
  go_wp2
  all_goals
    go_ret
    refine ⟨?_, (below_self w).alloc (Nat.le_refl _) _⟩
    rw [Hp.out]
    congr 2
    simp <;> omega

theorem count_ref (a : Option Addr) (n cap : Nat) (ms : List Msg) (m : Msg) (w : World) (hn : ms.length = n) (hl : n ≤ 9223372036854775807) (hm : MsgsAt w.heap.size w a ms) :
    Calls Try.prog 14 #[.agg #[.slice a n cap], m.val] w fun e w' => e = .returned (.int .i64 (ms.count m)) ∧ Below w.heap.size w w' := by
  have Hn := Lib.hid hn; clear hn
  have Hm := Lib.hid hm; clear hm
  go_enter Try.func14, Try.ntmps14
  go_wp2
  go_loopw [5,6] (fun c i wr => ∃ k q : Nat, k ≤ n ∧ i = .int .i64 k ∧ c = .int .i64 ((ms.take k).count m) ∧ wr = ((w.alloc (.cells #[.slice a n cap] 24)).alloc (.cells m.cells.toArray 34)).drewN q) (fun _ i _ => n - (intOf i).toNat)
  case atStart =>
    exact ⟨0, 0, Nat.zero_le _, rfl, rfl, rfl⟩
  case round =>
    obtain ⟨k, q, hk, rfl, rfl, rfl⟩ := hrel
    have hcl : (ms.take k).count m ≤ k := Nat.le_trans List.count_le_length (List.length_take_le _ _)
    by_cases hlt : k < n
    · obtain ⟨b, off, rfl, hb, hc⟩ := Hm.out.at' k (by rw [Hn.out]; exact hlt)
      have hts := Lib.hid (take_count ms m k (by rw [Hn.out]; exact hlt))
      generalize ms.getD k default = x at *
      generalize (ms.take k).count m = c0 at *
      obtain ⟨hc0, hc1, hc2, hc3, hc4, hc5, hc6, hc7, hc8⟩ := hc
      have heq := eq34 x m
      have hg := guard34
      go_wp2
      go_quiet (fail)
      clear hc0 hc1 hc2 hc3 hc4 hc5 hc6 hc7 hc8 heq hg
      go_wp2
      · have hx : x = m := by assumption
        go_roundw
        case rel => exact ⟨k+1, q+nq, by omega, by go_num, by rw [hts.out, if_pos hx]; go_num, by simp⟩
        case measure => simp [intOf]; omega
      · have hx : ¬ x = m := by assumption
        go_roundw
        case rel => exact ⟨k+1, q+nq, by omega, by go_num, by rw [hts.out, if_neg hx]; go_num, by simp⟩
        case measure => simp [intOf]; omega
    · have hkn : k = n := by omega
      have htk : ms.take k = ms := List.take_of_length_le (by rw [Hn.out]; omega)
      rw [htk]
      have Hkn := Lib.hid hkn; clear hkn htk hcl
      go_wp2
      go_ret
      refine ⟨rfl, ?_⟩
      refine below_drewN ?_ q
      exact ((Below.refl _ _).alloc (Nat.le_refl _) _).alloc (by simp) _

/-- The lists agree below k. -/
def agreeTo (ms ns : List Msg) (k : Nat) : Prop := ms.take k = ns.take k
theorem agree_succ {ms ns : List Msg} {k : Nat} (h : agreeTo ms ns k) (h1 : k < ms.length) (h2 : k < ns.length) (he : ms.getD k default = ns.getD k default) : agreeTo ms ns (k + 1) := by
  unfold agreeTo at *
  rw [take_snoc ms k h1, take_snoc ns k h2, h, he]
theorem agree_all {ms ns : List Msg} {k : Nat} (h : agreeTo ms ns k) (h1 : ms.length ≤ k) (h2 : ns.length ≤ k) : ms = ns := by
  unfold agreeTo at h
  rwa [List.take_of_length_le h1, List.take_of_length_le h2] at h

theorem same_ok (a a' : Option Addr) (n n' cap cap' : Nat) (ms ns : List Msg) (w : World) (hn : ms.length = n) (hn' : ns.length = n') (hl : n ≤ 9223372036854775807) (_hl' : n' ≤ 9223372036854775807)
    (hm : MsgsAt w.heap.size w a ms) (hm' : MsgsAt w.heap.size w a' ns) :
    Calls Try.prog 19 #[.agg #[.slice a n cap], .agg #[.slice a' n' cap']] w fun e w' => e = .returned (.bool (decide (ms = ns))) ∧ Below w.heap.size w w' := by
  have Hn := Lib.hid hn; clear hn
  have Hn' := Lib.hid hn'; clear hn'
  have Hm := Lib.hid hm; clear hm
  have Hm' := Lib.hid hm'; clear hm'
  by_cases hnn : n = n'
  · subst hnn
    generalize hd : decide (ms = ns) = d
    have Hd := Lib.hid hd; clear hd
    go_enter Try.func19, Try.ntmps19
    go_wp2
    go_loopw [4,5] (fun r i wr => ∃ k q : Nat, k ≤ n ∧ i = .int .i64 k ∧ r = .bool false ∧ agreeTo ms ns k ∧ wr = ((w.alloc (.cells #[.slice a n cap] 24)).alloc (.cells #[.slice a' n cap'] 24)).drewN q) (fun _ i _ => n - (intOf i).toNat)
    case atStart =>
      exact ⟨0, 0, Nat.zero_le _, rfl, rfl, rfl, rfl⟩
    case round =>
      obtain ⟨k, q, hk, rfl, rfl, hag, rfl⟩ := hrel
      have Hag := Lib.hid hag; clear hag
      by_cases hlt : k < n
      · obtain ⟨b, off, rfl, hb, hc⟩ := Hm.out.at' k (by rw [Hn.out]; exact hlt)
        obtain ⟨b', off', rfl, hb', hc'⟩ := Hm'.out.at' k (by rw [Hn'.out]; exact hlt)
        have hsucc := Lib.hid (fun he => agree_succ Hag.out (by rw [Hn.out]; exact hlt) (by rw [Hn'.out]; exact hlt) he)
        have hgx : ∀ x y, ms.getD k default = x → ns.getD k default = y → x ≠ y → ms ≠ ns := by
          rintro x y rfl rfl hne rfl; exact hne rfl
        have Hgx := Lib.hid (hgx _ _ rfl rfl); clear hgx
        generalize ms.getD k default = x at *
        generalize ns.getD k default = y at *
        obtain ⟨hc0, hc1, hc2, hc3, hc4, hc5, hc6, hc7, hc8⟩ := hc
        obtain ⟨hd0, hd1, hd2, hd3, hd4, hd5, hd6, hd7, hd8⟩ := hc'
        have heq := eq34 x y
        have hg := guard34
        go_wp2
        go_quiet (fail)
        clear hc0 hc1 hc2 hc3 hc4 hc5 hc6 hc7 hc8 heq hg hd0 hd1 hd2 hd3 hd4 hd5 hd6 hd7 hd8
        go_wp2
        · have hx : ¬ x = y := by
            have h : (!decide (x = y)) = true := by assumption
            simpa using h
          go_ret
          refine ⟨ret_bool (by rw [← Hd.out, decide_eq_false (Hgx.out hx)]), ?_⟩
          refine below_drewN (below_drewN ?_ q) nq
          exact ((Below.refl _ _).alloc (Nat.le_refl _) _).alloc (by simp) _
        · have hx : x = y := by
            have h : (!decide (x = y)) = false := by assumption
            simpa using h
          go_roundw
          case rel => exact ⟨k+1, q+nq, by omega, by go_num, rfl, hsucc.out hx, by simp⟩
          case measure => simp [intOf]; omega
      · have hall : ms = ns := agree_all Hag.out (by rw [Hn.out]; omega) (by rw [Hn'.out]; omega)
        have Hall := Lib.hid hall; clear hall
        go_wp2
        go_ret
        refine ⟨ret_bool (by rw [← Hd.out, decide_eq_true Hall.out]), ?_⟩
        refine below_drewN ?_ q
        exact ((Below.refl _ _).alloc (Nat.le_refl _) _).alloc (by simp) _
  · have hne : ¬ ms = ns := by
      intro h; apply hnn; rw [← Hn.out, ← Hn'.out, h]
    rw [decide_eq_false hne]
    clear hne
    go_enter Try.func19, Try.ntmps19
    go_wp2
    go_ret
    refine ⟨rfl, ?_⟩
    exact ((Below.refl _ _).alloc (Nat.le_refl _) _).alloc (by simp) _
end Go.Proofs.Ytkfoclibejpbdaa
