/- Chapter 15: slices.Repeat of one number. -/
import Derived.Test.YthlefdbhkbpejaaGreatInts
import Derived.StillTailTactics
import Derived.IntWalk
import Derived.Deep.RegionHeld3
import Derived.Laws.CopyOwn
namespace Go.Proofs.YthlefdbhkbpejaaGreat.F5
open Go Go.RowKit

theorem and_small : ∀ n : Nat, n ≤ 1000 → bits BinOp.and IntKind.u64 n 4294967295 = n := by decide +kernel
theorem and_zero : bits BinOp.and IntKind.u64 0 4294967295 = 0 := by rfl
theorem and_one : bits BinOp.and IntKind.u64 1 4294967295 = 1 := by rfl
theorem u64_in {z : Int} (h : 0 ≤ z) (h2 : z < 18446744073709551616) : IntKind.u64.wrap z = z := by
  unfold IntKind.wrap
  simp [IntKind.bits, IntKind.signed]
  omega
set_option maxHeartbeats 1000000 in
theorem mul64_n (n : Nat) (hn : n ≤ 1000) (w : World) : Calls Tryz.prog 121 #[.int .u64 1, .int .u64 n] w fun e W' => e = .returned (.tuple #[.int .u64 0, .int .u64 n]) ∧ w = W' := by
  go_enter Tryz.func121, Tryz.ntmps121
  go_wp2_with fail
  go_ret2
  have ha := and_small n hn
  have hc : (n : Int) / 4294967296 = 0 := by omega
  have hw := u64_in (z := (n : Int)) (by omega) (by omega)
  have hz := u64_in (z := 0) (by omega) (by omega)
  refine ⟨?_, rfl⟩
  simp [ha, hc, hw, hz, and_one, and_zero]
end Go.Proofs.YthlefdbhkbpejaaGreat.F5

namespace Go.Proofs.YthlefdbhkbpejaaGreat.F5
open Go Go.RowKit

set_option maxHeartbeats 1000000 in
theorem mul_n (n : Nat) (hn : n ≤ 1000) (w : World) : Calls Tryz.prog 119 #[.int .u64 1, .int .u64 n] w fun e W' => e = .returned (.tuple #[.int .u64 0, .int .u64 n]) ∧ w = W' := by
  have Hn := Lib.hid hn
  clear hn
  go_enter Tryz.func119, Tryz.ntmps119
  go_wp2_with fail
  refine (mul64_n n Hn.out _).mono ?_
  rintro e W' ⟨rfl, rfl⟩
  go_wp2_with fail
  go_ret2
  exact ⟨rfl, rfl⟩
theorem splice_rep {α : Type} (m c : Nat) (x : α) (rest : List α) (_hc : c ≤ rest.length) : splice (List.replicate m x ++ rest) m (List.replicate c x) = List.replicate (m + c) x ++ rest.drop c := by
  unfold splice
  rw [List.take_left' (by simp), List.length_replicate, List.drop_append, List.drop_of_length_le (by simp), List.length_replicate]
  rw [List.nil_append, ← List.append_assoc, List.replicate_append_replicate]
  congr 2
  omega

theorem copy_pos {cs : List Value} {X : World} {g m : Nat} (h : ∀ j v, cs[j]? = some v → X.cell? ((⟨g, 0, none⟩ : Addr).add j) = some v) : 0 < cs.length → (some ⟨g, m, none⟩ : Option Addr) = some ⟨g, m, none⟩ ∧ ∃ ad, (some ⟨g, 0, none⟩ : Option Addr) = some ad ∧ ∀ j v, cs[j]? = some v → X.cell? (ad.add j) = some v := fun _ => ⟨rfl, _, rfl, h⟩

/-- The loop's memory: the new row, m loads of it laid. -/
structure RP (w : World) (z : Int) (n m : Nat) (X : World) : Prop where
  row : ∃ rest, X.heap[w.heap.size]? = some (.cells (List.replicate m (Value.int .i64 z) ++ rest).toArray 3 (0, 0)) ∧ m + rest.length = n
  below : Below w.heap.size w X

set_option maxRecDepth 100000 in
set_option maxHeartbeats 2000000 in
theorem repeat_pos (g0 o0 n : Nat) (z : Int) (w : World) (hn0 : 1 ≤ n) (hn1 : n ≤ 1000) (hm : w.cell? ⟨g0, o0, none⟩ = some (.int .i64 z)) :
    Calls Tryz.prog 115 #[.slice (some ⟨g0, o0, none⟩) 1 1, .int .i64 n] w fun e W' => ∃ v, e = .returned v ∧ OwnI w.heap.size W' v (List.replicate n z) ∧ Below w.heap.size w W' := by
  have Hm := Lib.hid hm
  have HN := Lib.hid (And.intro hn0 hn1)
  have hu := u64_in (z := (n : Int)) (by omega) (by omega)
  have hi6 : IntKind.i64.wrap (n : Int) = n := IntWalk.i64_in _ (by omega)
  clear hm
  obtain ⟨i0, hi, hz0, hz1, hz2⟩ := info_parts info3
  go_enter Tryz.func115, Tryz.ntmps115
  go_wp2_with fail
  refine (mul_n n HN.out.2 _).mono ?_
  rintro e W' ⟨rfl, rfl⟩
  go_wp2_with (with_reducible refine wpList_make_row rfl 68 _ _ rfl 3 i0 _ 1 8 Tryz.underlying68 hi hz0 hz1 hz2 n _ rfl rfl ?a2 ?a3 ?a4 ?_)
  case a2 => rfl
  case a3 => omega
  case a4 => omega
  intro W4 h4 hb4 hs4
  have h4' : W4.heap[w.heap.size]? = some (.cells (madeCells #[Value.int .i64 0] n).toList.toArray 3 (0, 0)) := by rw [Array.toArray_toList]; exact h4.out
  have hlen : (madeCells #[Value.int .i64 0] n).toList.length = n := made_length _ _
  generalize (madeCells #[Value.int .i64 0] n).toList = cur at h4' hlen
  have H4 := Lib.hid (And.intro h4' (And.intro hb4 hlen))
  clear h4 h4' hb4 hlen hs4 hi hz0 hz1 hz2
  go_wp2_with (with_reducible refine wpList_copy_k rfl _ _ _ _ rfl 3 1 Tryz.underlying68 (by kernel_rfl) _ _ _ _ _ _ rfl rfl w.heap.size 0 cur 3 H4.out.1 [.int .i64 z] (by decide) ?b1 ?b2 ?b3 ?b4 ?_)
  case b1 => show 1 = min 1 n * 1; omega
  case b2 =>
    intro j v hv
    cases j with
    | zero =>
      simp at hv
      subst hv
      exact (H4.out.2.1.cell (p := ⟨g0, o0, none⟩) (World.block_lt_of_cell? w _ Hm.out)).trans Hm.out
    | succ j => simp at hv
  case b3 => rw [H4.out.2.2]; simpa using HN.out.1
  case b4 => simp [Value.oneCell']
  intro W5 hr5 hb5
  have hrp : RP w z n 1 W5 := by
    refine ⟨⟨cur.drop 1, ?_, ?_⟩, hb5.below H4.out.2.1 (Nat.le_refl _)⟩
    · rw [hr5.out]
      simp [splice]
    · rw [List.length_drop, H4.out.2.2]
      have := HN.out.1
      omega
  have HRP := Lib.hid hrp
  clear hr5 hb5 hrp H4
  go_wp2_with fail
  go_loopw [8] (fun i wr => ∃ (m : Nat) (X : World), (1 ≤ m ∧ m ≤ n) ∧ i = .int .i64 m ∧ X = wr ∧ Hid (RP w z n m X)) (fun i _ => n - (intOf i).toNat)
  case atStart => exact ⟨1, _, ⟨by omega, by omega⟩, rfl, rfl, HRP⟩
  case round =>
    clear HRP
    obtain ⟨m, X, ⟨hm1, hm2⟩, rfl, rfl, Hr⟩ := hrel
    by_cases hlt : m < n
    · obtain ⟨rest, hrow, hlen⟩ := Hr.out.row
      obtain ⟨c, hc⟩ : ∃ c, Nat.min m (n - m) = c := ⟨_, rfl⟩
      have hc1 : c ≤ n - m := by rw [← hc]; exact Nat.min_le_right _ _
      have hc2 : c ≤ m := by rw [← hc]; exact Nat.min_le_left _ _
      have hc3 : 1 ≤ c := by rw [← hc]; exact Nat.le_min.2 ⟨hm1, by omega⟩
      have hn : (List.replicate c (Value.int .i64 z)).length = Nat.min m (n - m) := by rw [hc, List.length_replicate]
      have hg : X.drew.heap[w.heap.size]? = some (.cells (List.replicate m (Value.int .i64 z) ++ rest).toArray 3 (0, 0)) := hrow
      have hbl : Below w.heap.size w X.drew := Hr.out.below.drew
      have hpos : ∀ j v, (List.replicate c (Value.int .i64 z))[j]? = some v → X.drew.cell? ((⟨w.heap.size, 0, none⟩ : Addr).add j) = some v := by
        intro j v hv
        have hj : j < c := by have := (List.getElem?_eq_some_iff.1 hv).1; simpa using this
        have hv2 : v = .int .i64 z := by
          have := (List.getElem?_eq_some_iff.1 hv).2
          simpa using this.symm
        subst hv2
        rw [Addr.add_mid, blk_cell hg, Nat.zero_add, List.getElem?_toArray, List.getElem?_append_left (by rw [List.length_replicate]; omega), List.getElem?_replicate, if_pos (by omega)]
      have hfit : m + (List.replicate c (Value.int .i64 z)).length ≤ (List.replicate m (Value.int .i64 z) ++ rest).length := by simp; omega
      have h1c : ∀ v ∈ List.replicate c (Value.int .i64 z), v.oneCell' = true := by
        intro v hv
        obtain ⟨_, rfl⟩ := List.mem_replicate.1 hv
        rfl
      have HH := Lib.hid (And.intro hn (And.intro hpos (And.intro hfit (And.intro h1c (And.intro hg (And.intro hbl hlen))))))
      have hmI : (m : Int) ≤ n := by omega
      have hne : ¬ n = m := by omega
      have hmI0 : (0 : Int) ≤ (m : Int) := by omega
      have hwr : IntKind.i64.wrap ((m : Int) + (c : Int)) = (m : Int) + (c : Int) := IntWalk.i64_in _ ⟨by omega, by omega⟩
      clear hn hpos hfit h1c hg hbl hlen hrow hc Hr
      go_wp2_with fail
      go_region_held3 (fun _ => True) (trivial)
        ((refine step_copy_splice (by rfl) (.tmp 41) (.tmp 44) 68 68 (by rfl) 3 Tryz.underlying68 (by kernel_rfl) (some ⟨w.heap.size, m, none⟩) (some ⟨w.heap.size, 0, none⟩) (n - m) (n - m) m n (by rfl) (by rfl) w.heap.size m (List.replicate m (Value.int .i64 z) ++ rest) 3 HH.out.2.2.2.2.1 (List.replicate c (Value.int .i64 z)) HH.out.1 (copy_pos HH.out.2.1) HH.out.2.2.1 HH.out.2.2.2.1 w.heap.size w HH.out.2.2.2.2.2.1 (Nat.le_refl _) ?_; intro W6 hrow6 hb6))
      have hrp : RP w z n (m + c) W6 := by
        refine ⟨⟨rest.drop c, ?_, ?_⟩, hb6⟩
        · rw [hrow6.out, splice_rep m c _ rest (by have := HH.out.2.2.2.2.2.2; omega)]
        · rw [List.length_drop]; have := HH.out.2.2.2.2.2.2; omega
      have HRP := Lib.hid hrp
      clear hrow6 hb6 hrp HH
      go_wp2_with fail
      go_roundw
      case rel => exact ⟨m + c, _, ⟨by omega, by omega⟩, by go_num, rfl, HRP⟩
      case measure => simp [intOf]; omega
    · have hm300 : m = n := by omega
      have hfin : OwnI w.heap.size X (.slice (some ⟨w.heap.size, 0, none⟩) n n) (List.replicate n z) ∧ Below w.heap.size w X := by
        obtain ⟨rest, hrow, hlen⟩ := Hr.out.row
        rw [hm300] at hrow hlen
        obtain rfl : rest = [] := List.eq_nil_of_length_eq_zero (by omega)
        refine ⟨?_, Hr.out.below⟩
        unfold OwnI
        have e : intsV (List.replicate n z) = List.replicate n (Value.int .i64 z) := by unfold intsV; rw [List.map_replicate]
        rw [e, List.length_replicate]
        rw [List.append_nil] at hrow
        exact owns_of_blk hrow (Nat.le_refl _) (by rw [List.length_replicate]; omega) (by unfold maxLen; omega)
      have HF := Lib.hid hfin
      clear hfin Hr hm300
      go_wp2_with fail
      go_ret
      exact ⟨_, rfl, HF.out⟩

set_option maxRecDepth 100000 in
set_option maxHeartbeats 2000000 in
theorem repeat_zero (g0 o0 : Nat) (w : World) :
    Calls Tryz.prog 115 #[.slice (some ⟨g0, o0, none⟩) 1 1, .int .i64 0] w fun e W' => ∃ v, e = .returned v ∧ OwnI w.heap.size W' v [] ∧ Below w.heap.size w W' := by
  obtain ⟨i0, hi, hz0, hz1, hz2⟩ := info_parts info3
  go_enter Tryz.func115, Tryz.ntmps115
  go_wp2_with fail
  refine (mul_n 0 (by omega) _).mono ?_
  rintro e W' ⟨rfl, rfl⟩
  go_wp2_with (with_reducible refine wpList_make_row rfl 68 _ _ rfl 3 i0 _ 1 8 Tryz.underlying68 hi hz0 hz1 hz2 0 _ rfl rfl ?a2 ?a3 ?a4 ?_)
  case a2 => rfl
  case a3 => omega
  case a4 => omega
  intro W4 h4 hb4 hs4
  have h4' : W4.heap[w.heap.size]? = some (.cells (madeCells #[Value.int .i64 0] 0).toList.toArray 3 (0, 0)) := by rw [Array.toArray_toList]; exact h4.out
  have hlen : (madeCells #[Value.int .i64 0] 0).toList.length = 0 := made_length _ _
  generalize (madeCells #[Value.int .i64 0] 0).toList = cur at h4' hlen
  obtain rfl : cur = [] := List.eq_nil_of_length_eq_zero hlen
  have H4 := Lib.hid (And.intro h4' hb4)
  clear h4 h4' hb4 hlen hs4 hi hz0 hz1 hz2
  go_wp2_with (with_reducible refine wpList_copy_k rfl _ _ _ _ rfl 3 1 Tryz.underlying68 (by kernel_rfl) _ _ _ _ _ _ rfl rfl w.heap.size 0 [] 3 H4.out.1 [] (by decide) ?b1 ?b2 ?b3 ?b4 ?_)
  case b1 => rfl
  case b3 => simp
  case b4 => simp
  intro W5 hr5 hb5
  have hf : OwnI w.heap.size W5 (.slice (some ⟨w.heap.size, 0, none⟩) 0 0) [] ∧ Below w.heap.size w W5 := by
    refine ⟨?_, hb5.below H4.out.2 (Nat.le_refl _)⟩
    unfold OwnI
    exact owns_of_blk (by simpa [splice, intsV] using hr5.out) (Nat.le_refl _) rfl (by unfold maxLen; omega)
  have HF := Lib.hid hf
  clear hr5 hb5 hf H4
  go_wp2_with fail
  go_loopw [8] (fun i wr => ∃ X : World, i = .int .i64 0 ∧ X = wr ∧ Hid (OwnI w.heap.size X (.slice (some ⟨w.heap.size, 0, none⟩) 0 0) [] ∧ Below w.heap.size w X)) (fun _ _ => 0)
  case atStart => exact ⟨_, rfl, rfl, HF⟩
  case round =>
    clear HF
    obtain ⟨X, rfl, rfl, HX⟩ := hrel
    go_wp2_with fail
    go_ret
    exact ⟨_, rfl, HX.out⟩

theorem repeat_ok (g0 o0 n : Nat) (z : Int) (w : World) (hn1 : n ≤ 1000) (hm : w.cell? ⟨g0, o0, none⟩ = some (.int .i64 z)) :
    Calls Tryz.prog 115 #[.slice (some ⟨g0, o0, none⟩) 1 1, .int .i64 n] w fun e W' => ∃ v, e = .returned v ∧ OwnI w.heap.size W' v (List.replicate n z) ∧ Below w.heap.size w W' := by
  by_cases h : n = 0
  · subst h
    exact repeat_zero g0 o0 w
  · exact repeat_pos g0 o0 n z w (by omega) hn1 hm
end Go.Proofs.YthlefdbhkbpejaaGreat.F5
