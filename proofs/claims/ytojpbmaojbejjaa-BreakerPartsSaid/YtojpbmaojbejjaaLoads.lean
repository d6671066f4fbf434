/- Chapter 07: loads by small numbers. -/
import Derived.Test.YtojpbmaojbejjaaMade
import Derived.Test.YtojpbmaojbejjaaClone
namespace Go.Proofs.Ytojpbmaojbejjaa
open Go Go.RowKit

abbrev Bytes (zs : List Int) : List (List Value) := zs.map fun z => [.int .u8 z]
theorem bytes_at {n : Nat} {w : World} {a : Option Addr} {xs : List Int} (h : RowsAt n w a 1 (Bytes xs)) (k : Nat) (hk : k < xs.length) :
    ∃ b off, a = some ⟨b, off, none⟩ ∧ b < n ∧ w.cell? ⟨b, off + k, none⟩ = some (.int .u8 (xs.getD k default)) := by
  obtain ⟨b, off, ha, hb, hc⟩ := h k [.int .u8 (xs.getD k default)] (by simp [hk])
  exact ⟨b, off, ha, hb, by simpa using hc 0 _ rfl⟩
theorem getD_mem {xs : List Int} {k : Nat} (hk : k < xs.length) : xs.getD k default ∈ xs := by
  rw [List.getD_eq_getElem?_getD, List.getElem?_eq_getElem hk]; exact List.getElem_mem _
theorem take_snocI {xs : List Int} {k : Nat} (hk : k < xs.length) : xs.take (k + 1) = xs.take k ++ [xs.getD k default] := by
  rw [List.take_succ_eq_append_getElem hk]
  simp [List.getD, List.getElem?_eq_getElem hk]
theorem intsV_app (xs : List Int) (x : Int) : intsV (xs ++ [x]) = intsV xs ++ [.int .i64 x] := by simp [intsV]

set_option maxHeartbeats 2000000 in
theorem loads_ok (a : Option Addr) (n cap : Nat) (zs : List Int) (w : World) (hx : zs.length = n ∧ n ≤ cap ∧ cap ≤ maxLen ∧ (a = none → n = 0 ∧ cap = 0) ∧ RowsAt w.heap.size w a 1 (Bytes zs) ∧ ∀ z ∈ zs, 0 ≤ z ∧ z ≤ 255) :
    Calls Try.prog 30 #[.slice a n cap] w fun e W' => ∃ v, e = .returned v ∧ OwnI w.heap.size W' v (zs.take 30) ∧ Below w.heap.size w W' := by
  have hl : n ≤ 9223372036854775807 := by have := hx.2.1; have := hx.2.2.1; unfold maxLen at this; omega
  have HX := Lib.hid hx
  clear hx
  go_enter Try.func30, Try.ntmps30
  go_wp2_with fail
  go_loopw [3, 4] (fun v i wr => ∃ (k : Nat) (X : World), (k ≤ n ∧ k ≤ 30) ∧ i = .int .i64 k ∧ X = wr ∧ Hid (OwnI w.heap.size X v (zs.take k) ∧ Below w.heap.size w X)) (fun _ i _ => n - (intOf i).toNat)
  case atStart => exact ⟨0, _, ⟨Nat.zero_le _, Nat.zero_le _⟩, rfl, rfl, OwnI.nil _ _, below_self w⟩
  case round =>
    obtain ⟨k, X, ⟨hk, hk30⟩, rfl, rfl, Hr⟩ := hrel
    obtain ⟨av, cv, rfl, _⟩ := Hr.out.1.rows
    have hlen : (zs.take k).length ≤ 30 := by rw [List.length_take]; omega
    by_cases hlt : k < n ∧ k < 30
    · obtain ⟨h1, h2⟩ := hlt
      obtain ⟨b0, o0, rfl, hb0, hc0⟩ := bytes_at (HX.out.2.2.2.2.1.below Hr.out.2) k (by rw [HX.out.1]; exact h1)
      have hz := HX.out.2.2.2.2.2 _ (getD_mem (xs := zs) (k := k) (by rw [HX.out.1]; exact h1))
      have hsn := take_snocI (xs := zs) (k := k) (by rw [HX.out.1]; exact h1)
      generalize zs.getD k default = z at hc0 hz hsn
      obtain ⟨z0, z1⟩ := hz
      have Hsn := Lib.hid hsn
      obtain ⟨i0, hi, hz0, hz1, hz2⟩ := info_parts info3
      generalize hS : zs.take k = S at *
      have HS := Lib.hid hS
      have hbs := Hr.out.2.size
      clear hsn hS
      go_wp2_with (at_builtin; go_must (refine wpList_append_own _ rfl _ _ 43 rfl w.heap.size 3 i0 _ 1 8 Try.underlying43 hi hz0 hz1 hz2 rfl (by decide) _ _ _ rfl (World.ownsRow.alloc Hr.out.1 (.cells #[.int .i64 z] 3)) ⟨X.heap.size, 0, none⟩ 1 1 [.int .i64 z] rfl rfl ?d1 ?d2 ?d3 ?d4 ?d5 ?_))
      case d1 => exact src_new X [.int .i64 z] _
      case d2 => simp [Value.oneCell']
      case d3 => unfold maxLen; omega
      case d4 => omega
      case d5 => simp; omega
      intro v' w1 hown' hgrow _
      have hoA := World.ownsRow.alloc Hr.out.1 (.cells #[.int .i64 z] 3)
      have w7 := grown_below (below_alloc Hr.out.2 (.cells #[.int .i64 z] 3)) hoA hgrow (Nat.le_refl _) (by simp; omega)
      have ho7 : OwnI w.heap.size w1 v' (zs.take (k + 1)) := by
        rw [Hsn.out]
        unfold OwnI
        rw [List.length_append, intsV_app]
        exact hown'
      obtain ⟨av', capv', rfl, _⟩ := owns_shape hown'
      have H7 := Lib.hid (And.intro ho7 w7)
      clear hoA w7 ho7 hown' hgrow hi hz0 hz1 hz2 hc0 Hr HS
      go_wp2_with fail
      go_roundw
      case rel => exact ⟨k + 1, _, ⟨by omega, by omega⟩, by go_num, rfl, H7⟩
      case measure => simp [intOf]; omega
    · have he : zs.take k = zs.take 30 := by
        by_cases h30 : k = 30
        · rw [h30]
        · rw [List.take_of_length_le (by rw [HX.out.1]; omega), List.take_of_length_le (by rw [HX.out.1]; omega)]
      have HE := Lib.hid (show OwnI w.heap.size X (.slice av (zs.take k).length cv) (zs.take 30) ∧ Below w.heap.size w X by rw [← he]; exact ⟨Hr.out.1, Hr.out.2⟩)
      clear he Hr
      generalize (zs.take k).length = q at *
      by_cases hkn : k < n
      · go_wp2_with fail
        go_ret
        exact ⟨_, rfl, HE.out⟩
      · go_wp2_with fail
        go_ret
        exact ⟨_, rfl, HE.out⟩
end Go.Proofs.Ytojpbmaojbejjaa
