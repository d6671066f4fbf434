/- Chapter 06: slices.Max and slices.Index at []int, sort.Search. -/
import Derived.Test.YtnpcafhmkjdhaaaComing
namespace Go.Proofs.Ytnpcafhmkjdhaaa
open Go Go.RowKit

/-- The greatest of the first k + 1 numbers. -/
def topTo (l : List Int) : Nat → Int
  | 0 => l.getD 0 default
  | k + 1 => max (topTo l k) (l.getD (k + 1) default)
def topI (l : List Int) : Int := topTo l (l.length - 1)

set_option maxHeartbeats 1000000 in
theorem max_ok (a : Option Addr) (n cap : Nat) (xs : List Int) (w : World) (hn : xs.length = n) (h0 : 0 < n) (hl : n ≤ 9223372036854775807) (hm : RowsAt w.heap.size w a 1 (Ints xs)) :
    Calls Try.prog 35 #[.slice a n cap] w fun e W' => e = .returned (.int .i64 (topI xs)) ∧ Below w.heap.size w W' := by
  have Hn := Lib.hid hn; clear hn
  have Hm := Lib.hid hm; clear hm
  have hlt0 : ¬ n < 1 := by omega
  obtain ⟨b, off, rfl, _, hc0⟩ := ints_at Hm.out 0 (by rw [Hn.out]; exact h0)
  simp only [Nat.add_zero] at hc0
  have h00 : (0 : Int) < (n : Int) := by omega
  go_enter Try.func35, Try.ntmps35
  go_wp2_with fail
  clear hc0
  go_loopw [3, 4] (fun m i wr => ∃ (k : Nat), 1 ≤ k ∧ k ≤ n ∧ m = .int .i64 (topTo xs (k - 1)) ∧ i = .int .i64 k ∧ wr = w) (fun _ i _ => n - (intOf i).toNat)
  case atStart => exact ⟨1, by omega, by omega, rfl, rfl, rfl⟩
  case round =>
    obtain ⟨k, hk1, hk, rfl, rfl, rfl⟩ := hrel
    by_cases hlt : k < n
    · obtain ⟨b', off', he, _, p0⟩ := ints_at Hm.out k (by rw [Hn.out]; exact hlt)
      cases he
      have hs : topTo xs (k + 1 - 1) = max (topTo xs (k - 1)) (xs.getD k default) := by
        obtain ⟨j, rfl⟩ : ∃ j, k = j + 1 := ⟨k - 1, by omega⟩
        rfl
      have HS := Lib.hid hs; clear hs
      generalize hx : xs.getD k default = x at p0
      have HX := Lib.hid hx; clear hx
      generalize hv : topTo xs (k - 1) = v
      have HV := Lib.hid hv; clear hv
      have hltI : (k : Int) < (n : Int) := by omega
      have hmx : (if v < x then x else v) = max v x := by split <;> omega
      have Hmx := Lib.hid hmx
      clear hmx
      go_wp2_with fail
      go_roundw
      case rel => exact ⟨k + 1, by omega, by omega, by rw [HS.out, HX.out, HV.out, Hmx.out], by go_num, trivial⟩
      case measure => simp [intOf]; omega
    · have hk2 : k = n := by omega
      subst hk2
      have HE := Lib.hid (show topTo xs (k - 1) = topI xs by unfold topI; rw [Hn.out])
      go_wp2_with fail
      go_ret
      exact ⟨by rw [HE.out]; rfl, below_self _⟩

set_option maxHeartbeats 1000000 in
theorem index_ok (v : Int) (a : Option Addr) (n cap : Nat) (xs : List Int) (w : World) (hn : xs.length = n) (hl : n ≤ 9223372036854775807) (hm : RowsAt w.heap.size w a 1 (Ints xs)) :
    Calls Try.prog 36 #[.slice a n cap, .int .i64 v] w fun e W' => e = .returned (.int .i64 (idxI (fun z => decide (v = z)) xs)) ∧ Below w.heap.size w W' := by
  have Hn := Lib.hid hn; clear hn
  have Hm := Lib.hid hm; clear hm
  go_enter Try.func36, Try.ntmps36
  go_wp2_with fail
  go_loopw [8] (fun i wr => ∃ k : Nat, k ≤ n ∧ i = .int .i64 k ∧ Below w.heap.size w wr ∧ Hid (∀ j, j < k → decide (v = xs.getD j default) = false)) (fun i _ => n - (intOf i).toNat)
  case atStart => exact ⟨0, Nat.zero_le _, rfl, below_self w, fun j hj => by omega⟩
  case round =>
    obtain ⟨k, hk, rfl, hb, Hno⟩ := hrel
    have HB := Lib.hid hb; clear hb
    by_cases hlt : k < n
    · obtain ⟨b, off, rfl, _, hc⟩ := ints_at (Hm.out.below HB.out) k (by rw [Hn.out]; exact hlt)
      generalize hx : xs.getD k default = x at hc
      have HX := Lib.hid hx; clear hx
      by_cases hpx : v = x
      · have HI := Lib.hid (idxI_found (p := fun z => decide (v = z)) (by rw [Hn.out]; exact hlt) (by rw [HX.out]; exact decide_eq_true hpx) Hno.out)
        go_wp2_with fail
        go_ret
        exact ⟨by rw [HI.out]; rfl, HB.out⟩
      · have HN := Lib.hid (no_succ (p := fun z => decide (v = z)) Hno.out (by rw [HX.out]; exact decide_eq_false hpx))
        go_wp2_with fail
        go_roundw
        case rel => exact ⟨k + 1, by omega, by go_num, HB.out, HN⟩
        case measure => simp [intOf]; omega
    · have HI := Lib.hid (idxI_none (p := fun z => decide (v = z)) (l := xs) (fun j hj => Hno.out j (by rw [Hn.out] at hj; omega)))
      go_wp2_with fail
      go_ret
      exact ⟨by rw [HI.out]; rfl, HB.out⟩

set_option maxHeartbeats 1000000 in
theorem search_ok (gf : Nat) (lb : Array Value) (p : Int → Bool) (n : Nat) (w : World) (hl : n ≤ 4611686018427387904)
    (hp : ∀ W (x : Nat), x < n → Below w.heap.size w W → Calls Try.prog gf (#[.int .i64 x] ++ lb) W fun e W' => e = .returned (.bool (p x)) ∧ Below W.heap.size W W')
    (eg : ∀ args w, (callFunc gf args).run Try.prog w = .ok (.enter gf args) w) :
    Calls Try.prog 31 #[.int .i64 n, .func (.func gf) #[] lb] w fun e W' => (∃ s : Nat, e = .returned (.int .i64 s) ∧ s ≤ n ∧ (∀ t : Nat, s = t + 1 → p t = false) ∧ (s < n → p s = true)) ∧ Below w.heap.size w W' := by
  have Hp := Lib.hid hp; clear hp
  have Eg := Lib.hid eg; clear eg
  go_enter Try.func31, Try.ntmps31
  go_wp2_with fail
  go_loopw [5, 6] (fun x y wr => ∃ i j : Nat, i ≤ j ∧ j ≤ n ∧ x = .int .i64 i ∧ y = .int .i64 j ∧ Below w.heap.size w wr ∧ Hid ((∀ t : Nat, i = t + 1 → p t = false) ∧ (j < n → p j = true))) (fun x y _ => (intOf y).toNat - (intOf x).toNat)
  case atStart => exact ⟨0, n, Nat.zero_le _, Nat.le_refl _, rfl, rfl, below_self w, fun t ht => by omega, fun h => by omega⟩
  case round =>
    obtain ⟨i, j, hij, hj, rfl, rfl, hb, HI⟩ := hrel
    have HB := Lib.hid hb; clear hb
    by_cases hlt : i < j
    · have hw1 : IntKind.i64.wrap ((i : Int) + (j : Int)) = ((i + j : Nat) : Int) := by rw [IntWalk.i64_in _ (by omega)]; omega
      have eg := Eg.out
      go_wp2_with fail
      obtain ⟨h, hh, h1, h2⟩ : ∃ h : Nat, ((i : Int) + (j : Int)) / 2 = (h : Int) ∧ i ≤ h ∧ h < j := ⟨((i : Int) + (j : Int)).toNat / 2, by omega, by omega, by omega⟩
      rw [hh]
      clear hh hw1
      refine (Hp.out wr h (by omega) HB.out).mono ?_
      rintro e W2 ⟨rfl, hb2⟩
      have HB2 := Lib.hid (below_trans HB.out hb2)
      clear hb2 HB eg
      cases hph : p h
      · have HP := Lib.hid hph
        clear hph
        have hw2 : IntKind.i64.wrap ((h : Int) + 1) = ((h + 1 : Nat) : Int) := by rw [IntWalk.i64_in _ (by omega)]; rfl
        go_wp2_with fail
        go_roundw
        case rel => exact ⟨h + 1, j, by omega, hj, by go_num, rfl, HB2.out, Lib.hid ⟨fun t ht => (show h = t by omega) ▸ HP.out, HI.out.2⟩⟩
        case measure => simp [intOf]; omega
      · have HP := Lib.hid hph
        clear hph
        go_wp2_with fail
        go_roundw
        case rel => exact ⟨i, h, h1, by omega, rfl, rfl, HB2.out, Lib.hid ⟨HI.out.1, fun _ => HP.out⟩⟩
        case measure => simp [intOf]; omega
    · have hk2 : i = j := by omega
      subst hk2
      go_wp2_with fail
      go_ret
      exact ⟨⟨i, rfl, hj, HI.out.1, HI.out.2⟩, HB.out⟩
end Go.Proofs.Ytnpcafhmkjdhaaa
