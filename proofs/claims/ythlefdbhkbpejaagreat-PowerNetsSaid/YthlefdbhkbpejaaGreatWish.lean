/- Chapter 15: world.ValidWish (written by wip/gen15wish.py). -/
import Derived.Test.YthlefdbhkbpejaaGreatWorldC
import Derived.Deep.DeepCutAuto
import Derived.Deep.CutRange
namespace Go.Proofs.YthlefdbhkbpejaaGreat
open Go Go.RowKit

theorem asc_bad {bound but last x : Int} {l : List Int} (h : x ≤ last ∨ bound ≤ x ∨ x = but) : ascFrom bound but last (x :: l) = false := by
  unfold ascFrom
  rcases h with h | h | h
  · rw [decide_eq_false (show ¬ last < x by omega)]; simp
  · rw [decide_eq_false (show ¬ x < bound by omega)]; simp
  · rw [decide_eq_true h]; simp
theorem asc_good {bound but last x : Int} {l : List Int} (h1 : ¬ x ≤ last) (h2 : ¬ bound ≤ x) (h3 : ¬ x = but) : ascFrom bound but last (x :: l) = ascFrom bound but x l := by
  rw [ascFrom, decide_eq_true (show last < x by omega), decide_eq_true (show x < bound by omega), decide_eq_false h3]; simp
def idI (x : Int) : Int := x
theorem map_idI (l : List Int) : l.map idI = l := by
  have : idI = id := rfl
  rw [this, List.map_id]
theorem drop_get {α : Type} [Inhabited α] {l : List α} {k : Nat} (h : k < l.length) : l.drop k = l.getD k default :: l.drop (k + 1) := by
  rw [List.drop_eq_getElem_cons h, List.getD_eq_getElem?_getD, List.getElem?_eq_getElem h]; rfl

theorem num1_ok (x : Int) (w : World) : Calls Tryz.prog 83 #[.int .i64 x] w fun e W' => e = .returned (.int .i64 (idI x)) ∧ Below w.heap.size w W' := by
  go_enter Tryz.func83, Tryz.ntmps83
  go_wp2_with fail
  go_ret
  exact ⟨rfl, by first | exact below_self w | exact below_alloc (below_self w) _⟩
set_option maxHeartbeats 2000000 in
theorem ascI_ok (q : Hd) (l : List Int) (bound but : Int) (w : World) (hr : Reads w q 1 l.length (Ints l)) : Calls Tryz.prog 82 #[.slice q.1 q.2.1 q.2.2, .func (.func 83) #[] #[], .int .i64 bound, .int .i64 but] w fun e W' => e = .returned (.bool (ascFrom bound but (-1) (l.map idI))) ∧ Below w.heap.size w W' := by
  obtain ⟨a, n, c⟩ := q
  have HR := Lib.hid hr
  have hn : l.length = n := hr.len
  have hnl : n ≤ 9223372036854775807 := hr.le
  have HN := Lib.hid hn
  have hml : (l.map idI).length = n := by rw [List.length_map]; exact hn
  have HML := Lib.hid hml
  clear hr hn hml
  have eg := enters_of Tryz.func83 (by kernel_rfl) rfl
  have Eg := Lib.hid eg
  clear eg
  go_enter Tryz.func82, Tryz.ntmps82
  go_wp2_with fail
  go_loopw [9, 15] (fun v i wr => ∃ (k : Nat) (last : Int) (X : World), k ≤ n ∧ v = .int .i64 last ∧ i = .int .i64 k ∧ X = wr ∧ Hid (Below w.heap.size w X ∧ ascFrom bound but (-1) (l.map idI) = ascFrom bound but last ((l.map idI).drop k))) (fun _ i _ => n - (intOf i).toNat)
  case atStart => exact ⟨0, -1, _, Nat.zero_le _, rfl, rfl, rfl, Lib.hid ⟨below_self w, rfl⟩⟩
  case round =>
    obtain ⟨k, last, X, hk, rfl, rfl, rfl, HX⟩ := hrel
    by_cases hlt : k < n
    · have hltI : (k : Int) < (n : Int) := by omega
      obtain ⟨b, off, rfl, _, hc0⟩ := ints_at (HR.out.rows.later HX.out.1) k (by rw [HN.out]; exact hlt)
      have hd := drop_get (l := l.map idI) (k := k) (by rw [HML.out]; exact hlt)
      have hm : (l.map idI).getD k default = idI (l.getD k default) := by
        rw [List.getD_eq_getElem?_getD, List.getElem?_map, List.getD_eq_getElem?_getD, List.getElem?_eq_getElem (by rw [HN.out]; exact hlt)]; rfl
      rw [hm] at hd
      have HD := Lib.hid (show ascFrom bound but (-1) (l.map idI) = ascFrom bound but last (idI (l.getD k default) :: (l.map idI).drop (k + 1)) by rw [HX.out.2, hd])
      clear hd hm
      obtain ⟨x0, hx0⟩ : ∃ x, l.getD k default = x := ⟨_, rfl⟩
      rw [hx0] at HD hc0
      clear hx0
      have eg := Eg.out
      go_wp2_with fail
      refine (num1_ok x0 _).mono ?_
      rintro e Z ⟨rfl, hb⟩
      obtain ⟨y, hy⟩ : ∃ y, idI x0 = y := ⟨_, rfl⟩
      rw [hy]
      have HY := Lib.hid hy
      have HB := Lib.hid (below_trans HX.out.1 hb)
      clear hb hy eg HX hc0
      by_cases c1 : y ≤ last
      · have HE := Lib.hid (show ascFrom bound but (-1) (l.map idI) = false by rw [HD.out, HY.out]; exact asc_bad (.inl c1))
        go_wp2_with fail
        go_ret
        exact ⟨by rw [HE.out]; rfl, HB.out⟩
      · by_cases c2 : bound ≤ y
        · have HE := Lib.hid (show ascFrom bound but (-1) (l.map idI) = false by rw [HD.out, HY.out]; exact asc_bad (.inr (.inl c2)))
          go_wp2_with fail
          go_ret
          exact ⟨by rw [HE.out]; rfl, HB.out⟩
        · by_cases c3 : y = but
          · have HE := Lib.hid (show ascFrom bound but (-1) (l.map idI) = false by rw [HD.out, HY.out]; exact asc_bad (.inr (.inr c3)))
            have c3b : (y == but) = true := by simpa using c3
            clear c3
            go_wp2_with fail
            go_ret
            exact ⟨by rw [HE.out]; rfl, HB.out⟩
          · have HE := Lib.hid (And.intro HB.out (show ascFrom bound but (-1) (l.map idI) = ascFrom bound but y ((l.map idI).drop (k + 1)) by rw [HD.out, HY.out]; exact asc_good c1 c2 c3))
            have c3b : (y == but) = false := by simpa using c3
            clear HB
            go_wp2_with fail
            go_roundw
            case rel => exact ⟨k + 1, y, _, by omega, rfl, by go_num, rfl, HE⟩
            case measure => simp [intOf]; omega
    · have hke : k = n := by omega
      have HE := Lib.hid (show ascFrom bound but (-1) (l.map idI) = true by rw [HX.out.2, List.drop_of_length_le (by rw [HML.out]; omega)]; rfl)
      have hltI : ¬ (k : Int) < (n : Int) := by omega
      clear hke
      go_wp2_with fail
      go_ret
      exact ⟨by rw [HE.out]; rfl, HX.out.1⟩

theorem num2_ok (x : Near) (w : World) : Calls Tryz.prog 85 #[x.val] w fun e W' => e = .returned (.int .i64 (Near.svc x)) ∧ Below w.heap.size w W' := by
  go_enter Tryz.func85, Tryz.ntmps85
  go_wp2_with fail
  go_ret
  exact ⟨rfl, by first | exact below_self w | exact below_alloc (below_self w) _⟩
set_option maxHeartbeats 2000000 in
theorem ascN_ok (q : Hd) (l : List Near) (bound but : Int) (w : World) (hr : Reads w q 2 l.length (Nrs l)) : Calls Tryz.prog 84 #[.slice q.1 q.2.1 q.2.2, .func (.func 85) #[] #[], .int .i64 bound, .int .i64 but] w fun e W' => e = .returned (.bool (ascFrom bound but (-1) (l.map Near.svc))) ∧ Below w.heap.size w W' := by
  obtain ⟨a, n, c⟩ := q
  have HR := Lib.hid hr
  have hn : l.length = n := hr.len
  have hnl : n ≤ 9223372036854775807 := hr.le
  have HN := Lib.hid hn
  have hml : (l.map Near.svc).length = n := by rw [List.length_map]; exact hn
  have HML := Lib.hid hml
  clear hr hn hml
  have eg := enters_of Tryz.func85 (by kernel_rfl) rfl
  have Eg := Lib.hid eg
  clear eg
  go_enter Tryz.func84, Tryz.ntmps84
  go_wp2_with fail
  go_loopw [9, 15] (fun v i wr => ∃ (k : Nat) (last : Int) (X : World), k ≤ n ∧ v = .int .i64 last ∧ i = .int .i64 k ∧ X = wr ∧ Hid (Below w.heap.size w X ∧ ascFrom bound but (-1) (l.map Near.svc) = ascFrom bound but last ((l.map Near.svc).drop k))) (fun _ i _ => n - (intOf i).toNat)
  case atStart => exact ⟨0, -1, _, Nat.zero_le _, rfl, rfl, rfl, Lib.hid ⟨below_self w, rfl⟩⟩
  case round =>
    obtain ⟨k, last, X, hk, rfl, rfl, rfl, HX⟩ := hrel
    by_cases hlt : k < n
    · have hltI : (k : Int) < (n : Int) := by omega
      obtain ⟨b, off, rfl, _, hc0, hc1⟩ := nrs_at (HR.out.rows.later HX.out.1) k (by rw [HN.out]; exact hlt)
      have hd := drop_get (l := l.map Near.svc) (k := k) (by rw [HML.out]; exact hlt)
      have hm : (l.map Near.svc).getD k default = Near.svc (l.getD k default) := by
        rw [List.getD_eq_getElem?_getD, List.getElem?_map, List.getD_eq_getElem?_getD, List.getElem?_eq_getElem (by rw [HN.out]; exact hlt)]; rfl
      rw [hm] at hd
      have HD := Lib.hid (show ascFrom bound but (-1) (l.map Near.svc) = ascFrom bound but last (Near.svc (l.getD k default) :: (l.map Near.svc).drop (k + 1)) by rw [HX.out.2, hd])
      clear hd hm
      obtain ⟨x0, hx0⟩ : ∃ x, l.getD k default = x := ⟨_, rfl⟩
      rw [hx0] at HD hc0 hc1
      clear hx0
      have eg := Eg.out
      go_wp2_with fail
      refine (num2_ok x0 _).mono ?_
      rintro e Z ⟨rfl, hb⟩
      obtain ⟨y, hy⟩ : ∃ y, Near.svc x0 = y := ⟨_, rfl⟩
      rw [hy]
      have HY := Lib.hid hy
      have HB := Lib.hid (below_trans (below_alloc HX.out.1 _) hb)
      clear hb hy eg HX hc0 hc1
      by_cases c1 : y ≤ last
      · have HE := Lib.hid (show ascFrom bound but (-1) (l.map Near.svc) = false by rw [HD.out, HY.out]; exact asc_bad (.inl c1))
        go_wp2_with fail
        go_ret
        exact ⟨by rw [HE.out]; rfl, HB.out⟩
      · by_cases c2 : bound ≤ y
        · have HE := Lib.hid (show ascFrom bound but (-1) (l.map Near.svc) = false by rw [HD.out, HY.out]; exact asc_bad (.inr (.inl c2)))
          go_wp2_with fail
          go_ret
          exact ⟨by rw [HE.out]; rfl, HB.out⟩
        · by_cases c3 : y = but
          · have HE := Lib.hid (show ascFrom bound but (-1) (l.map Near.svc) = false by rw [HD.out, HY.out]; exact asc_bad (.inr (.inr c3)))
            have c3b : (y == but) = true := by simpa using c3
            clear c3
            go_wp2_with fail
            go_ret
            exact ⟨by rw [HE.out]; rfl, HB.out⟩
          · have HE := Lib.hid (And.intro HB.out (show ascFrom bound but (-1) (l.map Near.svc) = ascFrom bound but y ((l.map Near.svc).drop (k + 1)) by rw [HD.out, HY.out]; exact asc_good c1 c2 c3))
            have c3b : (y == but) = false := by simpa using c3
            clear HB
            go_wp2_with fail
            go_roundw
            case rel => exact ⟨k + 1, y, _, by omega, rfl, by go_num, rfl, HE⟩
            case measure => simp [intOf]; omega
    · have hke : k = n := by omega
      have HE := Lib.hid (show ascFrom bound but (-1) (l.map Near.svc) = true by rw [HX.out.2, List.drop_of_length_le (by rw [HML.out]; omega)]; rfl)
      have hltI : ¬ (k : Int) < (n : Int) := by omega
      clear hke
      go_wp2_with fail
      go_ret
      exact ⟨by rw [HE.out]; rfl, HX.out.1⟩

end Go.Proofs.YthlefdbhkbpejaaGreat

namespace Go.Proofs.YthlefdbhkbpejaaGreat
open Go Go.RowKit
set_option linter.unusedSimpArgs false

theorem svs_at {n : Nat} {w : World} {a : Option Addr} {xs : List Svc} (h : RowsAt n w a 8 (Svs xs)) (k : Nat) (hk : k < xs.length) :
    ∃ b off, a = some ⟨b, off, none⟩ ∧ b < n ∧ ∀ j v, (xs.getD k default).cells[j]? = some v → w.cell? ⟨b, off + k * 8 + j, none⟩ = some v := by
  obtain ⟨b, off, ha, hb, hc⟩ := h k (xs.getD k default).cells (by simp [hk])
  exact ⟨b, off, ha, hb, hc⟩
theorem wish_false {x : Wish} {k : Nat} (hk : k < x.svcs.length) (h : svcOk x.svcs.length k (x.svcs.getD k default) = false) : wishOk x = false := by
  unfold wishOk
  have : (List.range x.svcs.length).all (fun i => svcOk x.svcs.length i (x.svcs.getD i default)) = false := by
    rw [List.all_eq_false]
    exact ⟨k, by simpa using hk, by rw [h]; simp⟩
  rw [this]; simp
theorem wish_all {x : Wish} (h8 : x.svcs.length ≤ 8) (h : ∀ i, i < x.svcs.length → svcOk x.svcs.length i (x.svcs.getD i default) = true) : wishOk x = decide (sumReps x.svcs ≤ 24) := by
  unfold wishOk
  have : (List.range x.svcs.length).all (fun i => svcOk x.svcs.length i (x.svcs.getD i default)) = true := by
    rw [List.all_eq_true]
    intro i hi
    exact h i (by simpa using hi)
  rw [this, decide_eq_true h8]; simp
theorem sumReps_succ {l : List Svc} {k : Nat} (hk : k < l.length) : sumReps (l.take (k + 1)) = sumReps (l.take k) + (l.getD k default).reps := by
  unfold sumReps
  rw [List.take_succ_eq_append_getElem hk, List.foldl_append, List.getD_eq_getElem?_getD, List.getElem?_eq_getElem hk]
  rfl
theorem sumReps_le {l : List Svc} : ∀ k, k ≤ l.length → (∀ i, i < k → inR (l.getD i default).reps 0 24 = true) → 0 ≤ sumReps (l.take k) ∧ sumReps (l.take k) ≤ 24 * k
  | 0, _, _ => by simp [sumReps]
  | k + 1, hk, h => by
    have ih := sumReps_le k (by omega) fun i hi => h i (by omega)
    have := inR_iff.1 (h k (by omega))
    rw [sumReps_succ (by omega)]
    omega
theorem svcOk_reps {n i : Nat} {x : Svc} (h : svcOk n i x = true) : inR x.reps 0 24 = true := by
  unfold svcOk at h
  simp only [Bool.and_eq_true] at h
  exact h.1.1.1.1.1.1.2
theorem near_bad (x : Near) (w : World) : Calls Tryz.prog 87 #[x.val] w fun e W' => e = .returned (.bool (!inR x.lat 0 1000000)) ∧ Below w.heap.size w W' := by
  obtain ⟨r, h⟩ : ∃ r, inR x.lat 0 1000000 = r := ⟨_, rfl⟩
  have H := Lib.hid h
  clear h
  go_enter Tryz.func87, Tryz.ntmps87
  go_wp2_with fail
  refine (betw_world x.lat 0 1000000 _).mono ?_
  rintro e V ⟨rfl, rfl⟩
  rw [H.out]
  go_wp2_with fail
  go_ret
  exact ⟨by rw [H.out]; rfl, below_alloc (below_self w) _⟩

set_option maxHeartbeats 4000000 in
theorem validwish_ok (x : Wish) (w : World) (hx : x.At w) : Calls Tryz.prog 43 #[x.val] w fun e W' => e = .returned (.bool (wishOk x)) ∧ Below w.heap.size w W' := by
  obtain ⟨svcs, ⟨a, n, c⟩⟩ := x
  have HX := Lib.hid hx
  have hn : svcs.length = n := hx.svcs.len
  have hnl : n ≤ 9223372036854775807 := hx.svcs.le
  have HN := Lib.hid hn
  clear hx hn
  by_cases h8 : 8 < n
  · have HE := Lib.hid (show wishOk ⟨svcs, (a, n, c)⟩ = false by unfold wishOk; rw [decide_eq_false (show ¬ svcs.length ≤ 8 by rw [HN.out]; omega)]; simp)
    have h8I : (8 : Int) < (n : Int) := by omega
    go_enter Tryz.func43, Tryz.ntmps43
    go_wp2_with fail
    go_ret
    exact ⟨by rw [HE.out]; rfl, below_alloc (below_self w) _⟩
  · have h8I : ¬ (8 : Int) < (n : Int) := by omega
    have hn8 : n ≤ 8 := by omega
    go_enter Tryz.func43, Tryz.ntmps43
    go_upto_region 5 with fail
    obtain ⟨A, hA⟩ : ∃ W' : World, (w.alloc (.cells #[.slice a n c] 32)) = W' := ⟨_, rfl⟩
    have h : Has A [(w.heap.size, .cells #[.slice a n c] 32 (0, 0))] := by rw [← hA]; simpa using ((Has.nil w).new _)
    have s : A.heap.size = w.heap.size + 1 := by rw [← hA]; simp
    have b : Below w.heap.size w A := by rw [← hA]; exact (below_alloc (below_self w) _)
    rw [hA]
    clear hA
    have HA := Lib.hid b
    clear h s b
    go_loopw [4, 15] (fun v i wr => ∃ (k : Nat) (X : World), k ≤ n ∧ v = .int .i64 (sumReps (svcs.take k)) ∧ i = .int .i64 k ∧ X = wr ∧ Hid (Below w.heap.size w X ∧ ∀ i, i < k → svcOk svcs.length i (svcs.getD i default) = true)) (fun _ i _ => n - (intOf i).toNat)
    case atStart => exact ⟨0, _, Nat.zero_le _, rfl, rfl, rfl, Lib.hid ⟨HA.out, fun i hi => by omega⟩⟩
    case round =>
      obtain ⟨k, X, hk, rfl, rfl, rfl, HR⟩ := hrel
      by_cases hlt : k < n
      · have hltI : (k : Int) < (n : Int) := by omega
        obtain ⟨b, off, rfl, _, hc⟩ := svs_at (HX.out.svcs.rows.later HR.out.1) k (by rw [HN.out]; exact hlt)
        have hat := (HX.out.each k (by rw [HN.out]; exact hlt)).later HR.out.1
        have hsum := sumReps_succ (l := svcs) (k := k) (by rw [HN.out]; exact hlt)
        have hbd := sumReps_le (l := svcs) k (by rw [HN.out]; omega) fun i hi => svcOk_reps (HR.out.2 i hi)
        obtain ⟨y, hy⟩ : ∃ y, svcs.getD k default = y := ⟨_, rfl⟩
        rw [hy] at hc hat hsum
        have HYE := Lib.hid (And.intro hy (And.intro hsum (And.intro hbd hat)))
        clear hat hsum hbd hy
        have c0 : X.cell? ⟨b, off + k * 8, none⟩ = some (.int .i64 y.cores) := hc 0 _ rfl
        have c1 : X.cell? ⟨b, off + k * 8 + 1, none⟩ = some (.int .i64 y.reps) := hc 1 _ rfl
        have c2 : X.cell? ⟨b, off + k * 8 + 2, none⟩ = some (.int .i64 y.least) := hc 2 _ rfl
        have c3 : X.cell? ⟨b, off + k * 8 + 3, none⟩ = some (.int .u8 y.dom) := hc 3 _ rfl
        have c4 : X.cell? ⟨b, off + k * 8 + 4, none⟩ = some (.int .i64 y.spread) := hc 4 _ rfl
        have c5 : X.cell? ⟨b, off + k * 8 + 5, none⟩ = some (.slice y.ah.1 y.ah.2.1 y.ah.2.2) := hc 5 _ rfl
        have c6 : X.cell? ⟨b, off + k * 8 + 6, none⟩ = some (.slice y.nh.1 y.nh.2.1 y.nh.2.2) := hc 6 _ rfl
        have c7 : X.cell? ⟨b, off + k * 8 + 7, none⟩ = some (.int .i64 y.firm) := hc 7 _ rfl
        clear hc
        obtain ⟨r0, h0⟩ : ∃ r, (inR y.cores 1 1000 : Bool) = r := ⟨_, rfl⟩
        have H0 := Lib.hid h0
        clear h0
        obtain ⟨r1, h1⟩ : ∃ r, (inR y.reps 0 24 : Bool) = r := ⟨_, rfl⟩
        have H1 := Lib.hid h1
        clear h1
        obtain ⟨r2, h2⟩ : ∃ r, (inR y.least 0 y.reps : Bool) = r := ⟨_, rfl⟩
        have H2 := Lib.hid h2
        clear h2
        obtain ⟨r3, h3⟩ : ∃ r, (inR y.firm 0 1000000 : Bool) = r := ⟨_, rfl⟩
        have H3 := Lib.hid h3
        clear h3
        obtain ⟨r4, h4⟩ : ∃ r, (spreadOk y : Bool) = r := ⟨_, rfl⟩
        have H4 := Lib.hid h4
        clear h4
        obtain ⟨r5, h5⟩ : ∃ r, (ascFrom n k (-1) y.apart : Bool) = r := ⟨_, rfl⟩
        have H5 := Lib.hid h5
        clear h5
        obtain ⟨r6, h6⟩ : ∃ r, (ascFrom n k (-1) (y.near.map Near.svc) : Bool) = r := ⟨_, rfl⟩
        have H6 := Lib.hid h6
        clear h6
        obtain ⟨r7, h7⟩ : ∃ r, (y.near.all fun k => inR k.lat 0 1000000 : Bool) = r := ⟨_, rfl⟩
        have H7 := Lib.hid h7
        clear h7
        have hE := fun (h : svcOk n k y = false) => wish_false (x := ⟨svcs, (some ⟨b, off, none⟩, n, c)⟩) (k := k) (by show k < svcs.length; rw [HN.out]; exact hlt) (by show svcOk svcs.length k (svcs.getD k default) = false; rw [HN.out, HYE.out.1]; exact h)
        have HE := Lib.hid hE
        clear hE
        go_upto_region 7 with fail
        obtain ⟨Z, hZ⟩ : ∃ W' : World, (X.alloc (.cells y.cells.toArray 79)) = W' := ⟨_, rfl⟩
        have hz : Has Z [(X.heap.size, .cells y.cells.toArray 79 (0, 0))] := by rw [← hZ]; simpa using ((Has.nil X).new _)
        have sz : Z.heap.size = X.heap.size + 1 := by rw [← hZ]; simp
        have bz : Below X.heap.size X Z := by rw [← hZ]; exact (below_alloc (below_self X) _)
        rw [hZ]
        clear hZ
        have HZ := Lib.hid (And.intro hz.hd (And.intro (below_trans HR.out.1 bz) bz))
        clear c0 c1 c2 c3 c4 c5 c6 c7
        clear hz sz bz
        have d0 : _ = some (Value.int .i64 y.cores) := (blk_cell HZ.out.1 0).trans rfl
        have d1 : _ = some (Value.int .i64 y.reps) := (blk_cell HZ.out.1 1).trans rfl
        have d2 : _ = some (Value.int .i64 y.least) := (blk_cell HZ.out.1 2).trans rfl
        have d3 : _ = some (Value.int .u8 y.dom) := (blk_cell HZ.out.1 3).trans rfl
        have d4 : _ = some (Value.int .i64 y.spread) := (blk_cell HZ.out.1 4).trans rfl
        have d5 : _ = some (Value.slice y.ah.1 y.ah.2.1 y.ah.2.2) := (blk_cell HZ.out.1 5).trans rfl
        have d6 : _ = some (Value.slice y.nh.1 y.nh.2.1 y.nh.2.2) := (blk_cell HZ.out.1 6).trans rfl
        have d7 : _ = some (Value.int .i64 y.firm) := (blk_cell HZ.out.1 7).trans rfl
        have dl := blk_lt HZ.out.1
        go_wp2_with fail
        refine (betw_world y.cores 1 1000 _).mono ?_
        rintro e V ⟨rfl, rfl⟩
        rw [H0.out]
        cases r0
        · have HF := Lib.hid (HE.out (by unfold svcOk; simp [H0.out]))
          go_wp2_with fail
          go_ret
          exact ⟨by rw [HF.out]; rfl, HZ.out.2.1⟩
        · skip
          go_wp2_with fail
          refine (betw_world y.reps 0 24 _).mono ?_
          rintro e V ⟨rfl, rfl⟩
          rw [H1.out]
          cases r1
          · have HF := Lib.hid (HE.out (by unfold svcOk; simp [H0.out, H1.out]))
            go_wp2_with fail
            go_ret
            exact ⟨by rw [HF.out]; rfl, HZ.out.2.1⟩
          · skip
            go_wp2_with fail
            refine (betw_world y.least 0 y.reps _).mono ?_
            rintro e V ⟨rfl, rfl⟩
            rw [H2.out]
            cases r2
            · have HF := Lib.hid (HE.out (by unfold svcOk; simp [H0.out, H1.out, H2.out]))
              go_wp2_with fail
              go_ret
              exact ⟨by rw [HF.out]; rfl, HZ.out.2.1⟩
            · skip
              go_wp2_with fail
              refine (betw_world y.firm 0 1000000 _).mono ?_
              rintro e V ⟨rfl, rfl⟩
              rw [H3.out]
              cases r3
              · have HF := Lib.hid (HE.out (by unfold svcOk; simp [H0.out, H1.out, H2.out, H3.out]))
                go_wp2_with fail
                go_ret
                exact ⟨by rw [HF.out]; rfl, HZ.out.2.1⟩
              · skip
                go_wp2_with fail
                refine (spread_ok y Z).mono ?_
                rintro e V4 ⟨rfl, hb⟩
                have HZ4 := Lib.hid (And.intro (blk_below HZ.out.1 hb) (And.intro (below_trans HZ.out.2.1 hb) (below_trans HZ.out.2.2 hb)))
                clear hb dl d0 d1 d2 d3 d4 d5 d6 d7
                rw [H4.out]
                cases r4
                · have HF := Lib.hid (HE.out (by unfold svcOk; simp [H0.out, H1.out, H2.out, H3.out, H4.out]))
                  go_wp2_with fail
                  go_ret
                  exact ⟨by rw [HF.out]; rfl, HZ4.out.2.1⟩
                · skip
                  have d5 : _ = some (Value.slice y.ah.1 y.ah.2.1 y.ah.2.2) := (blk_cell HZ4.out.1 5).trans rfl
                  have d6 : _ = some (Value.slice y.nh.1 y.nh.2.1 y.nh.2.2) := (blk_cell HZ4.out.1 6).trans rfl
                  have dl := blk_lt HZ4.out.1
                  go_wp2_with fail
                  refine (ascI_ok y.ah y.apart n k V4 (HYE.out.2.2.2.apart.later HZ4.out.2.2)).mono ?_
                  rintro e V5 ⟨rfl, hb⟩
                  have HZ5 := Lib.hid (And.intro (blk_below HZ4.out.1 hb) (And.intro (below_trans HZ4.out.2.1 hb) (below_trans HZ4.out.2.2 hb)))
                  clear hb dl d5 d6
                  rw [map_idI, H5.out]
                  cases r5
                  · have HF := Lib.hid (HE.out (by unfold svcOk; simp [H0.out, H1.out, H2.out, H3.out, H4.out, H5.out]))
                    go_wp2_with fail
                    go_ret
                    exact ⟨by rw [HF.out]; rfl, HZ5.out.2.1⟩
                  · skip
                    have d5 : _ = some (Value.slice y.ah.1 y.ah.2.1 y.ah.2.2) := (blk_cell HZ5.out.1 5).trans rfl
                    have d6 : _ = some (Value.slice y.nh.1 y.nh.2.1 y.nh.2.2) := (blk_cell HZ5.out.1 6).trans rfl
                    have dl := blk_lt HZ5.out.1
                    go_wp2_with fail
                    refine (ascN_ok y.nh y.near n k V5 (HYE.out.2.2.2.near.later HZ5.out.2.2)).mono ?_
                    rintro e V6 ⟨rfl, hb⟩
                    have HZ6 := Lib.hid (And.intro (blk_below HZ5.out.1 hb) (And.intro (below_trans HZ5.out.2.1 hb) (below_trans HZ5.out.2.2 hb)))
                    clear hb dl d5 d6
                    rw [H6.out]
                    cases r6
                    · have HF := Lib.hid (HE.out (by unfold svcOk; simp [H0.out, H1.out, H2.out, H3.out, H4.out, H5.out, H6.out]))
                      go_wp2_with fail
                      go_ret
                      exact ⟨by rw [HF.out]; rfl, HZ6.out.2.1⟩
                    · skip
                      have d6 : _ = some (Value.slice y.nh.1 y.nh.2.1 y.nh.2.2) := (blk_cell HZ6.out.1 6).trans rfl
                      have d1 : _ = some (Value.int .i64 y.reps) := (blk_cell HZ6.out.1 1).trans rfl
                      have dl := blk_lt HZ6.out.1
                      go_wp2_with fail
                      refine (containsNr_ok 87 #[] (fun k => !inR k.lat 0 1000000) y.nh.1 y.nh.2.1 y.nh.2.2 y.near V6 (HYE.out.2.2.2.near.len) (HYE.out.2.2.2.near.le) ((HYE.out.2.2.2.near.later HZ6.out.2.2).rows) (fun W k _ => near_bad k W) (enters_of Tryz.func87 (by kernel_rfl) rfl)).mono ?_
                      rintro e V7 ⟨rfl, hb⟩
                      have HZ7 := Lib.hid (And.intro (blk_below HZ6.out.1 hb) (And.intro (below_trans HZ6.out.2.1 hb) (below_trans HZ6.out.2.2 hb)))
                      clear hb dl d6 d1
                      rw [show (y.near.any fun k => !inR k.lat 0 1000000) = !r7 from by rw [← H7.out]; exact any_all (fun k : Near => inR k.lat 0 1000000) y.near]
                      cases r7
                      · have HF := Lib.hid (HE.out (by unfold svcOk; simp [H0.out, H1.out, H2.out, H3.out, H4.out, H5.out, H6.out, H7.out]))
                        go_wp2_with fail
                        go_ret
                        exact ⟨by rw [HF.out]; rfl, HZ7.out.2.1⟩
                      · skip
                        have HT := Lib.hid (show Below w.heap.size w V7 ∧ ∀ i, i < k + 1 → svcOk svcs.length i (svcs.getD i default) = true from ⟨HZ7.out.2.1, fun i hi => by
                          by_cases e : i = k
                          · subst e
                            rw [HN.out, HYE.out.1]
                            unfold svcOk
                            simp [H0.out, H1.out, H2.out, H3.out, H4.out, H5.out, H6.out, H7.out]
                          · exact HR.out.2 i (by omega)⟩)
                        have d1 : _ = some (Value.int .i64 y.reps) := (blk_cell HZ7.out.1 1).trans rfl
                        have dl := blk_lt HZ7.out.1
                        have hr1 := inR_iff.1 H1.out
                        obtain ⟨b0, b1⟩ := HYE.out.2.2.1
                        obtain ⟨S, hS⟩ : ∃ S, sumReps (svcs.take k) = S := ⟨_, rfl⟩
                        rw [hS] at b0 b1 ⊢
                        have hw : IntKind.i64.wrap (S + y.reps) = S + y.reps := IntWalk.i64_in _ (by omega)
                        have HS := Lib.hid hS
                        clear hS
                        go_wp2_with fail
                        go_roundw
                        case rel => exact ⟨k + 1, _, by omega, by rw [HYE.out.2.1, HS.out], by go_num, rfl, HT⟩
                        case measure => simp [intOf]; omega
      · have hltI : ¬ (k : Int) < (n : Int) := by omega
        have hke : k = n := by omega
        have HF := Lib.hid (show wishOk ⟨svcs, (a, n, c)⟩ = decide (sumReps (svcs.take k) ≤ 24) by
          rw [wish_all (x := ⟨svcs, (a, n, c)⟩) (by show svcs.length ≤ 8; rw [HN.out]; exact hn8) (fun i hi => HR.out.2 i (by have : i < svcs.length := hi; rw [HN.out] at this; omega)), List.take_of_length_le (by rw [HN.out]; omega)])
        generalize sumReps (svcs.take k) = S at HF ⊢
        clear hke
        go_wp2_with fail
        go_ret
        exact ⟨by rw [HF.out]; rfl, HR.out.1⟩
end Go.Proofs.YthlefdbhkbpejaaGreat
