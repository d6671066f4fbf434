/- Chapter 15: world.ascending (written by wip/gen15asc.py). -/
import Derived.Test.YtmghcinbdfeeoaaGreatWorldC
namespace Go.Proofs.YtmghcinbdfeeoaaGreat
open Go Go.RowKit

theorem asc_bad {bound but last x : Int} {l : List Int} (h : x ≤ last ∨ bound ≤ x ∨ x = but) : ascFrom bound but last (x :: l) = false := by
  unfold ascFrom
  rcases h with h | h | h
  · rw [decide_eq_false (show ¬ last < x by omega)]; simp
  · rw [decide_eq_false (show ¬ x < bound by omega)]; simp
  · rw [decide_eq_true h]; simp
theorem asc_good {bound but last x : Int} {l : List Int} (h1 : ¬ x ≤ last) (h2 : ¬ bound ≤ x) (h3 : ¬ x = but) : ascFrom bound but last (x :: l) = ascFrom bound but x l := by
  rw [ascFrom, decide_eq_true (show last < x by omega), decide_eq_true (show x < bound by omega), decide_eq_false h3]; simp
def idI (x : Int) : Int := x
theorem map_idI (l : List Int) : l.map idI = l := by
  have : idI = id := rfl
  rw [this, List.map_id]
theorem drop_get {α : Type} [Inhabited α] {l : List α} {k : Nat} (h : k < l.length) : l.drop k = l.getD k default :: l.drop (k + 1) := by
  rw [List.drop_eq_getElem_cons h, List.getD_eq_getElem?_getD, List.getElem?_eq_getElem h]; rfl

theorem num1_ok (x : Int) (w : World) : Calls Tryz.prog 71 #[.int .i64 x] w fun e W' => e = .returned (.int .i64 (idI x)) ∧ Below w.heap.size w W' := by
  go_enter Tryz.func71, Tryz.ntmps71
  go_wp2_with fail
  go_ret
  exact ⟨rfl, by first | exact below_self w | exact below_alloc (below_self w) _⟩
set_option maxHeartbeats 2000000 in
theorem ascI_ok (q : Hd) (l : List Int) (bound but : Int) (w : World) (hr : Reads w q 1 l.length (Ints l)) : Calls Tryz.prog 70 #[.slice q.1 q.2.1 q.2.2, .func (.func 71) #[] #[], .int .i64 bound, .int .i64 but] w fun e W' => e = .returned (.bool (ascFrom bound but (-1) (l.map idI))) ∧ Below w.heap.size w W' := by
  obtain ⟨a, n, c⟩ := q
  have HR := Lib.hid hr
  have hn : l.length = n := hr.len
  have hnl : n ≤ 9223372036854775807 := hr.le
  have HN := Lib.hid hn
  have hml : (l.map idI).length = n := by rw [List.length_map]; exact hn
  have HML := Lib.hid hml
  clear hr hn hml
  have eg := enters_of Tryz.func71 (by kernel_rfl) rfl
  have Eg := Lib.hid eg
  clear eg
  go_enter Tryz.func70, Tryz.ntmps70
  go_wp2_with fail
  go_loopw [9, 15] (fun v i wr => ∃ (k : Nat) (last : Int) (X : World), k ≤ n ∧ v = .int .i64 last ∧ i = .int .i64 k ∧ X = wr ∧ Hid (Below w.heap.size w X ∧ ascFrom bound but (-1) (l.map idI) = ascFrom bound but last ((l.map idI).drop k))) (fun _ i _ => n - (intOf i).toNat)
  case atStart => exact ⟨0, -1, _, Nat.zero_le _, rfl, rfl, rfl, Lib.hid ⟨below_self w, rfl⟩⟩
  case round =>
    obtain ⟨k, last, X, hk, rfl, rfl, rfl, HX⟩ := hrel
    by_cases hlt : k < n
    · have hltI : (k : Int) < (n : Int) := by omega
      obtain ⟨b, off, rfl, _, hc0⟩ := ints_at (HR.out.rows.later HX.out.1) k (by rw [HN.out]; exact hlt)
      have hd := drop_get (l := l.map idI) (k := k) (by rw [HML.out]; exact hlt)
      have hm : (l.map idI).getD k default = idI (l.getD k default) := by
        rw [List.getD_eq_getElem?_getD, List.getElem?_map, List.getD_eq_getElem?_getD, List.getElem?_eq_getElem (by rw [HN.out]; exact hlt)]; rfl
      rw [hm] at hd
      have HD := Lib.hid (show ascFrom bound but (-1) (l.map idI) = ascFrom bound but last (idI (l.getD k default) :: (l.map idI).drop (k + 1)) by rw [HX.out.2, hd])
      clear hd hm
      obtain ⟨x0, hx0⟩ : ∃ x, l.getD k default = x := ⟨_, rfl⟩
      rw [hx0] at HD hc0
      clear hx0
      have eg := Eg.out
      go_wp2_with fail
      refine (num1_ok x0 _).mono ?_
      rintro e Z ⟨rfl, hb⟩
      obtain ⟨y, hy⟩ : ∃ y, idI x0 = y := ⟨_, rfl⟩
      rw [hy]
      have HY := Lib.hid hy
      have HB := Lib.hid (below_trans HX.out.1 hb)
      clear hb hy eg HX hc0
      by_cases c1 : y ≤ last
      · have HE := Lib.hid (show ascFrom bound but (-1) (l.map idI) = false by rw [HD.out, HY.out]; exact asc_bad (.inl c1))
        go_wp2_with fail
        go_ret
        exact ⟨by rw [HE.out]; rfl, HB.out⟩
      · by_cases c2 : bound ≤ y
        · have HE := Lib.hid (show ascFrom bound but (-1) (l.map idI) = false by rw [HD.out, HY.out]; exact asc_bad (.inr (.inl c2)))
          go_wp2_with fail
          go_ret
          exact ⟨by rw [HE.out]; rfl, HB.out⟩
        · by_cases c3 : y = but
          · have HE := Lib.hid (show ascFrom bound but (-1) (l.map idI) = false by rw [HD.out, HY.out]; exact asc_bad (.inr (.inr c3)))
            have c3b : (y == but) = true := by simpa using c3
            clear c3
            go_wp2_with fail
            go_ret
            exact ⟨by rw [HE.out]; rfl, HB.out⟩
          · have HE := Lib.hid (And.intro HB.out (show ascFrom bound but (-1) (l.map idI) = ascFrom bound but y ((l.map idI).drop (k + 1)) by rw [HD.out, HY.out]; exact asc_good c1 c2 c3))
            have c3b : (y == but) = false := by simpa using c3
            clear HB
            go_wp2_with fail
            go_roundw
            case rel => exact ⟨k + 1, y, _, by omega, rfl, by go_num, rfl, HE⟩
            case measure => simp [intOf]; omega
    · have hke : k = n := by omega
      have HE := Lib.hid (show ascFrom bound but (-1) (l.map idI) = true by rw [HX.out.2, List.drop_of_length_le (by rw [HML.out]; omega)]; rfl)
      have hltI : ¬ (k : Int) < (n : Int) := by omega
      clear hke
      go_wp2_with fail
      go_ret
      exact ⟨by rw [HE.out]; rfl, HX.out.1⟩

theorem num2_ok (x : Near) (w : World) : Calls Tryz.prog 73 #[x.val] w fun e W' => e = .returned (.int .i64 (Near.svc x)) ∧ Below w.heap.size w W' := by
  go_enter Tryz.func73, Tryz.ntmps73
  go_wp2_with fail
  go_ret
  exact ⟨rfl, by first | exact below_self w | exact below_alloc (below_self w) _⟩
set_option maxHeartbeats 2000000 in
theorem ascN_ok (q : Hd) (l : List Near) (bound but : Int) (w : World) (hr : Reads w q 2 l.length (Nrs l)) : Calls Tryz.prog 72 #[.slice q.1 q.2.1 q.2.2, .func (.func 73) #[] #[], .int .i64 bound, .int .i64 but] w fun e W' => e = .returned (.bool (ascFrom bound but (-1) (l.map Near.svc))) ∧ Below w.heap.size w W' := by
  obtain ⟨a, n, c⟩ := q
  have HR := Lib.hid hr
  have hn : l.length = n := hr.len
  have hnl : n ≤ 9223372036854775807 := hr.le
  have HN := Lib.hid hn
  have hml : (l.map Near.svc).length = n := by rw [List.length_map]; exact hn
  have HML := Lib.hid hml
  clear hr hn hml
  have eg := enters_of Tryz.func73 (by kernel_rfl) rfl
  have Eg := Lib.hid eg
  clear eg
  go_enter Tryz.func72, Tryz.ntmps72
  go_wp2_with fail
  go_loopw [9, 15] (fun v i wr => ∃ (k : Nat) (last : Int) (X : World), k ≤ n ∧ v = .int .i64 last ∧ i = .int .i64 k ∧ X = wr ∧ Hid (Below w.heap.size w X ∧ ascFrom bound but (-1) (l.map Near.svc) = ascFrom bound but last ((l.map Near.svc).drop k))) (fun _ i _ => n - (intOf i).toNat)
  case atStart => exact ⟨0, -1, _, Nat.zero_le _, rfl, rfl, rfl, Lib.hid ⟨below_self w, rfl⟩⟩
  case round =>
    obtain ⟨k, last, X, hk, rfl, rfl, rfl, HX⟩ := hrel
    by_cases hlt : k < n
    · have hltI : (k : Int) < (n : Int) := by omega
      obtain ⟨b, off, rfl, _, hc0, hc1⟩ := nrs_at (HR.out.rows.later HX.out.1) k (by rw [HN.out]; exact hlt)
      have hd := drop_get (l := l.map Near.svc) (k := k) (by rw [HML.out]; exact hlt)
      have hm : (l.map Near.svc).getD k default = Near.svc (l.getD k default) := by
        rw [List.getD_eq_getElem?_getD, List.getElem?_map, List.getD_eq_getElem?_getD, List.getElem?_eq_getElem (by rw [HN.out]; exact hlt)]; rfl
      rw [hm] at hd
      have HD := Lib.hid (show ascFrom bound but (-1) (l.map Near.svc) = ascFrom bound but last (Near.svc (l.getD k default) :: (l.map Near.svc).drop (k + 1)) by rw [HX.out.2, hd])
      clear hd hm
      obtain ⟨x0, hx0⟩ : ∃ x, l.getD k default = x := ⟨_, rfl⟩
      rw [hx0] at HD hc0 hc1
      clear hx0
      have eg := Eg.out
      go_wp2_with fail
      refine (num2_ok x0 _).mono ?_
      rintro e Z ⟨rfl, hb⟩
      obtain ⟨y, hy⟩ : ∃ y, Near.svc x0 = y := ⟨_, rfl⟩
      rw [hy]
      have HY := Lib.hid hy
      have HB := Lib.hid (below_trans (below_alloc HX.out.1 _) hb)
      clear hb hy eg HX hc0 hc1
      by_cases c1 : y ≤ last
      · have HE := Lib.hid (show ascFrom bound but (-1) (l.map Near.svc) = false by rw [HD.out, HY.out]; exact asc_bad (.inl c1))
        go_wp2_with fail
        go_ret
        exact ⟨by rw [HE.out]; rfl, HB.out⟩
      · by_cases c2 : bound ≤ y
        · have HE := Lib.hid (show ascFrom bound but (-1) (l.map Near.svc) = false by rw [HD.out, HY.out]; exact asc_bad (.inr (.inl c2)))
          go_wp2_with fail
          go_ret
          exact ⟨by rw [HE.out]; rfl, HB.out⟩
        · by_cases c3 : y = but
          · have HE := Lib.hid (show ascFrom bound but (-1) (l.map Near.svc) = false by rw [HD.out, HY.out]; exact asc_bad (.inr (.inr c3)))
            have c3b : (y == but) = true := by simpa using c3
            clear c3
            go_wp2_with fail
            go_ret
            exact ⟨by rw [HE.out]; rfl, HB.out⟩
          · have HE := Lib.hid (And.intro HB.out (show ascFrom bound but (-1) (l.map Near.svc) = ascFrom bound but y ((l.map Near.svc).drop (k + 1)) by rw [HD.out, HY.out]; exact asc_good c1 c2 c3))
            have c3b : (y == but) = false := by simpa using c3
            clear HB
            go_wp2_with fail
            go_roundw
            case rel => exact ⟨k + 1, y, _, by omega, rfl, by go_num, rfl, HE⟩
            case measure => simp [intOf]; omega
    · have hke : k = n := by omega
      have HE := Lib.hid (show ascFrom bound but (-1) (l.map Near.svc) = true by rw [HX.out.2, List.drop_of_length_le (by rw [HML.out]; omega)]; rfl)
      have hltI : ¬ (k : Int) < (n : Int) := by omega
      clear hke
      go_wp2_with fail
      go_ret
      exact ⟨by rw [HE.out]; rfl, HX.out.1⟩

end Go.Proofs.YtmghcinbdfeeoaaGreat
