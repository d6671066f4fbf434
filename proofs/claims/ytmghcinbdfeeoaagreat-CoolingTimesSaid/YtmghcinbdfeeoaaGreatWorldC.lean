/- Chapter 15: world.sorted, ascending. -/
import Derived.Test.YtmghcinbdfeeoaaGreatWorldB
namespace Go.Proofs.YtmghcinbdfeeoaaGreat
open Go Go.RowKit

theorem sorted_false {l : List Rep} {j : Nat} (hj : j + 1 < l.length) (h : repLt (l.getD j default) (l.getD (j + 1) default) = false) : sortedReps l = false := by
  unfold sortedReps
  rw [List.all_eq_false]
  exact ⟨j, by simp; omega, by rw [h]; simp⟩
theorem sorted_true {l : List Rep} (h : ∀ j, j + 1 < l.length → repLt (l.getD j default) (l.getD (j + 1) default) = true) : sortedReps l = true := by
  unfold sortedReps
  rw [List.all_eq_true]
  intro j hj
  exact h j (by simp at hj; omega)
set_option maxHeartbeats 2000000 in
theorem sorted_ok (q : Hd) (l : List Rep) (w : World) (hr : Reads w q 2 l.length (Rps l)) : Calls Tryz.prog 34 #[.slice q.1 q.2.1 q.2.2] w fun e W' => e = .returned (.bool (sortedReps l)) ∧ Below w.heap.size w W' := by
  obtain ⟨a, n, c⟩ := q
  have HR := Lib.hid hr
  have hn : l.length = n := hr.len
  have hnl : n ≤ 9223372036854775807 := hr.le
  have HN := Lib.hid hn
  clear hr hn
  go_enter Tryz.func34, Tryz.ntmps34
  go_wp2_with fail
  go_loopw [3] (fun i wr => ∃ (j : Nat) (X : World), (j = 0 ∨ j < n) ∧ i = .int .i64 ((j : Int) + 1) ∧ X = wr ∧ Hid (Below w.heap.size w X ∧ ∀ i, i < j → repLt (l.getD i default) (l.getD (i + 1) default) = true)) (fun i _ => n + 1 - (intOf i).toNat)
  case atStart => exact ⟨0, _, .inl rfl, rfl, rfl, Lib.hid ⟨below_self w, fun i hi => by omega⟩⟩
  case round =>
    obtain ⟨j, X, hj, rfl, rfl, HX⟩ := hrel
    by_cases hlt : j + 1 < n
    · have hltI : (j : Int) + 1 < (n : Int) := by omega
      obtain ⟨b1, o1, rfl, hb1, p0, p1⟩ := rps_at (HR.out.rows.later HX.out.1) j (by rw [HN.out]; omega)
      obtain ⟨b2, o2, he, hb2, p2, p3⟩ := rps_at (HR.out.rows.later HX.out.1) (j + 1) (by rw [HN.out]; omega)
      cases he
      generalize hx : l.getD j default = x at p0 p1
      generalize hy : l.getD (j + 1) default = y at p2 p3
      have HXY := Lib.hid (And.intro hx hy)
      clear hx hy hb2
      have hw1 : IntKind.i64.wrap ((j : Int) + 1 - 1) = (j : Int) := by rw [IntWalk.i64_in _ (by omega)]; omega
      have hw2 : IntKind.i64.wrap (j : Int) = (j : Int) := IntWalk.i64_in _ (by omega)
      have hj0 : (0 : Int) ≤ (j : Int) := by omega
      have hjn : (j : Int) < (n : Int) := by omega
      have hj1 : (0 : Int) ≤ (j : Int) + 1 := by omega
      have kA : X.drew.cell? ⟨b1, o1 + j * 2, none⟩ = some (.int .i64 x.svc) ∧ X.drew.cell? ⟨b1, o1 + j * 2 + 1, none⟩ = some (.int .i64 x.host) ∧ X.drew.cell? ⟨b1, o1 + (j + 1) * 2, none⟩ = some (.int .i64 y.svc) ∧ X.drew.cell? ⟨b1, o1 + (j + 1) * 2 + 1, none⟩ = some (.int .i64 y.host) := ⟨p0, p1, p2, p3⟩
      have HB := Lib.hid hb1
      clear p0 p1 p2 p3 hb1
      obtain ⟨r, hr⟩ : ∃ r, ordR x y = r := ⟨_, rfl⟩
      have HO := Lib.hid hr
      have HO2 := Lib.hid (show 0 ≤ r ↔ repLt x y = false by rw [← hr]; exact ordR_iff x y)
      clear hr
      have hlt1 : b1 < X.drew.heap.size := HB.out
      have hkk : ∀ W, Below X.drew.heap.size X.drew W → W.cell? ⟨b1, o1 + j * 2, none⟩ = some (.int .i64 x.svc) ∧ W.cell? ⟨b1, o1 + j * 2 + 1, none⟩ = some (.int .i64 x.host) ∧ W.cell? ⟨b1, o1 + (j + 1) * 2, none⟩ = some (.int .i64 y.svc) ∧ W.cell? ⟨b1, o1 + (j + 1) * 2 + 1, none⟩ = some (.int .i64 y.host) := fun W h =>
        ⟨cell_call h (a := ⟨b1, o1 + j * 2, none⟩) hlt1 kA.1, cell_call h (a := ⟨b1, o1 + j * 2 + 1, none⟩) hlt1 kA.2.1, cell_call h (a := ⟨b1, o1 + (j + 1) * 2, none⟩) hlt1 kA.2.2.1, cell_call h (a := ⟨b1, o1 + (j + 1) * 2 + 1, none⟩) hlt1 kA.2.2.2⟩
      have HK := Lib.hid hkk
      clear hkk hlt1
      by_cases hge : 0 ≤ r
      · have HF := Lib.hid (sorted_false (l := l) (j := j) (by rw [HN.out]; exact hlt) (by rw [HXY.out.1, HXY.out.2]; exact HO2.out.1 hge))
        go_wp2_with fail
        go_region_held3 (fun w' => w'.cell? ⟨b1, o1 + j * 2, none⟩ = some (.int .i64 x.svc) ∧ w'.cell? ⟨b1, o1 + j * 2 + 1, none⟩ = some (.int .i64 x.host) ∧ w'.cell? ⟨b1, o1 + (j + 1) * 2, none⟩ = some (.int .i64 y.svc) ∧ w'.cell? ⟨b1, o1 + (j + 1) * 2 + 1, none⟩ = some (.int .i64 y.host))
          ((first | (with_reducible exact kA) | (with_reducible exact kZ)))
          (first
            | (go_at_call 76; (with_reducible refine (order_ok x y X.drew).mono ?_); rintro e Z ⟨rfl, hb⟩; rw [HO.out]; have kZ := HK.out _ hb; have HZ := Lib.hid hb; clear hb))
        have HB2 := Lib.hid (below_trans (HX.out.1.drew) HZ.out)
        clear kA kZ HK HZ HX
        go_wp2_with fail
        go_ret
        exact ⟨by rw [HF.out]; rfl, HB2.out⟩
      · have hgd : decide (0 ≤ r) = false := decide_eq_false hge
        have HT := Lib.hid (show repLt (l.getD j default) (l.getD (j + 1) default) = true by
          rw [HXY.out.1, HXY.out.2]
          cases hq : repLt x y
          · exact absurd (HO2.out.2 hq) hge
          · rfl)
        go_wp2_with fail
        go_region_held3 (fun w' => w'.cell? ⟨b1, o1 + j * 2, none⟩ = some (.int .i64 x.svc) ∧ w'.cell? ⟨b1, o1 + j * 2 + 1, none⟩ = some (.int .i64 x.host) ∧ w'.cell? ⟨b1, o1 + (j + 1) * 2, none⟩ = some (.int .i64 y.svc) ∧ w'.cell? ⟨b1, o1 + (j + 1) * 2 + 1, none⟩ = some (.int .i64 y.host))
          ((first | (with_reducible exact kA) | (with_reducible exact kZ)))
          (first
            | (go_at_call 76; (with_reducible refine (order_ok x y X.drew).mono ?_); rintro e Z ⟨rfl, hb⟩; rw [HO.out]; have kZ := HK.out _ hb; have HZ := Lib.hid hb; clear hb))
        have HB2 := Lib.hid (show Below w.heap.size w Z ∧ ∀ i, i < j + 1 → repLt (l.getD i default) (l.getD (i + 1) default) = true from ⟨below_trans (HX.out.1.drew) HZ.out, fun i hi => by
          by_cases e : i = j
          · subst e; exact HT.out
          · exact HX.out.2 i (by omega)⟩)
        clear kA kZ HK HZ HX
        go_wp2_with fail
        go_roundw
        case rel => exact ⟨j + 1, _, .inr hlt, by go_num, rfl, HB2⟩
        case measure => simp [intOf]; omega
    · have hltI : ¬ (j : Int) + 1 < (n : Int) := by omega
      have HT := Lib.hid (sorted_true (l := l) fun i hi => HX.out.2 i (by rw [HN.out] at hi; omega))
      go_wp2_with fail
      go_ret
      exact ⟨by rw [HT.out]; rfl, HX.out.1⟩
end Go.Proofs.YtmghcinbdfeeoaaGreat
