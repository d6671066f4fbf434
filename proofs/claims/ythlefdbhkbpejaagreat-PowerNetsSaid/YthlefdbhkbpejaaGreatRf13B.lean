/- Chapter 15: the reference's Less, Ascending, ValidWish (written by wip/gen15ref13b.py). -/
import Derived.Test.YthlefdbhkbpejaaGreatRf13A
import Derived.Test.YthlefdbhkbpejaaGreatWorldC
import Derived.Test.YthlefdbhkbpejaaGreatWish
namespace Go.Proofs.YthlefdbhkbpejaaGreat
open Go Go.RowKit
set_option linter.unusedSimpArgs false

theorem less_ref (a b : Rep) (w : World) : Calls Tryz.prog 64 #[a.val, b.val] w fun e W' => e = .returned (.bool (repLt a b)) ∧ Below w.heap.size w W' := by
  by_cases h1 : a.svc < b.svc
  · have HE := Lib.hid (show repLt a b = true by unfold repLt; rw [decide_eq_true h1]; rfl)
    go_enter Tryz.func64, Tryz.ntmps64
    go_wp2_with fail
    go_ret
    exact ⟨by rw [HE.out]; rfl, below_alloc (below_alloc (below_self w) _) _⟩
  · by_cases h2 : a.svc = b.svc
    · have h2B : (a.svc == b.svc) = true := beq_iff_eq.2 h2
      have HE := Lib.hid (show repLt a b = decide (a.host < b.host) by unfold repLt; rw [decide_eq_false h1, decide_eq_true h2]; simp)
      have h1D : decide (a.svc < b.svc) = false := decide_eq_false h1
      have b0 := below_alloc (below_alloc (below_self w) (.cells a.cells.toArray 81)) (.cells b.cells.toArray 81)
      obtain ⟨ra, ha⟩ := a
      obtain ⟨rb, hb⟩ := b
      simp only at h1 h2 HE h2B h1D b0
      subst h2
      go_enter Tryz.func64, Tryz.ntmps64
      go_wp2_with fail
      go_ret
      exact ⟨by rw [HE.out]; rfl, b0⟩
    · have h2B : (a.svc == b.svc) = false := beq_eq_false_iff_ne.2 h2
      have HE := Lib.hid (show repLt a b = false by unfold repLt; rw [decide_eq_false h1, decide_eq_false h2]; simp)
      go_enter Tryz.func64, Tryz.ntmps64
      go_wp2_with fail
      go_ret
      exact ⟨by rw [HE.out]; rfl, below_alloc (below_alloc (below_self w) _) _⟩
set_option maxHeartbeats 2000000 in
theorem ascending_ref (q : Hd) (l : List Rep) (w : World) (hr : Reads w q 2 l.length (Rps l)) : Calls Tryz.prog 41 #[.slice q.1 q.2.1 q.2.2] w fun e W' => e = .returned (.bool (sortedReps l)) ∧ Below w.heap.size w W' := by
  obtain ⟨a, n, c⟩ := q
  have HR := Lib.hid hr
  have hn : l.length = n := hr.len
  have hnl : n ≤ 9223372036854775807 := hr.le
  have HN := Lib.hid hn
  clear hr hn
  go_enter Tryz.func41, Tryz.ntmps41
  go_wp2_with fail
  go_loopw [3] (fun i wr => ∃ (j : Nat) (X : World), (j = 0 ∨ j < n) ∧ i = .int .i64 ((j : Int) + 1) ∧ X = wr ∧ Hid (Below w.heap.size w X ∧ ∀ i, i < j → repLt (l.getD i default) (l.getD (i + 1) default) = true)) (fun i _ => n + 1 - (intOf i).toNat)
  case atStart => exact ⟨0, _, .inl rfl, rfl, rfl, Lib.hid ⟨below_self w, fun i hi => by omega⟩⟩
  case round =>
    obtain ⟨j, X, hj, rfl, rfl, HX⟩ := hrel
    by_cases hlt : j + 1 < n
    · have hltI : (j : Int) + 1 < (n : Int) := by omega
      obtain ⟨b1, o1, rfl, hb1, p0, p1⟩ := rps_at (HR.out.rows.later HX.out.1) j (by rw [HN.out]; omega)
      obtain ⟨b2, o2, he, hb2, p2, p3⟩ := rps_at (HR.out.rows.later HX.out.1) (j + 1) (by rw [HN.out]; omega)
      cases he
      generalize hx : l.getD j default = x at p0 p1
      generalize hy : l.getD (j + 1) default = y at p2 p3
      have HXY := Lib.hid (And.intro hx hy)
      clear hx hy hb2
      have hw1 : IntKind.i64.wrap ((j : Int) + 1 - 1) = (j : Int) := by rw [IntWalk.i64_in _ (by omega)]; omega
      have hw2 : IntKind.i64.wrap (j : Int) = (j : Int) := IntWalk.i64_in _ (by omega)
      have hj0 : (0 : Int) ≤ (j : Int) := by omega
      have hjn : (j : Int) < (n : Int) := by omega
      have hj1 : (0 : Int) ≤ (j : Int) + 1 := by omega
      have kA : X.drew.cell? ⟨b1, o1 + j * 2, none⟩ = some (.int .i64 x.svc) ∧ X.drew.cell? ⟨b1, o1 + j * 2 + 1, none⟩ = some (.int .i64 x.host) ∧ X.drew.cell? ⟨b1, o1 + (j + 1) * 2, none⟩ = some (.int .i64 y.svc) ∧ X.drew.cell? ⟨b1, o1 + (j + 1) * 2 + 1, none⟩ = some (.int .i64 y.host) := ⟨p0, p1, p2, p3⟩
      have HB := Lib.hid hb1
      clear p0 p1 p2 p3 hb1
      obtain ⟨r, hr⟩ : ∃ r, repLt x y = r := ⟨_, rfl⟩
      have HO := Lib.hid hr
      clear hr
      have hlt1 : b1 < X.drew.heap.size := HB.out
      have hkk : ∀ W, Below X.drew.heap.size X.drew W → W.cell? ⟨b1, o1 + j * 2, none⟩ = some (.int .i64 x.svc) ∧ W.cell? ⟨b1, o1 + j * 2 + 1, none⟩ = some (.int .i64 x.host) ∧ W.cell? ⟨b1, o1 + (j + 1) * 2, none⟩ = some (.int .i64 y.svc) ∧ W.cell? ⟨b1, o1 + (j + 1) * 2 + 1, none⟩ = some (.int .i64 y.host) := fun W h =>
        ⟨cell_call h (a := ⟨b1, o1 + j * 2, none⟩) hlt1 kA.1, cell_call h (a := ⟨b1, o1 + j * 2 + 1, none⟩) hlt1 kA.2.1, cell_call h (a := ⟨b1, o1 + (j + 1) * 2, none⟩) hlt1 kA.2.2.1, cell_call h (a := ⟨b1, o1 + (j + 1) * 2 + 1, none⟩) hlt1 kA.2.2.2⟩
      have HK := Lib.hid hkk
      clear hkk hlt1
      cases r
      · have HF := Lib.hid (sorted_false (l := l) (j := j) (by rw [HN.out]; exact hlt) (by rw [HXY.out.1, HXY.out.2]; exact HO.out))
        go_wp2_with fail
        go_region_held3 (fun w' => w'.cell? ⟨b1, o1 + j * 2, none⟩ = some (.int .i64 x.svc) ∧ w'.cell? ⟨b1, o1 + j * 2 + 1, none⟩ = some (.int .i64 x.host) ∧ w'.cell? ⟨b1, o1 + (j + 1) * 2, none⟩ = some (.int .i64 y.svc) ∧ w'.cell? ⟨b1, o1 + (j + 1) * 2 + 1, none⟩ = some (.int .i64 y.host))
          ((first | (with_reducible exact kA) | (with_reducible exact kZ)))
          (first
            | (go_at_call 64; (with_reducible refine (less_ref x y X.drew).mono ?_); rintro e Z ⟨rfl, hb⟩; rw [HO.out]; have kZ := HK.out _ hb; have HZ := Lib.hid hb; clear hb))
        have HB2 := Lib.hid (below_trans (HX.out.1.drew) HZ.out)
        clear kA kZ HK HZ HX
        go_wp2_with fail
        go_ret
        exact ⟨by rw [HF.out]; rfl, HB2.out⟩
      · have HT := Lib.hid (show repLt (l.getD j default) (l.getD (j + 1) default) = true by rw [HXY.out.1, HXY.out.2]; exact HO.out)
        go_wp2_with fail
        go_region_held3 (fun w' => w'.cell? ⟨b1, o1 + j * 2, none⟩ = some (.int .i64 x.svc) ∧ w'.cell? ⟨b1, o1 + j * 2 + 1, none⟩ = some (.int .i64 x.host) ∧ w'.cell? ⟨b1, o1 + (j + 1) * 2, none⟩ = some (.int .i64 y.svc) ∧ w'.cell? ⟨b1, o1 + (j + 1) * 2 + 1, none⟩ = some (.int .i64 y.host))
          ((first | (with_reducible exact kA) | (with_reducible exact kZ)))
          (first
            | (go_at_call 64; (with_reducible refine (less_ref x y X.drew).mono ?_); rintro e Z ⟨rfl, hb⟩; rw [HO.out]; have kZ := HK.out _ hb; have HZ := Lib.hid hb; clear hb))
        have HB2 := Lib.hid (show Below w.heap.size w Z ∧ ∀ i, i < j + 1 → repLt (l.getD i default) (l.getD (i + 1) default) = true from ⟨below_trans (HX.out.1.drew) HZ.out, fun i hi => by
          by_cases e : i = j
          · subst e; exact HT.out
          · exact HX.out.2 i (by omega)⟩)
        clear kA kZ HK HZ HX
        go_wp2_with fail
        go_roundw
        case rel => exact ⟨j + 1, _, .inr hlt, by go_num, rfl, HB2⟩
        case measure => simp [intOf]; omega
    · have hltI : ¬ (j : Int) + 1 < (n : Int) := by omega
      have HT := Lib.hid (sorted_true (l := l) fun i hi => HX.out.2 i (by rw [HN.out] at hi; omega))
      go_wp2_with fail
      go_ret
      exact ⟨by rw [HT.out]; rfl, HX.out.1⟩

theorem wish_bad {x : Wish} {k : Nat} (hk : k < x.svcs.length) (h : svcOk x.svcs.length k (x.svcs.getD k default) = false) : wishOk x = false := by
  unfold wishOk
  have : (List.range x.svcs.length).all (fun i => svcOk x.svcs.length i (x.svcs.getD i default)) = false := by
    rw [List.all_eq_false]
    exact ⟨k, by simpa using hk, by rw [h]; simp⟩
  rw [this]; simp
set_option maxRecDepth 10000 in
set_option maxHeartbeats 4000000 in
theorem wish_ref (x : Wish) (w : World) (hx : x.At w) : Calls Tryz.prog 40 #[x.val] w fun e W' => e = .returned (.bool (wishOk x)) ∧ Below w.heap.size w W' := by
  have HI := Lib.hid hx
  have n0 : x.svcs.length = x.sh.2.1 := hx.svcs.len
  have l0 := hx.svcs.le
  have HN := Lib.hid n0
  clear hx n0
  go_enter Tryz.func40, Tryz.ntmps40
  by_cases c0 : x.sh.2.1 ≤ 8
  · have c0I : ((x.sh.2.1 : Nat) : Int) ≤ 8 := by omega
    go_wp2_with fail
    obtain ⟨A, hA⟩ : ∃ W' : World, (w.alloc (.cells x.cells.toArray 32)) = W' := ⟨_, rfl⟩
    have h : Has A [(w.heap.size, .cells x.cells.toArray 32 (0, 0))] := by rw [← hA]; simpa using ((Has.nil w).new _)
    have z : A.heap.size = w.heap.size + 1 := by rw [← hA]; simp
    have b : Below w.heap.size w A := by rw [← hA]; exact (below_alloc (below_self w) _)
    rw [hA]
    clear hA
    have HA := Lib.hid (And.intro h.hd b)
    clear h z b
    go_loopw [3, 4] (fun sv i wr => ∃ (k : Nat) (X : World), k ≤ x.sh.2.1 ∧ sv = .int .i64 (sumReps (x.svcs.take k)) ∧ i = .int .i64 k ∧ X = wr ∧ Hid (X.heap[w.heap.size]? = some (.cells x.cells.toArray 32 (0, 0)) ∧ Below w.heap.size w X) ∧ Hid (∀ i, i < k → svcOk x.svcs.length i (x.svcs.getD i default) = true)) (fun _ i _ => x.sh.2.1 - (intOf i).toNat)
    case atStart => exact ⟨0, _, Nat.zero_le _, rfl, rfl, rfl, HA, Lib.hid (fun i hi => absurd hi (Nat.not_lt_zero _))⟩
    case round =>
      obtain ⟨k, X, hk, rfl, rfl, rfl, HX, HJ⟩ := hrel
      have d0 : X.cell? ⟨w.heap.size, 0, none⟩ = some (.slice x.sh.1 x.sh.2.1 x.sh.2.2) := (blk_cell HX.out.1 0).trans rfl
      have dl := blk_lt HX.out.1
      by_cases hlt : k < x.sh.2.1
      · have hltI : (k : Int) < (x.sh.2.1 : Int) := by omega
        have HK := Lib.hid (show k < x.svcs.length by rw [HN.out]; exact hlt)
        have hS := sumReps_succ HK.out
        have hbd := sumReps_le (l := x.svcs) k (Nat.le_of_lt HK.out) fun i hi => svcOk_reps (HJ.out i hi)
        obtain ⟨S, hs⟩ : ∃ S, sumReps (x.svcs.take k) = S := ⟨_, rfl⟩
        rw [hs] at hS hbd ⊢
        have HS := Lib.hid (And.intro hS hbd)
        clear hS hbd hs
        go_wp2_with fail
        refine (service_ref x k X (HI.out.later HX.out.2) HK.out).mono ?_
        rintro e Y ⟨rfl, b⟩
        have HY := Lib.hid (And.intro (blk_below HX.out.1 b) (below_trans HX.out.2 b))
        clear b d0 dl
        cases hq : svcOk x.svcs.length k (x.svcs.getD k default)
        · have HF := Lib.hid (wish_bad HK.out hq)
          clear hq
          go_wp2_with fail
          go_ret
          exact ⟨by rw [HF.out]; rfl, HY.out.2⟩
        · have HT := Lib.hid (show ∀ i, i < k + 1 → svcOk x.svcs.length i (x.svcs.getD i default) = true from fun i hi => by
            by_cases e : i = k
            · rw [e]; exact hq
            · exact HJ.out i (by omega))
          obtain ⟨b1, o1, q1, _, hc⟩ := svs_at ((HI.out.later HY.out.2).svcs.rows) k HK.out
          have c1 : Y.cell? ⟨b1, o1 + k * 8 + 1, none⟩ = some (.int .i64 (x.svcs.getD k default).reps) := hc 1 _ rfl
          have hr := inR_iff.1 (svcOk_reps hq)
          have d0 : Y.cell? ⟨w.heap.size, 0, none⟩ = some (.slice x.sh.1 x.sh.2.1 x.sh.2.2) := (blk_cell HY.out.1 0).trans rfl
          have dl := blk_lt HY.out.1
          rw [q1] at d0
          obtain ⟨g, hg⟩ : ∃ g, (x.svcs.getD k default).reps = g := ⟨_, rfl⟩
          rw [hg] at c1 hr
          have HG := Lib.hid (show sumReps (x.svcs.take (k + 1)) = S + g by rw [HS.out.1, hg])
          have hw : IntKind.i64.wrap (S + g) = S + g := IntWalk.i64_in _ (by have := HS.out.2; omega)
          clear hq q1 hc hr hg
          go_wp2_with fail
          go_roundw
          case rel => exact ⟨k + 1, _, by omega, by rw [HG.out], by go_num, rfl, HY, HT⟩
          case measure => simp [intOf]; omega
      · have hltI : ¬ (k : Int) < (x.sh.2.1 : Int) := by omega
        have HF := Lib.hid (show wishOk x = decide (sumReps (x.svcs.take k) ≤ 24) by
          rw [wish_all (by rw [HN.out]; exact c0) (fun i hi => HJ.out i (by rw [HN.out] at hi; omega)), List.take_of_length_le (by rw [HN.out]; omega)])
        obtain ⟨S, hs⟩ : ∃ S, sumReps (x.svcs.take k) = S := ⟨_, rfl⟩
        rw [hs] at HF ⊢
        clear hs
        go_wp2_with fail
        go_ret
        exact ⟨by rw [HF.out]; rfl, HX.out.2⟩
  · have c0I : ¬ ((x.sh.2.1 : Nat) : Int) ≤ 8 := by omega
    have HF := Lib.hid (show wishOk x = false by unfold wishOk; rw [decide_eq_false (p := x.svcs.length ≤ 8) (by rw [HN.out]; exact c0)]; simp)
    go_wp2_with fail
    go_ret
    exact ⟨by rw [HF.out]; rfl, below_alloc (below_self w) _⟩
end Go.Proofs.YthlefdbhkbpejaaGreat
