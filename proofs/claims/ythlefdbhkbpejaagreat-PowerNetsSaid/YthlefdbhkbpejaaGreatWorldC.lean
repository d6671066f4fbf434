/- Chapter 15: world.sorted, ascending. -/
import Derived.Test.YthlefdbhkbpejaaGreatSiteC
import Derived.Deep.RegionHeld3
namespace Go.Proofs.YthlefdbhkbpejaaGreat
open Go Go.RowKit

theorem betw_world (n lo hi : Int) (w : World) : Calls Tryz.prog 46 #[.int .i64 n, .int .i64 lo, .int .i64 hi] w fun e W' => e = .returned (.bool (inR n lo hi)) ∧ w = W' := by
  by_cases h1 : lo ≤ n
  · have e : inR n lo hi = decide (n ≤ hi) := by unfold inR; simp [h1]
    rw [e]
    clear e
    go_enter Tryz.func46, Tryz.ntmps46
    go_wp2_with fail
    go_ret
    exact ⟨rfl, rfl⟩
  · have e : inR n lo hi = false := by unfold inR; simp [h1]
    rw [e]
    clear e
    go_enter Tryz.func46, Tryz.ntmps46
    go_wp2_with fail
    go_ret
    exact ⟨rfl, rfl⟩
theorem spread_ok (x : Svc) (w : World) : Calls Tryz.prog 81 #[x.val] w fun e W' => e = .returned (.bool (spreadOk x)) ∧ Below w.heap.size w W' := by
  by_cases h0 : x.dom = 0
  · have HE := Lib.hid (show spreadOk x = decide (x.spread = 0) by unfold spreadOk; rw [if_pos h0])
    have hb : (x.dom == 0) = true := by simpa using h0
    clear h0
    go_enter Tryz.func81, Tryz.ntmps81
    go_wp2_with fail
    go_ret
    exact ⟨by rw [HE.out]; by_cases h : x.spread = 0 <;> simp [h], below_alloc (below_self w) _⟩
  · have hb : (x.dom == 0) = false := by simpa using h0
    by_cases h5 : x.dom ≤ 5
    · have HE := Lib.hid (show spreadOk x = inR x.spread 1 24 by unfold spreadOk; rw [if_neg h0, decide_eq_true h5, Bool.true_and])
      clear h0
      go_enter Tryz.func81, Tryz.ntmps81
      go_wp2_with fail
      refine (betw_world x.spread 1 24 _).mono ?_
      rintro e V ⟨rfl, rfl⟩
      obtain ⟨r, hr⟩ : ∃ r, inR x.spread 1 24 = r := ⟨_, rfl⟩
      rw [hr]
      have HR := Lib.hid hr
      clear hr
      go_wp2_with fail
      go_ret
      exact ⟨by rw [HE.out, HR.out]; rfl, below_alloc (below_self w) _⟩
    · have HE := Lib.hid (show spreadOk x = false by unfold spreadOk; rw [if_neg h0, decide_eq_false h5, Bool.false_and])
      clear h0
      go_enter Tryz.func81, Tryz.ntmps81
      go_wp2_with fail
      go_ret
      exact ⟨by rw [HE.out]; rfl, below_alloc (below_self w) _⟩
theorem nan_ok (n : Int) (w : World) : Calls Tryz.prog 117 #[.int .i64 n] w fun e W' => e = .returned (.bool false) ∧ w = W' := by
  go_enter Tryz.func117, Tryz.ntmps117
  go_wp2_with fail
  go_ret
  exact ⟨by simp, rfl⟩
def cmpI (a b : Int) : Int := if a < b then -1 else if b < a then 1 else 0
theorem compare_ok (a b : Int) (w : World) : Calls Tryz.prog 111 #[.int .i64 a, .int .i64 b] w fun e W' => e = .returned (.int .i64 (cmpI a b)) ∧ w = W' := by
  by_cases h1 : a < b
  · have HE := Lib.hid (show cmpI a b = -1 from if_pos h1)
    go_enter Tryz.func111, Tryz.ntmps111
    go_wp2_with fail
    refine (nan_ok a w).mono ?_
    rintro e V ⟨rfl, rfl⟩
    go_wp2_with fail
    refine (nan_ok b w).mono ?_
    rintro e V ⟨rfl, rfl⟩
    go_wp2_with fail
    go_ret
    exact ⟨by rw [HE.out]; rfl, rfl⟩
  · by_cases h2 : b < a
    · have HE := Lib.hid (show cmpI a b = 1 by unfold cmpI; rw [if_neg h1, if_pos h2])
      go_enter Tryz.func111, Tryz.ntmps111
      go_wp2_with fail
      refine (nan_ok a w).mono ?_
      rintro e V ⟨rfl, rfl⟩
      go_wp2_with fail
      refine (nan_ok b w).mono ?_
      rintro e V ⟨rfl, rfl⟩
      go_wp2_with fail
      go_ret
      exact ⟨by rw [HE.out]; rfl, rfl⟩
    · have HE := Lib.hid (show cmpI a b = 0 by unfold cmpI; rw [if_neg h1, if_neg h2])
      go_enter Tryz.func111, Tryz.ntmps111
      go_wp2_with fail
      refine (nan_ok a w).mono ?_
      rintro e V ⟨rfl, rfl⟩
      go_wp2_with fail
      refine (nan_ok b w).mono ?_
      rintro e V ⟨rfl, rfl⟩
      go_wp2_with fail
      go_ret
      exact ⟨by rw [HE.out]; rfl, rfl⟩
def orI (x y : Int) : Int := if x = 0 then y else x
set_option maxHeartbeats 1000000 in
theorem or_ok (g : Nat) (x y : Int) (w : World) (hg : w.heap[g]? = some (.cells #[.int .i64 x, .int .i64 y] 3 (0, 0))) : Calls Tryz.prog 110 #[.slice (some ⟨g, 0, none⟩) 2 2] w fun e W' => e = .returned (.int .i64 (orI x y)) ∧ w = W' := by
  have c0 := blk_cell hg 0
  have c1 := blk_cell hg 1
  simp at c0 c1
  clear hg
  by_cases h1 : x = 0
  · have HE := Lib.hid (show orI x y = y from if_pos h1)
    subst h1
    by_cases h2 : y = 0
    · have hb : (y != 0) = false := by simpa using h2
      have HY := Lib.hid h2
      clear h2
      go_enter Tryz.func110, Tryz.ntmps110
      go_wp2_with fail
      refine wp_loop_rounds 3 ?_
      rw [rounds_succ]; go_wp2_with fail
      rw [rounds_succ]; go_wp2_with fail
      rw [rounds_succ]; go_wp2_with fail
      go_ret
      exact ⟨by rw [HE.out, HY.out]; rfl, rfl⟩
    · have hb : (y != 0) = true := by simpa using h2
      clear h2
      go_enter Tryz.func110, Tryz.ntmps110
      go_wp2_with fail
      refine wp_loop_rounds 3 ?_
      rw [rounds_succ]; go_wp2_with fail
      rw [rounds_succ]; go_wp2_with fail
      go_ret
      exact ⟨by rw [HE.out]; rfl, rfl⟩
  · have HE := Lib.hid (show orI x y = x from if_neg h1)
    have hb : (x != 0) = true := by simpa using h1
    clear h1
    go_enter Tryz.func110, Tryz.ntmps110
    go_wp2_with fail
    refine wp_loop_rounds 3 ?_
    rw [rounds_succ]; go_wp2_with fail
    go_ret
    exact ⟨by rw [HE.out]; rfl, rfl⟩
end Go.Proofs.YthlefdbhkbpejaaGreat

namespace Go.Proofs.YthlefdbhkbpejaaGreat
open Go Go.RowKit

def ordR (a b : Rep) : Int := orI (cmpI a.svc b.svc) (cmpI a.host b.host)
theorem ordR_iff (a b : Rep) : 0 ≤ ordR a b ↔ repLt a b = false := by
  unfold ordR orI cmpI repLt
  by_cases h1 : a.svc < b.svc
  · simp [h1]
  · by_cases h2 : b.svc < a.svc
    · have : ¬ a.svc = b.svc := by omega
      simp [h1, h2, this]
    · have : a.svc = b.svc := by omega
      by_cases h3 : a.host < b.host
      · simp [this, h3]
      · by_cases h4 : b.host < a.host <;> simp [this, h3, h4]
set_option maxHeartbeats 1000000 in
theorem order_ok (a b : Rep) (w : World) : Calls Tryz.prog 88 #[a.val, b.val] w fun e W' => e = .returned (.int .i64 (ordR a b)) ∧ Below w.heap.size w W' := by
  obtain ⟨cx, hx⟩ : ∃ c, cmpI a.svc b.svc = c := ⟨_, rfl⟩
  obtain ⟨cy, hy⟩ : ∃ c, cmpI a.host b.host = c := ⟨_, rfl⟩
  have HX := Lib.hid (And.intro hx (And.intro hy (show ordR a b = orI cx cy by unfold ordR; rw [hx, hy])))
  clear hx hy
  go_enter Tryz.func88, Tryz.ntmps88
  go_wp2_with fail
  obtain ⟨A, hA⟩ : ∃ W' : World, ((w.alloc (.cells a.cells.toArray 81)).alloc (.cells b.cells.toArray 81)) = W' := ⟨_, rfl⟩
  have H : Has A [(w.heap.size + 1, .cells b.cells.toArray 81 (0, 0)), (w.heap.size, .cells a.cells.toArray 81 (0, 0))] := by rw [← hA]; simpa using (((Has.nil w).new _).new _)
  have s : A.heap.size = w.heap.size + 1 + 1 := by rw [← hA]; simp
  have bw : Below w.heap.size w A := by rw [← hA]; exact (below_alloc (below_alloc (below_self w) _) _)
  rw [hA]
  clear hA
  have kA : A.drew.cell? ⟨w.heap.size, 0, none⟩ = some (.int .i64 a.svc) ∧ A.drew.cell? ⟨w.heap.size, 1, none⟩ = some (.int .i64 a.host) ∧ A.drew.cell? ⟨w.heap.size + 1, 0, none⟩ = some (.int .i64 b.svc) ∧ A.drew.cell? ⟨w.heap.size + 1, 1, none⟩ = some (.int .i64 b.host) :=
    ⟨(blk_cell H.tl.hd 0).trans rfl, (blk_cell H.tl.hd 1).trans rfl, (blk_cell H.hd 0).trans rfl, (blk_cell H.hd 1).trans rfl⟩
  have hN : Has (A.alloc (.cells #[.int .i64 cx, .int .i64 cy] 3)) _ := H.alloc (.cells #[.int .i64 cx, .int .i64 cy] 3)
  have kB : (A.alloc (.cells #[.int .i64 cx, .int .i64 cy] 3)).drew.cell? ⟨w.heap.size, 0, none⟩ = some (.int .i64 a.svc) ∧ (A.alloc (.cells #[.int .i64 cx, .int .i64 cy] 3)).drew.cell? ⟨w.heap.size, 1, none⟩ = some (.int .i64 a.host) ∧ (A.alloc (.cells #[.int .i64 cx, .int .i64 cy] 3)).drew.cell? ⟨w.heap.size + 1, 0, none⟩ = some (.int .i64 b.svc) ∧ (A.alloc (.cells #[.int .i64 cx, .int .i64 cy] 3)).drew.cell? ⟨w.heap.size + 1, 1, none⟩ = some (.int .i64 b.host) :=
    ⟨(blk_cell hN.tl.hd 0).trans rfl, (blk_cell hN.tl.hd 1).trans rfl, (blk_cell hN.hd 0).trans rfl, (blk_cell hN.hd 1).trans rfl⟩
  have hnew : (A.alloc (.cells #[.int .i64 cx, .int .i64 cy] 3)).drew.heap[A.heap.size]? = some (.cells #[.int .i64 cx, .int .i64 cy] 3 (0, 0)) := blk_new A _
  have HB := Lib.hid (show Below w.heap.size w (A.alloc (.cells #[.int .i64 cx, .int .i64 cy] 3)).drew from (below_alloc bw _).drew)
  clear H s bw hN
  go_region_held3 (fun w' => w'.cell? ⟨w.heap.size, 0, none⟩ = some (.int .i64 a.svc) ∧ w'.cell? ⟨w.heap.size, 1, none⟩ = some (.int .i64 a.host) ∧ w'.cell? ⟨w.heap.size + 1, 0, none⟩ = some (.int .i64 b.svc) ∧ w'.cell? ⟨w.heap.size + 1, 1, none⟩ = some (.int .i64 b.host))
    ((first | (with_reducible exact kA) | (with_reducible exact kB)))
    (first
      | (go_at_call 111; (with_reducible refine (compare_ok a.svc b.svc A.drew).mono ?_); rintro e V ⟨rfl, rfl⟩; rw [HX.out.1])
      | (go_at_call 111; (with_reducible refine (compare_ok a.host b.host A.drew).mono ?_); rintro e V ⟨rfl, rfl⟩; rw [HX.out.2.1])
      | (go_at_call 110; (with_reducible refine (or_ok A.heap.size cx cy (A.alloc (.cells #[.int .i64 cx, .int .i64 cy] 3)).drew hnew).mono ?_); rintro e V ⟨rfl, rfl⟩))
  all_goals
    clear kA kB hnew
    go_wp2_with fail
    go_ret
    exact ⟨by rw [HX.out.2.2]; rfl, HB.out⟩
end Go.Proofs.YthlefdbhkbpejaaGreat

namespace Go.Proofs.YthlefdbhkbpejaaGreat
open Go Go.RowKit

theorem sorted_false {l : List Rep} {j : Nat} (hj : j + 1 < l.length) (h : repLt (l.getD j default) (l.getD (j + 1) default) = false) : sortedReps l = false := by
  unfold sortedReps
  rw [List.all_eq_false]
  exact ⟨j, by simp; omega, by rw [h]; simp⟩
theorem sorted_true {l : List Rep} (h : ∀ j, j + 1 < l.length → repLt (l.getD j default) (l.getD (j + 1) default) = true) : sortedReps l = true := by
  unfold sortedReps
  rw [List.all_eq_true]
  intro j hj
  exact h j (by simp at hj; omega)
set_option maxHeartbeats 2000000 in
theorem sorted_ok (q : Hd) (l : List Rep) (w : World) (hr : Reads w q 2 l.length (Rps l)) : Calls Tryz.prog 44 #[.slice q.1 q.2.1 q.2.2] w fun e W' => e = .returned (.bool (sortedReps l)) ∧ Below w.heap.size w W' := by
  obtain ⟨a, n, c⟩ := q
  have HR := Lib.hid hr
  have hn : l.length = n := hr.len
  have hnl : n ≤ 9223372036854775807 := hr.le
  have HN := Lib.hid hn
  clear hr hn
  go_enter Tryz.func44, Tryz.ntmps44
  go_wp2_with fail
  go_loopw [3] (fun i wr => ∃ (j : Nat) (X : World), (j = 0 ∨ j < n) ∧ i = .int .i64 ((j : Int) + 1) ∧ X = wr ∧ Hid (Below w.heap.size w X ∧ ∀ i, i < j → repLt (l.getD i default) (l.getD (i + 1) default) = true)) (fun i _ => n + 1 - (intOf i).toNat)
  case atStart => exact ⟨0, _, .inl rfl, rfl, rfl, Lib.hid ⟨below_self w, fun i hi => by omega⟩⟩
  case round =>
    obtain ⟨j, X, hj, rfl, rfl, HX⟩ := hrel
    by_cases hlt : j + 1 < n
    · have hltI : (j : Int) + 1 < (n : Int) := by omega
      obtain ⟨b1, o1, rfl, hb1, p0, p1⟩ := rps_at (HR.out.rows.later HX.out.1) j (by rw [HN.out]; omega)
      obtain ⟨b2, o2, he, hb2, p2, p3⟩ := rps_at (HR.out.rows.later HX.out.1) (j + 1) (by rw [HN.out]; omega)
      cases he
      generalize hx : l.getD j default = x at p0 p1
      generalize hy : l.getD (j + 1) default = y at p2 p3
      have HXY := Lib.hid (And.intro hx hy)
      clear hx hy hb2
      have hw1 : IntKind.i64.wrap ((j : Int) + 1 - 1) = (j : Int) := by rw [IntWalk.i64_in _ (by omega)]; omega
      have hw2 : IntKind.i64.wrap (j : Int) = (j : Int) := IntWalk.i64_in _ (by omega)
      have hj0 : (0 : Int) ≤ (j : Int) := by omega
      have hjn : (j : Int) < (n : Int) := by omega
      have hj1 : (0 : Int) ≤ (j : Int) + 1 := by omega
      have kA : X.drew.cell? ⟨b1, o1 + j * 2, none⟩ = some (.int .i64 x.svc) ∧ X.drew.cell? ⟨b1, o1 + j * 2 + 1, none⟩ = some (.int .i64 x.host) ∧ X.drew.cell? ⟨b1, o1 + (j + 1) * 2, none⟩ = some (.int .i64 y.svc) ∧ X.drew.cell? ⟨b1, o1 + (j + 1) * 2 + 1, none⟩ = some (.int .i64 y.host) := ⟨p0, p1, p2, p3⟩
      have HB := Lib.hid hb1
      clear p0 p1 p2 p3 hb1
      obtain ⟨r, hr⟩ : ∃ r, ordR x y = r := ⟨_, rfl⟩
      have HO := Lib.hid hr
      have HO2 := Lib.hid (show 0 ≤ r ↔ repLt x y = false by rw [← hr]; exact ordR_iff x y)
      clear hr
      have hlt1 : b1 < X.drew.heap.size := HB.out
      have hkk : ∀ W, Below X.drew.heap.size X.drew W → W.cell? ⟨b1, o1 + j * 2, none⟩ = some (.int .i64 x.svc) ∧ W.cell? ⟨b1, o1 + j * 2 + 1, none⟩ = some (.int .i64 x.host) ∧ W.cell? ⟨b1, o1 + (j + 1) * 2, none⟩ = some (.int .i64 y.svc) ∧ W.cell? ⟨b1, o1 + (j + 1) * 2 + 1, none⟩ = some (.int .i64 y.host) := fun W h =>
        ⟨cell_call h (a := ⟨b1, o1 + j * 2, none⟩) hlt1 kA.1, cell_call h (a := ⟨b1, o1 + j * 2 + 1, none⟩) hlt1 kA.2.1, cell_call h (a := ⟨b1, o1 + (j + 1) * 2, none⟩) hlt1 kA.2.2.1, cell_call h (a := ⟨b1, o1 + (j + 1) * 2 + 1, none⟩) hlt1 kA.2.2.2⟩
      have HK := Lib.hid hkk
      clear hkk hlt1
      by_cases hge : 0 ≤ r
      · have HF := Lib.hid (sorted_false (l := l) (j := j) (by rw [HN.out]; exact hlt) (by rw [HXY.out.1, HXY.out.2]; exact HO2.out.1 hge))
        go_wp2_with fail
        go_region_held3 (fun w' => w'.cell? ⟨b1, o1 + j * 2, none⟩ = some (.int .i64 x.svc) ∧ w'.cell? ⟨b1, o1 + j * 2 + 1, none⟩ = some (.int .i64 x.host) ∧ w'.cell? ⟨b1, o1 + (j + 1) * 2, none⟩ = some (.int .i64 y.svc) ∧ w'.cell? ⟨b1, o1 + (j + 1) * 2 + 1, none⟩ = some (.int .i64 y.host))
          ((first | (with_reducible exact kA) | (with_reducible exact kZ)))
          (first
            | (go_at_call 88; (with_reducible refine (order_ok x y X.drew).mono ?_); rintro e Z ⟨rfl, hb⟩; rw [HO.out]; have kZ := HK.out _ hb; have HZ := Lib.hid hb; clear hb))
        have HB2 := Lib.hid (below_trans (HX.out.1.drew) HZ.out)
        clear kA kZ HK HZ HX
        go_wp2_with fail
        go_ret
        exact ⟨by rw [HF.out]; rfl, HB2.out⟩
      · have hgd : decide (0 ≤ r) = false := decide_eq_false hge
        have HT := Lib.hid (show repLt (l.getD j default) (l.getD (j + 1) default) = true by
          rw [HXY.out.1, HXY.out.2]
          cases hq : repLt x y
          · exact absurd (HO2.out.2 hq) hge
          · rfl)
        go_wp2_with fail
        go_region_held3 (fun w' => w'.cell? ⟨b1, o1 + j * 2, none⟩ = some (.int .i64 x.svc) ∧ w'.cell? ⟨b1, o1 + j * 2 + 1, none⟩ = some (.int .i64 x.host) ∧ w'.cell? ⟨b1, o1 + (j + 1) * 2, none⟩ = some (.int .i64 y.svc) ∧ w'.cell? ⟨b1, o1 + (j + 1) * 2 + 1, none⟩ = some (.int .i64 y.host))
          ((first | (with_reducible exact kA) | (with_reducible exact kZ)))
          (first
            | (go_at_call 88; (with_reducible refine (order_ok x y X.drew).mono ?_); rintro e Z ⟨rfl, hb⟩; rw [HO.out]; have kZ := HK.out _ hb; have HZ := Lib.hid hb; clear hb))
        have HB2 := Lib.hid (show Below w.heap.size w Z ∧ ∀ i, i < j + 1 → repLt (l.getD i default) (l.getD (i + 1) default) = true from ⟨below_trans (HX.out.1.drew) HZ.out, fun i hi => by
          by_cases e : i = j
          · subst e; exact HT.out
          · exact HX.out.2 i (by omega)⟩)
        clear kA kZ HK HZ HX
        go_wp2_with fail
        go_roundw
        case rel => exact ⟨j + 1, _, .inr hlt, by go_num, rfl, HB2⟩
        case measure => simp [intOf]; omega
    · have hltI : ¬ (j : Int) + 1 < (n : Int) := by omega
      have HT := Lib.hid (sorted_true (l := l) fun i hi => HX.out.2 i (by rw [HN.out] at hi; omega))
      go_wp2_with fail
      go_ret
      exact ⟨by rw [HT.out]; rfl, HX.out.1⟩
end Go.Proofs.YthlefdbhkbpejaaGreat
