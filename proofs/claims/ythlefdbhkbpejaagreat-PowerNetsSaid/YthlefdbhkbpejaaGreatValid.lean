/- Chapter 15: world.Valid (written by wip/gen15valid.py). -/
import Derived.Test.YthlefdbhkbpejaaGreatWish
namespace Go.Proofs.YthlefdbhkbpejaaGreat
open Go Go.RowKit
set_option linter.unusedSimpArgs false

theorem hst_bad (x : HSt) (w : World) : Calls Tryz.prog 45 #[x.val] w fun e W' => e = .returned (.bool (!okHs x)) ∧ Below w.heap.size w W' := by
  obtain ⟨r, h⟩ : ∃ r, inR x.firm 0 1000000 = r := ⟨_, rfl⟩
  have H := Lib.hid h
  clear h
  by_cases h4 : x.phase ≤ 4
  · have HE := Lib.hid (show okHs x = r by unfold okHs; simp [h4, H.out])
    have h4b : decide (4 < x.phase) = false := decide_eq_false (by omega)
    go_enter Tryz.func45, Tryz.ntmps45
    go_wp2_with fail
    refine (betw_world x.firm 0 1000000 _).mono ?_
    rintro e V ⟨rfl, rfl⟩
    rw [H.out]
    go_wp2_with fail
    go_ret
    exact ⟨by rw [HE.out]; rfl, below_alloc (below_self w) _⟩
  · have HE := Lib.hid (show okHs x = false by unfold okHs; simp [h4])
    have h4b : 4 < x.phase := by omega
    go_enter Tryz.func45, Tryz.ntmps45
    go_wp2_with fail
    go_ret
    exact ⟨by rw [HE.out]; rfl, below_alloc (below_self w) _⟩
theorem rep_bad (x : Rep) (B C : Nat) (q r : Hd) (w : World) (hB : B < w.heap.size) (hC : C < w.heap.size) (c0 : w.cell? ⟨B, 0, none⟩ = some (.slice q.1 q.2.1 q.2.2)) (c6 : w.cell? ⟨C, 6, none⟩ = some (.slice r.1 r.2.1 r.2.2)) (hq : q.2.1 ≤ 9223372036854775807) (hr : r.2.1 ≤ 9223372036854775807) :
    Calls Tryz.prog 47 #[x.val, .pointer (some ⟨B, 0, none⟩), .pointer (some ⟨C, 0, none⟩)] w fun e W' => e = .returned (.bool (!okRp q.2.1 r.2.1 x)) ∧ Below w.heap.size w W' := by
  have hw1 : IntKind.i64.wrap ((q.2.1 : Int) - 1) = (q.2.1 : Int) - 1 := IntWalk.i64_in _ (by omega)
  have hw2 : IntKind.i64.wrap ((r.2.1 : Int) - 1) = (r.2.1 : Int) - 1 := IntWalk.i64_in _ (by omega)
  obtain ⟨r0, h0⟩ : ∃ b, inR x.svc 0 ((q.2.1 : Int) - 1) = b := ⟨_, rfl⟩
  obtain ⟨r1, h1⟩ : ∃ b, inR x.host 0 ((r.2.1 : Int) - 1) = b := ⟨_, rfl⟩
  have H0 := Lib.hid h0
  have H1 := Lib.hid h1
  clear h0 h1
  go_enter Tryz.func47, Tryz.ntmps47
  go_wp2_with fail
  refine (betw_world x.svc 0 ((q.2.1 : Int) - 1) _).mono ?_
  rintro e V ⟨rfl, rfl⟩
  rw [H0.out]
  cases r0
  · have HE := Lib.hid (show okRp q.2.1 r.2.1 x = false by unfold okRp; simp [H0.out])
    go_wp2_with fail
    go_ret
    exact ⟨by rw [HE.out]; rfl, below_alloc (below_self w) _⟩
  · go_wp2_with fail
    refine (betw_world x.host 0 ((r.2.1 : Int) - 1) _).mono ?_
    rintro e V ⟨rfl, rfl⟩
    rw [H1.out]
    have HE := Lib.hid (show okRp q.2.1 r.2.1 x = r1 by unfold okRp; simp [H0.out, H1.out])
    go_wp2_with fail
    go_ret
    exact ⟨by rw [HE.out]; rfl, below_alloc (below_self w) _⟩

set_option maxHeartbeats 4000000 in
theorem world_ok (s : Site) (x : Wish) (v : Wld) (w : World) (hs : s.At w) (hx : x.At w) (hv : v.At w) : Calls Tryz.prog 32 #[s.val, x.val, v.val] w fun e W' => e = .returned (.bool (worldOk s x v)) ∧ Below w.heap.size w W' := by
  have HI := Lib.hid (And.intro hs (And.intro hx hv))
  clear hs hx hv
  have hle : s.hh.2.1 ≤ 9223372036854775807 ∧ x.sh.2.1 ≤ 9223372036854775807 ∧ v.hh.2.1 ≤ 9223372036854775807 ∧ v.rh.2.1 ≤ 9223372036854775807 := ⟨HI.out.1.hosts.le, HI.out.2.1.svcs.le, HI.out.2.2.hosts.le, HI.out.2.2.reps.le⟩
  obtain ⟨l1, l2, l3, l4⟩ := hle
  have HL := Lib.hid (And.intro HI.out.1.hosts.len (And.intro HI.out.2.1.svcs.len (And.intro HI.out.2.2.hosts.len HI.out.2.2.reps.len)))
  obtain ⟨r0, h0⟩ : ∃ r, (siteOk s : Bool) = r := ⟨_, rfl⟩
  have H0 := Lib.hid h0
  clear h0
  obtain ⟨r1, h1⟩ : ∃ r, (wishOk x : Bool) = r := ⟨_, rfl⟩
  have H1 := Lib.hid h1
  clear h1
  obtain ⟨r2, h2⟩ : ∃ r, (sortedReps v.reps : Bool) = r := ⟨_, rfl⟩
  have H2 := Lib.hid h2
  clear h2
  obtain ⟨r3, h3⟩ : ∃ r, (v.hosts.all okHs : Bool) = r := ⟨_, rfl⟩
  have H3 := Lib.hid h3
  clear h3
  obtain ⟨r4, h4⟩ : ∃ r, (v.reps.all (okRp x.sh.2.1 s.hh.2.1) : Bool) = r := ⟨_, rfl⟩
  have H4 := Lib.hid h4
  clear h4
  have HE := Lib.hid (show worldOk s x v = (r0 && (r1 && (decide (v.hh.2.1 = s.hh.2.1) && (decide (v.rh.2.1 ≤ 24) && (r2 && (r3 && r4)))))) by
    unfold worldOk
    rw [HL.out.1, HL.out.2.1, HL.out.2.2.1, HL.out.2.2.2, H0.out, H1.out, H2.out, H3.out, H4.out]
    simp [Bool.and_assoc])
  go_enter Tryz.func32, Tryz.ntmps32
  go_wp2_with fail
  obtain ⟨A, hA⟩ : ∃ W' : World, (((w.alloc (.cells s.cells.toArray 29)).alloc (.cells x.cells.toArray 32)).alloc (.cells v.cells.toArray 36)) = W' := ⟨_, rfl⟩
  have h : Has A [(w.heap.size + 1 + 1, .cells v.cells.toArray 36 (0, 0)), (w.heap.size + 1, .cells x.cells.toArray 32 (0, 0)), (w.heap.size, .cells s.cells.toArray 29 (0, 0))] := by rw [← hA]; simpa using ((((Has.nil w).new _).new _).new _)
  have z : A.heap.size = w.heap.size + 1 + 1 + 1 := by rw [← hA]; simp
  have b : Below w.heap.size w A := by rw [← hA]; exact (below_alloc (below_alloc (below_alloc (below_self w) _) _) _)
  rw [hA]
  clear hA
  have HZ := Lib.hid (show A.heap[w.heap.size]? = some (.cells s.cells.toArray 29 (0, 0)) ∧ A.heap[w.heap.size + 1]? = some (.cells x.cells.toArray 32 (0, 0)) ∧ A.heap[w.heap.size + 1 + 1]? = some (.cells v.cells.toArray 36 (0, 0)) ∧ Below w.heap.size w A from ⟨h.tl.tl.hd, h.tl.hd, h.hd, b⟩)
  clear h z b
  go_wp2_with fail
  refine (site_ok s A (HI.out.1.later HZ.out.2.2.2)).mono ?_
  rintro e V0 ⟨rfl, hb⟩
  have HZ0 := Lib.hid (And.intro (blk_below HZ.out.1 hb) (And.intro (blk_below HZ.out.2.1 hb) (And.intro (blk_below HZ.out.2.2.1 hb) (below_trans HZ.out.2.2.2 hb))))
  clear hb  HZ
  rw [H0.out]
  cases r0
  · have HF := Lib.hid (show worldOk s x v = false by rw [HE.out]; simp)
    go_wp2_with fail
    go_ret
    exact ⟨by rw [HF.out]; rfl, HZ0.out.2.2.2⟩
  · skip
    have d0 : _ = some (Value.slice x.sh.1 x.sh.2.1 x.sh.2.2) := (blk_cell HZ0.out.2.1 0).trans rfl
    have dl := blk_lt HZ0.out.2.1
    go_wp2_with fail
    refine (validwish_ok x V0 (HI.out.2.1.later HZ0.out.2.2.2)).mono ?_
    rintro e V1 ⟨rfl, hb⟩
    have HZ1 := Lib.hid (And.intro (blk_below HZ0.out.1 hb) (And.intro (blk_below HZ0.out.2.1 hb) (And.intro (blk_below HZ0.out.2.2.1 hb) (below_trans HZ0.out.2.2.2 hb))))
    clear hb d0 dl HZ0
    rw [H1.out]
    cases r1
    · have HF := Lib.hid (show worldOk s x v = false by rw [HE.out]; simp)
      go_wp2_with fail
      go_ret
      exact ⟨by rw [HF.out]; rfl, HZ1.out.2.2.2⟩
    · skip
      have e0 : _ = some (Value.slice v.hh.1 v.hh.2.1 v.hh.2.2) := (blk_cell HZ1.out.2.2.1 0).trans rfl
      have e1 : _ = some (Value.slice v.rh.1 v.rh.2.1 v.rh.2.2) := (blk_cell HZ1.out.2.2.1 1).trans rfl
      have e6 : _ = some (Value.slice s.hh.1 s.hh.2.1 s.hh.2.2) := (blk_cell HZ1.out.1 6).trans rfl
      have el := blk_lt HZ1.out.1
      have em := blk_lt HZ1.out.2.2.1
      by_cases hh : v.hh.2.1 = s.hh.2.1
      rotate_left
      · have HF := Lib.hid (show worldOk s x v = false by rw [HE.out, decide_eq_false hh]; simp)
        have hhb : ((v.hh.2.1 : Int) != (s.hh.2.1 : Int)) = true := by simp; omega
        go_wp2_with fail
        go_ret
        exact ⟨by rw [HF.out]; rfl, HZ1.out.2.2.2⟩
      have hhb : ((v.hh.2.1 : Int) != (s.hh.2.1 : Int)) = false := by simp; omega
      have HH := Lib.hid hh
      clear hh
      by_cases hr : v.rh.2.1 ≤ 24
      rotate_left
      · have HF := Lib.hid (show worldOk s x v = false by rw [HE.out, decide_eq_false hr]; simp)
        have hrb : 24 < (v.rh.2.1 : Int) := by omega
        go_wp2_with fail
        go_ret
        exact ⟨by rw [HF.out]; rfl, HZ1.out.2.2.2⟩
      have hrb : decide (24 < (v.rh.2.1 : Int)) = false := decide_eq_false (by omega)
      have hrc : ¬ 24 < (v.rh.2.1 : Int) := by omega
      go_wp2_with fail
      refine (sorted_ok v.rh v.reps V1 (HI.out.2.2.reps.later HZ1.out.2.2.2)).mono ?_
      rintro e V2 ⟨rfl, hb⟩
      have HZ2 := Lib.hid (And.intro (blk_below HZ1.out.1 hb) (And.intro (blk_below HZ1.out.2.1 hb) (And.intro (blk_below HZ1.out.2.2.1 hb) (below_trans HZ1.out.2.2.2 hb))))
      clear hb e0 e1 e6 el em hhb hrb hrc HZ1
      rw [H2.out]
      cases r2
      · have HF := Lib.hid (show worldOk s x v = false by rw [HE.out]; simp)
        go_wp2_with fail
        go_ret
        exact ⟨by rw [HF.out]; rfl, HZ2.out.2.2.2⟩
      · skip
        have e0 : _ = some (Value.slice v.hh.1 v.hh.2.1 v.hh.2.2) := (blk_cell HZ2.out.2.2.1 0).trans rfl
        have em := blk_lt HZ2.out.2.2.1
        go_wp2_with fail
        refine (containsHs_ok 45 #[] (fun y => !okHs y) v.hh.1 v.hh.2.1 v.hh.2.2 v.hosts V2 HL.out.2.2.1 l3 (HI.out.2.2.hosts.later HZ2.out.2.2.2).rows (fun W y _ => hst_bad y W) (enters_of Tryz.func45 (by kernel_rfl) rfl)).mono ?_
        rintro e V3 ⟨rfl, hb⟩
        have HZ3 := Lib.hid (And.intro (blk_below HZ2.out.1 hb) (And.intro (blk_below HZ2.out.2.1 hb) (And.intro (blk_below HZ2.out.2.2.1 hb) (below_trans HZ2.out.2.2.2 hb))))
        clear hb e0 em HZ2
        rw [any_all okHs, H3.out]
        cases r3
        · have HF := Lib.hid (show worldOk s x v = false by rw [HE.out]; simp)
          go_wp2_with fail
          go_ret
          exact ⟨by rw [HF.out]; rfl, HZ3.out.2.2.2⟩
        · skip
          have e1 : _ = some (Value.slice v.rh.1 v.rh.2.1 v.rh.2.2) := (blk_cell HZ3.out.2.2.1 1).trans rfl
          have em := blk_lt HZ3.out.2.2.1
          go_wp2_with fail
          refine (containsRp_ok 47 #[.pointer (some ⟨w.heap.size + 1, 0, none⟩), .pointer (some ⟨w.heap.size, 0, none⟩)] (fun y => !okRp x.sh.2.1 s.hh.2.1 y) v.rh.1 v.rh.2.1 v.rh.2.2 v.reps V3 HL.out.2.2.2 l4 (HI.out.2.2.reps.later HZ3.out.2.2.2).rows (fun W y hb => rep_bad y (w.heap.size + 1) w.heap.size x.sh s.hh W (blk_lt (blk_below HZ3.out.2.1 hb)) (blk_lt (blk_below HZ3.out.1 hb)) ((blk_cell (blk_below HZ3.out.2.1 hb) 0).trans rfl) ((blk_cell (blk_below HZ3.out.1 hb) 6).trans rfl) l2 l1) (enters_of Tryz.func47 (by kernel_rfl) rfl)).mono ?_
          rintro e V4 ⟨rfl, hb⟩
          have HZ4 := Lib.hid (And.intro (blk_below HZ3.out.1 hb) (And.intro (blk_below HZ3.out.2.1 hb) (And.intro (blk_below HZ3.out.2.2.1 hb) (below_trans HZ3.out.2.2.2 hb))))
          clear hb e1 em HZ3
          rw [any_all (okRp x.sh.2.1 s.hh.2.1), H4.out]
          cases r4
          · have HF := Lib.hid (show worldOk s x v = false by rw [HE.out]; simp)
            go_wp2_with fail
            go_ret
            exact ⟨by rw [HF.out]; rfl, HZ4.out.2.2.2⟩
          · have HF := Lib.hid (show worldOk s x v = true by rw [HE.out, decide_eq_true HH.out, decide_eq_true hr]; simp)
            go_wp2_with fail
            go_ret
            exact ⟨by rw [HF.out]; rfl, HZ4.out.2.2.2⟩
end Go.Proofs.YthlefdbhkbpejaaGreat
