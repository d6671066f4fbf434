/- Chapter 15: the law that a loop that carries its heat stays at level 0: the walk (written by wip/gen15holds.py). -/
import Derived.Test.YtmghcinbdfeeoaaLive
import Derived.Test.YtmghcinbdfeeoaaFew
import Derived.Test.YtmghcinbdfeeoaaRf13C
namespace Go.Proofs.Ytmghcinbdfeeoaa
open Go Go.RowKit
set_option linter.unusedSimpArgs false

theorem loop_ok {s : Site} {k : Nat} (h : siteOk s = true) (hk : k < s.loops.length) : (0 ≤ (s.loops.getD k default).carry ∧ (s.loops.getD k default).carry ≤ 1000000) ∧ 0 ≤ (s.loops.getD k default).delay ∧ (s.loops.getD k default).delay ≤ 100 := by
  unfold siteOk at h
  simp only [Bool.and_eq_true, List.all_eq_true] at h
  have := h.2.2.2.1 _ (getD_in hk)
  unfold okLp num at this
  rw [Bool.and_eq_true, inR_iff, inR_iff] at this
  exact this
theorem arr_rep {n : Nat} {g d : Int} (hg : 0 ≤ g) (t : Int) : arr [⟨0, 1, d⟩] [List.replicate n g] t ≤ g := by
  unfold arr given
  simp only [List.foldl_cons, List.foldl_nil, List.length_cons, List.length_nil, List.getD_cons_zero, List.length_replicate, Int.toNat_zero]
  split
  · rename_i h
    rw [List.getD_eq_getElem?_getD, List.getElem?_replicate, if_pos (by omega)]
    simp
  · simp; exact hg
theorem lev_stays {c g d : Int} {n : Nat} (hg : 0 ≤ g) (h : g ≤ c) : ∀ k, lev c [⟨0, 1, d⟩] [List.replicate n g] 0 k = 0
  | 0 => rfl
  | k + 1 => by
    have := arr_rep (n := n) (d := d) hg (k : Int)
    simp only [lev]
    rw [lev_stays hg h k]
    omega
theorem heat_ge (s : Site) (x : Wish) (v : Wld) (l : Int) : 0 ≤ heat s x v l := by
  unfold heat
  split
  · exact (heatT_le _).1
  · exact Int.le_refl _
theorem holds_plain {s : Site} {x : Wish} {v : Wld} {k m : Nat} (hw : worldOk s x v = true) (hk : k < s.loops.length) (hm : m ≤ 1000) (hh : heat s x v k ≤ (s.loops.getD k default).carry) : conE s x v k 0 m = 0 ∧ aftV s x v k 0 m = 0 := by
  have hs := worldOk_site hw
  have hl := loop_ok hs hk
  have hg := heat_ge s x v k
  have hc : conOk s x v k 0 m = true := by
    unfold conOk
    rw [hw, decide_eq_true (p := 0 ≤ (k : Int)) (by omega), decide_eq_true (p := (k : Int) < (s.loops.length : Int)) (by omega), inR_iff.2 (show (0 : Int) ≤ 0 ∧ (0 : Int) ≤ 1000000 by omega), inR_iff.2 (show 0 ≤ (m : Int) ∧ (m : Int) ≤ 1000 by omega)]
    rfl
  have hL : lineE s k = true := by
    unfold lineE
    rw [hs, decide_eq_true (p := 0 ≤ (k : Int)) (by omega), decide_eq_true (p := (k : Int) < (s.loops.length : Int)) (by omega)]
    rfl
  have hcar : lCar s k = (s.loops.getD k default).carry := by unfold lCar; rw [Int.toNat_natCast]
  have hps : lPs s k = [⟨0, 1, (s.loops.getD k default).delay⟩] := by unfold lPs; rw [Int.toNat_natCast]
  have ha : askedE (lCar s k) (lPs s k) 0 [List.replicate m (heat s x v k)] m = 0 := by
    refine ask_line ?_ (by rw [hcar]; omega) (by omega) (by omega) (by simpa using hm) fun j hj => ?_
    · intro p hp
      rw [hps] at hp
      simp only [List.mem_cons, List.not_mem_nil, or_false] at hp
      subst hp
      exact okP_iff'.2 ⟨by simp only; omega, by simp only; omega, by simp only; omega⟩
    · rw [List.length_replicate] at hj
      rw [List.getD_eq_getElem?_getD, List.getElem?_replicate, if_pos hj]
      simp only [Option.getD_some]
      omega
  have h1 : conE s x v k 0 m = 0 := by
    unfold conE
    rw [if_pos hc]
    unfold couE
    rw [if_pos hL, Int.toNat_natCast]
    exact ha
  refine ⟨h1, ?_⟩
  unfold aftV
  rw [if_pos h1]
  unfold conV
  rw [if_pos hc]
  unfold couV
  rw [if_pos hL, Int.toNat_natCast]
  unfold courseV
  rw [if_pos ha, Int.toNat_natCast, levs_get (Nat.le_refl _), hcar, hps]
  exact lev_stays hg hh m
theorem u64_ge (z : Int) : 0 ≤ IntKind.u64.wrap z := by
  unfold IntKind.wrap
  simp [IntKind.bits, IntKind.signed]
  omega

set_option maxRecDepth 10000 in
set_option maxHeartbeats 4000000 in
theorem holds_walk (s : Site) (x : Wish) (v : Wld) (n : Int) (w : World) (hs : s.At w) (hx : x.At w) (hv : v.At w) :
    Calls Try.prog 5 #[s.val, x.val, v.val, .int .i64 n] w fun e W' => e = .returned (.bool true) ∧ Below w.heap.size w W' := by
  have HI := Lib.hid (And.intro hs (And.intro hx hv))
  have HN := Lib.hid (show s.loops.length = s.lh.2.1 from hs.loops.len)
  have l0 := hs.loops.le
  clear hs hx hv
  obtain ⟨m, hm, hm1⟩ : ∃ m : Nat, (IntKind.u64.wrap n).tmod 1001 = (m : Int) ∧ m ≤ 1000 := ⟨(IntKind.u64.wrap n % 1001).toNat, by rw [Int.tmod_eq_emod_of_nonneg (u64_ge n)]; omega, by omega⟩
  have hm6 : wrap64 (m : Int) = m := IntWalk.wrap64_in (m : Int) (by omega)
  have HM := Lib.hid hm1
  clear hm1
  go_enter Try.func5, Try.ntmps5
  go_wp2_with fail
  obtain ⟨A, hA⟩ : ∃ W' : World, (((w.alloc (.cells s.cells.toArray 29)).alloc (.cells x.cells.toArray 32)).alloc (.cells v.cells.toArray 36)) = W' := ⟨_, rfl⟩
  have h : Has A [(w.heap.size + 1 + 1, .cells v.cells.toArray 36 (0, 0)), (w.heap.size + 1, .cells x.cells.toArray 32 (0, 0)), (w.heap.size, .cells s.cells.toArray 29 (0, 0))] := by rw [← hA]; simpa using ((((Has.nil w).new _).new _).new _)
  have z : A.heap.size = w.heap.size + 1 + 1 + 1 := by rw [← hA]; simp
  have b : Below w.heap.size w A := by rw [← hA]; exact (below_alloc (below_alloc (below_alloc (below_self w) _) _) _)
  rw [hA]
  clear hA
  have HA := Lib.hid (show VB w s x v A from ⟨h.tl.tl.hd, h.tl.hd, h.hd, b⟩)
  clear h z b
  refine (few_ok s x v A (HI.out.1.later HA.out.bel) (HI.out.2.1.later HA.out.bel) (HI.out.2.2.later HA.out.bel)).mono ?_
  rintro e B ⟨rfl, b⟩
  have HB := Lib.hid (HA.out.later b)
  clear b
  cases hf : decide (Few s x v)
  · clear hf
    go_wp2_with fail
    refine (live_ok B).mono ?_
    rintro e Z ⟨rfl, b⟩
    have HZ := Lib.hid (below_trans HB.out.bel b)
    clear b
    go_wp2_with fail
    go_ret
    exact ⟨rfl, HZ.out⟩
  · clear hf
    have d0 : B.cell? ⟨w.heap.size, 0, none⟩ = some (.slice s.fh.1 s.fh.2.1 s.fh.2.2) := (blk_cell HB.out.si 0).trans rfl
    have d1 : B.cell? ⟨w.heap.size, 1, none⟩ = some (.slice s.bh.1 s.bh.2.1 s.bh.2.2) := (blk_cell HB.out.si 1).trans rfl
    have d2 : B.cell? ⟨w.heap.size, 2, none⟩ = some (.slice s.lh.1 s.lh.2.1 s.lh.2.2) := (blk_cell HB.out.si 2).trans rfl
    have d3 : B.cell? ⟨w.heap.size, 3, none⟩ = some (.slice s.rh.1 s.rh.2.1 s.rh.2.2) := (blk_cell HB.out.si 3).trans rfl
    have d4 : B.cell? ⟨w.heap.size, 4, none⟩ = some (.int .i64 s.switches) := (blk_cell HB.out.si 4).trans rfl
    have d5 : B.cell? ⟨w.heap.size, 5, none⟩ = some (.slice s.kh.1 s.kh.2.1 s.kh.2.2) := (blk_cell HB.out.si 5).trans rfl
    have d6 : B.cell? ⟨w.heap.size, 6, none⟩ = some (.slice s.hh.1 s.hh.2.1 s.hh.2.2) := (blk_cell HB.out.si 6).trans rfl
    have d7 : B.cell? ⟨w.heap.size + 1, 0, none⟩ = some (.slice x.sh.1 x.sh.2.1 x.sh.2.2) := (blk_cell HB.out.wi 0).trans rfl
    have d8 : B.cell? ⟨w.heap.size + 1 + 1, 0, none⟩ = some (.slice v.hh.1 v.hh.2.1 v.hh.2.2) := (blk_cell HB.out.wo 0).trans rfl
    have d9 : B.cell? ⟨w.heap.size + 1 + 1, 1, none⟩ = some (.slice v.rh.1 v.rh.2.1 v.rh.2.2) := (blk_cell HB.out.wo 1).trans rfl
    have dlsi := blk_lt HB.out.si
    have dlwi := blk_lt HB.out.wi
    have dlwo := blk_lt HB.out.wo
    go_wp2_with fail
    clear d0 d1 d2 d3 d4 d5 d6 d7 d8 d9 dlsi dlwi dlwo
    refine (world_ref s x v B (HI.out.1.later HB.out.bel) (HI.out.2.1.later HB.out.bel) (HI.out.2.2.later HB.out.bel)).mono ?_
    rintro e C ⟨rfl, b⟩
    have HC := Lib.hid (HB.out.later b)
    clear b
    cases hw : worldOk s x v
    · clear hw
      go_wp2_with fail
      refine (live_ok C).mono ?_
      rintro e Z ⟨rfl, b⟩
      have HZ := Lib.hid (below_trans HC.out.bel b)
      clear b
      go_wp2_with fail
      go_ret
      exact ⟨rfl, HZ.out⟩
    · have HW := Lib.hid hw
      clear hw
      go_wp2_with fail
      go_loopw [9] (fun i wr => ∃ (k : Nat) (X : World), k ≤ s.lh.2.1 ∧ i = .int .i64 k ∧ X = wr ∧ Hid (VB w s x v X)) (fun i _ => s.lh.2.1 - (intOf i).toNat)
      case atStart => exact ⟨0, _, Nat.zero_le _, rfl, rfl, HC⟩
      case round =>
        obtain ⟨k, X, hk, rfl, rfl, HX⟩ := hrel
        by_cases hlt : k < s.lh.2.1
        · have hltI : (k : Int) < (s.lh.2.1 : Int) := by omega
          have HK := Lib.hid (show k < s.loops.length by rw [HN.out]; exact hlt)
          obtain ⟨b1, o1, q1, hb1, p0, p1⟩ := lps_at (HI.out.1.later HX.out.bel).loops.rows k HK.out
          have hC := heat_ok s x v k X.drew (HI.out.1.later HX.out.bel.drew) (HI.out.2.1.later HX.out.bel.drew) (HI.out.2.2.later HX.out.bel.drew)
          have hP := holds_plain (s := s) (x := x) (v := v) (k := k) (m := m) HW.out HK.out HM.out
          obtain ⟨c, hc⟩ : ∃ c, (s.loops.getD k default).carry = c := ⟨_, rfl⟩
          obtain ⟨g, hg⟩ : ∃ g, heat s x v k = g := ⟨_, rfl⟩
          rw [hc] at p0 hP
          rw [hg] at hP hC
          simp only [Site.val, Site.cells] at hC
          rw [q1] at hC
          have HP := Lib.hid hP
          have HCC := Lib.hid hC
          clear hP hC hg hc p1
          have d2 : X.cell? ⟨w.heap.size, 2, none⟩ = some (.slice s.lh.1 s.lh.2.1 s.lh.2.2) := (blk_cell HX.out.si 2).trans rfl
          have dlsi := blk_lt HX.out.si
          rw [q1] at d2
          have hkk : ∀ W, Below X.heap.size X W → W.cell? ⟨w.heap.size, 0, none⟩ = some (.slice s.fh.1 s.fh.2.1 s.fh.2.2) ∧ W.cell? ⟨w.heap.size, 1, none⟩ = some (.slice s.bh.1 s.bh.2.1 s.bh.2.2) ∧ W.cell? ⟨w.heap.size, 2, none⟩ = some (.slice (some ⟨b1, o1, none⟩) s.lh.2.1 s.lh.2.2) ∧ W.cell? ⟨w.heap.size, 3, none⟩ = some (.slice s.rh.1 s.rh.2.1 s.rh.2.2) ∧ W.cell? ⟨w.heap.size, 4, none⟩ = some (.int .i64 s.switches) ∧ W.cell? ⟨w.heap.size, 5, none⟩ = some (.slice s.kh.1 s.kh.2.1 s.kh.2.2) ∧ W.cell? ⟨w.heap.size, 6, none⟩ = some (.slice s.hh.1 s.hh.2.1 s.hh.2.2) ∧ W.cell? ⟨w.heap.size + 1, 0, none⟩ = some (.slice x.sh.1 x.sh.2.1 x.sh.2.2) ∧ W.cell? ⟨w.heap.size + 1 + 1, 0, none⟩ = some (.slice v.hh.1 v.hh.2.1 v.hh.2.2) ∧ W.cell? ⟨w.heap.size + 1 + 1, 1, none⟩ = some (.slice v.rh.1 v.rh.2.1 v.rh.2.2) ∧ W.cell? ⟨b1, o1 + k * 2, none⟩ = some (.int .i64 c) := fun W hb => ⟨(blk_cell (HX.out.later hb).si 0).trans rfl, (blk_cell (HX.out.later hb).si 1).trans rfl, (by rw [← q1]; exact (blk_cell (HX.out.later hb).si 2).trans rfl), (blk_cell (HX.out.later hb).si 3).trans rfl, (blk_cell (HX.out.later hb).si 4).trans rfl, (blk_cell (HX.out.later hb).si 5).trans rfl, (blk_cell (HX.out.later hb).si 6).trans rfl, (blk_cell (HX.out.later hb).wi 0).trans rfl, (blk_cell (HX.out.later hb).wo 0).trans rfl, (blk_cell (HX.out.later hb).wo 1).trans rfl, cell_call hb hb1 p0⟩
          have HS := Lib.hid hkk
          have HQ := Lib.hid q1
          clear hkk q1 hb1 p0 d2
          have d2 := (HS.out X (below_self X)).2.2.1
          have bX : Below X.heap.size X X.drew := (below_self X).drew
          go_wp2_with fail
          go_region_held3 (fun W => W.cell? ⟨w.heap.size, 0, none⟩ = some (.slice s.fh.1 s.fh.2.1 s.fh.2.2) ∧ W.cell? ⟨w.heap.size, 1, none⟩ = some (.slice s.bh.1 s.bh.2.1 s.bh.2.2) ∧ W.cell? ⟨w.heap.size, 2, none⟩ = some (.slice (some ⟨b1, o1, none⟩) s.lh.2.1 s.lh.2.2) ∧ W.cell? ⟨w.heap.size, 3, none⟩ = some (.slice s.rh.1 s.rh.2.1 s.rh.2.2) ∧ W.cell? ⟨w.heap.size, 4, none⟩ = some (.int .i64 s.switches) ∧ W.cell? ⟨w.heap.size, 5, none⟩ = some (.slice s.kh.1 s.kh.2.1 s.kh.2.2) ∧ W.cell? ⟨w.heap.size, 6, none⟩ = some (.slice s.hh.1 s.hh.2.1 s.hh.2.2) ∧ W.cell? ⟨w.heap.size + 1, 0, none⟩ = some (.slice x.sh.1 x.sh.2.1 x.sh.2.2) ∧ W.cell? ⟨w.heap.size + 1 + 1, 0, none⟩ = some (.slice v.hh.1 v.hh.2.1 v.hh.2.2) ∧ W.cell? ⟨w.heap.size + 1 + 1, 1, none⟩ = some (.slice v.rh.1 v.rh.2.1 v.rh.2.2) ∧ W.cell? ⟨b1, o1 + k * 2, none⟩ = some (.int .i64 c))
            (exact HS.out _ (by assumption))
            (first
              | (go_at_call 12; (with_reducible refine HCC.out.mono ?_); rintro e Y ⟨rfl, b2⟩; have bY := below_trans bX b2))
          have HY := Lib.hid (HX.out.later bY)
          clear bX bY b2 HS HCC d2 dlsi
          by_cases hcg : c < g
          · go_wp2_with fail
            exact ⟨⟨k + 1, _, by omega, by go_num, rfl, HY⟩, by simp [intOf]; omega⟩
          · have hz := HP.out (by omega)
            have HZ := Lib.hid hz
            clear hz HP
            go_upto_region 7 with fail
            clear hcg
            have d0 : Y.cell? ⟨w.heap.size, 0, none⟩ = some (.slice s.fh.1 s.fh.2.1 s.fh.2.2) := (blk_cell HY.out.si 0).trans rfl
            have d1 : Y.cell? ⟨w.heap.size, 1, none⟩ = some (.slice s.bh.1 s.bh.2.1 s.bh.2.2) := (blk_cell HY.out.si 1).trans rfl
            have d2 : Y.cell? ⟨w.heap.size, 2, none⟩ = some (.slice s.lh.1 s.lh.2.1 s.lh.2.2) := (blk_cell HY.out.si 2).trans rfl
            have d3 : Y.cell? ⟨w.heap.size, 3, none⟩ = some (.slice s.rh.1 s.rh.2.1 s.rh.2.2) := (blk_cell HY.out.si 3).trans rfl
            have d4 : Y.cell? ⟨w.heap.size, 4, none⟩ = some (.int .i64 s.switches) := (blk_cell HY.out.si 4).trans rfl
            have d5 : Y.cell? ⟨w.heap.size, 5, none⟩ = some (.slice s.kh.1 s.kh.2.1 s.kh.2.2) := (blk_cell HY.out.si 5).trans rfl
            have d6 : Y.cell? ⟨w.heap.size, 6, none⟩ = some (.slice s.hh.1 s.hh.2.1 s.hh.2.2) := (blk_cell HY.out.si 6).trans rfl
            have d7 : Y.cell? ⟨w.heap.size + 1, 0, none⟩ = some (.slice x.sh.1 x.sh.2.1 x.sh.2.2) := (blk_cell HY.out.wi 0).trans rfl
            have d8 : Y.cell? ⟨w.heap.size + 1 + 1, 0, none⟩ = some (.slice v.hh.1 v.hh.2.1 v.hh.2.2) := (blk_cell HY.out.wo 0).trans rfl
            have d9 : Y.cell? ⟨w.heap.size + 1 + 1, 1, none⟩ = some (.slice v.rh.1 v.rh.2.1 v.rh.2.2) := (blk_cell HY.out.wo 1).trans rfl
            have dlsi := blk_lt HY.out.si
            have dlwi := blk_lt HY.out.wi
            have dlwo := blk_lt HY.out.wo
            go_wp2_with fail
            clear d0 d1 d2 d3 d4 d5 d6 d7 d8 d9 dlsi dlwi dlwo
            have hC2 := after_ok s x v k 0 m Y (HI.out.1.later HY.out.bel) (HI.out.2.1.later HY.out.bel) (HI.out.2.2.later HY.out.bel)
            simp only [Site.val, Site.cells] at hC2
            rw [HQ.out, HZ.out.1, HZ.out.2] at hC2
            with_reducible refine hC2.mono ?_
            rintro e V ⟨rfl, b⟩
            have HV := Lib.hid (HY.out.later b)
            clear b hC2
            go_wp2_with fail
            exact ⟨⟨k + 1, _, by omega, by go_num, rfl, HV⟩, by simp [intOf]; omega⟩
        · have hltI : ¬ (k : Int) < (s.lh.2.1 : Int) := by omega
          have d2 : X.cell? ⟨w.heap.size, 2, none⟩ = some (.slice s.lh.1 s.lh.2.1 s.lh.2.2) := (blk_cell HX.out.si 2).trans rfl
          have dlsi := blk_lt HX.out.si
          go_wp2_with fail
          refine (live_ok X).mono ?_
          rintro e Z ⟨rfl, b⟩
          have HZ := Lib.hid (below_trans HX.out.bel b)
          clear b
          go_wp2_with fail
          go_ret
          exact ⟨rfl, HZ.out⟩
end Go.Proofs.Ytmghcinbdfeeoaa
