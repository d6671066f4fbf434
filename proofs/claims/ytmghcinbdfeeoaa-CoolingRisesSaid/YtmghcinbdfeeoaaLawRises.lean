/- Chapter 15: the law that a greater heat never gives a lower level: the walk (written by wip/gen15rises.py). -/
import Derived.Test.YtmghcinbdfeeoaaLive
import Derived.Test.YtmghcinbdfeeoaaFew
namespace Go.Proofs.Ytmghcinbdfeeoaa
open Go Go.RowKit
set_option linter.unusedSimpArgs false

abbrev noWish : Wish := ⟨[], (none, 0, 0)⟩
abbrev noWld : Wld := ⟨[], (none, 0, 0), [], (none, 0, 0)⟩
theorem noWish_at (w : World) : noWish.At w := ⟨reads_nil _ _, fun _ hi => absurd hi (Nat.not_lt_zero _)⟩
theorem couV_len {s : Site} {loop start : Int} {hs : List Int} {n : Int} (h : couE s loop start hs n = 0) : (couV s loop start hs n).length = n.toNat + 1 := by
  unfold couE at h
  by_cases hL : lineE s loop = true
  · rw [if_pos hL] at h
    unfold couV courseV
    rw [if_pos hL, if_pos h, levs_len]
  · rw [if_neg hL] at h
    omega
theorem one_cou {s : Site} {loop start : Int} {hs : List Int} {n : Int} (h : couE s loop start hs n = 0) : ∀ j, j < hs.length → 0 ≤ hs.getD j default ∧ hs.getD j default ≤ 100000000 := by
  unfold couE at h
  by_cases hL : lineE s loop = true
  · rw [if_pos hL] at h
    exact (one_asked h).2
  · rw [if_neg hL] at h
    omega
theorem u64_nonneg (z : Int) : 0 ≤ IntKind.u64.wrap z := by
  unfold IntKind.wrap
  simp [IntKind.bits, IntKind.signed]
  omega
theorem noWld_at (w : World) : noWld.At w := ⟨reads_nil _ _, reads_nil _ _⟩

set_option maxRecDepth 10000 in
set_option maxHeartbeats 4000000 in
theorem rises_walk (s : Site) (loop start : Int) (a : Option Addr) (n cap : Nat) (hs : List Int) (at' more : Int) (w : World) (hat : s.At w)
    (hh : hs.length = n ∧ n ≤ cap ∧ cap ≤ maxLen ∧ (a = none → n = 0 ∧ cap = 0) ∧ RowsAt w.heap.size w a 1 (hs.map fun z => [.int .i64 z])) :
    Calls Try.prog 6 #[s.val, .int .i64 loop, .int .i64 start, .slice a n cap, .int .i64 at', .int .i64 more] w fun e W' => e = .returned (.bool true) ∧ Below w.heap.size w W' := by
  have hR : Reads w (a, n, cap) 1 hs.length (Ints hs) := ⟨hh.1, ⟨hh.2.1, hh.2.2.1, hh.2.2.2.1⟩, hh.2.2.2.2⟩
  have hnl : n ≤ 9223372036854775807 := hR.le
  have HI := Lib.hid (And.intro hat hR)
  have HN := Lib.hid hh.1
  clear hat hh hR
  go_enter Try.func6, Try.ntmps6
  go_wp2_with fail
  obtain ⟨A, hA⟩ : ∃ W' : World, (w.alloc (.cells s.cells.toArray 29)) = W' := ⟨_, rfl⟩
  have h : Has A [(w.heap.size, .cells s.cells.toArray 29 (0, 0))] := by rw [← hA]; simpa using ((Has.nil w).new _)
  have z : A.heap.size = w.heap.size + 1 := by rw [← hA]; simp
  have b : Below w.heap.size w A := by rw [← hA]; exact (below_alloc (below_self w) _)
  rw [hA]
  clear hA
  have HA := Lib.hid (And.intro h.hd b)
  clear h z b
  refine (few_ok s noWish noWld A (HI.out.1.later HA.out.2) (noWish_at A) (noWld_at A)).mono ?_
  rintro e B ⟨rfl, b⟩
  have HB := Lib.hid (And.intro (blk_below HA.out.1 b) (below_trans HA.out.2 b))
  clear b HA
  cases hf : decide (Few s noWish noWld)
  · clear hf
    go_wp2_with fail
    refine (live_ok B).mono ?_
    rintro e Z ⟨rfl, b⟩
    have HZ := Lib.hid (below_trans HB.out.2 b)
    clear b
    go_wp2_with fail
    go_ret
    exact ⟨rfl, HZ.out⟩
  · clear hf
    by_cases c0 : n = 0
    · subst c0
      go_wp2_with fail
      refine (live_ok B).mono ?_
      rintro e Z ⟨rfl, b⟩
      have HZ := Lib.hid (below_trans HB.out.2 b)
      clear b
      go_wp2_with fail
      go_ret
      exact ⟨rfl, HZ.out⟩
    · have c0I : ¬ (n : Int) = 0 := by omega
      have c0B : ((n : Int) == 0) = false := beq_eq_false_iff_ne.2 c0I
      by_cases c1 : n ≤ 100
      · have c1I : (n : Int) ≤ 100 := by omega
        by_cases c2 : 0 ≤ more
        · by_cases c3 : more ≤ 1000000
          · have d0 : B.cell? ⟨w.heap.size, 0, none⟩ = some (.slice s.fh.1 s.fh.2.1 s.fh.2.2) := (blk_cell HB.out.1 0).trans rfl
            have d1 : B.cell? ⟨w.heap.size, 1, none⟩ = some (.slice s.bh.1 s.bh.2.1 s.bh.2.2) := (blk_cell HB.out.1 1).trans rfl
            have d2 : B.cell? ⟨w.heap.size, 2, none⟩ = some (.slice s.lh.1 s.lh.2.1 s.lh.2.2) := (blk_cell HB.out.1 2).trans rfl
            have d3 : B.cell? ⟨w.heap.size, 3, none⟩ = some (.slice s.rh.1 s.rh.2.1 s.rh.2.2) := (blk_cell HB.out.1 3).trans rfl
            have d4 : B.cell? ⟨w.heap.size, 4, none⟩ = some (.int .i64 s.switches) := (blk_cell HB.out.1 4).trans rfl
            have d5 : B.cell? ⟨w.heap.size, 5, none⟩ = some (.slice s.kh.1 s.kh.2.1 s.kh.2.2) := (blk_cell HB.out.1 5).trans rfl
            have d6 : B.cell? ⟨w.heap.size, 6, none⟩ = some (.slice s.hh.1 s.hh.2.1 s.hh.2.2) := (blk_cell HB.out.1 6).trans rfl
            have dl := blk_lt HB.out.1
            go_wp2_with fail
            refine (cool_ok' s loop start a n cap hs n B (HI.out.1.later HB.out.2) (HI.out.2.later HB.out.2)).mono ?_
            rintro e C ⟨v1, rfl, ho, b⟩
            by_cases he : couE s loop start hs n = 0
            · rw [he]
              have hl := couV_len he
              rw [Int.toNat_natCast] at hl
              obtain ⟨L1, hL⟩ : ∃ L1, couV s loop start hs n = L1 := ⟨_, rfl⟩
              rw [hL] at ho hl
              obtain ⟨a1, k1, rfl, hr1⟩ := ownI_reads ho hl
              have HC := Lib.hid (And.intro (blk_below HB.out.1 b) (And.intro (below_trans HB.out.2 b) (And.intro hr1 (And.intro he (And.intro hL hl)))))
              obtain ⟨k, hk, hkn⟩ : ∃ k : Nat, (IntKind.u64.wrap at').tmod (n : Int) = (k : Int) ∧ k < n := ⟨(IntKind.u64.wrap at' % (n : Int)).toNat, by rw [Int.tmod_eq_emod_of_nonneg (u64_nonneg at')]; have := Int.emod_nonneg (IntKind.u64.wrap at') c0I; omega, by have := Int.emod_lt_of_pos (IntKind.u64.wrap at') (show (0 : Int) < n by omega); have := Int.emod_nonneg (IntKind.u64.wrap at') c0I; omega⟩
              have hu := u64_in (z := (n : Int)) (by omega) (by omega)
              have hk6 : wrap64 (k : Int) = k := IntWalk.wrap64_in (k : Int) (by omega)
              have hRC := HI.out.2.later HC.out.2.1
              obtain ⟨i0, hi, hz0, hz1, hz2⟩ := info_parts info3
              have tok : True := trivial
              clear b ho hl hL hr1 he d0 d1 d2 d3 d4 d5 d6 dl
              go_wp2_with (at_builtin; have _t := tok; go_must (refine wpList_append_any rfl _ _ 49 rfl C.heap.size 3 i0 _ 1 8 Try.underlying49 hi hz0 hz1 hz2 rfl (by decide) _ _ _ rfl (World.ownsRow_nil _ _ _ _) _ _ _ (intsV hs) rfl ?c0 ?c1 ?c2 ?c3 ?c4 ?c5 ?c6 ?_); clear tok)
              case c0 => exact hRC.good.2.2
              case c1 => unfold intsV; rw [List.length_map, HN.out]; omega
              case c2 =>
                intro h0
                obtain ⟨b, o, e, _, _⟩ := ints_at hRC.rows 0 (by rw [HN.out]; exact h0)
                have e' : a = some ⟨b, o, none⟩ := e
                subst e'
                exact ⟨_, rfl, ints_src hRC.rows⟩
              case c3 => exact intsV_one _
              case c4 => unfold maxLen; omega
              case c5 => omega
              case c6 => exact Nat.le_refl _
              intro a2 k2 X hown hgrow
              have h2 : OwnI C.heap.size X (.slice a2 n k2) hs := by
                unfold OwnI
                rw [HN.out]
                exact hown.out.1
              have hbX : Below C.heap.size C X := (below_self C).grown hgrow.out (Nat.le_refl _) (by simp [Value.ownBlock])
              obtain ⟨g, hg, hgl, hfz, hgC⟩ : ∃ g, a2 = some ⟨g, 0, none⟩ ∧ g < X.heap.size ∧ X.frozen? ⟨g, k, none⟩ = false ∧ C.heap.size ≤ g := by
                rcases h2.2 with ⟨h1, h3⟩ | ⟨g, c, cur, hv, hcg, hgg, _⟩
                · rw [HN.out] at h3; exact absurd h3 c0
                · injection hv with e1 e2 e3
                  exact ⟨g, e1, blk_lt hgg, blk_frozen hgg k, hcg⟩
              subst hg
              have hrX := (ownI_reads h2 HN.out)
              have hc1 : X.cell? ⟨g, k, none⟩ = some (.int .i64 (hs.getD k default)) := by
                obtain ⟨a', c', e, hr⟩ := hrX
                injection e with e1 e2 e3
                obtain ⟨b, o, e', _, hc⟩ := ints_at hr.rows k (by rw [HN.out]; exact hkn)
                have e'' : a' = some ⟨b, o, none⟩ := e'
                rw [← e1] at e''
                injection e'' with e''
                injection e'' with e3 e4
                subst e3 e4
                rw [Nat.zero_add] at hc
                exact hc
              have hin := one_cou HC.out.2.2.2.1 k (by rw [HN.out]; exact hkn)
              have HX := Lib.hid (And.intro (below_trans HC.out.2.1 hbX) (And.intro hown.out.1 (And.intro hgC hbX)))
              obtain ⟨z, hz⟩ : ∃ z, hs.getD k default = z := ⟨_, rfl⟩
              rw [hz] at hc1 hin
              have hw7 : IntKind.i64.wrap (z + more) = z + more := IntWalk.i64_in _ (by omega)
              have HZ := Lib.hid hz
              have HP := Lib.hid (show (couE s loop start (hot hs k more) n ≠ 0 → 100000000 < z + more) ∧ (couE s loop start (hot hs k more) n = 0 → (couV s loop start (hot hs k more) n).length = n + 1 ∧ ∀ j, j < n + 1 → L1.getD j default ≤ (couV s loop start (hot hs k more) n).getD j default) from by
                have h := rises_plain (s := s) (loop := loop) (start := start) (hs := hs) (i := k) (m := more) (by rw [HN.out]; exact hkn) c2 (by rw [HN.out]; exact HC.out.2.2.2.1)
                rw [HN.out, hz] at h
                refine ⟨h.1, fun e => ?_⟩
                obtain ⟨h1, h2, h3⟩ := h.2 e
                rw [HC.out.2.2.2.2.1] at h3
                exact ⟨h2, h3⟩)
              clear hown hgrow h2 hbX hrX hRC hz hi hz0 hz1 hz2 hgC
              go_upto_region 10 with fail
              generalize hY : X.setCell ⟨g, k, none⟩ (.int .i64 (z + more)) = Y
              have hst := World.ownsRow.stored HX.out.2.1 k (.int .i64 (z + more))
              rw [hY] at hst
              have hown : OwnI C.heap.size Y (.slice (some ⟨g, 0, none⟩) n k2) (hot hs k more) := by
                unfold OwnI
                rw [hot_len, HN.out]
                have e : intsV (hot hs k more) = (intsV hs).set k (.int .i64 (z + more)) := by unfold intsV hot; rw [List.map_set, HZ.out]
                rw [e]
                exact hst.1
              have hbY : Below C.heap.size C Y := by rw [← hY]; exact HX.out.2.2.2.setCell HX.out.2.2.1 _
              have hrY : Reads Y (some ⟨g, 0, none⟩, n, k2) 1 (hot hs k more).length (Ints (hot hs k more)) := by
                obtain ⟨a', c', e, hr⟩ := ownI_reads hown (n := n) (by rw [hot_len, HN.out])
                injection e with e1 e2 e3
                rw [← e1, ← e3] at hr
                exact hr
              have HY := Lib.hid (And.intro (blk_below HC.out.1 hbY) (And.intro (below_trans HC.out.2.1 hbY) (And.intro (HC.out.2.2.1.later hbY) hrY)))
              clear hst hown hbY hrY hY hgl hfz hc1 hw7 HX
              have d0 : Y.cell? ⟨w.heap.size, 0, none⟩ = some (.slice s.fh.1 s.fh.2.1 s.fh.2.2) := (blk_cell HY.out.1 0).trans rfl
              have d1 : Y.cell? ⟨w.heap.size, 1, none⟩ = some (.slice s.bh.1 s.bh.2.1 s.bh.2.2) := (blk_cell HY.out.1 1).trans rfl
              have d2 : Y.cell? ⟨w.heap.size, 2, none⟩ = some (.slice s.lh.1 s.lh.2.1 s.lh.2.2) := (blk_cell HY.out.1 2).trans rfl
              have d3 : Y.cell? ⟨w.heap.size, 3, none⟩ = some (.slice s.rh.1 s.rh.2.1 s.rh.2.2) := (blk_cell HY.out.1 3).trans rfl
              have d4 : Y.cell? ⟨w.heap.size, 4, none⟩ = some (.int .i64 s.switches) := (blk_cell HY.out.1 4).trans rfl
              have d5 : Y.cell? ⟨w.heap.size, 5, none⟩ = some (.slice s.kh.1 s.kh.2.1 s.kh.2.2) := (blk_cell HY.out.1 5).trans rfl
              have d6 : Y.cell? ⟨w.heap.size, 6, none⟩ = some (.slice s.hh.1 s.hh.2.1 s.hh.2.2) := (blk_cell HY.out.1 6).trans rfl
              have dl := blk_lt HY.out.1
              go_wp2_with fail
              refine (cool_ok' s loop start (some ⟨g, 0, none⟩) n k2 (hot hs k more) n Y (HI.out.1.later HY.out.2.1) HY.out.2.2.2).mono ?_
              rintro e V ⟨v2, rfl, ho, b⟩
              clear d0 d1 d2 d3 d4 d5 d6 dl
              by_cases he2 : couE s loop start (hot hs k more) n = 0
              · rw [he2]
                obtain ⟨L2, hL2⟩ : ∃ L2, couV s loop start (hot hs k more) n = L2 := ⟨_, rfl⟩
                have hp := HP.out.2 he2
                rw [hL2] at hp ho
                obtain ⟨a4, k4, rfl, hr4⟩ := ownI_reads ho hp.1
                have HV := Lib.hid (And.intro (below_trans HY.out.2.1 b) (And.intro (HY.out.2.2.1.later b) (And.intro hr4 (And.intro hp HC.out.2.2.2.2.2))))
                clear b ho hp hL2 hr4 he2 HY HP hk hu hk6
                go_wp2_with fail
                go_loopw [12, 18] (fun _ i wr => ∃ j d : Nat, j ≤ n + 1 ∧ i = .int .i64 j ∧ wr = V.drewN d) (fun _ i _ => n + 1 - (intOf i).toNat)
                case atStart => exact ⟨0, 0, Nat.zero_le _, rfl, rfl⟩
                case round =>
                  obtain ⟨j, d, hj, rfl, rfl⟩ := hrel
                  by_cases hlt : j < n + 1
                  · have hltI : (j : Int) < (n : Int) + 1 := by omega
                    obtain ⟨b1, o1, q1, _, c1'⟩ := ints_at HV.out.2.1.rows j (by rw [HV.out.2.2.2.2]; exact hlt)
                    obtain ⟨b2, o2, q2, _, c2'⟩ := ints_at HV.out.2.2.1.rows j (by rw [HV.out.2.2.2.1.1]; exact hlt)
                    simp only at q1 q2
                    subst q1 q2
                    have hle := HV.out.2.2.2.1.2 j hlt
                    generalize L1.getD j default = y1 at c1' hle
                    generalize L2.getD j default = y2 at c2' hle
                    go_wp2_with fail
                    go_quiet (fail)
                    clear c1' c2'
                    go_wp2_with fail
                    go_roundw
                    case rel => exact ⟨j + 1, d + nq, by omega, by go_num, rfl⟩
                    case measure => simp [intOf]; omega
                  · have hltI : ¬ (j : Int) < (n : Int) + 1 := by omega
                    go_wp2_with fail
                    refine (live_ok _).mono ?_
                    rintro e Z ⟨rfl, b⟩
                    have HZ2 := Lib.hid (below_trans (below_drewN HV.out.1 d) b)
                    clear b
                    go_wp2_with fail
                    go_ret
                    exact ⟨rfl, HZ2.out⟩
              · have hgt := HP.out.1 he2
                have hr := HY.out.2.2.2.later b
                have HV := Lib.hid (below_trans HY.out.2.1 b)
                have hD : decide (couE s loop start (hot hs k more) n = 0) = false := decide_eq_false he2
                obtain ⟨q, hq⟩ : ∃ q, couE s loop start (hot hs k more) n = q := ⟨_, rfl⟩
                rw [hq] at he2 hD ⊢
                have hc1 : V.cell? ⟨g, k, none⟩ = some (.int .i64 (z + more)) := by
                  obtain ⟨b, o, e', _, hc⟩ := ints_at hr.rows k (by rw [hot_len, HN.out]; exact hkn)
                  injection e' with e'
                  injection e' with e3 e4
                  subst e3 e4
                  rw [Nat.zero_add, hot_get (by rw [HN.out]; exact hkn), if_pos rfl, HZ.out] at hc
                  exact hc
                clear hq ho b hr HP HY
                go_wp2_with fail
                refine (live_ok V).mono ?_
                rintro e Z ⟨rfl, b⟩
                have HZ2 := Lib.hid (below_trans HV.out b)
                clear b
                go_wp2_with fail
                go_ret
                exact ⟨rfl, HZ2.out⟩
            · have hD : decide (couE s loop start hs n = 0) = false := decide_eq_false he
              have HC := Lib.hid (below_trans HB.out.2 b)
              obtain ⟨q, hq⟩ : ∃ q, couE s loop start hs n = q := ⟨_, rfl⟩
              rw [hq] at he hD ⊢
              clear hq ho b
              go_wp2_with fail
              refine (live_ok C).mono ?_
              rintro e Z ⟨rfl, b⟩
              have HZ := Lib.hid (below_trans HC.out b)
              clear b
              go_wp2_with fail
              go_ret
              exact ⟨rfl, HZ.out⟩
          · go_wp2_with fail
            refine (live_ok B).mono ?_
            rintro e Z ⟨rfl, b⟩
            have HZ := Lib.hid (below_trans HB.out.2 b)
            clear b
            go_wp2_with fail
            go_ret
            exact ⟨rfl, HZ.out⟩
        · go_wp2_with fail
          refine (live_ok B).mono ?_
          rintro e Z ⟨rfl, b⟩
          have HZ := Lib.hid (below_trans HB.out.2 b)
          clear b
          go_wp2_with fail
          go_ret
          exact ⟨rfl, HZ.out⟩
      · have c1I : ¬ (n : Int) ≤ 100 := by omega
        go_wp2_with fail
        refine (live_ok B).mono ?_
        rintro e Z ⟨rfl, b⟩
        have HZ := Lib.hid (below_trans HB.out.2 b)
        clear b
        go_wp2_with fail
        go_ret
        exact ⟨rfl, HZ.out⟩
end Go.Proofs.Ytmghcinbdfeeoaa
