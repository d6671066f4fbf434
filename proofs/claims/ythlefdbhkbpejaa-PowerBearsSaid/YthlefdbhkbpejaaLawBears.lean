/- Chapter 14: a breaker bears its load for ever exactly if it is at most its limit: the walk (written by wip/gen14laws.py). -/
import Derived.Test.YthlefdbhkbpejaaLive
import Derived.Test.YthlefdbhkbpejaaFew
import Derived.Test.YthlefdbhkbpejaaRf13C
namespace Go.Proofs.Ythlefdbhkbpejaa
open Go Go.RowKit F5
set_option linter.unusedSimpArgs false

set_option maxRecDepth 10000 in
set_option maxHeartbeats 16000000 in
theorem bears_walk (s : Site) (x : Wish) (v : Wld) (w : World) (hs : s.At w) (hx : x.At w) (hv : v.At w) :
    Calls Try.prog 6 #[s.val, x.val, v.val] w fun e W' => e = .returned (.bool true) ∧ Below w.heap.size w W' := by
  have HN := Lib.hid (And.intro (show s.feeds.length = s.fh.2.1 from hs.feeds.len) (And.intro (show s.brks.length = s.bh.2.1 from hs.brks.len) (show s.hosts.length = s.hh.2.1 from hs.hosts.len)))
  have HI := Lib.hid (And.intro hs (And.intro hx hv))
  clear hs hx hv
  go_enter Try.func6, Try.ntmps6
  go_wp2_with fail
  obtain ⟨A, hA⟩ : ∃ W' : World, (((w.alloc (.cells s.cells.toArray 29)).alloc (.cells x.cells.toArray 32)).alloc (.cells v.cells.toArray 36)) = W' := ⟨_, rfl⟩
  have h : Has A [(w.heap.size + 1 + 1, .cells v.cells.toArray 36 (0, 0)), (w.heap.size + 1, .cells x.cells.toArray 32 (0, 0)), (w.heap.size, .cells s.cells.toArray 29 (0, 0))] := by rw [← hA]; simpa using ((((Has.nil w).new _).new _).new _)
  have z : A.heap.size = w.heap.size + 1 + 1 + 1 := by rw [← hA]; simp
  have b : Below w.heap.size w A := by rw [← hA]; exact (below_alloc (below_alloc (below_alloc (below_self w) _) _) _)
  rw [hA]
  clear hA
  have HA := Lib.hid (show VB w s x v A from ⟨h.tl.tl.hd, h.tl.hd, h.hd, b⟩)
  clear h z b
  refine (few_ok s x v A (HI.out.1.later HA.out.bel) (HI.out.2.1.later HA.out.bel) (HI.out.2.2.later HA.out.bel)).mono ?_
  rintro e B ⟨rfl, b⟩
  have HB := Lib.hid (HA.out.later b)
  clear b HA
  cases hf : decide (Few s x v)
  · clear hf
    go_wp2_with fail
    refine (live_ok B).mono ?_
    rintro e Z ⟨rfl, b⟩
    have HZ := Lib.hid (below_trans HB.out.bel b)
    clear b
    go_wp2_with fail
    go_ret
    exact ⟨rfl, HZ.out⟩
  · clear hf
    have d0 : B.cell? ⟨w.heap.size, 0, none⟩ = some (.slice s.fh.1 s.fh.2.1 s.fh.2.2) := (blk_cell HB.out.si 0).trans rfl
    have d1 : B.cell? ⟨w.heap.size, 1, none⟩ = some (.slice s.bh.1 s.bh.2.1 s.bh.2.2) := (blk_cell HB.out.si 1).trans rfl
    have d2 : B.cell? ⟨w.heap.size, 2, none⟩ = some (.slice s.lh.1 s.lh.2.1 s.lh.2.2) := (blk_cell HB.out.si 2).trans rfl
    have d3 : B.cell? ⟨w.heap.size, 3, none⟩ = some (.slice s.rh.1 s.rh.2.1 s.rh.2.2) := (blk_cell HB.out.si 3).trans rfl
    have d4 : B.cell? ⟨w.heap.size, 4, none⟩ = some (.int .i64 s.switches) := (blk_cell HB.out.si 4).trans rfl
    have d5 : B.cell? ⟨w.heap.size, 5, none⟩ = some (.slice s.kh.1 s.kh.2.1 s.kh.2.2) := (blk_cell HB.out.si 5).trans rfl
    have d6 : B.cell? ⟨w.heap.size, 6, none⟩ = some (.slice s.hh.1 s.hh.2.1 s.hh.2.2) := (blk_cell HB.out.si 6).trans rfl
    have d7 : B.cell? ⟨w.heap.size + 1, 0, none⟩ = some (.slice x.sh.1 x.sh.2.1 x.sh.2.2) := (blk_cell HB.out.wi 0).trans rfl
    have d8 : B.cell? ⟨w.heap.size + 1 + 1, 0, none⟩ = some (.slice v.hh.1 v.hh.2.1 v.hh.2.2) := (blk_cell HB.out.wo 0).trans rfl
    have d9 : B.cell? ⟨w.heap.size + 1 + 1, 1, none⟩ = some (.slice v.rh.1 v.rh.2.1 v.rh.2.2) := (blk_cell HB.out.wo 1).trans rfl
    have dlsi := blk_lt HB.out.si
    have dlwi := blk_lt HB.out.wi
    have dlwo := blk_lt HB.out.wo
    go_wp2_with fail
    clear d0 d1 d2 d3 d4 d5 d6 d7 d8 d9 dlsi dlwi dlwo
    refine (world_ref s x v B (HI.out.1.later HB.out.bel) (HI.out.2.1.later HB.out.bel) (HI.out.2.2.later HB.out.bel)).mono ?_
    rintro e C ⟨rfl, b⟩
    have HC := Lib.hid (HB.out.later b)
    clear b HB
    cases hok : worldOk s x v
    · clear hok
      go_wp2_with fail
      refine (live_ok C).mono ?_
      rintro e Z ⟨rfl, b⟩
      have HZ := Lib.hid (below_trans HC.out.bel b)
      clear b
      go_wp2_with fail
      go_ret
      exact ⟨rfl, HZ.out⟩
    · have HO := Lib.hid hok
      have hnu := siteOk_nums (worldOk_site hok)
      have hsz := siteOk_sizes (worldOk_site hok)
      rw [HN.out.1, HN.out.2.1] at hnu
      rw [HN.out.2.2] at hsz
      clear hok
      go_wp2_with fail
      go_loopw [7] (fun i wr => ∃ (k : Nat) (X : World), k ≤ s.bh.2.1 ∧ i = .int .i64 k ∧ X = wr ∧ Hid (VB w s x v X)) (fun i _ => s.bh.2.1 - (intOf i).toNat)
      case atStart => exact ⟨0, _, Nat.zero_le _, rfl, rfl, HC⟩
      case round =>
        clear HC
        obtain ⟨k, X, hk, rfl, rfl, HX⟩ := hrel
        by_cases hlt : k < s.bh.2.1
        · have hltI : (k : Int) < (s.bh.2.1 : Int) := by omega
          have hkl : k < s.brks.length := by rw [HN.out.2.1]; exact hlt
          have hiff := bear_iff HO.out hkl
          obtain ⟨b1, o1, q1, hb1, _, p1, _, _⟩ := bks_at (HI.out.1.later HX.out.bel).brks.rows k hkl
          generalize (s.brks.getD k default).limit = lim at p1 hiff
          obtain ⟨q, hq⟩ : ∃ q, bearV s x v k = q := ⟨_, rfl⟩
          obtain ⟨u, hu⟩ : ∃ u, ofBrk s x v k = u := ⟨_, rfl⟩
          rw [hq, hu] at hiff
          have hC1 : ∀ W, Below X.heap.size X W → Calls Try.prog 19 #[s.val, x.val, v.val, .int .i64 k] W fun e W' => e = .returned (.int .i64 q) ∧ Below W.heap.size W W' := fun W hb => by rw [← hq]; exact bears_ok s x v k W (HI.out.1.later (below_trans HX.out.bel hb)) (HI.out.2.1.later (below_trans HX.out.bel hb)) (HI.out.2.2.later (below_trans HX.out.bel hb))
          have hC2 : ∀ W, Below X.heap.size X W → Calls Try.prog 12 #[s.val, x.val, v.val, .int .i64 k] W fun e W' => e = .returned (.int .i64 u) ∧ Below W.heap.size W W' := fun W hb => by rw [← hu]; exact brk_ok s x v k W (HI.out.1.later (below_trans HX.out.bel hb)) (HI.out.2.1.later (below_trans HX.out.bel hb)) (HI.out.2.2.later (below_trans HX.out.bel hb))
          have hkk : ∀ W, Below X.heap.size X W → W.cell? ⟨w.heap.size, 0, none⟩ = some (.slice s.fh.1 s.fh.2.1 s.fh.2.2) ∧ W.cell? ⟨w.heap.size, 1, none⟩ = some (.slice s.bh.1 s.bh.2.1 s.bh.2.2) ∧ W.cell? ⟨w.heap.size, 2, none⟩ = some (.slice s.lh.1 s.lh.2.1 s.lh.2.2) ∧ W.cell? ⟨w.heap.size, 3, none⟩ = some (.slice s.rh.1 s.rh.2.1 s.rh.2.2) ∧ W.cell? ⟨w.heap.size, 4, none⟩ = some (.int .i64 s.switches) ∧ W.cell? ⟨w.heap.size, 5, none⟩ = some (.slice s.kh.1 s.kh.2.1 s.kh.2.2) ∧ W.cell? ⟨w.heap.size, 6, none⟩ = some (.slice s.hh.1 s.hh.2.1 s.hh.2.2) ∧ W.cell? ⟨w.heap.size + 1, 0, none⟩ = some (.slice x.sh.1 x.sh.2.1 x.sh.2.2) ∧ W.cell? ⟨w.heap.size + 1 + 1, 0, none⟩ = some (.slice v.hh.1 v.hh.2.1 v.hh.2.2) ∧ W.cell? ⟨w.heap.size + 1 + 1, 1, none⟩ = some (.slice v.rh.1 v.rh.2.1 v.rh.2.2) ∧ W.cell? ⟨b1, o1 + k * 4 + 1, none⟩ = some (.int .i64 lim) := fun W hb => ⟨(blk_cell (HX.out.later hb).si 0).trans rfl, (blk_cell (HX.out.later hb).si 1).trans rfl, (blk_cell (HX.out.later hb).si 2).trans rfl, (blk_cell (HX.out.later hb).si 3).trans rfl, (blk_cell (HX.out.later hb).si 4).trans rfl, (blk_cell (HX.out.later hb).si 5).trans rfl, (blk_cell (HX.out.later hb).si 6).trans rfl, (blk_cell (HX.out.later hb).wi 0).trans rfl, (blk_cell (HX.out.later hb).wo 0).trans rfl, (blk_cell (HX.out.later hb).wo 1).trans rfl, (hb.cell (by exact hb1)).trans p1⟩
          simp only [Site.val, Site.cells] at hC1 hC2
          rw [q1] at hkk hC1 hC2
          have HS := Lib.hid hkk
          have HC1 := Lib.hid hC1
          have HC2 := Lib.hid hC2
          have HQ := Lib.hid (And.intro hq hu)
          have bX : Below X.heap.size X X.drew := (below_self X).drew
          have d1 := (HS.out X (below_self X)).2.1
          have dlsi := blk_lt HX.out.si
          have dlwi := blk_lt HX.out.wi
          have dlwo := blk_lt HX.out.wo
          clear hkk hC1 hC2 hq hu q1
          by_cases hle : u ≤ lim
          · obtain rfl := hiff.2 hle
            clear hiff
            go_wp2_with fail
            go_region_held3 (fun W => W.cell? ⟨w.heap.size, 0, none⟩ = some (.slice s.fh.1 s.fh.2.1 s.fh.2.2) ∧ W.cell? ⟨w.heap.size, 1, none⟩ = some (.slice (some ⟨b1, o1, none⟩) s.bh.2.1 s.bh.2.2) ∧ W.cell? ⟨w.heap.size, 2, none⟩ = some (.slice s.lh.1 s.lh.2.1 s.lh.2.2) ∧ W.cell? ⟨w.heap.size, 3, none⟩ = some (.slice s.rh.1 s.rh.2.1 s.rh.2.2) ∧ W.cell? ⟨w.heap.size, 4, none⟩ = some (.int .i64 s.switches) ∧ W.cell? ⟨w.heap.size, 5, none⟩ = some (.slice s.kh.1 s.kh.2.1 s.kh.2.2) ∧ W.cell? ⟨w.heap.size, 6, none⟩ = some (.slice s.hh.1 s.hh.2.1 s.hh.2.2) ∧ W.cell? ⟨w.heap.size + 1, 0, none⟩ = some (.slice x.sh.1 x.sh.2.1 x.sh.2.2) ∧ W.cell? ⟨w.heap.size + 1 + 1, 0, none⟩ = some (.slice v.hh.1 v.hh.2.1 v.hh.2.2) ∧ W.cell? ⟨w.heap.size + 1 + 1, 1, none⟩ = some (.slice v.rh.1 v.rh.2.1 v.rh.2.2) ∧ W.cell? ⟨b1, o1 + k * 4 + 1, none⟩ = some (.int .i64 lim))
              (exact HS.out _ (by assumption))
              (first
                | (go_at_call 12; (with_reducible refine (HC2.out _ bH).mono ?_); rintro e Z9 ⟨rfl, b9⟩; have bZ := below_trans bH b9)
                | (go_at_call 19; (with_reducible refine (HC1.out _ bX).mono ?_); rintro e Y1 ⟨rfl, b1'⟩; have bH := below_trans bX b1'))
            have HZ := Lib.hid (HX.out.later bZ)
            clear HS bX bH bZ HC1 HC2
            go_wp2_with fail
            go_roundw
            case rel => exact ⟨k + 1, _, by omega, by go_num, rfl, HZ⟩
            case measure => simp [intOf]; omega
          · have hqB : (q == -1) = false := beq_eq_false_iff_ne.2 fun e => hle (hiff.1 e)
            clear hiff
            go_wp2_with fail
            go_region_held3 (fun W => W.cell? ⟨w.heap.size, 0, none⟩ = some (.slice s.fh.1 s.fh.2.1 s.fh.2.2) ∧ W.cell? ⟨w.heap.size, 1, none⟩ = some (.slice (some ⟨b1, o1, none⟩) s.bh.2.1 s.bh.2.2) ∧ W.cell? ⟨w.heap.size, 2, none⟩ = some (.slice s.lh.1 s.lh.2.1 s.lh.2.2) ∧ W.cell? ⟨w.heap.size, 3, none⟩ = some (.slice s.rh.1 s.rh.2.1 s.rh.2.2) ∧ W.cell? ⟨w.heap.size, 4, none⟩ = some (.int .i64 s.switches) ∧ W.cell? ⟨w.heap.size, 5, none⟩ = some (.slice s.kh.1 s.kh.2.1 s.kh.2.2) ∧ W.cell? ⟨w.heap.size, 6, none⟩ = some (.slice s.hh.1 s.hh.2.1 s.hh.2.2) ∧ W.cell? ⟨w.heap.size + 1, 0, none⟩ = some (.slice x.sh.1 x.sh.2.1 x.sh.2.2) ∧ W.cell? ⟨w.heap.size + 1 + 1, 0, none⟩ = some (.slice v.hh.1 v.hh.2.1 v.hh.2.2) ∧ W.cell? ⟨w.heap.size + 1 + 1, 1, none⟩ = some (.slice v.rh.1 v.rh.2.1 v.rh.2.2) ∧ W.cell? ⟨b1, o1 + k * 4 + 1, none⟩ = some (.int .i64 lim))
              (exact HS.out _ (by assumption))
              (first
                | (go_at_call 12; (with_reducible refine (HC2.out _ bH).mono ?_); rintro e Z9 ⟨rfl, b9⟩; have bZ := below_trans bH b9)
                | (go_at_call 19; (with_reducible refine (HC1.out _ bX).mono ?_); rintro e Y1 ⟨rfl, b1'⟩; have bH := below_trans bX b1'))
            have HZ := Lib.hid (HX.out.later bZ)
            clear HS bX bH bZ HC1 HC2
            go_wp2_with fail
            go_roundw
            case rel => exact ⟨k + 1, _, by omega, by go_num, rfl, HZ⟩
            case measure => simp [intOf]; omega
        · have hltI : ¬ (k : Int) < (s.bh.2.1 : Int) := by omega
          have d1 : X.cell? ⟨w.heap.size, 1, none⟩ = some (.slice s.bh.1 s.bh.2.1 s.bh.2.2) := (blk_cell HX.out.si 1).trans rfl
          have dlsi := blk_lt HX.out.si
          go_wp2_with fail
          refine (live_ok X).mono ?_
          rintro e Z ⟨rfl, b⟩
          have HZ := Lib.hid (below_trans HX.out.bel b)
          clear b
          go_wp2_with fail
          go_ret
          exact ⟨rfl, HZ.out⟩
end Go.Proofs.Ythlefdbhkbpejaa
