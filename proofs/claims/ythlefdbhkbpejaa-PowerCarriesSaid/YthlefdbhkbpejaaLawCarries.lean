/- Chapter 14: what the net carries: the walk (written by wip/gen14laws.py). -/
import Derived.Test.YthlefdbhkbpejaaLive
import Derived.Test.YthlefdbhkbpejaaFew
import Derived.Test.YthlefdbhkbpejaaRf13C
import Derived.Test.YthlefdbhkbpejaaPwE
namespace Go.Proofs.Ythlefdbhkbpejaa
open Go Go.RowKit F5
set_option linter.unusedSimpArgs false

set_option maxRecDepth 10000 in
set_option maxHeartbeats 16000000 in
theorem carries_walk (s : Site) (x : Wish) (v : Wld) (w : World) (hs : s.At w) (hx : x.At w) (hv : v.At w) :
    Calls Try.prog 5 #[s.val, x.val, v.val] w fun e W' => e = .returned (.bool true) ∧ Below w.heap.size w W' := by
  have HN := Lib.hid (And.intro (show s.feeds.length = s.fh.2.1 from hs.feeds.len) (And.intro (show s.brks.length = s.bh.2.1 from hs.brks.len) (show s.hosts.length = s.hh.2.1 from hs.hosts.len)))
  have HI := Lib.hid (And.intro hs (And.intro hx hv))
  clear hs hx hv
  go_enter Try.func5, Try.ntmps5
  go_wp2_with fail
  obtain ⟨A, hA⟩ : ∃ W' : World, (((w.alloc (.cells s.cells.toArray 29)).alloc (.cells x.cells.toArray 32)).alloc (.cells v.cells.toArray 36)) = W' := ⟨_, rfl⟩
  have h : Has A [(w.heap.size + 1 + 1, .cells v.cells.toArray 36 (0, 0)), (w.heap.size + 1, .cells x.cells.toArray 32 (0, 0)), (w.heap.size, .cells s.cells.toArray 29 (0, 0))] := by rw [← hA]; simpa using ((((Has.nil w).new _).new _).new _)
  have z : A.heap.size = w.heap.size + 1 + 1 + 1 := by rw [← hA]; simp
  have b : Below w.heap.size w A := by rw [← hA]; exact (below_alloc (below_alloc (below_alloc (below_self w) _) _) _)
  rw [hA]
  clear hA
  have HA := Lib.hid (show VB w s x v A from ⟨h.tl.tl.hd, h.tl.hd, h.hd, b⟩)
  clear h z b
  refine (few_ok s x v A (HI.out.1.later HA.out.bel) (HI.out.2.1.later HA.out.bel) (HI.out.2.2.later HA.out.bel)).mono ?_
  rintro e B ⟨rfl, b⟩
  have HB := Lib.hid (HA.out.later b)
  clear b HA
  cases hf : decide (Few s x v)
  · clear hf
    go_wp2_with fail
    refine (live_ok B).mono ?_
    rintro e Z ⟨rfl, b⟩
    have HZ := Lib.hid (below_trans HB.out.bel b)
    clear b
    go_wp2_with fail
    go_ret
    exact ⟨rfl, HZ.out⟩
  · clear hf
    have d0 : B.cell? ⟨w.heap.size, 0, none⟩ = some (.slice s.fh.1 s.fh.2.1 s.fh.2.2) := (blk_cell HB.out.si 0).trans rfl
    have d1 : B.cell? ⟨w.heap.size, 1, none⟩ = some (.slice s.bh.1 s.bh.2.1 s.bh.2.2) := (blk_cell HB.out.si 1).trans rfl
    have d2 : B.cell? ⟨w.heap.size, 2, none⟩ = some (.slice s.lh.1 s.lh.2.1 s.lh.2.2) := (blk_cell HB.out.si 2).trans rfl
    have d3 : B.cell? ⟨w.heap.size, 3, none⟩ = some (.slice s.rh.1 s.rh.2.1 s.rh.2.2) := (blk_cell HB.out.si 3).trans rfl
    have d4 : B.cell? ⟨w.heap.size, 4, none⟩ = some (.int .i64 s.switches) := (blk_cell HB.out.si 4).trans rfl
    have d5 : B.cell? ⟨w.heap.size, 5, none⟩ = some (.slice s.kh.1 s.kh.2.1 s.kh.2.2) := (blk_cell HB.out.si 5).trans rfl
    have d6 : B.cell? ⟨w.heap.size, 6, none⟩ = some (.slice s.hh.1 s.hh.2.1 s.hh.2.2) := (blk_cell HB.out.si 6).trans rfl
    have d7 : B.cell? ⟨w.heap.size + 1, 0, none⟩ = some (.slice x.sh.1 x.sh.2.1 x.sh.2.2) := (blk_cell HB.out.wi 0).trans rfl
    have d8 : B.cell? ⟨w.heap.size + 1 + 1, 0, none⟩ = some (.slice v.hh.1 v.hh.2.1 v.hh.2.2) := (blk_cell HB.out.wo 0).trans rfl
    have d9 : B.cell? ⟨w.heap.size + 1 + 1, 1, none⟩ = some (.slice v.rh.1 v.rh.2.1 v.rh.2.2) := (blk_cell HB.out.wo 1).trans rfl
    have dlsi := blk_lt HB.out.si
    have dlwi := blk_lt HB.out.wi
    have dlwo := blk_lt HB.out.wo
    go_wp2_with fail
    clear d0 d1 d2 d3 d4 d5 d6 d7 d8 d9 dlsi dlwi dlwo
    refine (world_ref s x v B (HI.out.1.later HB.out.bel) (HI.out.2.1.later HB.out.bel) (HI.out.2.2.later HB.out.bel)).mono ?_
    rintro e C ⟨rfl, b⟩
    have HC := Lib.hid (HB.out.later b)
    clear b HB
    cases hok : worldOk s x v
    · clear hok
      go_wp2_with fail
      refine (live_ok C).mono ?_
      rintro e Z ⟨rfl, b⟩
      have HZ := Lib.hid (below_trans HC.out.bel b)
      clear b
      go_wp2_with fail
      go_ret
      exact ⟨rfl, HZ.out⟩
    · have HO := Lib.hid hok
      have hnu := siteOk_nums (worldOk_site hok)
      have hsz := siteOk_sizes (worldOk_site hok)
      rw [HN.out.1, HN.out.2.1] at hnu
      rw [HN.out.2.2] at hsz
      clear hok
      have hpP : (pnOf s x v).nb = s.bh.2.1 := HN.out.2.1
      have HP := Lib.hid hpP
      clear hpP
      go_wp2_with fail
      go_loopw [7, 9, 10] (fun sm kp i wr => ∃ (f : Nat) (X : World), f ≤ s.fh.2.1 ∧ sm = .int .i64 (carK (pnOf s x v) f) ∧ kp = .bool (kOut (pnOf s x v) f) ∧ i = .int .i64 f ∧ X = wr ∧ Hid (VB w s x v X)) (fun _ _ i _ => s.fh.2.1 - (intOf i).toNat)
      case atStart => exact ⟨0, _, Nat.zero_le _, rfl, rfl, rfl, rfl, HC⟩
      case round =>
        clear HC
        obtain ⟨f, X, hf, rfl, rfl, rfl, rfl, HX⟩ := hrel
        by_cases hlt : f < s.fh.2.1
        · have hltI : (f : Int) < (s.fh.2.1 : Int) := by omega
          have hkl : f < s.feeds.length := by rw [HN.out.1]; exact hlt
          have d0 : X.cell? ⟨w.heap.size, 0, none⟩ = some (.slice s.fh.1 s.fh.2.1 s.fh.2.2) := (blk_cell HX.out.si 0).trans rfl
          have dlsi := blk_lt HX.out.si
          have dlwi := blk_lt HX.out.wi
          have dlwo := blk_lt HX.out.wo
          go_wp2_with fail
          clear d0 dlsi dlwi dlwo
          go_loopw [9, 11, 12] (fun kp pt i wr => ∃ (b : Nat) (X : World), b ≤ s.bh.2.1 ∧ kp = .bool (kOut (pnOf s x v) f && kIn (pnOf s x v) f b) ∧ pt = .int .i64 (partK (pnOf s x v) f b) ∧ i = .int .i64 b ∧ X = wr ∧ Hid (VB w s x v X)) (fun _ _ i _ => s.bh.2.1 - (intOf i).toNat)
          case atStart => exact ⟨0, _, Nat.zero_le _, by simp [kIn], rfl, rfl, rfl, HX⟩
          case round =>
            clear HX
            obtain ⟨b, X, hb, rfl, rfl, rfl, rfl, HX⟩ := hrel
            by_cases hlb : b < s.bh.2.1
            · have hlbI : (b : Int) < (s.bh.2.1 : Int) := by omega
              have hbl : b < s.brks.length := by rw [HN.out.2.1]; exact hlb
              have hfe := (siteOk_brk (worldOk_site HO.out) hbl).1
              have hps := partK_succ (pnOf s x v) f b
              have hks := kIn_succ (pnOf s x v) f b
              have hpl := partK_le HO.out f (b := b) (by omega)
              have hlB := pn_lB HO.out b
              have hlm := pn_lb HO.out hbl
              have hld := pn_loadB HO.out b
              have hbf : (pnOf s x v).bf b = f ↔ (s.brks.getD b default).feed = (f : Int) := by
                show feedI s b = f ↔ _
                unfold feedI
                omega
              obtain ⟨b1, o1, q1, hb1, p0, p1, _, _⟩ := bks_at (HI.out.1.later HX.out.bel).brks.rows b hbl
              have hlim : (pnOf s x v).lb b = (s.brks.getD b default).limit := rfl
              rw [hlim] at hps hks hlm
              clear hlim
              generalize s.brks.getD b default = y at p0 p1 hbf hlm hps hks hfe
              obtain ⟨yf, lim, ys, yt⟩ := y
              simp only at p0 p1 hbf hlm hps hks hfe
              obtain ⟨pt, hpt⟩ : ∃ pt, partK (pnOf s x v) f b = pt := ⟨_, rfl⟩
              obtain ⟨u, hu⟩ : ∃ u, (pnOf s x v).loadB b = u := ⟨_, rfl⟩
              rw [hpt] at hps hpl
              rw [hpt]
              rw [hu] at hps hks hlB hld
              by_cases hyf : yf = (f : Int)
              · rw [if_pos (hbf.2 hyf)] at hps hks
                have hyB : (yf == (f : Int)) = true := beq_iff_eq.2 hyf
                have hmn : (if lim < u then lim else u) = min u lim := by omega
                have hw1 : IntKind.i64.wrap (pt + min u lim) = pt + min u lim := IntWalk.i64_in _ (by omega)
                obtain ⟨k1, hk1⟩ : ∃ k1, (kOut (pnOf s x v) f && kIn (pnOf s x v) f b) = k1 := ⟨_, rfl⟩
                rw [hk1]
                have HK := Lib.hid (And.intro (show partK (pnOf s x v) f (b + 1) = pt + min u lim from hps) (And.intro (show (kOut (pnOf s x v) f && kIn (pnOf s x v) f (b + 1)) = (k1 && decide (u ≤ lim)) by rw [hks, ← Bool.and_assoc, hk1]) (show ofBrk s x v b = u from hld.symm)))
                have HQ := Lib.hid q1
                subst hyf
                have d0 : X.cell? ⟨w.heap.size, 0, none⟩ = some (.slice s.fh.1 s.fh.2.1 s.fh.2.2) := (blk_cell HX.out.si 0).trans rfl
                have d1 : X.cell? ⟨w.heap.size, 1, none⟩ = some (.slice s.bh.1 s.bh.2.1 s.bh.2.2) := (blk_cell HX.out.si 1).trans rfl
                have d2 : X.cell? ⟨w.heap.size, 2, none⟩ = some (.slice s.lh.1 s.lh.2.1 s.lh.2.2) := (blk_cell HX.out.si 2).trans rfl
                have d3 : X.cell? ⟨w.heap.size, 3, none⟩ = some (.slice s.rh.1 s.rh.2.1 s.rh.2.2) := (blk_cell HX.out.si 3).trans rfl
                have d4 : X.cell? ⟨w.heap.size, 4, none⟩ = some (.int .i64 s.switches) := (blk_cell HX.out.si 4).trans rfl
                have d5 : X.cell? ⟨w.heap.size, 5, none⟩ = some (.slice s.kh.1 s.kh.2.1 s.kh.2.2) := (blk_cell HX.out.si 5).trans rfl
                have d6 : X.cell? ⟨w.heap.size, 6, none⟩ = some (.slice s.hh.1 s.hh.2.1 s.hh.2.2) := (blk_cell HX.out.si 6).trans rfl
                have d7 : X.cell? ⟨w.heap.size + 1, 0, none⟩ = some (.slice x.sh.1 x.sh.2.1 x.sh.2.2) := (blk_cell HX.out.wi 0).trans rfl
                have d8 : X.cell? ⟨w.heap.size + 1 + 1, 0, none⟩ = some (.slice v.hh.1 v.hh.2.1 v.hh.2.2) := (blk_cell HX.out.wo 0).trans rfl
                have d9 : X.cell? ⟨w.heap.size + 1 + 1, 1, none⟩ = some (.slice v.rh.1 v.rh.2.1 v.rh.2.2) := (blk_cell HX.out.wo 1).trans rfl
                have dlsi := blk_lt HX.out.si
                have dlwi := blk_lt HX.out.wi
                have dlwo := blk_lt HX.out.wo
                rw [q1] at d1
                clear hps hks hpl hlB hlm hld hbf hpt hu hk1 hfe
                go_upto_region 12 with fail
                clear d1
                have d1 : X.cell? ⟨w.heap.size, 1, none⟩ = some (.slice s.bh.1 s.bh.2.1 s.bh.2.2) := (blk_cell HX.out.si 1).trans rfl
                clear q1
                go_wp2_with fail
                refine (brk_ok s x v b X (HI.out.1.later HX.out.bel) (HI.out.2.1.later HX.out.bel) (HI.out.2.2.later HX.out.bel)).mono ?_
                rintro e Y ⟨rfl, bY⟩
                rw [HK.out.2.2]
                have p1' : Y.cell? ⟨b1, o1 + b * 4 + 1, none⟩ = some (.int .i64 lim) := (bY.cell (by exact hb1)).trans p1
                have HY := Lib.hid (HX.out.later bY)
                have hb1' : b1 < Y.heap.size := Nat.lt_of_lt_of_le hb1 bY.size
                clear d0 d1 d2 d3 d4 d5 d6 d7 d8 d9 dlsi dlwi dlwo HX bY p0 p1 hb1
                have d0 : Y.cell? ⟨w.heap.size, 0, none⟩ = some (.slice s.fh.1 s.fh.2.1 s.fh.2.2) := (blk_cell HY.out.si 0).trans rfl
                have d1 : Y.cell? ⟨w.heap.size, 1, none⟩ = some (.slice s.bh.1 s.bh.2.1 s.bh.2.2) := (blk_cell HY.out.si 1).trans rfl
                have d2 : Y.cell? ⟨w.heap.size, 2, none⟩ = some (.slice s.lh.1 s.lh.2.1 s.lh.2.2) := (blk_cell HY.out.si 2).trans rfl
                have d3 : Y.cell? ⟨w.heap.size, 3, none⟩ = some (.slice s.rh.1 s.rh.2.1 s.rh.2.2) := (blk_cell HY.out.si 3).trans rfl
                have d4 : Y.cell? ⟨w.heap.size, 4, none⟩ = some (.int .i64 s.switches) := (blk_cell HY.out.si 4).trans rfl
                have d5 : Y.cell? ⟨w.heap.size, 5, none⟩ = some (.slice s.kh.1 s.kh.2.1 s.kh.2.2) := (blk_cell HY.out.si 5).trans rfl
                have d6 : Y.cell? ⟨w.heap.size, 6, none⟩ = some (.slice s.hh.1 s.hh.2.1 s.hh.2.2) := (blk_cell HY.out.si 6).trans rfl
                have d7 : Y.cell? ⟨w.heap.size + 1, 0, none⟩ = some (.slice x.sh.1 x.sh.2.1 x.sh.2.2) := (blk_cell HY.out.wi 0).trans rfl
                have d8 : Y.cell? ⟨w.heap.size + 1 + 1, 0, none⟩ = some (.slice v.hh.1 v.hh.2.1 v.hh.2.2) := (blk_cell HY.out.wo 0).trans rfl
                have d9 : Y.cell? ⟨w.heap.size + 1 + 1, 1, none⟩ = some (.slice v.rh.1 v.rh.2.1 v.rh.2.2) := (blk_cell HY.out.wo 1).trans rfl
                have dlsi := blk_lt HY.out.si
                have dlwi := blk_lt HY.out.wi
                have dlwo := blk_lt HY.out.wo
                rw [HQ.out] at d1
                cases k1
                · have HK2 := Lib.hid (show (kOut (pnOf s x v) f && kIn (pnOf s x v) f (b + 1)) = false by rw [HK.out.2.1, Bool.false_and])
                  go_wp2_with fail
                  go_roundw
                  case rel => exact ⟨b + 1, _, by omega, by rw [HK2.out], by rw [HK.out.1], by go_num, rfl, HY⟩
                  case measure => simp [intOf]; omega
                · have HK2 := Lib.hid (show (kOut (pnOf s x v) f && kIn (pnOf s x v) f (b + 1)) = decide (u ≤ lim) by rw [HK.out.2.1, Bool.true_and])
                  go_wp2_with fail
                  go_roundw
                  case rel => exact ⟨b + 1, _, by omega, by rw [HK2.out], by rw [HK.out.1], by go_num, rfl, HY⟩
                  case measure => simp [intOf]; omega
              · rw [if_neg (fun e => hyf (hbf.1 e))] at hps hks
                have hyB : (yf == (f : Int)) = false := beq_eq_false_iff_ne.2 hyf
                have HK := Lib.hid (And.intro hps hks)
                have d1 : X.cell? ⟨w.heap.size, 1, none⟩ = some (.slice s.bh.1 s.bh.2.1 s.bh.2.2) := (blk_cell HX.out.si 1).trans rfl
                have dlsi := blk_lt HX.out.si
                have dlwi := blk_lt HX.out.wi
                have dlwo := blk_lt HX.out.wo
                rw [q1] at d1
                clear hps hks hpl hlB hlm hld hbf hpt hu hfe
                go_wp2_with fail
                go_roundw
                case rel => exact ⟨b + 1, _, by omega, by rw [HK.out.2], by rw [HK.out.1], by go_num, rfl, HX⟩
                case measure => simp [intOf]; omega
            · have hlbI : ¬ (b : Int) < (s.bh.2.1 : Int) := by omega
              obtain rfl : b = s.bh.2.1 := by omega
              have hcs := carK_succ (pnOf s x v) f
              have hcl := carK_le HO.out (f := f) (by omega)
              have hpl := partK_le HO.out f (b := s.bh.2.1) (by rw [HN.out.2.1]; exact Nat.le_refl _)
              have hlm := pn_lf HO.out hkl
              have hlF := pn_lF HO.out f
              have hld := pn_loadF HO.out f
              rw [HP.out] at hcs
              obtain ⟨b1, o1, q1, hb1, p0⟩ := fds_at (HI.out.1.later HX.out.bel).feeds.rows f hkl
              have hlim : (pnOf s x v).lf f = (s.feeds.getD f default).limit := rfl
              have hko : kOut (pnOf s x v) (f + 1) = (kOut (pnOf s x v) f && kIn (pnOf s x v) f s.bh.2.1 && decide ((pnOf s x v).loadF f ≤ (pnOf s x v).lf f)) := by rw [← HP.out]; rfl
              rw [hlim] at hcs hlm hko
              clear hlim
              generalize (s.feeds.getD f default).limit = lim at p0 hlm hcs hko
              obtain ⟨cs, hcs0⟩ : ∃ cs, carK (pnOf s x v) f = cs := ⟨_, rfl⟩
              obtain ⟨pt, hpt⟩ : ∃ pt, partK (pnOf s x v) f s.bh.2.1 = pt := ⟨_, rfl⟩
              obtain ⟨u, hu⟩ : ∃ u, (pnOf s x v).loadF f = u := ⟨_, rfl⟩
              obtain ⟨k1, hk1⟩ : ∃ k1, (kOut (pnOf s x v) f && kIn (pnOf s x v) f s.bh.2.1) = k1 := ⟨_, rfl⟩
              rw [hcs0, hpt] at hcs
              rw [hcs0] at hcl
              rw [hpt] at hpl
              rw [hu] at hlF hld hko
              rw [hk1] at hko
              rw [hcs0, hpt, hk1]
              have hmn : (if lim < pt then lim else pt) = min pt lim := by omega
              have hw1 : IntKind.i64.wrap (cs + min pt lim) = cs + min pt lim := IntWalk.i64_in _ (by omega)
              have HK := Lib.hid (And.intro hcs (And.intro hko hld.symm))
              have HQ := Lib.hid q1
              have d0 : X.cell? ⟨w.heap.size, 0, none⟩ = some (.slice s.fh.1 s.fh.2.1 s.fh.2.2) := (blk_cell HX.out.si 0).trans rfl
              have d1 : X.cell? ⟨w.heap.size, 1, none⟩ = some (.slice s.bh.1 s.bh.2.1 s.bh.2.2) := (blk_cell HX.out.si 1).trans rfl
              have d2 : X.cell? ⟨w.heap.size, 2, none⟩ = some (.slice s.lh.1 s.lh.2.1 s.lh.2.2) := (blk_cell HX.out.si 2).trans rfl
              have d3 : X.cell? ⟨w.heap.size, 3, none⟩ = some (.slice s.rh.1 s.rh.2.1 s.rh.2.2) := (blk_cell HX.out.si 3).trans rfl
              have d4 : X.cell? ⟨w.heap.size, 4, none⟩ = some (.int .i64 s.switches) := (blk_cell HX.out.si 4).trans rfl
              have d5 : X.cell? ⟨w.heap.size, 5, none⟩ = some (.slice s.kh.1 s.kh.2.1 s.kh.2.2) := (blk_cell HX.out.si 5).trans rfl
              have d6 : X.cell? ⟨w.heap.size, 6, none⟩ = some (.slice s.hh.1 s.hh.2.1 s.hh.2.2) := (blk_cell HX.out.si 6).trans rfl
              have d7 : X.cell? ⟨w.heap.size + 1, 0, none⟩ = some (.slice x.sh.1 x.sh.2.1 x.sh.2.2) := (blk_cell HX.out.wi 0).trans rfl
              have d8 : X.cell? ⟨w.heap.size + 1 + 1, 0, none⟩ = some (.slice v.hh.1 v.hh.2.1 v.hh.2.2) := (blk_cell HX.out.wo 0).trans rfl
              have d9 : X.cell? ⟨w.heap.size + 1 + 1, 1, none⟩ = some (.slice v.rh.1 v.rh.2.1 v.rh.2.2) := (blk_cell HX.out.wo 1).trans rfl
              have dlsi := blk_lt HX.out.si
              have dlwi := blk_lt HX.out.wi
              have dlwo := blk_lt HX.out.wo
              rw [q1] at d0
              clear hcs hko hcl hpl hlm hlF hld hcs0 hpt hu hk1 q1
              go_upto_region 16 with fail
              have hkk : ∀ W, Below X.heap.size X W → W.cell? ⟨w.heap.size, 0, none⟩ = some (.slice s.fh.1 s.fh.2.1 s.fh.2.2) ∧ W.cell? ⟨w.heap.size, 1, none⟩ = some (.slice s.bh.1 s.bh.2.1 s.bh.2.2) ∧ W.cell? ⟨w.heap.size, 2, none⟩ = some (.slice s.lh.1 s.lh.2.1 s.lh.2.2) ∧ W.cell? ⟨w.heap.size, 3, none⟩ = some (.slice s.rh.1 s.rh.2.1 s.rh.2.2) ∧ W.cell? ⟨w.heap.size, 4, none⟩ = some (.int .i64 s.switches) ∧ W.cell? ⟨w.heap.size, 5, none⟩ = some (.slice s.kh.1 s.kh.2.1 s.kh.2.2) ∧ W.cell? ⟨w.heap.size, 6, none⟩ = some (.slice s.hh.1 s.hh.2.1 s.hh.2.2) ∧ W.cell? ⟨w.heap.size + 1, 0, none⟩ = some (.slice x.sh.1 x.sh.2.1 x.sh.2.2) ∧ W.cell? ⟨w.heap.size + 1 + 1, 0, none⟩ = some (.slice v.hh.1 v.hh.2.1 v.hh.2.2) ∧ W.cell? ⟨w.heap.size + 1 + 1, 1, none⟩ = some (.slice v.rh.1 v.rh.2.1 v.rh.2.2) ∧ W.cell? ⟨b1, o1 + f, none⟩ = some (.int .i64 lim) := fun W hb => ⟨(blk_cell (HX.out.later hb).si 0).trans rfl, (blk_cell (HX.out.later hb).si 1).trans rfl, (blk_cell (HX.out.later hb).si 2).trans rfl, (blk_cell (HX.out.later hb).si 3).trans rfl, (blk_cell (HX.out.later hb).si 4).trans rfl, (blk_cell (HX.out.later hb).si 5).trans rfl, (blk_cell (HX.out.later hb).si 6).trans rfl, (blk_cell (HX.out.later hb).wi 0).trans rfl, (blk_cell (HX.out.later hb).wo 0).trans rfl, (blk_cell (HX.out.later hb).wo 1).trans rfl, (hb.cell (by exact hb1)).trans p0⟩
              have hC2 : ∀ W, Below X.heap.size X W → Calls Try.prog 13 #[s.val, x.val, v.val, .int .i64 f] W fun e W' => e = .returned (.int .i64 u) ∧ Below W.heap.size W W' := fun W hb => by rw [← HK.out.2.2]; exact feed_ok s x v f W (HI.out.1.later (below_trans HX.out.bel hb)) (HI.out.2.1.later (below_trans HX.out.bel hb)) (HI.out.2.2.later (below_trans HX.out.bel hb))
              simp only [Site.val, Site.cells] at hC2
              rw [HQ.out] at hkk hC2
              have HS := Lib.hid hkk
              have HC2 := Lib.hid hC2
              have bX : Below X.heap.size X X.drew := (below_self X).drew
              clear hkk hC2 d0 d1 d2 d3 d4 d5 d6 d7 d8 d9 
              cases k1
              · have HK2 := Lib.hid (show kOut (pnOf s x v) (f + 1) = false by rw [HK.out.2.1, Bool.false_and])
                go_quiet (fail)
                go_wp2_with fail
                go_roundw
                case rel => exact ⟨f + 1, _, by omega, by rw [HK.out.1], by rw [HK2.out], by go_num, rfl, Lib.hid (HX.out.later (below_drewN (below_self X) _))⟩
                case measure => simp [intOf]; omega
              · have HK2 := Lib.hid (show kOut (pnOf s x v) (f + 1) = decide (u ≤ lim) by rw [HK.out.2.1, Bool.true_and])
                by_cases hle : u ≤ lim
                · go_region_held3 (fun W => W.cell? ⟨w.heap.size, 0, none⟩ = some (.slice (some ⟨b1, o1, none⟩) s.fh.2.1 s.fh.2.2) ∧ W.cell? ⟨w.heap.size, 1, none⟩ = some (.slice s.bh.1 s.bh.2.1 s.bh.2.2) ∧ W.cell? ⟨w.heap.size, 2, none⟩ = some (.slice s.lh.1 s.lh.2.1 s.lh.2.2) ∧ W.cell? ⟨w.heap.size, 3, none⟩ = some (.slice s.rh.1 s.rh.2.1 s.rh.2.2) ∧ W.cell? ⟨w.heap.size, 4, none⟩ = some (.int .i64 s.switches) ∧ W.cell? ⟨w.heap.size, 5, none⟩ = some (.slice s.kh.1 s.kh.2.1 s.kh.2.2) ∧ W.cell? ⟨w.heap.size, 6, none⟩ = some (.slice s.hh.1 s.hh.2.1 s.hh.2.2) ∧ W.cell? ⟨w.heap.size + 1, 0, none⟩ = some (.slice x.sh.1 x.sh.2.1 x.sh.2.2) ∧ W.cell? ⟨w.heap.size + 1 + 1, 0, none⟩ = some (.slice v.hh.1 v.hh.2.1 v.hh.2.2) ∧ W.cell? ⟨w.heap.size + 1 + 1, 1, none⟩ = some (.slice v.rh.1 v.rh.2.1 v.rh.2.2) ∧ W.cell? ⟨b1, o1 + f, none⟩ = some (.int .i64 lim))
                    (exact HS.out _ (by assumption))
                    (first
                      | (go_at_call 13; (with_reducible refine (HC2.out _ bX).mono ?_); rintro e Z9 ⟨rfl, b9⟩; have bZ := below_trans bX b9))
                  have HZ := Lib.hid (HX.out.later bZ)
                  clear HS bX bZ HC2
                  go_wp2_with fail
                  go_roundw
                  case rel => exact ⟨f + 1, _, by omega, by rw [HK.out.1], by simp [HK2.out, hle], by go_num, rfl, HZ⟩
                  case measure => simp [intOf]; omega
                · go_region_held3 (fun W => W.cell? ⟨w.heap.size, 0, none⟩ = some (.slice (some ⟨b1, o1, none⟩) s.fh.2.1 s.fh.2.2) ∧ W.cell? ⟨w.heap.size, 1, none⟩ = some (.slice s.bh.1 s.bh.2.1 s.bh.2.2) ∧ W.cell? ⟨w.heap.size, 2, none⟩ = some (.slice s.lh.1 s.lh.2.1 s.lh.2.2) ∧ W.cell? ⟨w.heap.size, 3, none⟩ = some (.slice s.rh.1 s.rh.2.1 s.rh.2.2) ∧ W.cell? ⟨w.heap.size, 4, none⟩ = some (.int .i64 s.switches) ∧ W.cell? ⟨w.heap.size, 5, none⟩ = some (.slice s.kh.1 s.kh.2.1 s.kh.2.2) ∧ W.cell? ⟨w.heap.size, 6, none⟩ = some (.slice s.hh.1 s.hh.2.1 s.hh.2.2) ∧ W.cell? ⟨w.heap.size + 1, 0, none⟩ = some (.slice x.sh.1 x.sh.2.1 x.sh.2.2) ∧ W.cell? ⟨w.heap.size + 1 + 1, 0, none⟩ = some (.slice v.hh.1 v.hh.2.1 v.hh.2.2) ∧ W.cell? ⟨w.heap.size + 1 + 1, 1, none⟩ = some (.slice v.rh.1 v.rh.2.1 v.rh.2.2) ∧ W.cell? ⟨b1, o1 + f, none⟩ = some (.int .i64 lim))
                    (exact HS.out _ (by assumption))
                    (first
                      | (go_at_call 13; (with_reducible refine (HC2.out _ bX).mono ?_); rintro e Z9 ⟨rfl, b9⟩; have bZ := below_trans bX b9))
                  have HZ := Lib.hid (HX.out.later bZ)
                  clear HS bX bZ HC2
                  go_wp2_with fail
                  go_roundw
                  case rel => exact ⟨f + 1, _, by omega, by rw [HK.out.1], by simp [HK2.out, hle], by go_num, rfl, HZ⟩
                  case measure => simp [intOf]; omega
        · have hltI : ¬ (f : Int) < (s.fh.2.1 : Int) := by omega
          have HF := Lib.hid (show f = s.feeds.length by rw [HN.out.1]; omega)
          obtain ⟨sm, hsm⟩ : ∃ sm, carK (pnOf s x v) f = sm := ⟨_, rfl⟩
          obtain ⟨kp, hkp⟩ : ∃ kp, kOut (pnOf s x v) f = kp := ⟨_, rfl⟩
          have HSK := Lib.hid (And.intro (show carV s x v = sm by unfold carV; rw [if_pos HO.out, ← hsm, HF.out]; rfl) (show decide (sm = allK s x v s.hosts.length) = kp by rw [← hkp, HF.out, ← car_kept HO.out, ← hsm, HF.out]; rfl))
          rw [hsm, hkp]
          clear hsm hkp HF
          have d0 : X.cell? ⟨w.heap.size, 0, none⟩ = some (.slice s.fh.1 s.fh.2.1 s.fh.2.2) := (blk_cell HX.out.si 0).trans rfl
          have dlsi := blk_lt HX.out.si
          have dlwi := blk_lt HX.out.wi
          have dlwo := blk_lt HX.out.wo
          go_wp2_with fail
          clear d0 dlsi dlwi dlwo
          go_loopw [8, 14] (fun al i wr => ∃ (i' : Nat) (X : World), i' ≤ s.hh.2.1 ∧ al = .int .i64 (allK s x v i') ∧ i = .int .i64 i' ∧ X = wr ∧ Hid (VB w s x v X)) (fun _ i _ => s.hh.2.1 - (intOf i).toNat)
          case atStart => exact ⟨0, _, Nat.zero_le _, rfl, rfl, rfl, HX⟩
          case round =>
            clear HX
            obtain ⟨i, X, hi, rfl, rfl, rfl, HX⟩ := hrel
            have d0 : X.cell? ⟨w.heap.size, 0, none⟩ = some (.slice s.fh.1 s.fh.2.1 s.fh.2.2) := (blk_cell HX.out.si 0).trans rfl
            have d1 : X.cell? ⟨w.heap.size, 1, none⟩ = some (.slice s.bh.1 s.bh.2.1 s.bh.2.2) := (blk_cell HX.out.si 1).trans rfl
            have d2 : X.cell? ⟨w.heap.size, 2, none⟩ = some (.slice s.lh.1 s.lh.2.1 s.lh.2.2) := (blk_cell HX.out.si 2).trans rfl
            have d3 : X.cell? ⟨w.heap.size, 3, none⟩ = some (.slice s.rh.1 s.rh.2.1 s.rh.2.2) := (blk_cell HX.out.si 3).trans rfl
            have d4 : X.cell? ⟨w.heap.size, 4, none⟩ = some (.int .i64 s.switches) := (blk_cell HX.out.si 4).trans rfl
            have d5 : X.cell? ⟨w.heap.size, 5, none⟩ = some (.slice s.kh.1 s.kh.2.1 s.kh.2.2) := (blk_cell HX.out.si 5).trans rfl
            have d6 : X.cell? ⟨w.heap.size, 6, none⟩ = some (.slice s.hh.1 s.hh.2.1 s.hh.2.2) := (blk_cell HX.out.si 6).trans rfl
            have d7 : X.cell? ⟨w.heap.size + 1, 0, none⟩ = some (.slice x.sh.1 x.sh.2.1 x.sh.2.2) := (blk_cell HX.out.wi 0).trans rfl
            have d8 : X.cell? ⟨w.heap.size + 1 + 1, 0, none⟩ = some (.slice v.hh.1 v.hh.2.1 v.hh.2.2) := (blk_cell HX.out.wo 0).trans rfl
            have d9 : X.cell? ⟨w.heap.size + 1 + 1, 1, none⟩ = some (.slice v.rh.1 v.rh.2.1 v.rh.2.2) := (blk_cell HX.out.wo 1).trans rfl
            have dlsi := blk_lt HX.out.si
            have dlwi := blk_lt HX.out.wi
            have dlwo := blk_lt HX.out.wo
            by_cases hli : i < s.hh.2.1
            · have hliI : (i : Int) < (s.hh.2.1 : Int) := by omega
              have hal := allK_le HO.out i
              have hwl := wattsN_le HO.out (i : Int)
              have has' : allK s x v (i + 1) = allK s x v i + wattsN s x v i := rfl
              obtain ⟨al, hal0⟩ : ∃ al, allK s x v i = al := ⟨_, rfl⟩
              obtain ⟨u, hu⟩ : ∃ u, wattsN s x v i = u := ⟨_, rfl⟩
              rw [hal0, hu] at has'
              rw [hal0] at hal
              rw [hu] at hwl
              rw [hal0]
              have hw1 : IntKind.i64.wrap (al + u) = al + u := IntWalk.i64_in _ (by omega)
              have HK := Lib.hid (And.intro has' hu)
              clear has' hu hal0 hal hwl
              go_wp2_with fail
              refine (watts0_ok s x v i X (HI.out.1.later HX.out.bel) (HI.out.2.1.later HX.out.bel) (HI.out.2.2.later HX.out.bel)).mono ?_
              rintro e Y ⟨rfl, bY⟩
              rw [HK.out.2]
              have HY := Lib.hid (HX.out.later bY)
              clear d0 d1 d2 d3 d4 d5 d6 d7 d8 d9 dlsi dlwi dlwo HX bY
              go_wp2_with fail
              go_roundw
              case rel => exact ⟨i + 1, _, by omega, by rw [HK.out.1], by go_num, rfl, HY⟩
              case measure => simp [intOf]; omega
            · have hliI : ¬ (i : Int) < (s.hh.2.1 : Int) := by omega
              have HF := Lib.hid (show i = s.hosts.length by rw [HN.out.2.2]; omega)
              obtain ⟨al, hal0⟩ : ∃ al, allK s x v i = al := ⟨_, rfl⟩
              have HD := Lib.hid (show decide (sm = al) = kp by rw [← hal0, HF.out]; exact HSK.out.2)
              rw [hal0]
              clear hal0
              go_wp2_with fail
              refine (carried_ok s x v X (HI.out.1.later HX.out.bel) (HI.out.2.1.later HX.out.bel) (HI.out.2.2.later HX.out.bel)).mono ?_
              rintro e Y ⟨rfl, bY⟩
              rw [HSK.out.1]
              have HY := Lib.hid (below_trans HX.out.bel bY)
              clear d0 d1 d2 d3 d4 d5 d6 d7 d8 d9 dlsi dlwi dlwo HX bY
              have hss : (sm == sm) = true := beq_self_eq_true sm
              have hal' : (sm == al) = kp := by rw [← HD.out]; rfl
              have hkk : (kp == kp) = true := beq_self_eq_true kp
              go_wp2_with fail
              refine (live_ok Y).mono ?_
              rintro e Z ⟨rfl, b⟩
              have HZ := Lib.hid (below_trans HY.out b)
              clear b
              go_wp2_with fail
              go_ret
              exact ⟨rfl, HZ.out⟩
end Go.Proofs.Ythlefdbhkbpejaa
