/- Chapter 15: the reference's Watts. -/
import Derived.Test.YthlefdbhkbpejaaGreatRf13C
import Derived.Test.YthlefdbhkbpejaaGreatPow
namespace Go.Proofs.YthlefdbhkbpejaaGreat
open Go Go.RowKit
set_option linter.unusedSimpArgs false

/-- Used's memory: the two boxes. -/
structure UB (w : World) (x : Wish) (v : Wld) (X : World) : Prop where
  wi : X.heap[w.heap.size]? = some (.cells x.cells.toArray 32 (0, 0))
  wo : X.heap[w.heap.size + 1]? = some (.cells v.cells.toArray 36 (0, 0))
  bel : Below w.heap.size w X
theorem UB.later {w : World} {x : Wish} {v : Wld} {X X' : World} (h : UB w x v X) (hb : Below X.heap.size X X') : UB w x v X' := ⟨blk_below h.wi hb, blk_below h.wo hb, below_trans h.bel hb⟩
set_option maxRecDepth 10000 in
set_option maxHeartbeats 4000000 in
theorem used_ref (x : Wish) (v : Wld) (host : Int) (w : World) (hx : x.At w) (hv : v.At w) (hr : RepsIn x v) : Calls Tryz.prog 28 #[x.val, v.val, .int .i64 host] w fun e W' => e = .returned (.int .i64 (used x v host)) ∧ Below w.heap.size w W' := by
  have HI := Lib.hid (And.intro hx (And.intro hv hr))
  have HN := Lib.hid (And.intro (show x.svcs.length = x.sh.2.1 from hx.svcs.len) (show v.reps.length = v.rh.2.1 from hv.reps.len))
  have HE := Lib.hid (used_all x v host)
  have l0 := hx.svcs.le
  have l1 : v.rh.2.1 ≤ 24 := by have := hr.1; rw [hv.reps.len] at this; exact this
  rw [HE.out]
  clear hx hv hr
  go_enter Tryz.func28, Tryz.ntmps28
  go_wp2_with fail
  obtain ⟨A, hA⟩ : ∃ W' : World, ((w.alloc (.cells x.cells.toArray 32)).alloc (.cells v.cells.toArray 36)) = W' := ⟨_, rfl⟩
  have h : Has A [(w.heap.size + 1, .cells v.cells.toArray 36 (0, 0)), (w.heap.size, .cells x.cells.toArray 32 (0, 0))] := by rw [← hA]; simpa using (((Has.nil w).new _).new _)
  have z : A.heap.size = w.heap.size + 1 + 1 := by rw [← hA]; simp
  have b : Below w.heap.size w A := by rw [← hA]; exact (below_alloc (below_alloc (below_self w) _) _)
  rw [hA]
  clear hA
  have HA := Lib.hid (show UB w x v A from ⟨h.tl.hd, h.hd, b⟩)
  clear h z b
  go_loopw [7, 8] (fun sv i wr => ∃ (k : Nat) (X : World), k ≤ v.rh.2.1 ∧ sv = .int .i64 (usedL x (v.reps.take k) host) ∧ i = .int .i64 k ∧ X = wr ∧ Hid (UB w x v X)) (fun _ i _ => v.rh.2.1 - (intOf i).toNat)
  case atStart => exact ⟨0, _, Nat.zero_le _, rfl, rfl, rfl, HA⟩
  case round =>
    obtain ⟨k, X, hk, rfl, rfl, rfl, HX⟩ := hrel
    have d1 : X.cell? ⟨w.heap.size + 1, 1, none⟩ = some (.slice v.rh.1 v.rh.2.1 v.rh.2.2) := (blk_cell HX.out.wo 1).trans rfl
    have dl1 := blk_lt HX.out.wo
    by_cases hlt : k < v.rh.2.1
    · have hltI : (k : Int) < (v.rh.2.1 : Int) := by omega
      have hki : k < v.reps.length := by rw [HN.out.2]; exact hlt
      obtain ⟨b1, o1, q1, hb1, p0, p1⟩ := rps_at (HI.out.2.1.later HX.out.bel).reps.rows k hki
      rw [q1] at d1
      have hin := HI.out.2.2.2.1 k hki
      have hS := usedL_succ (x := x) (h := host) hki _ rfl
      have hbd := usedL_le (h := host) HI.out.2.2 k (Nat.le_of_lt hki)
      generalize v.reps.getD k default = y at p0 p1 hin hS
      obtain ⟨j, hj⟩ : ∃ j : Nat, y.svc = j := ⟨y.svc.toNat, by omega⟩
      rw [hj] at p0 hin hS
      have hjl : j < x.svcs.length := by omega
      have hco := HI.out.2.2.2.2 j hjl
      obtain ⟨b2, o2, q2, hb2, hc⟩ := svs_at ((HI.out.1.later HX.out.bel).svcs.rows) j hjl
      have c0 : X.cell? ⟨b2, o2 + j * 8, none⟩ = some (.int .i64 (x.svcs.getD j default).cores) := hc 0 _ rfl
      have d0 : X.cell? ⟨w.heap.size, 0, none⟩ = some (.slice x.sh.1 x.sh.2.1 x.sh.2.2) := (blk_cell HX.out.wi 0).trans rfl
      rw [q2] at d0
      have dl0 := blk_lt HX.out.wi
      have hjn : j < x.sh.2.1 := by rw [← HN.out.1]; exact hjl
      have hjI : (j : Int) < (x.sh.2.1 : Int) := by omega
      rw [Int.toNat_natCast] at hS
      generalize (x.svcs.getD j default).cores = g at c0 hco hS
      obtain ⟨S, hs⟩ : ∃ S, usedL x (v.reps.take k) host = S := ⟨_, rfl⟩
      rw [hs] at hS hbd ⊢
      have hw : IntKind.i64.wrap (S + g) = S + g := IntWalk.i64_in _ (by omega)
      by_cases e : y.host = host
      · have HG := Lib.hid (show usedL x (v.reps.take (k + 1)) host = S + g by rw [hS, if_pos ⟨e, hin⟩])
        have eB : (y.host == host) = true := beq_iff_eq.2 e
        rw [e] at p1
        clear hS hbd hs hc q1 q2 hin hco hjl hki e eB hj
        go_wp2_with fail
        go_roundw
        case rel => exact ⟨k + 1, _, by omega, by rw [HG.out], by go_num, rfl, Lib.hid (HX.out.later (below_alloc (below_self _) _))⟩
        case measure => simp [intOf]; omega
      · have HG := Lib.hid (show usedL x (v.reps.take (k + 1)) host = S by rw [hS, if_neg (fun h => e h.1)])
        have eB : (y.host == host) = false := beq_eq_false_iff_ne.2 e
        clear hS hbd hs hc q1 q2 hin hco hjl hki hw hj
        go_wp2_with fail
        go_roundw
        case rel => exact ⟨k + 1, _, by omega, by rw [HG.out], by go_num, rfl, Lib.hid (HX.out.later (below_alloc (below_self _) _))⟩
        case measure => simp [intOf]; omega
    · have hltI : ¬ (k : Int) < (v.rh.2.1 : Int) := by omega
      have HK := Lib.hid (show k = v.reps.length by rw [HN.out.2]; omega)
      obtain ⟨S, hs⟩ : ∃ S, usedL x (v.reps.take k) host = S := ⟨_, rfl⟩
      have HS := Lib.hid (show usedL x v.reps host = S by rw [← hs, HK.out, List.take_length])
      rw [hs]
      clear hs
      go_wp2_with fail
      go_ret
      exact ⟨by rw [HS.out]; rfl, HX.out.bel⟩
end Go.Proofs.YthlefdbhkbpejaaGreat

namespace Go.Proofs.YthlefdbhkbpejaaGreat
open Go Go.RowKit
set_option linter.unusedSimpArgs false

set_option maxRecDepth 10000 in
set_option maxHeartbeats 4000000 in
theorem watts_ref (s : Site) (x : Wish) (v : Wld) (i : Nat) (w : World) (hs : s.At w) (hx : x.At w) (hv : v.At w) (hw : worldOk s x v = true) (hi : i < s.hosts.length) : Calls Tryz.prog 8 #[s.val, x.val, v.val, .int .i64 i] w fun e W' => e = .returned (.int .i64 (wattsH s x v i)) ∧ Below w.heap.size w W' := by
  have HI := Lib.hid (And.intro hs (And.intro hx hv))
  have n0 : s.hosts.length = s.hh.2.1 := hs.hosts.len
  have n1 : v.hosts.length = v.hh.2.1 := hv.hosts.len
  have l0 := hs.hosts.le
  have hvh : v.hosts.length = s.hosts.length := worldOk_hosts hw
  have hi0 : i < s.hh.2.1 := by omega
  have hi0I : (i : Int) < (s.hh.2.1 : Int) := by omega
  have hi1 : i < v.hh.2.1 := by omega
  have hi1I : (i : Int) < (v.hh.2.1 : Int) := by omega
  have HW := Lib.hid (And.intro hw (And.intro hi (show i < v.hosts.length by omega)))
  have hul := used_le (h := (i : Int)) (worldOk_reps hw)
  have hho := siteOk_host (worldOk_site hw) hi
  have HL := Lib.hid (And.intro hul hho)
  clear hs hx hv n0 n1 hvh hw hi hul hho
  go_enter Tryz.func8, Tryz.ntmps8
  go_wp2_with fail
  obtain ⟨A, hA⟩ : ∃ W' : World, (((w.alloc (.cells s.cells.toArray 29)).alloc (.cells x.cells.toArray 32)).alloc (.cells v.cells.toArray 36)) = W' := ⟨_, rfl⟩
  have h : Has A [(w.heap.size + 1 + 1, .cells v.cells.toArray 36 (0, 0)), (w.heap.size + 1, .cells x.cells.toArray 32 (0, 0)), (w.heap.size, .cells s.cells.toArray 29 (0, 0))] := by rw [← hA]; simpa using ((((Has.nil w).new _).new _).new _)
  have z : A.heap.size = w.heap.size + 1 + 1 + 1 := by rw [← hA]; simp
  have b : Below w.heap.size w A := by rw [← hA]; exact (below_alloc (below_alloc (below_alloc (below_self w) _) _) _)
  rw [hA]
  clear hA
  have HA := Lib.hid (show VB w s x v A from ⟨h.tl.tl.hd, h.tl.hd, h.hd, b⟩)
  clear h z b
  refine (world_ref s x v A (HI.out.1.later HA.out.bel) (HI.out.2.1.later HA.out.bel) (HI.out.2.2.later HA.out.bel)).mono ?_
  rintro e B ⟨rfl, b⟩
  have HB := Lib.hid (HA.out.later b)
  clear b
  rw [HW.out.1]
  obtain ⟨b1, o1, q1, hb1, _, _, p2, p3⟩ := hos_at (HI.out.1.later HB.out.bel).hosts.rows i HW.out.2.1
  obtain ⟨b2, o2, q2, hb2, t0, _⟩ := hss_at (HI.out.2.2.later HB.out.bel).hosts.rows i HW.out.2.2
  have hG : wattsH s x v i = if (v.hosts.getD i default).phase = 4 then 0 else (s.hosts.getD i default).idle + (s.hosts.getD i default).per * used x v i := rfl
  have hL := HL.out
  have hC := used_ref x v i B.drew (HI.out.2.1.later HB.out.bel.drew) (HI.out.2.2.later HB.out.bel.drew) (worldOk_reps HW.out.1)
  simp only [Wld.val, Wld.cells] at hC
  rw [q2] at hC
  generalize s.hosts.getD i default = y at p2 p3 hG hL
  generalize (v.hosts.getD i default).phase = ph at t0 hG
  generalize used x v i = u at hG hL hC
  have HCC := Lib.hid hC
  have HG := Lib.hid (And.intro hG hL)
  have HQ := Lib.hid (And.intro q1 q2)
  have hkk : ∀ W, Below B.heap.size B W → W.cell? ⟨w.heap.size, 6, none⟩ = some (.slice (some ⟨b1, o1, none⟩) s.hh.2.1 s.hh.2.2) ∧ W.cell? ⟨w.heap.size + 1, 0, none⟩ = some (.slice x.sh.1 x.sh.2.1 x.sh.2.2) ∧ W.cell? ⟨w.heap.size + 1 + 1, 0, none⟩ = some (.slice (some ⟨b2, o2, none⟩) v.hh.2.1 v.hh.2.2) ∧ W.cell? ⟨w.heap.size + 1 + 1, 1, none⟩ = some (.slice v.rh.1 v.rh.2.1 v.rh.2.2) ∧ W.cell? ⟨b1, o1 + i * 4 + 2, none⟩ = some (.int .i64 y.idle) ∧ W.cell? ⟨b1, o1 + i * 4 + 3, none⟩ = some (.int .i64 y.per) := fun W hb => ⟨(by rw [← HQ.out.1]; exact (blk_cell (HB.out.later hb).si 6).trans rfl), (blk_cell (HB.out.later hb).wi 0).trans rfl, (by rw [← HQ.out.2]; exact (blk_cell (HB.out.later hb).wo 0).trans rfl), (blk_cell (HB.out.later hb).wo 1).trans rfl, cell_call hb hb1 p2, cell_call hb hb1 p3⟩
  have HS := Lib.hid hkk
  have k0 := hkk B (below_self B)
  have d6 := k0.1
  have e0 := k0.2.2.1
  have dlsi := blk_lt HB.out.si
  have dlwo := blk_lt HB.out.wo
  clear hkk q1 q2 hb1 hb2 hG hL hC k0
  by_cases h4 : ph = 4
  · have HE := Lib.hid (show wattsH s x v i = 0 by rw [HG.out.1, if_pos h4])
    have h4B : (ph == 4) = true := beq_iff_eq.2 h4
    go_wp2_with fail
    go_ret
    exact ⟨by rw [HE.out]; rfl, HB.out.bel⟩
  · have hE := HG.out.1
    rw [if_neg h4] at hE
    have hL := HG.out.2
    have hm := mul_le_i hL.2.2.2.1 hL.1.1 hL.2.2.2.2 hL.1.2
    have hid := hL.2.2.1
    have hw1 : IntKind.i64.wrap (y.per * u) = y.per * u := IntWalk.i64_in _ (by omega)
    have hw2 : IntKind.i64.wrap (y.idle + y.per * u) = y.idle + y.per * u := IntWalk.i64_in _ (by omega)
    have HE := Lib.hid hE
    have h4B : (ph == 4) = false := beq_eq_false_iff_ne.2 h4
    have bX : Below B.heap.size B B.drew := (below_self B).drew
    clear hE hL hm hid
    go_wp2_with fail
    go_region_held3 (fun W => W.cell? ⟨w.heap.size, 6, none⟩ = some (.slice (some ⟨b1, o1, none⟩) s.hh.2.1 s.hh.2.2) ∧ W.cell? ⟨w.heap.size + 1, 0, none⟩ = some (.slice x.sh.1 x.sh.2.1 x.sh.2.2) ∧ W.cell? ⟨w.heap.size + 1 + 1, 0, none⟩ = some (.slice (some ⟨b2, o2, none⟩) v.hh.2.1 v.hh.2.2) ∧ W.cell? ⟨w.heap.size + 1 + 1, 1, none⟩ = some (.slice v.rh.1 v.rh.2.1 v.rh.2.2) ∧ W.cell? ⟨b1, o1 + i * 4 + 2, none⟩ = some (.int .i64 y.idle) ∧ W.cell? ⟨b1, o1 + i * 4 + 3, none⟩ = some (.int .i64 y.per))
      (exact HS.out _ (by assumption))
      (first
        | (go_at_call 28; (with_reducible refine HCC.out.mono ?_); rintro e Y ⟨rfl, b2'⟩; have bY := below_trans bX b2'))
    have HY := Lib.hid (below_trans HB.out.bel bY)
    clear bX bY HS HCC d6 e0
    go_wp2_with fail
    go_ret
    exact ⟨by rw [HE.out]; rfl, HY.out⟩
end Go.Proofs.YthlefdbhkbpejaaGreat
