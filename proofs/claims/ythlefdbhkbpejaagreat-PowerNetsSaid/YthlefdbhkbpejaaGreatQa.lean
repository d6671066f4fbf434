/- Chapter 14: the document's Watts, OfRack, OfBreaker, OfFeed (written by wip/gen14qa.py). -/
import Derived.Test.YthlefdbhkbpejaaGreatPwF
import Derived.Test.YthlefdbhkbpejaaGreatWaR
namespace Go.Proofs.YthlefdbhkbpejaaGreat
open Go

theorem rackT_le (s : Site) (x : Wish) (v : Wld) (r : Int) {k : Nat} (hk : k ≤ s.hosts.length) : 0 ≤ rackT s x v r k ∧ rackT s x v r k ≤ 400000000 := by
  cases h : worldOk s x v
  · have : rackT s x v r k = 0 := sumI_no fun i => by unfold wattsN; rw [sumH_no h]; split <;> rfl
    omega
  · have h1 := (siteOk_sizes (worldOk_site h)).2.1
    have h2 := rackT_in s x v r k
    omega
theorem brkT_le (s : Site) (x : Wish) (v : Wld) (r : Int) {k : Nat} (hk : k ≤ s.racks.length) : 0 ≤ brkT s x v r k ∧ brkT s x v r k ≤ 400000000 := by
  cases h : worldOk s x v
  · have : brkT s x v r k = 0 := sumI_no fun i => by unfold ofRack; rw [sumH_no h]; split <;> rfl
    omega
  · have h1 := (siteOk_sizes (worldOk_site h)).2.2.2
    have h2 := brkT_in s x v r k
    omega
theorem feedT_le (s : Site) (x : Wish) (v : Wld) (r : Int) {k : Nat} (hk : k ≤ s.brks.length) : 0 ≤ feedT s x v r k ∧ feedT s x v r k ≤ 400000000 := by
  cases h : worldOk s x v
  · have : feedT s x v r k = 0 := sumI_no fun i => by unfold ofBrk; rw [sumH_no h]; split <;> rfl
    omega
  · have h1 := (siteOk_nums (worldOk_site h)).2.2
    have h2 := feedT_in s x v r k
    omega
end Go.Proofs.YthlefdbhkbpejaaGreat

namespace Go.Proofs.YthlefdbhkbpejaaGreat
open Go Go.RowKit
set_option linter.unusedSimpArgs false

set_option maxRecDepth 10000 in
set_option maxHeartbeats 8000000 in
theorem wattsref_ok (s : Site) (x : Wish) (v : Wld) (h : Int) (w : World) (hs : s.At w) (hx : x.At w) (hv : v.At w) :
    Calls Tryz.prog 8 #[s.val, x.val, v.val, .int .i64 h] w fun e W' => e = .returned (.int .i64 (wattsN s x v h)) ∧ Below w.heap.size w W' := by
  by_cases hin : worldOk s x v = true ∧ 0 ≤ h ∧ h < (s.hosts.length : Int)
  · obtain ⟨hw, h0, h1⟩ := hin
    obtain ⟨i, rfl⟩ : ∃ i : Nat, h = i := ⟨h.toNat, by omega⟩
    rw [wattsN_val hw i, if_pos (by omega)]
    exact watts_ref s x v i w hs hx hv hw (by omega)
  · have hz : wattsN s x v h = 0 := by
      cases hw : worldOk s x v
      · exact sumH_no hw
      · exact wattsN_out fun q => hin ⟨hw, q⟩
    rw [hz]
    have HI := Lib.hid (And.intro hs (And.intro hx hv))
    have HN := Lib.hid (show s.hosts.length = s.hh.2.1 from hs.hosts.len)
    have HX := Lib.hid hin
    clear hs hx hv hin hz
    go_enter Tryz.func8, Tryz.ntmps8
    go_wp2_with fail
    obtain ⟨A, hA⟩ : ∃ W' : World, (((w.alloc (.cells s.cells.toArray 29)).alloc (.cells x.cells.toArray 32)).alloc (.cells v.cells.toArray 36)) = W' := ⟨_, rfl⟩
    have h' : Has A [(w.heap.size + 1 + 1, .cells v.cells.toArray 36 (0, 0)), (w.heap.size + 1, .cells x.cells.toArray 32 (0, 0)), (w.heap.size, .cells s.cells.toArray 29 (0, 0))] := by rw [← hA]; simpa using ((((Has.nil w).new _).new _).new _)
    have z : A.heap.size = w.heap.size + 1 + 1 + 1 := by rw [← hA]; simp
    have b : Below w.heap.size w A := by rw [← hA]; exact (below_alloc (below_alloc (below_alloc (below_self w) _) _) _)
    rw [hA]
    clear hA
    have HA := Lib.hid (show VB w s x v A from ⟨h'.tl.tl.hd, h'.tl.hd, h'.hd, b⟩)
    clear h' z b
    refine (world_ref s x v A (HI.out.1.later HA.out.bel) (HI.out.2.1.later HA.out.bel) (HI.out.2.2.later HA.out.bel)).mono ?_
    rintro e B ⟨rfl, b⟩
    have HB := Lib.hid (HA.out.later b)
    clear b HA
    cases hok : worldOk s x v
    · clear hok
      go_wp2_with fail
      go_ret
      exact ⟨rfl, HB.out.bel⟩
    · have hout : ¬ (0 ≤ h ∧ h < (s.hh.2.1 : Int)) := fun q => HX.out ⟨hok, by rw [HN.out]; exact q⟩
      clear hok
      by_cases h0 : h < 0
      · go_wp2_with fail
        go_ret
        exact ⟨rfl, HB.out.bel⟩
      · have h1 : ¬ h < (s.hh.2.1 : Int) := by omega
        have h2 : (s.hh.2.1 : Int) ≤ h := by omega
        have d6 : B.cell? ⟨w.heap.size, 6, none⟩ = some (.slice s.hh.1 s.hh.2.1 s.hh.2.2) := (blk_cell HB.out.si 6).trans rfl
        have dlsi := blk_lt HB.out.si
        clear hout
        go_wp2_with fail
        go_ret
        exact ⟨rfl, HB.out.bel⟩

set_option maxRecDepth 10000 in
set_option maxHeartbeats 8000000 in
theorem rackref_ok (s : Site) (x : Wish) (v : Wld) (r : Int) (w : World) (hs : s.At w) (hx : x.At w) (hv : v.At w) :
    Calls Tryz.prog 10 #[s.val, x.val, v.val, .int .i64 r] w fun e W' => e = .returned (.int .i64 (ofRack s x v r)) ∧ Below w.heap.size w W' := by
  have HI := Lib.hid (And.intro hs (And.intro hx hv))
  have HN := Lib.hid (show s.hosts.length = s.hh.2.1 from hs.hosts.len)
  have hle : s.hh.2.1 ≤ 9223372036854775807 := hs.hosts.le
  have HE := Lib.hid (rackT_end s x v r)
  clear hs hx hv
  go_enter Tryz.func10, Tryz.ntmps10
  go_wp2_with fail
  obtain ⟨A, hA⟩ : ∃ W' : World, (((w.alloc (.cells s.cells.toArray 29)).alloc (.cells x.cells.toArray 32)).alloc (.cells v.cells.toArray 36)) = W' := ⟨_, rfl⟩
  have h' : Has A [(w.heap.size + 1 + 1, .cells v.cells.toArray 36 (0, 0)), (w.heap.size + 1, .cells x.cells.toArray 32 (0, 0)), (w.heap.size, .cells s.cells.toArray 29 (0, 0))] := by rw [← hA]; simpa using ((((Has.nil w).new _).new _).new _)
  have z : A.heap.size = w.heap.size + 1 + 1 + 1 := by rw [← hA]; simp
  have b : Below w.heap.size w A := by rw [← hA]; exact (below_alloc (below_alloc (below_alloc (below_self w) _) _) _)
  rw [hA]
  clear hA
  have HA := Lib.hid (show VB w s x v A from ⟨h'.tl.tl.hd, h'.tl.hd, h'.hd, b⟩)
  clear h' z b
  go_loopw [9, 10] (fun sm i wr => ∃ (k : Nat) (X : World), k ≤ s.hh.2.1 ∧ sm = .int .i64 (rackT s x v r k) ∧ i = .int .i64 k ∧ X = wr ∧ Hid (VB w s x v X)) (fun _ i _ => s.hh.2.1 - (intOf i).toNat)
  case atStart => exact ⟨0, _, Nat.zero_le _, rfl, rfl, rfl, HA⟩
  case round =>
    clear HA
    obtain ⟨k, X, hk, rfl, rfl, rfl, HX⟩ := hrel
    have d0 : X.cell? ⟨w.heap.size, 0, none⟩ = some (.slice s.fh.1 s.fh.2.1 s.fh.2.2) := (blk_cell HX.out.si 0).trans rfl
    have d1 : X.cell? ⟨w.heap.size, 1, none⟩ = some (.slice s.bh.1 s.bh.2.1 s.bh.2.2) := (blk_cell HX.out.si 1).trans rfl
    have d2 : X.cell? ⟨w.heap.size, 2, none⟩ = some (.slice s.lh.1 s.lh.2.1 s.lh.2.2) := (blk_cell HX.out.si 2).trans rfl
    have d3 : X.cell? ⟨w.heap.size, 3, none⟩ = some (.slice s.rh.1 s.rh.2.1 s.rh.2.2) := (blk_cell HX.out.si 3).trans rfl
    have d4 : X.cell? ⟨w.heap.size, 4, none⟩ = some (.int .i64 s.switches) := (blk_cell HX.out.si 4).trans rfl
    have d5 : X.cell? ⟨w.heap.size, 5, none⟩ = some (.slice s.kh.1 s.kh.2.1 s.kh.2.2) := (blk_cell HX.out.si 5).trans rfl
    have d6 : X.cell? ⟨w.heap.size, 6, none⟩ = some (.slice s.hh.1 s.hh.2.1 s.hh.2.2) := (blk_cell HX.out.si 6).trans rfl
    have d7 : X.cell? ⟨w.heap.size + 1, 0, none⟩ = some (.slice x.sh.1 x.sh.2.1 x.sh.2.2) := (blk_cell HX.out.wi 0).trans rfl
    have d8 : X.cell? ⟨w.heap.size + 1 + 1, 0, none⟩ = some (.slice v.hh.1 v.hh.2.1 v.hh.2.2) := (blk_cell HX.out.wo 0).trans rfl
    have d9 : X.cell? ⟨w.heap.size + 1 + 1, 1, none⟩ = some (.slice v.rh.1 v.rh.2.1 v.rh.2.2) := (blk_cell HX.out.wo 1).trans rfl
    have dlsi := blk_lt HX.out.si
    have dlwi := blk_lt HX.out.wi
    have dlwo := blk_lt HX.out.wo
    by_cases hlt : k < s.hh.2.1
    · have hltI : (k : Int) < (s.hh.2.1 : Int) := by omega
      have hkl : k < s.hosts.length := by rw [HN.out]; exact hlt
      have hS := rackT_succ (s := s) (x := x) (v := v) (r := r) (k := k)
      have hb := rackT_le s x v r (k := k) (Nat.le_of_lt hkl)
      have hu := wattsN_in s x v (k : Int)
      obtain ⟨b1, o1, q1, hb1, p0, _, _, _⟩ := hos_at (HI.out.1.later HX.out.bel).hosts.rows k hkl
      generalize (s.hosts.getD k default).rack = y at p0 hS
      obtain ⟨sm, hsm⟩ : ∃ sm, rackT s x v r k = sm := ⟨_, rfl⟩
      obtain ⟨u, hu0⟩ : ∃ u, wattsN s x v (k : Int) = u := ⟨_, rfl⟩
      rw [hsm, hu0] at hS
      rw [hsm] at hb
      rw [hu0] at hu
      rw [hsm]
      have hw1 : IntKind.i64.wrap (sm + u) = sm + u := IntWalk.i64_in _ (by omega)
      have HQ := Lib.hid (And.intro q1 hu0)
      rw [q1] at d6
      by_cases hy : y = r
      · rw [if_pos hy] at hS
        have hyB : (y == r) = true := beq_iff_eq.2 hy
        have HS := Lib.hid hS
        subst hy
        clear hS hsm hu0 hb hu hkl
        go_upto_region 6 with fail
        clear d6
        have d6 : X.cell? ⟨w.heap.size, 6, none⟩ = some (.slice s.hh.1 s.hh.2.1 s.hh.2.2) := (blk_cell HX.out.si 6).trans rfl
        clear q1
        go_wp2_with fail
        refine (wattsref_ok s x v k X (HI.out.1.later HX.out.bel) (HI.out.2.1.later HX.out.bel) (HI.out.2.2.later HX.out.bel)).mono ?_
        rintro e Y ⟨rfl, bY⟩
        rw [HQ.out.2]
        have HY := Lib.hid (HX.out.later bY)
        clear d0 d1 d2 d3 d4 d5 d6 d7 d8 d9 dlsi dlwi dlwo HX bY p0 hb1
        go_wp2_with fail
        go_roundw
        case rel => exact ⟨k + 1, _, by omega, by rw [HS.out], by go_num, rfl, HY⟩
        case measure => simp [intOf]; omega
      · rw [if_neg hy] at hS
        have hyB : (y == r) = false := beq_eq_false_iff_ne.2 hy
        have HS := Lib.hid hS
        clear hS hsm hu0 hb hu hkl
        go_wp2_with fail
        go_roundw
        case rel => exact ⟨k + 1, _, by omega, by rw [HS.out], by go_num, rfl, HX⟩
        case measure => simp [intOf]; omega
    · have hltI : ¬ (k : Int) < (s.hh.2.1 : Int) := by omega
      have HK := Lib.hid (show rackT s x v r k = ofRack s x v r by rw [← HE.out, HN.out, show k = s.hh.2.1 by omega])
      rw [HK.out]
      go_wp2_with fail
      go_ret
      exact ⟨rfl, HX.out.bel⟩

set_option maxRecDepth 10000 in
set_option maxHeartbeats 8000000 in
theorem brkref_ok (s : Site) (x : Wish) (v : Wld) (r : Int) (w : World) (hs : s.At w) (hx : x.At w) (hv : v.At w) :
    Calls Tryz.prog 12 #[s.val, x.val, v.val, .int .i64 r] w fun e W' => e = .returned (.int .i64 (ofBrk s x v r)) ∧ Below w.heap.size w W' := by
  have HI := Lib.hid (And.intro hs (And.intro hx hv))
  have HN := Lib.hid (show s.racks.length = s.rh.2.1 from hs.racks.len)
  have hle : s.rh.2.1 ≤ 9223372036854775807 := hs.racks.le
  have HE := Lib.hid (brkT_end s x v r)
  clear hs hx hv
  go_enter Tryz.func12, Tryz.ntmps12
  go_wp2_with fail
  obtain ⟨A, hA⟩ : ∃ W' : World, (((w.alloc (.cells s.cells.toArray 29)).alloc (.cells x.cells.toArray 32)).alloc (.cells v.cells.toArray 36)) = W' := ⟨_, rfl⟩
  have h' : Has A [(w.heap.size + 1 + 1, .cells v.cells.toArray 36 (0, 0)), (w.heap.size + 1, .cells x.cells.toArray 32 (0, 0)), (w.heap.size, .cells s.cells.toArray 29 (0, 0))] := by rw [← hA]; simpa using ((((Has.nil w).new _).new _).new _)
  have z : A.heap.size = w.heap.size + 1 + 1 + 1 := by rw [← hA]; simp
  have b : Below w.heap.size w A := by rw [← hA]; exact (below_alloc (below_alloc (below_alloc (below_self w) _) _) _)
  rw [hA]
  clear hA
  have HA := Lib.hid (show VB w s x v A from ⟨h'.tl.tl.hd, h'.tl.hd, h'.hd, b⟩)
  clear h' z b
  go_loopw [9, 10] (fun sm i wr => ∃ (k : Nat) (X : World), k ≤ s.rh.2.1 ∧ sm = .int .i64 (brkT s x v r k) ∧ i = .int .i64 k ∧ X = wr ∧ Hid (VB w s x v X)) (fun _ i _ => s.rh.2.1 - (intOf i).toNat)
  case atStart => exact ⟨0, _, Nat.zero_le _, rfl, rfl, rfl, HA⟩
  case round =>
    clear HA
    obtain ⟨k, X, hk, rfl, rfl, rfl, HX⟩ := hrel
    have d0 : X.cell? ⟨w.heap.size, 0, none⟩ = some (.slice s.fh.1 s.fh.2.1 s.fh.2.2) := (blk_cell HX.out.si 0).trans rfl
    have d1 : X.cell? ⟨w.heap.size, 1, none⟩ = some (.slice s.bh.1 s.bh.2.1 s.bh.2.2) := (blk_cell HX.out.si 1).trans rfl
    have d2 : X.cell? ⟨w.heap.size, 2, none⟩ = some (.slice s.lh.1 s.lh.2.1 s.lh.2.2) := (blk_cell HX.out.si 2).trans rfl
    have d3 : X.cell? ⟨w.heap.size, 3, none⟩ = some (.slice s.rh.1 s.rh.2.1 s.rh.2.2) := (blk_cell HX.out.si 3).trans rfl
    have d4 : X.cell? ⟨w.heap.size, 4, none⟩ = some (.int .i64 s.switches) := (blk_cell HX.out.si 4).trans rfl
    have d5 : X.cell? ⟨w.heap.size, 5, none⟩ = some (.slice s.kh.1 s.kh.2.1 s.kh.2.2) := (blk_cell HX.out.si 5).trans rfl
    have d6 : X.cell? ⟨w.heap.size, 6, none⟩ = some (.slice s.hh.1 s.hh.2.1 s.hh.2.2) := (blk_cell HX.out.si 6).trans rfl
    have d7 : X.cell? ⟨w.heap.size + 1, 0, none⟩ = some (.slice x.sh.1 x.sh.2.1 x.sh.2.2) := (blk_cell HX.out.wi 0).trans rfl
    have d8 : X.cell? ⟨w.heap.size + 1 + 1, 0, none⟩ = some (.slice v.hh.1 v.hh.2.1 v.hh.2.2) := (blk_cell HX.out.wo 0).trans rfl
    have d9 : X.cell? ⟨w.heap.size + 1 + 1, 1, none⟩ = some (.slice v.rh.1 v.rh.2.1 v.rh.2.2) := (blk_cell HX.out.wo 1).trans rfl
    have dlsi := blk_lt HX.out.si
    have dlwi := blk_lt HX.out.wi
    have dlwo := blk_lt HX.out.wo
    by_cases hlt : k < s.rh.2.1
    · have hltI : (k : Int) < (s.rh.2.1 : Int) := by omega
      have hkl : k < s.racks.length := by rw [HN.out]; exact hlt
      have hS := brkT_succ (s := s) (x := x) (v := v) (r := r) (k := k)
      have hb := brkT_le s x v r (k := k) (Nat.le_of_lt hkl)
      have hu := ofRack_in s x v (k : Int)
      obtain ⟨b1, o1, q1, hb1, _, p0, _, _⟩ := rks_at (HI.out.1.later HX.out.bel).racks.rows k hkl
      generalize (s.racks.getD k default).brk = y at p0 hS
      obtain ⟨sm, hsm⟩ : ∃ sm, brkT s x v r k = sm := ⟨_, rfl⟩
      obtain ⟨u, hu0⟩ : ∃ u, ofRack s x v (k : Int) = u := ⟨_, rfl⟩
      rw [hsm, hu0] at hS
      rw [hsm] at hb
      rw [hu0] at hu
      rw [hsm]
      have hw1 : IntKind.i64.wrap (sm + u) = sm + u := IntWalk.i64_in _ (by omega)
      have HQ := Lib.hid (And.intro q1 hu0)
      rw [q1] at d3
      by_cases hy : y = r
      · rw [if_pos hy] at hS
        have hyB : (y == r) = true := beq_iff_eq.2 hy
        have HS := Lib.hid hS
        subst hy
        clear hS hsm hu0 hb hu hkl
        go_upto_region 6 with fail
        clear d3
        have d3 : X.cell? ⟨w.heap.size, 3, none⟩ = some (.slice s.rh.1 s.rh.2.1 s.rh.2.2) := (blk_cell HX.out.si 3).trans rfl
        clear q1
        go_wp2_with fail
        refine (rackref_ok s x v k X (HI.out.1.later HX.out.bel) (HI.out.2.1.later HX.out.bel) (HI.out.2.2.later HX.out.bel)).mono ?_
        rintro e Y ⟨rfl, bY⟩
        rw [HQ.out.2]
        have HY := Lib.hid (HX.out.later bY)
        clear d0 d1 d2 d3 d4 d5 d6 d7 d8 d9 dlsi dlwi dlwo HX bY p0 hb1
        go_wp2_with fail
        go_roundw
        case rel => exact ⟨k + 1, _, by omega, by rw [HS.out], by go_num, rfl, HY⟩
        case measure => simp [intOf]; omega
      · rw [if_neg hy] at hS
        have hyB : (y == r) = false := beq_eq_false_iff_ne.2 hy
        have HS := Lib.hid hS
        clear hS hsm hu0 hb hu hkl
        go_wp2_with fail
        go_roundw
        case rel => exact ⟨k + 1, _, by omega, by rw [HS.out], by go_num, rfl, HX⟩
        case measure => simp [intOf]; omega
    · have hltI : ¬ (k : Int) < (s.rh.2.1 : Int) := by omega
      have HK := Lib.hid (show brkT s x v r k = ofBrk s x v r by rw [← HE.out, HN.out, show k = s.rh.2.1 by omega])
      rw [HK.out]
      go_wp2_with fail
      go_ret
      exact ⟨rfl, HX.out.bel⟩

set_option maxRecDepth 10000 in
set_option maxHeartbeats 8000000 in
theorem feedref_ok (s : Site) (x : Wish) (v : Wld) (r : Int) (w : World) (hs : s.At w) (hx : x.At w) (hv : v.At w) :
    Calls Tryz.prog 14 #[s.val, x.val, v.val, .int .i64 r] w fun e W' => e = .returned (.int .i64 (ofFeed s x v r)) ∧ Below w.heap.size w W' := by
  have HI := Lib.hid (And.intro hs (And.intro hx hv))
  have HN := Lib.hid (show s.brks.length = s.bh.2.1 from hs.brks.len)
  have hle : s.bh.2.1 ≤ 9223372036854775807 := hs.brks.le
  have HE := Lib.hid (feedT_end s x v r)
  clear hs hx hv
  go_enter Tryz.func14, Tryz.ntmps14
  go_wp2_with fail
  obtain ⟨A, hA⟩ : ∃ W' : World, (((w.alloc (.cells s.cells.toArray 29)).alloc (.cells x.cells.toArray 32)).alloc (.cells v.cells.toArray 36)) = W' := ⟨_, rfl⟩
  have h' : Has A [(w.heap.size + 1 + 1, .cells v.cells.toArray 36 (0, 0)), (w.heap.size + 1, .cells x.cells.toArray 32 (0, 0)), (w.heap.size, .cells s.cells.toArray 29 (0, 0))] := by rw [← hA]; simpa using ((((Has.nil w).new _).new _).new _)
  have z : A.heap.size = w.heap.size + 1 + 1 + 1 := by rw [← hA]; simp
  have b : Below w.heap.size w A := by rw [← hA]; exact (below_alloc (below_alloc (below_alloc (below_self w) _) _) _)
  rw [hA]
  clear hA
  have HA := Lib.hid (show VB w s x v A from ⟨h'.tl.tl.hd, h'.tl.hd, h'.hd, b⟩)
  clear h' z b
  go_loopw [9, 10] (fun sm i wr => ∃ (k : Nat) (X : World), k ≤ s.bh.2.1 ∧ sm = .int .i64 (feedT s x v r k) ∧ i = .int .i64 k ∧ X = wr ∧ Hid (VB w s x v X)) (fun _ i _ => s.bh.2.1 - (intOf i).toNat)
  case atStart => exact ⟨0, _, Nat.zero_le _, rfl, rfl, rfl, HA⟩
  case round =>
    clear HA
    obtain ⟨k, X, hk, rfl, rfl, rfl, HX⟩ := hrel
    have d0 : X.cell? ⟨w.heap.size, 0, none⟩ = some (.slice s.fh.1 s.fh.2.1 s.fh.2.2) := (blk_cell HX.out.si 0).trans rfl
    have d1 : X.cell? ⟨w.heap.size, 1, none⟩ = some (.slice s.bh.1 s.bh.2.1 s.bh.2.2) := (blk_cell HX.out.si 1).trans rfl
    have d2 : X.cell? ⟨w.heap.size, 2, none⟩ = some (.slice s.lh.1 s.lh.2.1 s.lh.2.2) := (blk_cell HX.out.si 2).trans rfl
    have d3 : X.cell? ⟨w.heap.size, 3, none⟩ = some (.slice s.rh.1 s.rh.2.1 s.rh.2.2) := (blk_cell HX.out.si 3).trans rfl
    have d4 : X.cell? ⟨w.heap.size, 4, none⟩ = some (.int .i64 s.switches) := (blk_cell HX.out.si 4).trans rfl
    have d5 : X.cell? ⟨w.heap.size, 5, none⟩ = some (.slice s.kh.1 s.kh.2.1 s.kh.2.2) := (blk_cell HX.out.si 5).trans rfl
    have d6 : X.cell? ⟨w.heap.size, 6, none⟩ = some (.slice s.hh.1 s.hh.2.1 s.hh.2.2) := (blk_cell HX.out.si 6).trans rfl
    have d7 : X.cell? ⟨w.heap.size + 1, 0, none⟩ = some (.slice x.sh.1 x.sh.2.1 x.sh.2.2) := (blk_cell HX.out.wi 0).trans rfl
    have d8 : X.cell? ⟨w.heap.size + 1 + 1, 0, none⟩ = some (.slice v.hh.1 v.hh.2.1 v.hh.2.2) := (blk_cell HX.out.wo 0).trans rfl
    have d9 : X.cell? ⟨w.heap.size + 1 + 1, 1, none⟩ = some (.slice v.rh.1 v.rh.2.1 v.rh.2.2) := (blk_cell HX.out.wo 1).trans rfl
    have dlsi := blk_lt HX.out.si
    have dlwi := blk_lt HX.out.wi
    have dlwo := blk_lt HX.out.wo
    by_cases hlt : k < s.bh.2.1
    · have hltI : (k : Int) < (s.bh.2.1 : Int) := by omega
      have hkl : k < s.brks.length := by rw [HN.out]; exact hlt
      have hS := feedT_succ (s := s) (x := x) (v := v) (r := r) (k := k)
      have hb := feedT_le s x v r (k := k) (Nat.le_of_lt hkl)
      have hu := ofBrk_in s x v (k : Int)
      obtain ⟨b1, o1, q1, hb1, p0, _, _, _⟩ := bks_at (HI.out.1.later HX.out.bel).brks.rows k hkl
      generalize (s.brks.getD k default).feed = y at p0 hS
      obtain ⟨sm, hsm⟩ : ∃ sm, feedT s x v r k = sm := ⟨_, rfl⟩
      obtain ⟨u, hu0⟩ : ∃ u, ofBrk s x v (k : Int) = u := ⟨_, rfl⟩
      rw [hsm, hu0] at hS
      rw [hsm] at hb
      rw [hu0] at hu
      rw [hsm]
      have hw1 : IntKind.i64.wrap (sm + u) = sm + u := IntWalk.i64_in _ (by omega)
      have HQ := Lib.hid (And.intro q1 hu0)
      rw [q1] at d1
      by_cases hy : y = r
      · rw [if_pos hy] at hS
        have hyB : (y == r) = true := beq_iff_eq.2 hy
        have HS := Lib.hid hS
        subst hy
        clear hS hsm hu0 hb hu hkl
        go_upto_region 6 with fail
        clear d1
        have d1 : X.cell? ⟨w.heap.size, 1, none⟩ = some (.slice s.bh.1 s.bh.2.1 s.bh.2.2) := (blk_cell HX.out.si 1).trans rfl
        clear q1
        go_wp2_with fail
        refine (brkref_ok s x v k X (HI.out.1.later HX.out.bel) (HI.out.2.1.later HX.out.bel) (HI.out.2.2.later HX.out.bel)).mono ?_
        rintro e Y ⟨rfl, bY⟩
        rw [HQ.out.2]
        have HY := Lib.hid (HX.out.later bY)
        clear d0 d1 d2 d3 d4 d5 d6 d7 d8 d9 dlsi dlwi dlwo HX bY p0 hb1
        go_wp2_with fail
        go_roundw
        case rel => exact ⟨k + 1, _, by omega, by rw [HS.out], by go_num, rfl, HY⟩
        case measure => simp [intOf]; omega
      · rw [if_neg hy] at hS
        have hyB : (y == r) = false := beq_eq_false_iff_ne.2 hy
        have HS := Lib.hid hS
        clear hS hsm hu0 hb hu hkl
        go_wp2_with fail
        go_roundw
        case rel => exact ⟨k + 1, _, by omega, by rw [HS.out], by go_num, rfl, HX⟩
        case measure => simp [intOf]; omega
    · have hltI : ¬ (k : Int) < (s.bh.2.1 : Int) := by omega
      have HK := Lib.hid (show feedT s x v r k = ofFeed s x v r by rw [← HE.out, HN.out, show k = s.bh.2.1 by omega])
      rw [HK.out]
      go_wp2_with fail
      go_ret
      exact ⟨rfl, HX.out.bel⟩
end Go.Proofs.YthlefdbhkbpejaaGreat
