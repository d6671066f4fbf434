/- Chapter 14: the loads of all racks, of all breakers and of all feeds are the watts of all hosts: the walk (written by wip/gen14laws.py). -/
import Derived.Test.YthlefdbhkbpejaaLive
import Derived.Test.YthlefdbhkbpejaaFew
import Derived.Test.YthlefdbhkbpejaaRf13C
import Derived.Test.YthlefdbhkbpejaaPwF
import Derived.Deep.AppendLies
import Derived.Deep.RegionHeld3
import Derived.Deep.DeepCutAuto
import Derived.Deep.CutRange
import Derived.Deep.RegionLaw
namespace Go.Proofs.Ythlefdbhkbpejaa
open Go Go.RowKit F5
set_option linter.unusedSimpArgs false

/-- The four sums in their block. -/
structure SJ (w : World) (s : Site) (x : Wish) (v : Wld) (bS : Nat) (a b c d : Int) (X : World) : Prop where
  vb : VB w s x v X
  blk : X.heap[bS]? = some (.cells #[.int .i64 a, .int .i64 b, .int .i64 c, .int .i64 d] 39 (0, 0))
  lt : w.heap.size + 2 < bS
section
variable {w : World} {s : Site} {x : Wish} {v : Wld} {bS : Nat} {a b c d : Int} {X X' : World}
theorem SJ.later (h : SJ w s x v bS a b c d X) (hb : Below X.heap.size X X') : SJ w s x v bS a b c d X' := ⟨h.vb.later hb, blk_below h.blk hb, h.lt⟩
theorem SJ.undrew (h : SJ w s x v bS a b c d X.drew) : SJ w s x v bS a b c d X := ⟨⟨h.vb.si, h.vb.wi, h.vb.wo, ⟨h.vb.bel.os, h.vb.bel.tape, h.vb.bel.output, h.vb.bel.size, h.vb.bel.block⟩⟩, h.blk, h.lt⟩
theorem VB.set (h : VB w s x v X) {p : Addr} (hp : w.heap.size + 2 < p.block) (u : Value) : VB w s x v (X.setCell p u) := ⟨blk_set h.si (by omega) _, blk_set h.wi (by omega) _, blk_set h.wo (by omega) _, h.bel.setCell (by omega) _⟩
theorem SJ.set0 (h : SJ w s x v bS a b c d X) (u : Int) : SJ w s x v bS u b c d (X.setCell ⟨bS, 0, none⟩ (.int .i64 u)) := ⟨h.vb.set h.lt _, by simp [World.setCell, Array.getElem?_modify, h.blk], h.lt⟩
theorem SJ.set1 (h : SJ w s x v bS a b c d X) (u : Int) : SJ w s x v bS a u c d (X.setCell ⟨bS, 1, none⟩ (.int .i64 u)) := ⟨h.vb.set h.lt _, by simp [World.setCell, Array.getElem?_modify, h.blk], h.lt⟩
theorem SJ.set2 (h : SJ w s x v bS a b c d X) (u : Int) : SJ w s x v bS a b u d (X.setCell ⟨bS, 2, none⟩ (.int .i64 u)) := ⟨h.vb.set h.lt _, by simp [World.setCell, Array.getElem?_modify, h.blk], h.lt⟩
theorem SJ.set3 (h : SJ w s x v bS a b c d X) (u : Int) : SJ w s x v bS a b c u (X.setCell ⟨bS, 3, none⟩ (.int .i64 u)) := ⟨h.vb.set h.lt _, by simp [World.setCell, Array.getElem?_modify, h.blk], h.lt⟩
end
theorem sums_in {g : Nat → Int} (h : ∀ i, 0 ≤ g i ∧ g i ≤ 24160000) {k : Nat} (hk : k < 16) : IntKind.i64.wrap (sumI k g + g k) = sumI k g + g k := IntWalk.i64_in _ (by
  have h1 := sumI_bound (g := g) (c := 24160000) (k := k) fun i _ => h i
  have h2 := h k
  omega)

set_option maxRecDepth 10000 in
set_option maxHeartbeats 16000000 in
theorem sums_walk (s : Site) (x : Wish) (v : Wld) (w : World) (hs : s.At w) (hx : x.At w) (hv : v.At w) :
    Calls Try.prog 3 #[s.val, x.val, v.val] w fun e W' => e = .returned (.bool true) ∧ Below w.heap.size w W' := by
  have HN := Lib.hid (And.intro (show s.feeds.length = s.fh.2.1 from hs.feeds.len) (And.intro (show s.brks.length = s.bh.2.1 from hs.brks.len) (show s.hosts.length = s.hh.2.1 from hs.hosts.len)))
  have HI := Lib.hid (And.intro hs (And.intro hx hv))
  clear hs hx hv
  go_enter Try.func3, Try.ntmps3
  go_wp2_with fail
  obtain ⟨A, hA⟩ : ∃ W' : World, (((w.alloc (.cells s.cells.toArray 29)).alloc (.cells x.cells.toArray 32)).alloc (.cells v.cells.toArray 36)) = W' := ⟨_, rfl⟩
  have h : Has A [(w.heap.size + 1 + 1, .cells v.cells.toArray 36 (0, 0)), (w.heap.size + 1, .cells x.cells.toArray 32 (0, 0)), (w.heap.size, .cells s.cells.toArray 29 (0, 0))] := by rw [← hA]; simpa using ((((Has.nil w).new _).new _).new _)
  have z : A.heap.size = w.heap.size + 1 + 1 + 1 := by rw [← hA]; simp
  have b : Below w.heap.size w A := by rw [← hA]; exact (below_alloc (below_alloc (below_alloc (below_self w) _) _) _)
  rw [hA]
  clear hA
  have HA := Lib.hid (show VB w s x v A from ⟨h.tl.tl.hd, h.tl.hd, h.hd, b⟩)
  clear h z b
  refine (few_ok s x v A (HI.out.1.later HA.out.bel) (HI.out.2.1.later HA.out.bel) (HI.out.2.2.later HA.out.bel)).mono ?_
  rintro e B ⟨rfl, b⟩
  have HB := Lib.hid (HA.out.later b)
  clear b HA
  cases hf : decide (Few s x v)
  · clear hf
    go_wp2_with fail
    refine (live_ok B).mono ?_
    rintro e Z ⟨rfl, b⟩
    have HZ := Lib.hid (below_trans HB.out.bel b)
    clear b
    go_wp2_with fail
    go_ret
    exact ⟨rfl, HZ.out⟩
  · clear hf
    have d0 : B.cell? ⟨w.heap.size, 0, none⟩ = some (.slice s.fh.1 s.fh.2.1 s.fh.2.2) := (blk_cell HB.out.si 0).trans rfl
    have d1 : B.cell? ⟨w.heap.size, 1, none⟩ = some (.slice s.bh.1 s.bh.2.1 s.bh.2.2) := (blk_cell HB.out.si 1).trans rfl
    have d2 : B.cell? ⟨w.heap.size, 2, none⟩ = some (.slice s.lh.1 s.lh.2.1 s.lh.2.2) := (blk_cell HB.out.si 2).trans rfl
    have d3 : B.cell? ⟨w.heap.size, 3, none⟩ = some (.slice s.rh.1 s.rh.2.1 s.rh.2.2) := (blk_cell HB.out.si 3).trans rfl
    have d4 : B.cell? ⟨w.heap.size, 4, none⟩ = some (.int .i64 s.switches) := (blk_cell HB.out.si 4).trans rfl
    have d5 : B.cell? ⟨w.heap.size, 5, none⟩ = some (.slice s.kh.1 s.kh.2.1 s.kh.2.2) := (blk_cell HB.out.si 5).trans rfl
    have d6 : B.cell? ⟨w.heap.size, 6, none⟩ = some (.slice s.hh.1 s.hh.2.1 s.hh.2.2) := (blk_cell HB.out.si 6).trans rfl
    have d7 : B.cell? ⟨w.heap.size + 1, 0, none⟩ = some (.slice x.sh.1 x.sh.2.1 x.sh.2.2) := (blk_cell HB.out.wi 0).trans rfl
    have d8 : B.cell? ⟨w.heap.size + 1 + 1, 0, none⟩ = some (.slice v.hh.1 v.hh.2.1 v.hh.2.2) := (blk_cell HB.out.wo 0).trans rfl
    have d9 : B.cell? ⟨w.heap.size + 1 + 1, 1, none⟩ = some (.slice v.rh.1 v.rh.2.1 v.rh.2.2) := (blk_cell HB.out.wo 1).trans rfl
    have dlsi := blk_lt HB.out.si
    have dlwi := blk_lt HB.out.wi
    have dlwo := blk_lt HB.out.wo
    go_wp2_with fail
    clear d0 d1 d2 d3 d4 d5 d6 d7 d8 d9 dlsi dlwi dlwo
    refine (world_ref s x v B (HI.out.1.later HB.out.bel) (HI.out.2.1.later HB.out.bel) (HI.out.2.2.later HB.out.bel)).mono ?_
    rintro e C ⟨rfl, b⟩
    have HC := Lib.hid (HB.out.later b)
    clear b HB
    cases hok : worldOk s x v
    · clear hok
      go_wp2_with fail
      refine (live_ok C).mono ?_
      rintro e Z ⟨rfl, b⟩
      have HZ := Lib.hid (below_trans HC.out.bel b)
      clear b
      go_wp2_with fail
      go_ret
      exact ⟨rfl, HZ.out⟩
    · have HO := Lib.hid hok
      have hnu := siteOk_nums (worldOk_site hok)
      have hsz := siteOk_sizes (worldOk_site hok)
      rw [HN.out.1, HN.out.2.1] at hnu
      rw [HN.out.2.2] at hsz
      clear hok
      go_wp2_with fail
      have b1 := below_alloc (below_self C) (.cells #[.int .i64 0, .int .i64 0, .int .i64 0, .int .i64 0] 39)
      have HD := Lib.hid (show SJ w s x v C.heap.size (sumI 0 fun i => wattsN s x v i) (sumI 0 fun i => ofRack s x v i) (sumI 0 fun i => ofBrk s x v i) (sumI 0 fun i => ofFeed s x v i) (C.alloc (.cells #[.int .i64 0, .int .i64 0, .int .i64 0, .int .i64 0] 39)) from ⟨HC.out.later b1, blk_new C _, by have := blk_lt HC.out.wo; omega⟩)
      clear b1 HC
      generalize C.alloc _ = D at HD ⊢
      generalize C.heap.size = bS at HD ⊢
      go_loopw [8] (fun i wr => ∃ (k : Nat) (X : World), k ≤ 16 ∧ i = .int .i64 k ∧ X = wr ∧ Hid (SJ w s x v bS (sumI k fun i => wattsN s x v i) (sumI k fun i => ofRack s x v i) (sumI k fun i => ofBrk s x v i) (sumI k fun i => ofFeed s x v i) X)) (fun i _ => 16 - (intOf i).toNat)
      case atStart => exact ⟨0, _, Nat.zero_le _, rfl, rfl, HD⟩
      case round =>
        clear HD
        obtain ⟨k, X, hk, rfl, rfl, HX⟩ := hrel
        by_cases hlt : k < 16
        · have hltI : (k : Int) < 16 := by omega
          have hw0 := sums_in (fun i => wattsN_in s x v i) hlt
          have hn0 : (sumI (k + 1) fun i => wattsN s x v i) = (sumI k fun i => wattsN s x v i) + wattsN s x v k := rfl
          obtain ⟨a0, ha0⟩ : ∃ a, (sumI k fun i => wattsN s x v i) = a := ⟨_, rfl⟩
          obtain ⟨u0', hu0⟩ : ∃ a, wattsN s x v k = a := ⟨_, rfl⟩
          rw [ha0, hu0] at hn0 hw0
          rw [ha0] at HX
          have hw1 := sums_in (fun i => ofRack_in s x v i) hlt
          have hn1 : (sumI (k + 1) fun i => ofRack s x v i) = (sumI k fun i => ofRack s x v i) + ofRack s x v k := rfl
          obtain ⟨a1, ha1⟩ : ∃ a, (sumI k fun i => ofRack s x v i) = a := ⟨_, rfl⟩
          obtain ⟨u1', hu1⟩ : ∃ a, ofRack s x v k = a := ⟨_, rfl⟩
          rw [ha1, hu1] at hn1 hw1
          rw [ha1] at HX
          have hw2 := sums_in (fun i => ofBrk_in s x v i) hlt
          have hn2 : (sumI (k + 1) fun i => ofBrk s x v i) = (sumI k fun i => ofBrk s x v i) + ofBrk s x v k := rfl
          obtain ⟨a2, ha2⟩ : ∃ a, (sumI k fun i => ofBrk s x v i) = a := ⟨_, rfl⟩
          obtain ⟨u2', hu2⟩ : ∃ a, ofBrk s x v k = a := ⟨_, rfl⟩
          rw [ha2, hu2] at hn2 hw2
          rw [ha2] at HX
          have hw3 := sums_in (fun i => ofFeed_in s x v i) hlt
          have hn3 : (sumI (k + 1) fun i => ofFeed s x v i) = (sumI k fun i => ofFeed s x v i) + ofFeed s x v k := rfl
          obtain ⟨a3, ha3⟩ : ∃ a, (sumI k fun i => ofFeed s x v i) = a := ⟨_, rfl⟩
          obtain ⟨u3', hu3⟩ : ∃ a, ofFeed s x v k = a := ⟨_, rfl⟩
          rw [ha3, hu3] at hn3 hw3
          rw [ha3] at HX
          have HK := Lib.hid (And.intro hn0 (And.intro hn1 (And.intro hn2 hn3)))
          have HU := Lib.hid (And.intro hu0 (And.intro hu1 (And.intro hu2 hu3)))
          clear ha0 ha1 ha2 ha3 hn0 hn1 hn2 hn3 hu0 hu1 hu2 hu3
          go_upto_region 7 with fail
          go_cut [] from 22 to 61 (fun wx => SJ w s x v bS (a0 + u0') a1 a2 a3 wx)
          case first =>
            have hkk : ∀ W, Below X.heap.size X.drew W → W.cell? ⟨bS, 0, none⟩ = some (.int .i64 a0) ∧ W.cell? ⟨w.heap.size, 0, none⟩ = some (.slice s.fh.1 s.fh.2.1 s.fh.2.2) ∧ W.cell? ⟨w.heap.size, 1, none⟩ = some (.slice s.bh.1 s.bh.2.1 s.bh.2.2) ∧ W.cell? ⟨w.heap.size, 2, none⟩ = some (.slice s.lh.1 s.lh.2.1 s.lh.2.2) ∧ W.cell? ⟨w.heap.size, 3, none⟩ = some (.slice s.rh.1 s.rh.2.1 s.rh.2.2) ∧ W.cell? ⟨w.heap.size, 4, none⟩ = some (.int .i64 s.switches) ∧ W.cell? ⟨w.heap.size, 5, none⟩ = some (.slice s.kh.1 s.kh.2.1 s.kh.2.2) ∧ W.cell? ⟨w.heap.size, 6, none⟩ = some (.slice s.hh.1 s.hh.2.1 s.hh.2.2) ∧ W.cell? ⟨w.heap.size + 1, 0, none⟩ = some (.slice x.sh.1 x.sh.2.1 x.sh.2.2) ∧ W.cell? ⟨w.heap.size + 1 + 1, 0, none⟩ = some (.slice v.hh.1 v.hh.2.1 v.hh.2.2) ∧ W.cell? ⟨w.heap.size + 1 + 1, 1, none⟩ = some (.slice v.rh.1 v.rh.2.1 v.rh.2.2) := fun W hb => ⟨(blk_cell (blk_below (HX.out.later (below_self X).drew).blk hb) 0).trans rfl, (blk_cell ((HX.out.later (below_self X).drew).vb.later hb).si 0).trans rfl, (blk_cell ((HX.out.later (below_self X).drew).vb.later hb).si 1).trans rfl, (blk_cell ((HX.out.later (below_self X).drew).vb.later hb).si 2).trans rfl, (blk_cell ((HX.out.later (below_self X).drew).vb.later hb).si 3).trans rfl, (blk_cell ((HX.out.later (below_self X).drew).vb.later hb).si 4).trans rfl, (blk_cell ((HX.out.later (below_self X).drew).vb.later hb).si 5).trans rfl, (blk_cell ((HX.out.later (below_self X).drew).vb.later hb).si 6).trans rfl, (blk_cell ((HX.out.later (below_self X).drew).vb.later hb).wi 0).trans rfl, (blk_cell ((HX.out.later (below_self X).drew).vb.later hb).wo 0).trans rfl, (blk_cell ((HX.out.later (below_self X).drew).vb.later hb).wo 1).trans rfl⟩
            obtain ⟨k0, k1, k2, k3, k4, k5, k6, k7, k8, k9, k10⟩ := hkk X.drew (below_self X.drew)
            have HK2 := Lib.hid hkk
            have lsi := blk_lt HX.out.vb.si
            have lwi := blk_lt HX.out.vb.wi
            have lwo := blk_lt HX.out.vb.wo
            have lbl := blk_lt HX.out.blk
            clear hkk
            go_region_law (first
              | (go_simp; go_at_call 10; (with_reducible refine (watts0_ok s x v k X.drew (HI.out.1.later (HX.out.later (below_self X).drew).vb.bel) (HI.out.2.1.later (HX.out.later (below_self X).drew).vb.bel) (HI.out.2.2.later (HX.out.later (below_self X).drew).vb.bel)).mono ?_); rintro e Z ⟨rfl, hb⟩; rw [HU.out.1]; obtain ⟨z0, z1, z2, z3, z4, z5, z6, z7, z8, z9, z10⟩ := HK2.out _ hb; have hbz := blk_below (HX.out.later (below_self X).drew).blk hb; have fz := blk_frozen hbz 0; have lz := blk_lt hbz; have HZ := Lib.hid ((HX.out.later (below_self X).drew).later hb); clear hb hbz))
            all_goals
              go_wp2_with fail
              go_meet
              exact HZ.out.set0 _
          have HY0 := Lib.hid hcut
          clear hcut HX
          have HX := HY0
          clear HY0
          generalize wc = X0 at HX ⊢
          go_upto_region 8 with fail
          go_cut [] from 22 to 61 (fun wx => SJ w s x v bS (a0 + u0') (a1 + u1') a2 a3 wx)
          case first =>
            have hkk : ∀ W, Below X0.heap.size X0.drew W → W.cell? ⟨bS, 1, none⟩ = some (.int .i64 a1) ∧ W.cell? ⟨w.heap.size, 0, none⟩ = some (.slice s.fh.1 s.fh.2.1 s.fh.2.2) ∧ W.cell? ⟨w.heap.size, 1, none⟩ = some (.slice s.bh.1 s.bh.2.1 s.bh.2.2) ∧ W.cell? ⟨w.heap.size, 2, none⟩ = some (.slice s.lh.1 s.lh.2.1 s.lh.2.2) ∧ W.cell? ⟨w.heap.size, 3, none⟩ = some (.slice s.rh.1 s.rh.2.1 s.rh.2.2) ∧ W.cell? ⟨w.heap.size, 4, none⟩ = some (.int .i64 s.switches) ∧ W.cell? ⟨w.heap.size, 5, none⟩ = some (.slice s.kh.1 s.kh.2.1 s.kh.2.2) ∧ W.cell? ⟨w.heap.size, 6, none⟩ = some (.slice s.hh.1 s.hh.2.1 s.hh.2.2) ∧ W.cell? ⟨w.heap.size + 1, 0, none⟩ = some (.slice x.sh.1 x.sh.2.1 x.sh.2.2) ∧ W.cell? ⟨w.heap.size + 1 + 1, 0, none⟩ = some (.slice v.hh.1 v.hh.2.1 v.hh.2.2) ∧ W.cell? ⟨w.heap.size + 1 + 1, 1, none⟩ = some (.slice v.rh.1 v.rh.2.1 v.rh.2.2) := fun W hb => ⟨(blk_cell (blk_below (HX.out.later (below_self X0).drew).blk hb) 1).trans rfl, (blk_cell ((HX.out.later (below_self X0).drew).vb.later hb).si 0).trans rfl, (blk_cell ((HX.out.later (below_self X0).drew).vb.later hb).si 1).trans rfl, (blk_cell ((HX.out.later (below_self X0).drew).vb.later hb).si 2).trans rfl, (blk_cell ((HX.out.later (below_self X0).drew).vb.later hb).si 3).trans rfl, (blk_cell ((HX.out.later (below_self X0).drew).vb.later hb).si 4).trans rfl, (blk_cell ((HX.out.later (below_self X0).drew).vb.later hb).si 5).trans rfl, (blk_cell ((HX.out.later (below_self X0).drew).vb.later hb).si 6).trans rfl, (blk_cell ((HX.out.later (below_self X0).drew).vb.later hb).wi 0).trans rfl, (blk_cell ((HX.out.later (below_self X0).drew).vb.later hb).wo 0).trans rfl, (blk_cell ((HX.out.later (below_self X0).drew).vb.later hb).wo 1).trans rfl⟩
            obtain ⟨k0, k1, k2, k3, k4, k5, k6, k7, k8, k9, k10⟩ := hkk X0.drew (below_self X0.drew)
            have HK2 := Lib.hid hkk
            have lsi := blk_lt HX.out.vb.si
            have lwi := blk_lt HX.out.vb.wi
            have lwo := blk_lt HX.out.vb.wo
            have lbl := blk_lt HX.out.blk
            clear hkk
            go_region_law (first
              | (go_simp; go_at_call 11; (with_reducible refine (ofrack_ok s x v k X0.drew (HI.out.1.later (HX.out.later (below_self X0).drew).vb.bel) (HI.out.2.1.later (HX.out.later (below_self X0).drew).vb.bel) (HI.out.2.2.later (HX.out.later (below_self X0).drew).vb.bel)).mono ?_); rintro e Z ⟨rfl, hb⟩; rw [HU.out.2.1]; obtain ⟨z0, z1, z2, z3, z4, z5, z6, z7, z8, z9, z10⟩ := HK2.out _ hb; have hbz := blk_below (HX.out.later (below_self X0).drew).blk hb; have fz := blk_frozen hbz 1; have lz := blk_lt hbz; have HZ := Lib.hid ((HX.out.later (below_self X0).drew).later hb); clear hb hbz))
            all_goals
              go_wp2_with fail
              go_meet
              exact HZ.out.set1 _
          have HY1 := Lib.hid hcut
          clear hcut HX
          have HX := HY1
          clear HY1
          generalize wc = X1 at HX ⊢
          go_upto_region 9 with fail
          go_cut [] from 22 to 61 (fun wx => SJ w s x v bS (a0 + u0') (a1 + u1') (a2 + u2') a3 wx)
          case first =>
            have hkk : ∀ W, Below X1.heap.size X1.drew W → W.cell? ⟨bS, 2, none⟩ = some (.int .i64 a2) ∧ W.cell? ⟨w.heap.size, 0, none⟩ = some (.slice s.fh.1 s.fh.2.1 s.fh.2.2) ∧ W.cell? ⟨w.heap.size, 1, none⟩ = some (.slice s.bh.1 s.bh.2.1 s.bh.2.2) ∧ W.cell? ⟨w.heap.size, 2, none⟩ = some (.slice s.lh.1 s.lh.2.1 s.lh.2.2) ∧ W.cell? ⟨w.heap.size, 3, none⟩ = some (.slice s.rh.1 s.rh.2.1 s.rh.2.2) ∧ W.cell? ⟨w.heap.size, 4, none⟩ = some (.int .i64 s.switches) ∧ W.cell? ⟨w.heap.size, 5, none⟩ = some (.slice s.kh.1 s.kh.2.1 s.kh.2.2) ∧ W.cell? ⟨w.heap.size, 6, none⟩ = some (.slice s.hh.1 s.hh.2.1 s.hh.2.2) ∧ W.cell? ⟨w.heap.size + 1, 0, none⟩ = some (.slice x.sh.1 x.sh.2.1 x.sh.2.2) ∧ W.cell? ⟨w.heap.size + 1 + 1, 0, none⟩ = some (.slice v.hh.1 v.hh.2.1 v.hh.2.2) ∧ W.cell? ⟨w.heap.size + 1 + 1, 1, none⟩ = some (.slice v.rh.1 v.rh.2.1 v.rh.2.2) := fun W hb => ⟨(blk_cell (blk_below (HX.out.later (below_self X1).drew).blk hb) 2).trans rfl, (blk_cell ((HX.out.later (below_self X1).drew).vb.later hb).si 0).trans rfl, (blk_cell ((HX.out.later (below_self X1).drew).vb.later hb).si 1).trans rfl, (blk_cell ((HX.out.later (below_self X1).drew).vb.later hb).si 2).trans rfl, (blk_cell ((HX.out.later (below_self X1).drew).vb.later hb).si 3).trans rfl, (blk_cell ((HX.out.later (below_self X1).drew).vb.later hb).si 4).trans rfl, (blk_cell ((HX.out.later (below_self X1).drew).vb.later hb).si 5).trans rfl, (blk_cell ((HX.out.later (below_self X1).drew).vb.later hb).si 6).trans rfl, (blk_cell ((HX.out.later (below_self X1).drew).vb.later hb).wi 0).trans rfl, (blk_cell ((HX.out.later (below_self X1).drew).vb.later hb).wo 0).trans rfl, (blk_cell ((HX.out.later (below_self X1).drew).vb.later hb).wo 1).trans rfl⟩
            obtain ⟨k0, k1, k2, k3, k4, k5, k6, k7, k8, k9, k10⟩ := hkk X1.drew (below_self X1.drew)
            have HK2 := Lib.hid hkk
            have lsi := blk_lt HX.out.vb.si
            have lwi := blk_lt HX.out.vb.wi
            have lwo := blk_lt HX.out.vb.wo
            have lbl := blk_lt HX.out.blk
            clear hkk
            go_region_law (first
              | (go_simp; go_at_call 12; (with_reducible refine (brk_ok s x v k X1.drew (HI.out.1.later (HX.out.later (below_self X1).drew).vb.bel) (HI.out.2.1.later (HX.out.later (below_self X1).drew).vb.bel) (HI.out.2.2.later (HX.out.later (below_self X1).drew).vb.bel)).mono ?_); rintro e Z ⟨rfl, hb⟩; rw [HU.out.2.2.1]; obtain ⟨z0, z1, z2, z3, z4, z5, z6, z7, z8, z9, z10⟩ := HK2.out _ hb; have hbz := blk_below (HX.out.later (below_self X1).drew).blk hb; have fz := blk_frozen hbz 2; have lz := blk_lt hbz; have HZ := Lib.hid ((HX.out.later (below_self X1).drew).later hb); clear hb hbz))
            all_goals
              go_wp2_with fail
              go_meet
              exact HZ.out.set2 _
          have HY2 := Lib.hid hcut
          clear hcut HX
          have HX := HY2
          clear HY2
          generalize wc = X2 at HX ⊢
          go_upto_region 10 with fail
          have hkk : ∀ W, Below X2.heap.size X2.drew W → W.cell? ⟨bS, 3, none⟩ = some (.int .i64 a3) ∧ W.cell? ⟨w.heap.size, 0, none⟩ = some (.slice s.fh.1 s.fh.2.1 s.fh.2.2) ∧ W.cell? ⟨w.heap.size, 1, none⟩ = some (.slice s.bh.1 s.bh.2.1 s.bh.2.2) ∧ W.cell? ⟨w.heap.size, 2, none⟩ = some (.slice s.lh.1 s.lh.2.1 s.lh.2.2) ∧ W.cell? ⟨w.heap.size, 3, none⟩ = some (.slice s.rh.1 s.rh.2.1 s.rh.2.2) ∧ W.cell? ⟨w.heap.size, 4, none⟩ = some (.int .i64 s.switches) ∧ W.cell? ⟨w.heap.size, 5, none⟩ = some (.slice s.kh.1 s.kh.2.1 s.kh.2.2) ∧ W.cell? ⟨w.heap.size, 6, none⟩ = some (.slice s.hh.1 s.hh.2.1 s.hh.2.2) ∧ W.cell? ⟨w.heap.size + 1, 0, none⟩ = some (.slice x.sh.1 x.sh.2.1 x.sh.2.2) ∧ W.cell? ⟨w.heap.size + 1 + 1, 0, none⟩ = some (.slice v.hh.1 v.hh.2.1 v.hh.2.2) ∧ W.cell? ⟨w.heap.size + 1 + 1, 1, none⟩ = some (.slice v.rh.1 v.rh.2.1 v.rh.2.2) := fun W hb => ⟨(blk_cell (blk_below (HX.out.later (below_self X2).drew).blk hb) 3).trans rfl, (blk_cell ((HX.out.later (below_self X2).drew).vb.later hb).si 0).trans rfl, (blk_cell ((HX.out.later (below_self X2).drew).vb.later hb).si 1).trans rfl, (blk_cell ((HX.out.later (below_self X2).drew).vb.later hb).si 2).trans rfl, (blk_cell ((HX.out.later (below_self X2).drew).vb.later hb).si 3).trans rfl, (blk_cell ((HX.out.later (below_self X2).drew).vb.later hb).si 4).trans rfl, (blk_cell ((HX.out.later (below_self X2).drew).vb.later hb).si 5).trans rfl, (blk_cell ((HX.out.later (below_self X2).drew).vb.later hb).si 6).trans rfl, (blk_cell ((HX.out.later (below_self X2).drew).vb.later hb).wi 0).trans rfl, (blk_cell ((HX.out.later (below_self X2).drew).vb.later hb).wo 0).trans rfl, (blk_cell ((HX.out.later (below_self X2).drew).vb.later hb).wo 1).trans rfl⟩
          obtain ⟨k0, k1, k2, k3, k4, k5, k6, k7, k8, k9, k10⟩ := hkk X2.drew (below_self X2.drew)
          have HK2 := Lib.hid hkk
          have lsi := blk_lt HX.out.vb.si
          have lwi := blk_lt HX.out.vb.wi
          have lwo := blk_lt HX.out.vb.wo
          have lbl := blk_lt HX.out.blk
          clear hkk
          go_region_law (first
            | (go_simp; go_at_call 13; (with_reducible refine (feed_ok s x v k X2.drew (HI.out.1.later (HX.out.later (below_self X2).drew).vb.bel) (HI.out.2.1.later (HX.out.later (below_self X2).drew).vb.bel) (HI.out.2.2.later (HX.out.later (below_self X2).drew).vb.bel)).mono ?_); rintro e Z ⟨rfl, hb⟩; rw [HU.out.2.2.2]; obtain ⟨z0, z1, z2, z3, z4, z5, z6, z7, z8, z9, z10⟩ := HK2.out _ hb; have hbz := blk_below (HX.out.later (below_self X2).drew).blk hb; have fz := blk_frozen hbz 3; have lz := blk_lt hbz; have HZ := Lib.hid ((HX.out.later (below_self X2).drew).later hb); clear hb hbz))
          all_goals
            have HY3 := Lib.hid (HZ.out.set3 (a3 + u3'))
            clear HX HZ HK2 k0 k1 k2 k3 k4 k5 k6 k7 k8 k9 k10 lsi lwi lwo lbl
            go_wp2_with fail
            go_roundw
            case rel => exact ⟨k + 1, _, by omega, by go_num, rfl, Lib.hid (by rw [HK.out.1, HK.out.2.1, HK.out.2.2.1, HK.out.2.2.2]; exact HY3.out)⟩
            case measure => simp [intOf]; omega
        · have hltI : ¬ (k : Int) < 16 := by omega
          obtain rfl : k = 16 := by omega
          have h16 := sums16 HO.out
          rw [h16.1, h16.2.1, h16.2.2.1, h16.2.2.2] at HX
          generalize totW s x v = T at HX
          have c0 : X.cell? ⟨bS, 0, none⟩ = some (.int .i64 T) := (blk_cell HX.out.blk 0).trans rfl
          have c1 : X.cell? ⟨bS, 1, none⟩ = some (.int .i64 T) := (blk_cell HX.out.blk 1).trans rfl
          have c2 : X.cell? ⟨bS, 2, none⟩ = some (.int .i64 T) := (blk_cell HX.out.blk 2).trans rfl
          have c3 : X.cell? ⟨bS, 3, none⟩ = some (.int .i64 T) := (blk_cell HX.out.blk 3).trans rfl
          have lbl := blk_lt HX.out.blk
          have hTT : (T == T) = true := beq_self_eq_true T
          clear h16
          go_wp2_with fail
          refine (live_ok X).mono ?_
          rintro e Z ⟨rfl, b⟩
          have HZ := Lib.hid (below_trans HX.out.vb.bel b)
          clear b
          go_wp2_with fail
          go_ret
          exact ⟨rfl, HZ.out⟩
end Go.Proofs.Ythlefdbhkbpejaa
