/- Chapter 14: the document's Carried and Bears (written by wip/gen14qc.py). -/
import Derived.Test.YthlefdbhkbpejaaGreatFArs
import Derived.BigQuiet
import Derived.Test.YthlefdbhkbpejaaGreatQb
import Derived.Test.YthlefdbhkbpejaaGreatCar
import Derived.Test.YthlefdbhkbpejaaGreatBrs
import Derived.Test.YthlefdbhkbpejaaGreatFMaxR
import Derived.Test.YthlefdbhkbpejaaGreatBRefTimes
import Derived.Deep.RegionHeld3
namespace Go.Proofs.YthlefdbhkbpejaaGreat
open Go Go.RowKit F5
set_option linter.unusedSimpArgs false

structure DN (w : World) (N : Int) (a : Option Addr) (c : Nat) (a' : Option Addr) (c' k : Nat) (X : World) : Prop where
  b0 : X.heap[w.heap.size]? = some (.cells #[.int .i64 N, .slice a k c] 44 (0, 0))
  b1 : X.heap[w.heap.size + 1]? = some (.cells #[.int .i64 N, .slice a' k c'] 44 (0, 0))
  bel : Below w.heap.size w X
theorem DN.later {w : World} {N : Int} {a : Option Addr} {c : Nat} {a' : Option Addr} {c' k : Nat} {X X' : World} (h : DN w N a c a' c' k X) (hb : Below X.heap.size X X') : DN w N a c a' c' k X' := ⟨blk_below h.b0 hb, blk_below h.b1 hb, below_trans h.bel hb⟩
set_option maxHeartbeats 4000000 in
theorem samenet_ok (N : Int) (a : Option Addr) (k c : Nat) (a' : Option Addr) (c' : Nat) (L : List Ar) (w : World) (hl : L.length = k) (hk : k ≤ 9223372036854775807) (h1 : RowsAt w.heap.size w a 3 (Ars L)) (h2 : RowsAt w.heap.size w a' 3 (Ars L)) :
    Calls Tryz.prog 15 #[.agg #[.int .i64 N, .slice a k c], .agg #[.int .i64 N, .slice a' k c']] w fun e W' => e = .returned (.bool true) ∧ Below w.heap.size w W' := by
  have HI := Lib.hid (And.intro hl (And.intro h1 h2))
  clear hl h1 h2
  go_enter Tryz.func15, Tryz.ntmps15
  go_upto_region 1 with fail
  obtain ⟨A, hA⟩ : ∃ W' : World, ((w.alloc (.cells #[.int .i64 N, .slice a k c] 44)).alloc (.cells #[.int .i64 N, .slice a' k c'] 44)) = W' := ⟨_, rfl⟩
  have h : Has A [(w.heap.size + 1, .cells #[.int .i64 N, .slice a' k c'] 44 (0, 0)), (w.heap.size, .cells #[.int .i64 N, .slice a k c] 44 (0, 0))] := by rw [← hA]; simpa using (((Has.nil w).new _).new _)
  have z : A.heap.size = w.heap.size + 1 + 1 := by rw [← hA]; simp
  have b : Below w.heap.size w A := by rw [← hA]; exact (below_alloc (below_alloc (below_self w) _) _)
  rw [hA]
  clear hA
  have HA := Lib.hid (show DN w N a c a' c' k A from ⟨h.tl.hd, h.hd, b⟩)
  clear h z b
  have k0 : A.cell? ⟨w.heap.size, 0, none⟩ = some (.int .i64 N) := (blk_cell HA.out.b0 0).trans rfl
  have k1 : A.cell? ⟨w.heap.size, 1, none⟩ = some (.slice a k c) := (blk_cell HA.out.b0 1).trans rfl
  have e0 : A.cell? ⟨w.heap.size + 1, 0, none⟩ = some (.int .i64 N) := (blk_cell HA.out.b1 0).trans rfl
  have e1 : A.cell? ⟨w.heap.size + 1, 1, none⟩ = some (.slice a' k c') := (blk_cell HA.out.b1 1).trans rfl
  have kl := blk_lt HA.out.b0
  have el := blk_lt HA.out.b1
  have hNN : (N != N) = false := by simp
  go_wp2_with fail
  clear k0 k1 e0 e1 kl el
  go_loopw [5] (fun i wr => ∃ (j : Nat) (X : World), j ≤ k ∧ i = .int .i64 j ∧ X = wr ∧ Hid (DN w N a c a' c' k X)) (fun i _ => k - (intOf i).toNat)
  case atStart => exact ⟨0, _, Nat.zero_le _, rfl, rfl, HA⟩
  case round =>
    clear HA
    obtain ⟨j, X, hj, rfl, rfl, HX⟩ := hrel
    have k1 : X.cell? ⟨w.heap.size, 1, none⟩ = some (.slice a k c) := (blk_cell HX.out.b0 1).trans rfl
    have e1 : X.cell? ⟨w.heap.size + 1, 1, none⟩ = some (.slice a' k c') := (blk_cell HX.out.b1 1).trans rfl
    have kl := blk_lt HX.out.b0
    have el := blk_lt HX.out.b1
    by_cases hlt : j < k
    · have hltI : (j : Int) < (k : Int) := by omega
      obtain ⟨b1, o1, rfl, _, p0, p1, p2⟩ := ars_at (HI.out.2.1.later HX.out.bel) j (by rw [HI.out.1]; exact hlt)
      obtain ⟨b2, o2, rfl, _, q0, q1, q2⟩ := ars_at (HI.out.2.2.later HX.out.bel) j (by rw [HI.out.1]; exact hlt)
      generalize L.getD j default = y at p0 p1 p2 q0 q1 q2
      have heq : ∀ w, (Op.equalIn 10000 63 y.val y.val).run Tryz.prog w = .ok true w := fun w => by rw [eqA, decide_eq_true rfl]
      have hg := guardA
      go_wp2_with fail
      go_quiet (fail)
      clear heq p0 p1 p2 q0 q1 q2
      go_wp2_with fail
      go_roundw
      case rel => exact ⟨j + 1, _, by omega, by go_num, rfl, Lib.hid (HX.out.later (below_drewN (below_self X) _))⟩
      case measure => simp [intOf]; omega
    · have hltI : ¬ (j : Int) < (k : Int) := by omega
      go_wp2_with fail
      go_ret
      exact ⟨rfl, HX.out.bel⟩
end Go.Proofs.YthlefdbhkbpejaaGreat

namespace Go.Proofs.YthlefdbhkbpejaaGreat
open Go Go.RowKit F5
set_option linter.unusedSimpArgs false

set_option maxHeartbeats 4000000 in
theorem carriedref_ok (s : Site) (x : Wish) (v : Wld) (w : World) (hs : s.At w) (hx : x.At w) (hv : v.At w) :
    Calls Tryz.prog 19 #[s.val, x.val, v.val] w fun e W' => e = .returned (.int .i64 (carV s x v)) ∧ Below w.heap.size w W' := by
  obtain ⟨g, hg⟩ : ∃ g, carV s x v = g := ⟨_, rfl⟩
  have HG := Lib.hid (show (if worldOk s x v = true then (pnOf s x v).val else 0) = g from hg)
  have HI := Lib.hid (And.intro hs (And.intro hx hv))
  rw [hg]
  clear hg hs hx hv
  go_enter Tryz.func19, Tryz.ntmps19
  go_wp2_with fail
  obtain ⟨A, hA⟩ : ∃ W' : World, (((w.alloc (.cells s.cells.toArray 29)).alloc (.cells x.cells.toArray 32)).alloc (.cells v.cells.toArray 36)) = W' := ⟨_, rfl⟩
  have h : Has A [(w.heap.size + 1 + 1, .cells v.cells.toArray 36 (0, 0)), (w.heap.size + 1, .cells x.cells.toArray 32 (0, 0)), (w.heap.size, .cells s.cells.toArray 29 (0, 0))] := by rw [← hA]; simpa using ((((Has.nil w).new _).new _).new _)
  have z : A.heap.size = w.heap.size + 1 + 1 + 1 := by rw [← hA]; simp
  have b : Below w.heap.size w A := by rw [← hA]; exact (below_alloc (below_alloc (below_alloc (below_self w) _) _) _)
  rw [hA]
  clear hA
  have HA := Lib.hid (show VB w s x v A from ⟨h.tl.tl.hd, h.tl.hd, h.hd, b⟩)
  clear h z b
  refine (world_ref s x v A (HI.out.1.later HA.out.bel) (HI.out.2.1.later HA.out.bel) (HI.out.2.2.later HA.out.bel)).mono ?_
  rintro e B ⟨rfl, b⟩
  have HB := Lib.hid (HA.out.later b)
  clear b HA
  cases hok : worldOk s x v
  · have HE := Lib.hid (show g = 0 by rw [← HG.out, hok]; rfl)
    clear hok
    go_wp2_with fail
    go_ret
    exact ⟨by rw [HE.out]; rfl, HB.out.bel⟩
  · have HO := Lib.hid hok
    clear hok
    have d0 : B.cell? ⟨w.heap.size, 0, none⟩ = some (.slice s.fh.1 s.fh.2.1 s.fh.2.2) := (blk_cell HB.out.si 0).trans rfl
    have d1 : B.cell? ⟨w.heap.size, 1, none⟩ = some (.slice s.bh.1 s.bh.2.1 s.bh.2.2) := (blk_cell HB.out.si 1).trans rfl
    have d2 : B.cell? ⟨w.heap.size, 2, none⟩ = some (.slice s.lh.1 s.lh.2.1 s.lh.2.2) := (blk_cell HB.out.si 2).trans rfl
    have d3 : B.cell? ⟨w.heap.size, 3, none⟩ = some (.slice s.rh.1 s.rh.2.1 s.rh.2.2) := (blk_cell HB.out.si 3).trans rfl
    have d4 : B.cell? ⟨w.heap.size, 4, none⟩ = some (.int .i64 s.switches) := (blk_cell HB.out.si 4).trans rfl
    have d5 : B.cell? ⟨w.heap.size, 5, none⟩ = some (.slice s.kh.1 s.kh.2.1 s.kh.2.2) := (blk_cell HB.out.si 5).trans rfl
    have d6 : B.cell? ⟨w.heap.size, 6, none⟩ = some (.slice s.hh.1 s.hh.2.1 s.hh.2.2) := (blk_cell HB.out.si 6).trans rfl
    have d7 : B.cell? ⟨w.heap.size + 1, 0, none⟩ = some (.slice x.sh.1 x.sh.2.1 x.sh.2.2) := (blk_cell HB.out.wi 0).trans rfl
    have d8 : B.cell? ⟨w.heap.size + 1 + 1, 0, none⟩ = some (.slice v.hh.1 v.hh.2.1 v.hh.2.2) := (blk_cell HB.out.wo 0).trans rfl
    have d9 : B.cell? ⟨w.heap.size + 1 + 1, 1, none⟩ = some (.slice v.rh.1 v.rh.2.1 v.rh.2.2) := (blk_cell HB.out.wo 1).trans rfl
    have dlsi := blk_lt HB.out.si
    have dlwi := blk_lt HB.out.wi
    have dlwo := blk_lt HB.out.wo
    go_wp2_with fail
    refine (netref_ok s x v B (HI.out.1.later HB.out.bel) (HI.out.2.1.later HB.out.bel) (HI.out.2.2.later HB.out.bel)).mono ?_
    rintro e C ⟨a, k, c, rfl, ho, b⟩
    have hN : netN s x v = (pnOf s x v).nodes := by unfold netN; rw [if_pos HO.out]
    have hL : netL s x v = (pnOf s x v).arcs := by unfold netL; rw [if_pos HO.out]
    rw [hN]
    rw [hL] at ho
    obtain ⟨P, hP⟩ : ∃ P, pnOf s x v = P := ⟨_, rfl⟩
    have hmx : ∀ r f, MaxIs P.nodes P.arcs 0 1 r f → r = g := fun r f hm => by
      rw [← hP] at hm
      rw [← HG.out, if_pos HO.out]
      exact pn_max HO.out hm
    have hask : askF P.nodes P.arcs 0 1 = 0 := by rw [← hP]; exact pn_ask HO.out
    have hk : k ≤ 9223372036854775807 := by
      have h1 := (netOk_iff.1 (askF_zero hask).1).2.2.1
      have h2 := ho.2.1
      rw [hP] at h2
      omega
    rw [hP] at ho ⊢
    have HC := Lib.hid (And.intro ho (And.intro (below_trans HB.out.bel b) (And.intro hmx hask)))
    clear ho b hmx hask hN hL d0 d1 d2 d3 d4 d5 d6 d7 d8 d9 dlsi dlwi dlwo
    go_wp2_with fail
    refine (F5.maxref_ok P.nodes a k c P.arcs 0 1 C HC.out.1.2.1 hk HC.out.1.rows).mono ?_
    rintro e D ⟨r, v9, rfl, f, ho, hm, b⟩
    obtain rfl := HC.out.2.2.1 r f hm
    rw [HC.out.2.2.2]
    have HD := Lib.hid (below_trans HC.out.2.1 b)
    clear ho hm b HC
    go_wp2_with fail
    go_ret
    exact ⟨rfl, HD.out⟩

set_option maxRecDepth 10000 in
set_option maxHeartbeats 8000000 in
theorem bearsref_ok (s : Site) (x : Wish) (v : Wld) (b : Int) (w : World) (hs : s.At w) (hx : x.At w) (hv : v.At w) :
    Calls Tryz.prog 21 #[s.val, x.val, v.val, .int .i64 b] w fun e W' => e = .returned (.int .i64 (bearV s x v b)) ∧ Below w.heap.size w W' := by
  have HI := Lib.hid (And.intro hs (And.intro hx hv))
  have hN : s.brks.length = s.bh.2.1 := hs.brks.len
  have HN := Lib.hid hN
  obtain ⟨g, hg⟩ : ∃ g, bearV s x v b = g := ⟨_, rfl⟩
  have HG := Lib.hid (show (if (0 ≤ b ∧ b < (s.brks.length : Int)) ∧ worldOk s x v = true then B7.lastsN (bkOf (s.brks.getD b.toNat default)) 0 (ofBrk s x v b) else 0) = g from hg)
  rw [hg]
  clear hs hx hv hg hN
  go_enter Tryz.func21, Tryz.ntmps21
  go_wp2_with fail
  obtain ⟨A, hA⟩ : ∃ W' : World, (((w.alloc (.cells s.cells.toArray 29)).alloc (.cells x.cells.toArray 32)).alloc (.cells v.cells.toArray 36)) = W' := ⟨_, rfl⟩
  have h : Has A [(w.heap.size + 1 + 1, .cells v.cells.toArray 36 (0, 0)), (w.heap.size + 1, .cells x.cells.toArray 32 (0, 0)), (w.heap.size, .cells s.cells.toArray 29 (0, 0))] := by rw [← hA]; simpa using ((((Has.nil w).new _).new _).new _)
  have z : A.heap.size = w.heap.size + 1 + 1 + 1 := by rw [← hA]; simp
  have b0 : Below w.heap.size w A := by rw [← hA]; exact (below_alloc (below_alloc (below_alloc (below_self w) _) _) _)
  rw [hA]
  clear hA
  have HA := Lib.hid (show VB w s x v A from ⟨h.tl.tl.hd, h.tl.hd, h.hd, b0⟩)
  clear h z b0
  refine (world_ref s x v A (HI.out.1.later HA.out.bel) (HI.out.2.1.later HA.out.bel) (HI.out.2.2.later HA.out.bel)).mono ?_
  rintro e B ⟨rfl, b0⟩
  have HB := Lib.hid (HA.out.later b0)
  clear b0 HA
  cases hok : worldOk s x v
  · have HE := Lib.hid (show g = 0 by rw [← HG.out, if_neg (by rw [hok]; simp)])
    clear hok
    go_wp2_with fail
    go_ret
    exact ⟨by rw [HE.out]; rfl, HB.out.bel⟩
  · have HO0 := Lib.hid hok
    clear hok
    by_cases c0 : b < 0
    · have HE := Lib.hid (show g = 0 by rw [← HG.out, if_neg (by omega)])
      go_wp2_with fail
      go_ret
      exact ⟨by rw [HE.out]; rfl, HB.out.bel⟩
    · obtain ⟨k, rfl⟩ : ∃ k : Nat, b = k := ⟨b.toNat, by omega⟩
      by_cases c1 : k < s.bh.2.1
      · have c1I : (k : Int) < (s.bh.2.1 : Int) := by omega
        have hkl : k < s.brks.length := by rw [HN.out]; exact c1
        have hok := HO0.out
        have HO := Lib.hid hok
        have hg2 := HG.out
        rw [if_pos ⟨⟨by omega, by omega⟩, hok⟩, Int.toNat_natCast] at hg2
        clear hok
        obtain ⟨b1, o1, q1, hb1, p0, p1, p2, p3⟩ := bks_at (HI.out.1.later HB.out.bel).brks.rows k hkl
        generalize s.brks.getD k default = y at p0 p1 p2 p3 hg2
        obtain ⟨yf, yl, ys, yt⟩ := y
        simp only at p0 p1 p2 p3
        obtain ⟨u, hu⟩ : ∃ u, ofBrk s x v k = u := ⟨_, rfl⟩
        rw [hu] at hg2
        have HU := Lib.hid (And.intro hu hg2)
        have hmx : (if yt < yl then yl else yt) = max yt yl := by omega
        clear hu hg2
        have d1 : B.cell? ⟨w.heap.size, 1, none⟩ = some (.slice s.bh.1 s.bh.2.1 s.bh.2.2) := (blk_cell HB.out.si 1).trans rfl
        have dlsi := blk_lt HB.out.si
        have dlwi := blk_lt HB.out.wi
        have dlwo := blk_lt HB.out.wo
        rw [q1] at d1
        go_upto_region 5 with fail
        obtain ⟨D, hD⟩ : ∃ W' : World, (B.alloc (.cells #[.int .i64 yf, .int .i64 yl, .int .i64 ys, .int .i64 (max yt yl)] 61)) = W' := ⟨_, rfl⟩
        have h : Has D [(B.heap.size, .cells #[.int .i64 yf, .int .i64 yl, .int .i64 ys, .int .i64 (max yt yl)] 61 (0, 0))] := by rw [← hD]; simpa using ((Has.nil B).new _)
        have z : D.heap.size = B.heap.size + 1 := by rw [← hD]; simp
        have b0 : Below B.heap.size B D := by rw [← hD]; exact (below_alloc (below_self B) _)
        rw [hD]
        clear hD
        have HD := Lib.hid (And.intro (HB.out.later b0) h.hd)
        have hkk : ∀ W, Below D.heap.size D W → W.cell? ⟨w.heap.size, 0, none⟩ = some (.slice s.fh.1 s.fh.2.1 s.fh.2.2) ∧ W.cell? ⟨w.heap.size, 1, none⟩ = some (.slice s.bh.1 s.bh.2.1 s.bh.2.2) ∧ W.cell? ⟨w.heap.size, 2, none⟩ = some (.slice s.lh.1 s.lh.2.1 s.lh.2.2) ∧ W.cell? ⟨w.heap.size, 3, none⟩ = some (.slice s.rh.1 s.rh.2.1 s.rh.2.2) ∧ W.cell? ⟨w.heap.size, 4, none⟩ = some (.int .i64 s.switches) ∧ W.cell? ⟨w.heap.size, 5, none⟩ = some (.slice s.kh.1 s.kh.2.1 s.kh.2.2) ∧ W.cell? ⟨w.heap.size, 6, none⟩ = some (.slice s.hh.1 s.hh.2.1 s.hh.2.2) ∧ W.cell? ⟨w.heap.size + 1, 0, none⟩ = some (.slice x.sh.1 x.sh.2.1 x.sh.2.2) ∧ W.cell? ⟨w.heap.size + 1 + 1, 0, none⟩ = some (.slice v.hh.1 v.hh.2.1 v.hh.2.2) ∧ W.cell? ⟨w.heap.size + 1 + 1, 1, none⟩ = some (.slice v.rh.1 v.rh.2.1 v.rh.2.2) ∧ W.cell? ⟨B.heap.size, 0, none⟩ = some (.int .i64 yf) ∧ W.cell? ⟨B.heap.size, 1, none⟩ = some (.int .i64 yl) ∧ W.cell? ⟨B.heap.size, 2, none⟩ = some (.int .i64 ys) ∧ W.cell? ⟨B.heap.size, 3, none⟩ = some (.int .i64 (max yt yl)) := fun W hb => ⟨(blk_cell (HD.out.1.later hb).si 0).trans rfl, (blk_cell (HD.out.1.later hb).si 1).trans rfl, (blk_cell (HD.out.1.later hb).si 2).trans rfl, (blk_cell (HD.out.1.later hb).si 3).trans rfl, (blk_cell (HD.out.1.later hb).si 4).trans rfl, (blk_cell (HD.out.1.later hb).si 5).trans rfl, (blk_cell (HD.out.1.later hb).si 6).trans rfl, (blk_cell (HD.out.1.later hb).wi 0).trans rfl, (blk_cell (HD.out.1.later hb).wo 0).trans rfl, (blk_cell (HD.out.1.later hb).wo 1).trans rfl, (blk_cell (blk_below HD.out.2 hb) 0).trans rfl, (blk_cell (blk_below HD.out.2 hb) 1).trans rfl, (blk_cell (blk_below HD.out.2 hb) 2).trans rfl, (blk_cell (blk_below HD.out.2 hb) 3).trans rfl⟩
        have HS := Lib.hid hkk
        have dlsi := blk_lt HD.out.1.si
        have dlwi := blk_lt HD.out.1.wi
        have dlwo := blk_lt HD.out.1.wo
        have dlb := blk_lt HD.out.2
        have bX : Below D.heap.size D D.drew := (below_self D).drew
        clear hkk h z b0 HB d1 hb1 p0 p1 p2 p3 q1
        go_region_held3 (fun W => W.cell? ⟨w.heap.size, 0, none⟩ = some (.slice s.fh.1 s.fh.2.1 s.fh.2.2) ∧ W.cell? ⟨w.heap.size, 1, none⟩ = some (.slice s.bh.1 s.bh.2.1 s.bh.2.2) ∧ W.cell? ⟨w.heap.size, 2, none⟩ = some (.slice s.lh.1 s.lh.2.1 s.lh.2.2) ∧ W.cell? ⟨w.heap.size, 3, none⟩ = some (.slice s.rh.1 s.rh.2.1 s.rh.2.2) ∧ W.cell? ⟨w.heap.size, 4, none⟩ = some (.int .i64 s.switches) ∧ W.cell? ⟨w.heap.size, 5, none⟩ = some (.slice s.kh.1 s.kh.2.1 s.kh.2.2) ∧ W.cell? ⟨w.heap.size, 6, none⟩ = some (.slice s.hh.1 s.hh.2.1 s.hh.2.2) ∧ W.cell? ⟨w.heap.size + 1, 0, none⟩ = some (.slice x.sh.1 x.sh.2.1 x.sh.2.2) ∧ W.cell? ⟨w.heap.size + 1 + 1, 0, none⟩ = some (.slice v.hh.1 v.hh.2.1 v.hh.2.2) ∧ W.cell? ⟨w.heap.size + 1 + 1, 1, none⟩ = some (.slice v.rh.1 v.rh.2.1 v.rh.2.2) ∧ W.cell? ⟨B.heap.size, 0, none⟩ = some (.int .i64 yf) ∧ W.cell? ⟨B.heap.size, 1, none⟩ = some (.int .i64 yl) ∧ W.cell? ⟨B.heap.size, 2, none⟩ = some (.int .i64 ys) ∧ W.cell? ⟨B.heap.size, 3, none⟩ = some (.int .i64 (max yt yl)))
          (exact HS.out _ (by assumption))
          (first
            | (go_at_call 37; (with_reducible refine (B7.lasts_ref ⟨yf, yl, ys, max yt yl⟩ 0 u _).mono ?_); rintro e Z9 ⟨rfl, b9⟩; have bZ := below_trans bH b9)
            | (go_at_call 12; (with_reducible refine (brkref_ok s x v k _ (HI.out.1.later (below_trans HD.out.1.bel bX)) (HI.out.2.1.later (below_trans HD.out.1.bel bX)) (HI.out.2.2.later (below_trans HD.out.1.bel bX))).mono ?_); rintro e Y1 ⟨rfl, b1⟩; rw [HU.out.1]; have bH := below_trans bX b1))
        have HZ := Lib.hid (below_trans HD.out.1.bel bZ)
        have HR := Lib.hid (show B7.lastsN ⟨yf, yl, ys, max yt yl⟩ 0 u = g from HU.out.2)
        rw [HR.out]
        clear HS bX bH bZ
        go_wp2_with fail
        go_ret
        exact ⟨rfl, HZ.out⟩
      · have c1I : ¬ (k : Int) < (s.bh.2.1 : Int) := by omega
        have HE := Lib.hid (show g = 0 by rw [← HG.out, if_neg (by rw [HN.out]; omega)])
        have d1 : B.cell? ⟨w.heap.size, 1, none⟩ = some (.slice s.bh.1 s.bh.2.1 s.bh.2.2) := (blk_cell HB.out.si 1).trans rfl
        have dlsi := blk_lt HB.out.si
        have dlwi := blk_lt HB.out.wi
        have dlwo := blk_lt HB.out.wo
        go_wp2_with fail
        go_ret
        exact ⟨by rw [HE.out]; rfl, HB.out.bel⟩
end Go.Proofs.YthlefdbhkbpejaaGreat
