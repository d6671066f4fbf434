/- Chapter 15: the reference's service (written by wip/gen15ref13.py). -/
import Derived.Test.YthlefdbhkbpejaaGreatRf12E
namespace Go.Proofs.YthlefdbhkbpejaaGreat
open Go Go.RowKit
set_option linter.unusedSimpArgs false

theorem svcOk_iff {n i : Nat} {x : Svc} : svcOk n i x = true ↔ (1 ≤ x.cores ∧ x.cores ≤ 1000) ∧ (0 ≤ x.reps ∧ x.reps ≤ 24) ∧ (0 ≤ x.least ∧ x.least ≤ x.reps) ∧ (0 ≤ x.firm ∧ x.firm ≤ 1000000) ∧ (x.dom = 0 → x.spread = 0) ∧ (x.dom ≠ 0 → x.dom ≤ 5 ∧ 1 ≤ x.spread ∧ x.spread ≤ 24) ∧ ascFrom n i (-1) x.apart = true ∧ ascFrom n i (-1) (x.near.map Near.svc) = true ∧ (x.near.all fun k => inR k.lat 0 1000000) = true := by
  unfold svcOk spreadOk
  by_cases h : x.dom = 0
  · simp [h, inR_iff, and_assoc]
  · simp [h, inR_iff, and_assoc]
/-- service's memory: the wish and the service in their boxes. -/
structure SB (w : World) (x : Wish) (y : Svc) (b1 o1 : Nat) (X : World) : Prop where
  wi : X.heap[w.heap.size]? = some (.cells #[.slice (some ⟨b1, o1, none⟩) x.sh.2.1 x.sh.2.2] 32 (0, 0))
  sv : X.heap[w.heap.size + 1]? = some (.cells #[.int .i64 y.cores, .int .i64 y.reps, .int .i64 y.least, .int .u8 y.dom, .int .i64 y.spread, .slice y.ah.1 y.ah.2.1 y.ah.2.2, .slice y.nh.1 y.nh.2.1 y.nh.2.2, .int .i64 y.firm] 79 (0, 0))
  bel : Below w.heap.size w X
theorem SB.later {w : World} {x : Wish} {y : Svc} {b1 o1 : Nat} {X X' : World} (h : SB w x y b1 o1 X) (hb : Below X.heap.size X X') : SB w x y b1 o1 X' := ⟨blk_below h.wi hb, blk_below h.sv hb, below_trans h.bel hb⟩
theorem SB.drewN {w : World} {x : Wish} {y : Svc} {b1 o1 : Nat} {X : World} (h : SB w x y b1 o1 X) (d : Nat) : SB w x y b1 o1 (X.drewN d) := h.later (below_drewN (below_self X) d)
theorem asc_step {b c last : Int} {l : List Int} {k : Nat} (hk : k < l.length) : ascFrom b c last (l.drop k) = (decide (last < l.getD k default) && decide (l.getD k default < b) && !decide (l.getD k default = c) && ascFrom b c (l.getD k default) (l.drop (k + 1))) := by
  have e : l.drop k = l.getD k default :: l.drop (k + 1) := by
    rw [List.drop_eq_getElem_cons hk, List.getD_eq_getElem?_getD, List.getElem?_eq_getElem hk]
    rfl
  rw [e]
  rfl
def C1 (y : Svc) : Prop := (1 ≤ y.cores ∧ y.cores ≤ 1000) ∧ (0 ≤ y.reps ∧ y.reps ≤ 24) ∧ (0 ≤ y.least ∧ y.least ≤ y.reps) ∧ (0 ≤ y.firm ∧ y.firm ≤ 1000000) ∧ y.dom ≤ 5
def C2 (y : Svc) : Prop := (y.dom = 0 → y.spread = 0) ∧ (y.dom ≠ 0 → 1 ≤ y.spread ∧ y.spread ≤ 24)
theorem svc_sp {n i : Nat} {y : Svc} (h : svcOk n i y = true) : C2 y := by
  have h' := svcOk_iff.1 h
  exact ⟨h'.2.2.2.2.1, fun e => (h'.2.2.2.2.2.1 e).2⟩
theorem svc_dom {n i : Nat} {y : Svc} (h : svcOk n i y = true) : C1 y := by
  have h' := svcOk_iff.1 h
  refine ⟨h'.1, h'.2.1, h'.2.2.1, h'.2.2.2.1, ?_⟩
  by_cases e : y.dom = 0
  · omega
  · exact (h'.2.2.2.2.2.1 e).1
theorem svc_no {n i : Nat} {x : Svc} (h : ¬ svcOk n i x = true) : svcOk n i x = false := by simpa using h

set_option maxRecDepth 10000 in
set_option maxHeartbeats 8000000 in
theorem service_ref (x : Wish) (i : Nat) (w : World) (hx : x.At w) (hi : i < x.svcs.length) : Calls Tryz.prog 63 #[x.val, .int .i64 i] w fun e W' => e = .returned (.bool (svcOk x.svcs.length i (x.svcs.getD i default))) ∧ Below w.heap.size w W' := by
  have HI := Lib.hid hx
  have n0 : x.svcs.length = x.sh.2.1 := hx.svcs.len
  have l0 := hx.svcs.le
  have hi0 : i < x.sh.2.1 := by omega
  have hi0I : (i : Int) < (x.sh.2.1 : Int) := by omega
  have HN := Lib.hid n0
  have HL := Lib.hid hi
  clear hx
  rw [HN.out]
  have hrow := svs_at HI.out.svcs.rows i HL.out
  have hea := HI.out.each i HL.out
  generalize x.svcs.getD i default = y at hrow hea ⊢
  have HE := Lib.hid hea
  have lah := hea.apart.le
  have lnh := hea.near.le
  obtain ⟨b1, o1, q1, hb1, hc⟩ := hrow
  have p0 : w.cell? ⟨b1, o1 + i * 8, none⟩ = some (.int .i64 y.cores) := hc 0 _ rfl
  have p1 : w.cell? ⟨b1, o1 + i * 8 + 1, none⟩ = some (.int .i64 y.reps) := hc 1 _ rfl
  have p2 : w.cell? ⟨b1, o1 + i * 8 + 2, none⟩ = some (.int .i64 y.least) := hc 2 _ rfl
  have p3 : w.cell? ⟨b1, o1 + i * 8 + 3, none⟩ = some (.int .u8 y.dom) := hc 3 _ rfl
  have p4 : w.cell? ⟨b1, o1 + i * 8 + 4, none⟩ = some (.int .i64 y.spread) := hc 4 _ rfl
  have p5 : w.cell? ⟨b1, o1 + i * 8 + 5, none⟩ = some (.slice y.ah.1 y.ah.2.1 y.ah.2.2) := hc 5 _ rfl
  have p6 : w.cell? ⟨b1, o1 + i * 8 + 6, none⟩ = some (.slice y.nh.1 y.nh.2.1 y.nh.2.2) := hc 6 _ rfl
  have p7 : w.cell? ⟨b1, o1 + i * 8 + 7, none⟩ = some (.int .i64 y.firm) := hc 7 _ rfl
  clear hea hi n0 hc
  rw [show x.val = .agg #[.slice x.sh.1 x.sh.2.1 x.sh.2.2] from rfl, q1]
  go_enter Tryz.func63, Tryz.ntmps63
  go_upto_region 2 with fail
  obtain ⟨A, hA⟩ : ∃ W' : World, ((w.alloc (.cells #[.slice (some ⟨b1, o1, none⟩) x.sh.2.1 x.sh.2.2] 32)).alloc (.cells #[.int .i64 y.cores, .int .i64 y.reps, .int .i64 y.least, .int .u8 y.dom, .int .i64 y.spread, .slice y.ah.1 y.ah.2.1 y.ah.2.2, .slice y.nh.1 y.nh.2.1 y.nh.2.2, .int .i64 y.firm] 79)) = W' := ⟨_, rfl⟩
  have h : Has A [(w.heap.size + 1, .cells #[.int .i64 y.cores, .int .i64 y.reps, .int .i64 y.least, .int .u8 y.dom, .int .i64 y.spread, .slice y.ah.1 y.ah.2.1 y.ah.2.2, .slice y.nh.1 y.nh.2.1 y.nh.2.2, .int .i64 y.firm] 79 (0, 0)), (w.heap.size, .cells #[.slice (some ⟨b1, o1, none⟩) x.sh.2.1 x.sh.2.2] 32 (0, 0))] := by rw [← hA]; simpa using (((Has.nil w).new _).new _)
  have z : A.heap.size = w.heap.size + 1 + 1 := by rw [← hA]; simp
  have bA : Below w.heap.size w A := by rw [← hA]; exact (below_alloc (below_alloc (below_self w) _) _)
  rw [hA]
  clear hA
  have HA := Lib.hid (show SB w x y b1 o1 A from ⟨h.tl.hd, h.hd, bA⟩)
  have d0 : A.cell? ⟨w.heap.size + 1, 0, none⟩ = some (.int .i64 y.cores) := (blk_cell HA.out.sv 0).trans rfl
  have d1 : A.cell? ⟨w.heap.size + 1, 1, none⟩ = some (.int .i64 y.reps) := (blk_cell HA.out.sv 1).trans rfl
  have d2 : A.cell? ⟨w.heap.size + 1, 2, none⟩ = some (.int .i64 y.least) := (blk_cell HA.out.sv 2).trans rfl
  have d3 : A.cell? ⟨w.heap.size + 1, 3, none⟩ = some (.int .u8 y.dom) := (blk_cell HA.out.sv 3).trans rfl
  have d4 : A.cell? ⟨w.heap.size + 1, 4, none⟩ = some (.int .i64 y.spread) := (blk_cell HA.out.sv 4).trans rfl
  have d7 : A.cell? ⟨w.heap.size + 1, 7, none⟩ = some (.int .i64 y.firm) := (blk_cell HA.out.sv 7).trans rfl
  have dl := blk_lt HA.out.sv
  clear h z bA p0 p1 p2 p3 p4 p5 p6 p7
  go_cut [59] from 15 to 59 (fun s wx => ∃ t : Bool, s = .bool t ∧ ((C1 y ∧ t = false) ∨ (¬ C1 y ∧ t = true)) ∧ A = wx)
  case first =>
    by_cases c1 : C1 y
    · have hc := c1
      obtain ⟨⟨a0, a1⟩, ⟨a2, a3⟩, ⟨a4, a5⟩, ⟨a6, a7⟩, a8⟩ := hc
      have HC := Lib.hid c1
      clear c1
      go_wp2_with fail
      go_meet
      exact ⟨_, rfl, .inl ⟨HC.out, by first | rfl | (have h := HC.out; unfold C1 at h; simp only [Bool.or_eq_false_iff, decide_eq_false_iff_not]; omega)⟩, rfl⟩
    · have HC := Lib.hid c1
      unfold C1 at c1
      go_wp2_with fail
      all_goals first
        | (exfalso; omega)
        | (go_meet; exact ⟨_, rfl, .inr ⟨HC.out, by first | rfl | (have h := HC.out; unfold C1 at h; simp only [Bool.or_eq_true, decide_eq_true_eq]; omega)⟩, rfl⟩)
  case rest =>
    obtain ⟨t1, rfl, h1, rfl⟩ := hcut
    rcases h1 with ⟨c1, rfl⟩ | ⟨c1, rfl⟩
    · have HC := Lib.hid c1
      clear c1
      go_upto_region 4 with fail
      go_cut [82] from 60 to 82 (fun s wx => ∃ t : Bool, s = .bool t ∧ ((C2 y ∧ t = false) ∨ (¬ C2 y ∧ t = true)) ∧ A = wx)
      case first =>
        by_cases z0 : y.dom = 0
        · have z0B : (y.dom == 0) = true := beq_iff_eq.2 z0
          have z0N : (y.dom != 0) = false := by simp [z0]
          have HZ := Lib.hid z0
          clear z0
          by_cases z1 : y.spread = 0
          · have z1N : (y.spread != 0) = false := by simp [z1]
            have HD := Lib.hid (show C2 y from ⟨fun _ => z1, fun e => absurd HZ.out e⟩)
            clear z1
            go_wp2_with fail
            go_meet
            exact ⟨_, rfl, .inl ⟨HD.out, by first | rfl | (simp only [Bool.or_eq_false_iff, decide_eq_false_iff_not]; omega)⟩, rfl⟩
          · have z1N : (y.spread != 0) = true := by simp [z1]
            have HD := Lib.hid (show ¬ C2 y from fun h => z1 (h.1 HZ.out))
            clear z1
            go_wp2_with fail
            go_meet
            exact ⟨_, rfl, .inr ⟨HD.out, by first | rfl | (simp only [Bool.or_eq_true, decide_eq_true_eq]; omega)⟩, rfl⟩
        · have z0B : (y.dom == 0) = false := beq_eq_false_iff_ne.2 z0
          have z0N : (y.dom != 0) = true := by simp [z0]
          have HZ := Lib.hid z0
          clear z0
          by_cases z1 : 1 ≤ y.spread
          · by_cases z2 : y.spread ≤ 24
            · have HD := Lib.hid (show C2 y from ⟨fun e => absurd e HZ.out, fun _ => ⟨z1, z2⟩⟩)
              go_wp2_with fail
              go_meet
              exact ⟨_, rfl, .inl ⟨HD.out, by first | rfl | (simp only [Bool.or_eq_false_iff, decide_eq_false_iff_not]; omega)⟩, rfl⟩
            · have HD := Lib.hid (show ¬ C2 y from fun h => z2 (h.2 HZ.out).2)
              go_wp2_with fail
              go_meet
              exact ⟨_, rfl, .inr ⟨HD.out, by first | rfl | (simp only [Bool.or_eq_true, decide_eq_true_eq]; omega)⟩, rfl⟩
          · have HD := Lib.hid (show ¬ C2 y from fun h => z1 (h.2 HZ.out).1)
            go_wp2_with fail
            go_meet
            exact ⟨_, rfl, .inr ⟨HD.out, by first | rfl | (simp only [Bool.or_eq_true, decide_eq_true_eq]; omega)⟩, rfl⟩
      case rest =>
        obtain ⟨t2, rfl, h2, rfl⟩ := hcut
        clear d0 d1 d2 d3 d4 d7 dl
        rcases h2 with ⟨c2, rfl⟩ | ⟨c2, rfl⟩
        · have HD := Lib.hid c2
          clear c2
          go_wp2_with fail
          go_loopw [6, 7] (fun la kv wr => ∃ (k : Nat) (last : Int) (X : World), k ≤ y.ah.2.1 ∧ la = .int .i64 last ∧ kv = .int .i64 k ∧ X = wr ∧ Hid (SB w x y b1 o1 X) ∧ Hid (ascFrom x.sh.2.1 i (-1) y.apart = ascFrom x.sh.2.1 i last (y.apart.drop k))) (fun _ kv _ => y.ah.2.1 - (intOf kv).toNat)
          case atStart => exact ⟨0, _, _, Nat.zero_le _, rfl, rfl, rfl, HA, Lib.hid rfl⟩
          case round =>
            obtain ⟨k, last, X, hk, rfl, rfl, rfl, HX, HS⟩ := hrel
            have d5 : X.cell? ⟨w.heap.size + 1, 5, none⟩ = some (.slice y.ah.1 y.ah.2.1 y.ah.2.2) := (blk_cell HX.out.sv 5).trans rfl
            have d0 : X.cell? ⟨w.heap.size, 0, none⟩ = some (.slice (some ⟨b1, o1, none⟩) x.sh.2.1 x.sh.2.2) := (blk_cell HX.out.wi 0).trans rfl
            have dl := blk_lt HX.out.sv
            by_cases hlt : k < y.ah.2.1
            · have hltI : (k : Int) < (y.ah.2.1 : Int) := by omega
              have hki : k < y.apart.length := by rw [HE.out.apart.len]; exact hlt
              obtain ⟨b2, o2, q2, hb2, c0⟩ := ints_at (HE.out.apart.later HX.out.bel).rows k hki
              rw [q2] at d5
              have hst := asc_step (b := x.sh.2.1) (c := i) (last := last) hki
              generalize y.apart.getD k default = u at c0 hst
              have HU := Lib.hid hst
              clear hst q2 hb2 hki
              by_cases u0 : u ≤ last
              · have u0D : decide (u ≤ last) = true := decide_eq_true u0
                have HF := Lib.hid (svc_no (n := x.sh.2.1) (i := i) (x := y) (fun h => by have h' := (svcOk_iff.1 h).2.2.2.2.2.2.1; rw [HS.out, HU.out, decide_eq_false (p := last < u) (by omega)] at h'; simp at h'))
                clear u0
                go_wp2_with fail
                go_quiet (fail)
                go_wp2_with fail
                go_ret
                exact ⟨by rw [HF.out]; rfl, below_drewN HX.out.bel _⟩
              · have u0D : decide (u ≤ last) = false := decide_eq_false u0
                by_cases u1 : u = i
                · have u1B : (u == (i : Int)) = true := beq_iff_eq.2 u1
                  have HF := Lib.hid (svc_no (n := x.sh.2.1) (i := i) (x := y) (fun h => by have h' := (svcOk_iff.1 h).2.2.2.2.2.2.1; rw [HS.out, HU.out, decide_eq_true (p := u = (i : Int)) u1] at h'; simp at h'))
                  clear u1 u0
                  go_wp2_with fail
                  go_quiet (fail)
                  go_wp2_with fail
                  go_ret
                  exact ⟨by rw [HF.out]; rfl, below_drewN HX.out.bel _⟩
                · have u1B : (u == (i : Int)) = false := beq_eq_false_iff_ne.2 u1
                  by_cases u2 : u < (x.sh.2.1 : Int)
                  · have HT := Lib.hid (show ascFrom x.sh.2.1 i (-1) y.apart = ascFrom x.sh.2.1 i u (y.apart.drop (k + 1)) by rw [HS.out, HU.out, decide_eq_true (p := last < u) (by omega), decide_eq_true u2, decide_eq_false u1]; rfl)
                    have u2D : decide ((x.sh.2.1 : Int) ≤ u) = false := decide_eq_false (by omega)
                    clear u0 u1 u2
                    go_wp2_with fail
                    go_quiet (fail)
                    go_wp2_with fail
                    exact ⟨⟨k + 1, u, _, by omega, rfl, by go_num, rfl, Lib.hid (HX.out.drewN _), HT⟩, by simp [intOf]; omega⟩
                  · have HF := Lib.hid (svc_no (n := x.sh.2.1) (i := i) (x := y) (fun h => by have h' := (svcOk_iff.1 h).2.2.2.2.2.2.1; rw [HS.out, HU.out, decide_eq_false u2] at h'; simp at h'))
                    have u2D : decide ((x.sh.2.1 : Int) ≤ u) = true := decide_eq_true (by omega)
                    clear u0 u1 u2
                    go_wp2_with fail
                    go_quiet (fail)
                    go_wp2_with fail
                    go_ret
                    exact ⟨by rw [HF.out]; rfl, below_drewN HX.out.bel _⟩
            · have hltI : ¬ (k : Int) < (y.ah.2.1 : Int) := by omega
              have HP := Lib.hid (show ascFrom x.sh.2.1 i (-1) y.apart = true by rw [HS.out, List.drop_of_length_le (by rw [HE.out.apart.len]; omega)]; rfl)
              go_wp2_with fail
              clear d5 d0 dl
              go_loopw [6, 8] (fun la kv wr => ∃ (k : Nat) (last : Int) (X : World), k ≤ y.nh.2.1 ∧ la = .int .i64 last ∧ kv = .int .i64 k ∧ X = wr ∧ Hid (SB w x y b1 o1 X) ∧ Hid (ascFrom x.sh.2.1 i (-1) (y.near.map Near.svc) = ascFrom x.sh.2.1 i last ((y.near.map Near.svc).drop k)) ∧ Hid (∀ j, j < k → inR (y.near.getD j default).lat 0 1000000 = true)) (fun _ kv _ => y.nh.2.1 - (intOf kv).toNat)
              case atStart => exact ⟨0, _, _, Nat.zero_le _, rfl, rfl, rfl, HX, Lib.hid rfl, Lib.hid (fun j hj => absurd hj (Nat.not_lt_zero _))⟩
              case round =>
                obtain ⟨k2, last2, X2, hk2, rfl, rfl, rfl, HX2, HS2, HJ⟩ := hrel
                have d6 : X2.cell? ⟨w.heap.size + 1, 6, none⟩ = some (.slice y.nh.1 y.nh.2.1 y.nh.2.2) := (blk_cell HX2.out.sv 6).trans rfl
                have d0 : X2.cell? ⟨w.heap.size, 0, none⟩ = some (.slice (some ⟨b1, o1, none⟩) x.sh.2.1 x.sh.2.2) := (blk_cell HX2.out.wi 0).trans rfl
                have dl := blk_lt HX2.out.sv
                have dl0 := blk_lt HX2.out.wi
                by_cases hlt2 : k2 < y.nh.2.1
                · have hltI2 : (k2 : Int) < (y.nh.2.1 : Int) := by omega
                  have hki : k2 < y.near.length := by rw [HE.out.near.len]; exact hlt2
                  obtain ⟨b2, o2, q2, hb2, c0, c1⟩ := nrs_at (HE.out.near.later HX2.out.bel).rows k2 hki
                  rw [q2] at d6
                  have hst := asc_step (b := x.sh.2.1) (c := i) (last := last2) (l := y.near.map Near.svc) (k := k2) (by simpa using hki)
                  have eu : (y.near.map Near.svc).getD k2 default = (y.near.getD k2 default).svc := by
                    rw [List.getD_eq_getElem?_getD, List.getD_eq_getElem?_getD, List.getElem?_map, List.getElem?_eq_getElem hki]
                    rfl
                  rw [eu] at hst
                  have HU2 := Lib.hid (upto (f := fun z : Near => inR z.lat 0 1000000) HJ.out (k := k2))
                  have HV := Lib.hid (fun h => all_no (f := fun z : Near => inR z.lat 0 1000000) (l := y.near) (k := k2) hki h)
                  generalize y.near.getD k2 default = v at c0 c1 hst HU2 HV
                  have HU := Lib.hid hst
                  clear hst eu q2 hb2 hki
                  by_cases u0 : v.svc ≤ last2
                  · have u0D : decide (v.svc ≤ last2) = true := decide_eq_true u0
                    have HF := Lib.hid (svc_no (n := x.sh.2.1) (i := i) (x := y) (fun h => by have h' := (svcOk_iff.1 h).2.2.2.2.2.2.2.1; rw [HS2.out, HU.out, decide_eq_false (p := last2 < v.svc) (by omega)] at h'; simp at h'))
                    clear u0
                    go_wp2_with fail
                    go_ret
                    exact ⟨by rw [HF.out]; rfl, below_alloc HX2.out.bel _⟩
                  · have u0D : decide (v.svc ≤ last2) = false := decide_eq_false u0
                    by_cases u1 : v.svc = i
                    · have u1B : (v.svc == (i : Int)) = true := beq_iff_eq.2 u1
                      have HF := Lib.hid (svc_no (n := x.sh.2.1) (i := i) (x := y) (fun h => by have h' := (svcOk_iff.1 h).2.2.2.2.2.2.2.1; rw [HS2.out, HU.out, decide_eq_true (p := v.svc = (i : Int)) u1] at h'; simp at h'))
                      clear u1 u0
                      go_wp2_with fail
                      go_ret
                      exact ⟨by rw [HF.out]; rfl, below_alloc HX2.out.bel _⟩
                    · have u1B : (v.svc == (i : Int)) = false := beq_eq_false_iff_ne.2 u1
                      by_cases u2 : v.svc < (x.sh.2.1 : Int)
                      · have HT := Lib.hid (show ascFrom x.sh.2.1 i (-1) (y.near.map Near.svc) = ascFrom x.sh.2.1 i v.svc ((y.near.map Near.svc).drop (k2 + 1)) by rw [HS2.out, HU.out, decide_eq_true (p := last2 < v.svc) (by omega), decide_eq_true u2, decide_eq_false u1]; rfl)
                        have u2D : decide ((x.sh.2.1 : Int) ≤ v.svc) = false := decide_eq_false (by omega)
                        clear u0 u1 u2
                        by_cases l0 : 0 ≤ v.lat
                        · by_cases l1 : v.lat ≤ 1000000
                          · have HW := Lib.hid (HU2.out (inR_iff.2 ⟨l0, l1⟩))
                            go_wp2_with fail
                            go_roundw
                            case rel => exact ⟨k2 + 1, v.svc, _, by omega, rfl, by go_num, rfl, Lib.hid (HX2.out.later (below_alloc (below_self _) _)), HT, HW⟩
                            case measure => simp [intOf]; omega
                          · have HF := Lib.hid (svc_no (n := x.sh.2.1) (i := i) (x := y) (fun h => by have h' := (svcOk_iff.1 h).2.2.2.2.2.2.2.2; rw [HV.out (by rw [← Bool.not_eq_true, inR_iff]; omega)] at h'; cases h'))
                            go_wp2_with fail
                            go_ret
                            exact ⟨by rw [HF.out]; rfl, below_alloc HX2.out.bel _⟩
                        · have HF := Lib.hid (svc_no (n := x.sh.2.1) (i := i) (x := y) (fun h => by have h' := (svcOk_iff.1 h).2.2.2.2.2.2.2.2; rw [HV.out (by rw [← Bool.not_eq_true, inR_iff]; omega)] at h'; cases h'))
                          go_wp2_with fail
                          go_ret
                          exact ⟨by rw [HF.out]; rfl, below_alloc HX2.out.bel _⟩
                      · have HF := Lib.hid (svc_no (n := x.sh.2.1) (i := i) (x := y) (fun h => by have h' := (svcOk_iff.1 h).2.2.2.2.2.2.2.1; rw [HS2.out, HU.out, decide_eq_false u2] at h'; simp at h'))
                        have u2D : decide ((x.sh.2.1 : Int) ≤ v.svc) = true := decide_eq_true (by omega)
                        clear u0 u1 u2
                        go_wp2_with fail
                        go_ret
                        exact ⟨by rw [HF.out]; rfl, below_alloc HX2.out.bel _⟩
                · have hltI2 : ¬ (k2 : Int) < (y.nh.2.1 : Int) := by omega
                  have HF := Lib.hid (show svcOk x.sh.2.1 i y = true from svcOk_iff.2 ⟨HC.out.1, HC.out.2.1, HC.out.2.2.1, HC.out.2.2.2.1, HD.out.1, fun e => ⟨HC.out.2.2.2.2, HD.out.2 e⟩, HP.out, by rw [HS2.out, List.drop_of_length_le (by rw [List.length_map, HE.out.near.len]; omega)]; rfl, all_yes (fun j hj => HJ.out j (by rw [HE.out.near.len] at hj; omega))⟩)
                  go_wp2_with fail
                  go_ret
                  exact ⟨by rw [HF.out]; rfl, HX2.out.bel⟩
        · have HF := Lib.hid (svc_no (n := x.sh.2.1) (i := i) (x := y) (fun h => c2 (svc_sp h)))
          clear c2
          go_wp2_with fail
          go_ret
          exact ⟨by rw [HF.out]; rfl, HA.out.bel⟩
    · have HF := Lib.hid (svc_no (n := x.sh.2.1) (i := i) (x := y) (fun h => c1 (svc_dom h)))
      clear c1
      go_wp2_with fail
      go_ret
      exact ⟨by rw [HF.out]; rfl, HA.out.bel⟩
end Go.Proofs.YthlefdbhkbpejaaGreat
