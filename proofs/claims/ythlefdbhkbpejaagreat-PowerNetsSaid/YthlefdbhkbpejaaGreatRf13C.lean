/- Chapter 15: the reference's Valid of a world (written by wip/gen15ref13c.py). -/
import Derived.Test.YthlefdbhkbpejaaGreatRf13B
namespace Go.Proofs.YthlefdbhkbpejaaGreat
open Go Go.RowKit
set_option linter.unusedSimpArgs false

/-- Valid's memory: the three boxes. -/
structure VB (w : World) (s : Site) (x : Wish) (v : Wld) (X : World) : Prop where
  si : X.heap[w.heap.size]? = some (.cells s.cells.toArray 29 (0, 0))
  wi : X.heap[w.heap.size + 1]? = some (.cells x.cells.toArray 32 (0, 0))
  wo : X.heap[w.heap.size + 1 + 1]? = some (.cells v.cells.toArray 36 (0, 0))
  bel : Below w.heap.size w X
theorem VB.later {w : World} {s : Site} {x : Wish} {v : Wld} {X X' : World} (h : VB w s x v X) (hb : Below X.heap.size X X') : VB w s x v X' := ⟨blk_below h.si hb, blk_below h.wi hb, blk_below h.wo hb, below_trans h.bel hb⟩
set_option maxRecDepth 10000 in
set_option maxHeartbeats 8000000 in
theorem world_ref (s : Site) (x : Wish) (v : Wld) (w : World) (hs : s.At w) (hx : x.At w) (hv : v.At w) : Calls Tryz.prog 27 #[s.val, x.val, v.val] w fun e W' => e = .returned (.bool (worldOk s x v)) ∧ Below w.heap.size w W' := by
  have HI := Lib.hid (And.intro hs (And.intro hx hv))
  have n0 := hv.hosts.len
  have n1 := hv.reps.len
  have n2 := hs.hosts.len
  have n3 := hx.svcs.len
  have l0 := hv.hosts.le
  have l1 := hv.reps.le
  have l2 := hs.hosts.le
  have l3 := hx.svcs.le
  have HN := Lib.hid (And.intro n0 (And.intro n1 (And.intro n2 n3)))
  clear hs hx hv n0 n1 n2 n3
  go_enter Tryz.func27, Tryz.ntmps27
  go_wp2_with fail
  obtain ⟨A, hA⟩ : ∃ W' : World, (((w.alloc (.cells s.cells.toArray 29)).alloc (.cells x.cells.toArray 32)).alloc (.cells v.cells.toArray 36)) = W' := ⟨_, rfl⟩
  have h : Has A [(w.heap.size + 1 + 1, .cells v.cells.toArray 36 (0, 0)), (w.heap.size + 1, .cells x.cells.toArray 32 (0, 0)), (w.heap.size, .cells s.cells.toArray 29 (0, 0))] := by rw [← hA]; simpa using ((((Has.nil w).new _).new _).new _)
  have z : A.heap.size = w.heap.size + 1 + 1 + 1 := by rw [← hA]; simp
  have b : Below w.heap.size w A := by rw [← hA]; exact (below_alloc (below_alloc (below_alloc (below_self w) _) _) _)
  rw [hA]
  clear hA
  have HA := Lib.hid (show VB w s x v A from ⟨h.tl.tl.hd, h.tl.hd, h.hd, b⟩)
  clear h z b
  refine (site_ref s A (HI.out.1.later HA.out.bel)).mono ?_
  rintro e B ⟨rfl, b⟩
  have HB := Lib.hid (HA.out.later b)
  clear b
  cases q0 : siteOk s
  · have HF := Lib.hid (show worldOk s x v = false by unfold worldOk; rw [q0]; simp)
    go_wp2_with fail
    go_ret
    exact ⟨by rw [HF.out]; rfl, HB.out.bel⟩
  · have dx0 : B.cell? ⟨w.heap.size + 1, 0, none⟩ = some (.slice x.sh.1 x.sh.2.1 x.sh.2.2) := (blk_cell HB.out.wi 0).trans rfl
    have dlsi := blk_lt HB.out.si
    have dlwi := blk_lt HB.out.wi
    have dlwo := blk_lt HB.out.wo
    go_wp2_with fail
    clear dx0 dlsi dlwi dlwo
    refine (wish_ref x B (HI.out.2.1.later HB.out.bel)).mono ?_
    rintro e C ⟨rfl, b⟩
    have HC := Lib.hid (HB.out.later b)
    clear b
    cases q1 : wishOk x
    · have HF := Lib.hid (show worldOk s x v = false by unfold worldOk; rw [q0, q1]; simp)
      go_wp2_with fail
      go_ret
      exact ⟨by rw [HF.out]; rfl, HC.out.bel⟩
    · have ds6 : C.cell? ⟨w.heap.size, 6, none⟩ = some (.slice s.hh.1 s.hh.2.1 s.hh.2.2) := (blk_cell HC.out.si 6).trans rfl
      have dx0 : C.cell? ⟨w.heap.size + 1, 0, none⟩ = some (.slice x.sh.1 x.sh.2.1 x.sh.2.2) := (blk_cell HC.out.wi 0).trans rfl
      have dv0 : C.cell? ⟨w.heap.size + 1 + 1, 0, none⟩ = some (.slice v.hh.1 v.hh.2.1 v.hh.2.2) := (blk_cell HC.out.wo 0).trans rfl
      have dv1 : C.cell? ⟨w.heap.size + 1 + 1, 1, none⟩ = some (.slice v.rh.1 v.rh.2.1 v.rh.2.2) := (blk_cell HC.out.wo 1).trans rfl
      have dlsi := blk_lt HC.out.si
      have dlwi := blk_lt HC.out.wi
      have dlwo := blk_lt HC.out.wo
      by_cases e2 : v.hh.2.1 = s.hh.2.1
      · have q2 : decide (v.hosts.length = s.hosts.length) = true := decide_eq_true (by rw [HN.out.1, HN.out.2.2.1]; exact e2)
        have e2I : ((v.hh.2.1 : Nat) : Int) = (s.hh.2.1 : Int) := by omega
        have e2B : (((v.hh.2.1 : Nat) : Int) == (s.hh.2.1 : Int)) = true := beq_iff_eq.2 e2I
        have e2N : (((v.hh.2.1 : Nat) : Int) != (s.hh.2.1 : Int)) = false := by simp [e2I]
        have HE2 := Lib.hid e2
        clear e2 e2I
        by_cases e3 : v.rh.2.1 ≤ 24
        · have q3 : decide (v.reps.length ≤ 24) = true := decide_eq_true (by rw [HN.out.2.1]; exact e3)
          have e3I : ((v.rh.2.1 : Nat) : Int) ≤ 24 := by omega
          go_wp2_with fail
          clear e2B e2N
          clear ds6 dx0 dv0 dv1 dlsi dlwi dlwo
          refine (ascending_ref v.rh v.reps C (HI.out.2.2.later HC.out.bel).reps).mono ?_
          rintro e D ⟨rfl, b⟩
          have HD := Lib.hid (HC.out.later b)
          clear b
          cases q4 : sortedReps v.reps
          · have HF := Lib.hid (show worldOk s x v = false by unfold worldOk; rw [q0, q1, q2, q3, q4]; simp)
            go_wp2_with fail
            go_ret
            exact ⟨by rw [HF.out]; rfl, HD.out.bel⟩
          · go_wp2_with fail
            go_loopw [7] (fun i wr => ∃ (k : Nat) (X : World), k ≤ v.hh.2.1 ∧ i = .int .i64 k ∧ X = wr ∧ Hid (VB w s x v X) ∧ Hid (∀ j, j < k → okHs (v.hosts.getD j default) = true)) (fun i _ => v.hh.2.1 - (intOf i).toNat)
            case atStart => exact ⟨0, _, Nat.zero_le _, rfl, rfl, HD, Lib.hid (fun j hj => absurd hj (Nat.not_lt_zero _))⟩
            case round =>
              obtain ⟨k, X, hk, rfl, rfl, HR, HJ⟩ := hrel
              have ds6 : X.cell? ⟨w.heap.size, 6, none⟩ = some (.slice s.hh.1 s.hh.2.1 s.hh.2.2) := (blk_cell HR.out.si 6).trans rfl
              have dx0 : X.cell? ⟨w.heap.size + 1, 0, none⟩ = some (.slice x.sh.1 x.sh.2.1 x.sh.2.2) := (blk_cell HR.out.wi 0).trans rfl
              have dv0 : X.cell? ⟨w.heap.size + 1 + 1, 0, none⟩ = some (.slice v.hh.1 v.hh.2.1 v.hh.2.2) := (blk_cell HR.out.wo 0).trans rfl
              have dv1 : X.cell? ⟨w.heap.size + 1 + 1, 1, none⟩ = some (.slice v.rh.1 v.rh.2.1 v.rh.2.2) := (blk_cell HR.out.wo 1).trans rfl
              have dlsi := blk_lt HR.out.si
              have dlwi := blk_lt HR.out.wi
              have dlwo := blk_lt HR.out.wo
              by_cases hlt : k < v.hh.2.1
              · have hltI : (k : Int) < (v.hh.2.1 : Int) := by omega
                have hki : k < v.hosts.length := by rw [HN.out.1]; exact hlt
                obtain ⟨b1, o1, q, hb1, p0, p1⟩ := hss_at (HI.out.2.2.later HR.out.bel).hosts.rows k hki
                rw [q] at dv0
                have HU := Lib.hid (fun h => upto (f := okHs) HJ.out (k := k) h)
                have HV := Lib.hid (fun h => all_no (f := okHs) hki h)
                generalize v.hosts.getD k default = y at p0 p1 HU HV
                clear q hb1 hki
                by_cases t0 : y.phase ≤ 4
                · by_cases t1 : 0 ≤ y.firm
                  · by_cases t2 : y.firm ≤ 1000000
                    · have HT := Lib.hid (HU.out (by unfold okHs; rw [decide_eq_true t0, inR_iff.2 ⟨t1, t2⟩]; rfl))
                      go_wp2_with fail
                      go_roundw
                      case rel => exact ⟨k + 1, _, by omega, by go_num, rfl, HR, HT⟩
                      case measure => simp [intOf]; omega
                    · have hq := HV.out (by unfold okHs; rw [show inR y.firm 0 1000000 = false by rw [← Bool.not_eq_true, inR_iff]; omega]; simp)
                      have HF := Lib.hid (show worldOk s x v = false by unfold worldOk; rw [q0, q1, q2, q3, q4, hq]; simp)
                      go_wp2_with fail
                      go_ret
                      exact ⟨by rw [HF.out]; rfl, HR.out.bel⟩
                  · have hq := HV.out (by unfold okHs; rw [show inR y.firm 0 1000000 = false by rw [← Bool.not_eq_true, inR_iff]; omega]; simp)
                    have HF := Lib.hid (show worldOk s x v = false by unfold worldOk; rw [q0, q1, q2, q3, q4, hq]; simp)
                    go_wp2_with fail
                    go_ret
                    exact ⟨by rw [HF.out]; rfl, HR.out.bel⟩
                · have hq := HV.out (by unfold okHs; rw [decide_eq_false t0]; rfl)
                  have HF := Lib.hid (show worldOk s x v = false by unfold worldOk; rw [q0, q1, q2, q3, q4, hq]; simp)
                  go_wp2_with fail
                  go_ret
                  exact ⟨by rw [HF.out]; rfl, HR.out.bel⟩
              · have hltI : ¬ (k : Int) < (v.hh.2.1 : Int) := by omega
                have haA := all_yes (f := okHs) (l := v.hosts) (fun j hj => HJ.out j (by rw [HN.out.1] at hj; omega))
                go_wp2_with fail
                clear ds6 dx0 dv0 dv1 dlsi dlwi dlwo
                go_loopw [8] (fun i wr => ∃ (k : Nat) (X : World), k ≤ v.rh.2.1 ∧ i = .int .i64 k ∧ X = wr ∧ Hid (VB w s x v X) ∧ Hid (∀ j, j < k → okRp x.svcs.length s.hosts.length (v.reps.getD j default) = true)) (fun i _ => v.rh.2.1 - (intOf i).toNat)
                case atStart => exact ⟨0, _, Nat.zero_le _, rfl, rfl, HR, Lib.hid (fun j hj => absurd hj (Nat.not_lt_zero _))⟩
                case round =>
                  obtain ⟨k2, X2, hk2, rfl, rfl, HS, HJ2⟩ := hrel
                  have ds6 : X2.cell? ⟨w.heap.size, 6, none⟩ = some (.slice s.hh.1 s.hh.2.1 s.hh.2.2) := (blk_cell HS.out.si 6).trans rfl
                  have dx0 : X2.cell? ⟨w.heap.size + 1, 0, none⟩ = some (.slice x.sh.1 x.sh.2.1 x.sh.2.2) := (blk_cell HS.out.wi 0).trans rfl
                  have dv0 : X2.cell? ⟨w.heap.size + 1 + 1, 0, none⟩ = some (.slice v.hh.1 v.hh.2.1 v.hh.2.2) := (blk_cell HS.out.wo 0).trans rfl
                  have dv1 : X2.cell? ⟨w.heap.size + 1 + 1, 1, none⟩ = some (.slice v.rh.1 v.rh.2.1 v.rh.2.2) := (blk_cell HS.out.wo 1).trans rfl
                  have dlsi := blk_lt HS.out.si
                  have dlwi := blk_lt HS.out.wi
                  have dlwo := blk_lt HS.out.wo
                  by_cases hlt2 : k2 < v.rh.2.1
                  · have hltI2 : (k2 : Int) < (v.rh.2.1 : Int) := by omega
                    have hki : k2 < v.reps.length := by rw [HN.out.2.1]; exact hlt2
                    obtain ⟨b1, o1, q, hb1, p0, p1⟩ := rps_at (HI.out.2.2.later HS.out.bel).reps.rows k2 hki
                    rw [q] at dv1
                    have HU := Lib.hid (fun h => upto (f := okRp x.svcs.length s.hosts.length) HJ2.out (k := k2) h)
                    have HV := Lib.hid (fun h => all_no (f := okRp x.svcs.length s.hosts.length) hki h)
                    generalize v.reps.getD k2 default = y at p0 p1 HU HV
                    clear q hb1 hki
                    by_cases t0 : 0 ≤ y.svc
                    · by_cases t1 : y.svc < (x.sh.2.1 : Int)
                      · by_cases t2 : 0 ≤ y.host
                        · by_cases t3 : y.host < (s.hh.2.1 : Int)
                          · have HT := Lib.hid (HU.out (by unfold okRp; rw [inR_iff.2 (show 0 ≤ y.svc ∧ y.svc ≤ (x.svcs.length : Int) - 1 by rw [HN.out.2.2.2]; omega), inR_iff.2 (show 0 ≤ y.host ∧ y.host ≤ (s.hosts.length : Int) - 1 by rw [HN.out.2.2.1]; omega)]; rfl))
                            go_wp2_with fail
                            go_roundw
                            case rel => exact ⟨k2 + 1, _, by omega, by go_num, rfl, Lib.hid (HS.out.later (below_alloc (below_self _) _)), HT⟩
                            case measure => simp [intOf]; omega
                          · have hq := HV.out (by unfold okRp; rw [show inR y.host 0 ((s.hosts.length : Int) - 1) = false by rw [← Bool.not_eq_true, inR_iff, HN.out.2.2.1]; omega]; simp)
                            have HF := Lib.hid (show worldOk s x v = false by unfold worldOk; rw [q0, q1, q2, q3, q4, haA, hq]; simp)
                            go_wp2_with fail
                            go_ret
                            exact ⟨by rw [HF.out]; rfl, below_alloc HS.out.bel _⟩
                        · have hq := HV.out (by unfold okRp; rw [show inR y.host 0 ((s.hosts.length : Int) - 1) = false by rw [← Bool.not_eq_true, inR_iff, HN.out.2.2.1]; omega]; simp)
                          have HF := Lib.hid (show worldOk s x v = false by unfold worldOk; rw [q0, q1, q2, q3, q4, haA, hq]; simp)
                          go_wp2_with fail
                          go_ret
                          exact ⟨by rw [HF.out]; rfl, below_alloc HS.out.bel _⟩
                      · have hq := HV.out (by unfold okRp; rw [show inR y.svc 0 ((x.svcs.length : Int) - 1) = false by rw [← Bool.not_eq_true, inR_iff, HN.out.2.2.2]; omega]; simp)
                        have HF := Lib.hid (show worldOk s x v = false by unfold worldOk; rw [q0, q1, q2, q3, q4, haA, hq]; simp)
                        go_wp2_with fail
                        go_ret
                        exact ⟨by rw [HF.out]; rfl, below_alloc HS.out.bel _⟩
                    · have hq := HV.out (by unfold okRp; rw [show inR y.svc 0 ((x.svcs.length : Int) - 1) = false by rw [← Bool.not_eq_true, inR_iff, HN.out.2.2.2]; omega]; simp)
                      have HF := Lib.hid (show worldOk s x v = false by unfold worldOk; rw [q0, q1, q2, q3, q4, haA, hq]; simp)
                      go_wp2_with fail
                      go_ret
                      exact ⟨by rw [HF.out]; rfl, below_alloc HS.out.bel _⟩
                  · have hltI2 : ¬ (k2 : Int) < (v.rh.2.1 : Int) := by omega
                    have haB := all_yes (f := okRp x.svcs.length s.hosts.length) (l := v.reps) (fun j hj => HJ2.out j (by rw [HN.out.2.1] at hj; omega))
                    have HF := Lib.hid (show worldOk s x v = true by unfold worldOk; rw [q0, q1, q2, q3, q4, haA, haB]; rfl)
                    go_wp2_with fail
                    go_ret
                    exact ⟨by rw [HF.out]; rfl, HS.out.bel⟩
        · have q3 : decide (v.reps.length ≤ 24) = false := decide_eq_false (by rw [HN.out.2.1]; exact e3)
          have e3I : ¬ ((v.rh.2.1 : Nat) : Int) ≤ 24 := by omega
          have HF := Lib.hid (show worldOk s x v = false by unfold worldOk; rw [q0, q1, q2, q3]; simp)
          go_wp2_with fail
          go_ret
          exact ⟨by rw [HF.out]; rfl, HC.out.bel⟩
      · have q2 : decide (v.hosts.length = s.hosts.length) = false := decide_eq_false (by rw [HN.out.1, HN.out.2.2.1]; exact e2)
        have e2I : ¬ ((v.hh.2.1 : Nat) : Int) = (s.hh.2.1 : Int) := by omega
        have e2B : (((v.hh.2.1 : Nat) : Int) == (s.hh.2.1 : Int)) = false := beq_eq_false_iff_ne.2 e2I
        have e2N : (((v.hh.2.1 : Nat) : Int) != (s.hh.2.1 : Int)) = true := by simp [e2I]
        have HF := Lib.hid (show worldOk s x v = false by unfold worldOk; rw [q0, q1, q2]; simp)
        go_wp2_with fail
        go_ret
        exact ⟨by rw [HF.out]; rfl, HC.out.bel⟩
end Go.Proofs.YthlefdbhkbpejaaGreat
