/- Chapter 15: the two ways to say that a site is valid. -/
import Derived.Test.YthlefdbhkbpejaaGreatSum
import Derived.Test.YthlefdbhkbpejaaGreatValid
namespace Go.Proofs.YthlefdbhkbpejaaGreat
open Go Go.RowKit
set_option linter.unusedSimpArgs false

theorem within_ok (x lo hi : Int) (w : World) : Calls Tryz.prog 62 #[.int .i64 x, .int .i64 lo, .int .i64 hi] w fun e W' => e = .returned (.bool (inR x lo hi)) ∧ w = W' := by
  by_cases h1 : lo ≤ x
  · have HE := Lib.hid (show inR x lo hi = decide (x ≤ hi) by unfold inR; simp [h1])
    go_enter Tryz.func62, Tryz.ntmps62
    go_wp2_with fail
    go_ret
    exact ⟨by rw [HE.out]; rfl, rfl⟩
  · have HE := Lib.hid (show inR x lo hi = false by unfold inR; simp [h1])
    go_enter Tryz.func62, Tryz.ntmps62
    go_wp2_with fail
    go_ret
    exact ⟨by rw [HE.out]; rfl, rfl⟩
theorem all_no {α : Type} [Inhabited α] {f : α → Bool} {l : List α} {k : Nat} (hk : k < l.length) (h : f (l.getD k default) = false) : l.all f = false := by
  rw [List.all_eq_false]
  exact ⟨_, getD_in hk, by rw [h]; simp⟩
theorem all_yes {α : Type} [Inhabited α] {f : α → Bool} {l : List α} (h : ∀ j, j < l.length → f (l.getD j default) = true) : l.all f = true := by
  rw [List.all_eq_true]
  intro x hx
  obtain ⟨j, hj, rfl⟩ := List.getElem_of_mem hx
  have := h j hj
  rwa [List.getD_eq_getElem?_getD, List.getElem?_eq_getElem hj] at this
theorem upto {α : Type} [Inhabited α] {f : α → Bool} {l : List α} {k : Nat} (h : ∀ j, j < k → f (l.getD j default) = true) (hk : f (l.getD k default) = true) : ∀ j, j < k + 1 → f (l.getD j default) = true := by
  intro j hj
  by_cases e : j = k
  · rw [e]; exact hk
  · exact h j (by omega)

def rFd (f : Feed) : Bool := inR f.limit 0 1000000
def rBk (nf : Int) (b : Bkr) : Bool := inR b.feed 0 (nf - 1) && (inR b.limit 0 1000000 && (inR b.slow 0 1000000 && inR b.fast 0 1000000))
def rLp (l : Loop) : Bool := inR l.carry 0 1000000 && inR l.delay 0 100
def rRk (nb nl sw : Int) (r : Rack) : Bool := inR r.row 0 3 && (inR r.brk 0 (nb - 1) && (inR r.loop 0 (nl - 1) && inR r.switch 0 (sw - 1)))
def rLk (sw : Int) (l : Link) : Bool := inR l.a 0 (sw - 1) && (inR l.b 0 (sw - 1) && (!decide (l.a = l.b) && inR l.lat 1 1000000))
def rHo (nr : Int) (h : Host) : Bool := inR h.rack 0 (nr - 1) && (inR h.cores 1 1000 && (inR h.idle 0 10000 && inR h.per 0 1000))
def powerOk (s : Site) : Bool := inR s.fh.2.1 1 4 && (inR s.bh.2.1 1 8 && (s.feeds.all rFd && s.brks.all (rBk s.fh.2.1)))
def roomsOk (s : Site) : Bool := inR s.lh.2.1 1 4 && (inR s.switches 1 8 && (inR s.rh.2.1 1 8 && (decide (s.kh.2.1 ≤ 16) && (s.loops.all rLp && (s.racks.all (rRk s.bh.2.1 s.lh.2.1 s.switches) && s.links.all (rLk s.switches))))))
def siteR (s : Site) : Bool := powerOk s && (roomsOk s && (inR s.hh.2.1 1 16 && s.hosts.all (rHo s.rh.2.1)))

set_option maxRecDepth 10000 in
set_option maxHeartbeats 8000000 in
theorem power_ref (s : Site) (w : World) (hs : s.At w) : Calls Tryz.prog 60 #[s.val] w fun e W' => e = .returned (.bool (powerOk s)) ∧ Below w.heap.size w W' := by
  have HI := Lib.hid hs
  have n0 : s.feeds.length = s.fh.2.1 := hs.feeds.len
  have l0 := hs.feeds.le
  have w0 : IntKind.i64.wrap ((s.fh.2.1 : Int) - 1) = (s.fh.2.1 : Int) - 1 := IntWalk.i64_in _ (by omega)
  have n1 : s.brks.length = s.bh.2.1 := hs.brks.len
  have l1 := hs.brks.le
  have w1 : IntKind.i64.wrap ((s.bh.2.1 : Int) - 1) = (s.bh.2.1 : Int) - 1 := IntWalk.i64_in _ (by omega)
  have HN0 := Lib.hid n0
  have HN1 := Lib.hid n1
  clear hs n0 n1
  go_enter Tryz.func60, Tryz.ntmps60
  go_wp2_with fail
  obtain ⟨A, hA⟩ : ∃ W' : World, (w.alloc (.cells s.cells.toArray 29)) = W' := ⟨_, rfl⟩
  have h : Has A [(w.heap.size, .cells s.cells.toArray 29 (0, 0))] := by rw [← hA]; simpa using ((Has.nil w).new _)
  have z : A.heap.size = w.heap.size + 1 := by rw [← hA]; simp
  have b : Below w.heap.size w A := by rw [← hA]; exact (below_alloc (below_self w) _)
  rw [hA]
  clear hA
  have HA := Lib.hid (And.intro h.hd b)
  clear h z b
  have d0 : A.cell? ⟨w.heap.size, 0, none⟩ = some (.slice s.fh.1 s.fh.2.1 s.fh.2.2) := (blk_cell HA.out.1 0).trans rfl
  have d1 : A.cell? ⟨w.heap.size, 1, none⟩ = some (.slice s.bh.1 s.bh.2.1 s.bh.2.2) := (blk_cell HA.out.1 1).trans rfl
  have dl := blk_lt HA.out.1
  refine (within_ok _ _ _ _).mono ?_
  rintro e W ⟨rfl, rfl⟩
  cases q0 : inR (s.fh.2.1 : Int) 1 4
  · have HF := Lib.hid (show powerOk s = false from by unfold powerOk; rw [q0]; rfl)
    go_wp2_with fail
    go_ret
    exact ⟨by rw [HF.out]; rfl, HA.out.2⟩
  · go_wp2_with fail
    refine (within_ok _ _ _ _).mono ?_
    rintro e W ⟨rfl, rfl⟩
    cases q1 : inR (s.bh.2.1 : Int) 1 8
    · have HF := Lib.hid (show powerOk s = false from by unfold powerOk; rw [q0, q1]; rfl)
      go_wp2_with fail
      go_ret
      exact ⟨by rw [HF.out]; rfl, HA.out.2⟩
    · go_wp2_with fail
      clear d0 d1 dl
      go_loopw [3] (fun i wr => ∃ (k : Nat) (X : World), k ≤ s.fh.2.1 ∧ i = .int .i64 k ∧ X = wr ∧ Hid (X.heap[w.heap.size]? = some (.cells s.cells.toArray 29 (0, 0)) ∧ Below w.heap.size w X) ∧ Hid (∀ j, j < k → rFd (s.feeds.getD j default) = true)) (fun i _ => s.fh.2.1 - (intOf i).toNat)
      case atStart => exact ⟨0, _, Nat.zero_le _, rfl, rfl, HA, Lib.hid (fun j hj => absurd hj (Nat.not_lt_zero _))⟩
      case round =>
        obtain ⟨k, X, hk, rfl, rfl, HR, HIA⟩ := hrel
        by_cases hlt : k < s.fh.2.1
        · have hltI : (k : Int) < (s.fh.2.1 : Int) := by omega
          have hki : k < s.feeds.length := by rw [HN0.out]; exact hlt
          obtain ⟨b1, o1, q1, hb1, p0⟩ := fds_at (HI.out.later HR.out.2).feeds.rows k hki
          have d0 : X.cell? ⟨w.heap.size, 0, none⟩ = some (.slice s.fh.1 s.fh.2.1 s.fh.2.2) := (blk_cell HR.out.1 0).trans rfl
          have dl := blk_lt HR.out.1
          rw [q1] at d0
          have HU := Lib.hid (fun h => upto (f := rFd) HIA.out (k := k) h)
          have HV := Lib.hid (fun h => all_no (f := rFd) hki h)
          generalize s.feeds.getD k default = y at p0 HU HV
          clear q1 hb1 hki
          go_wp2_with fail
          refine (within_ok _ _ _ _).mono ?_
          rintro e W ⟨rfl, rfl⟩
          cases t0 : inR y.limit 0 1000000
          · have HF := Lib.hid (show powerOk s = false from by have hv := HV.out (by unfold rFd; rw [t0]; (try rfl)); unfold powerOk; rw [q0, q1, hv]; (try rfl))
            go_wp2_with fail
            go_ret
            exact ⟨by rw [HF.out]; rfl, HR.out.2⟩
          · have HT := Lib.hid (HU.out (by unfold rFd; rw [t0]; (try rfl)))
            go_wp2_with fail
            go_roundw
            case rel => exact ⟨k + 1, _, by omega, by go_num, rfl, HR, HT⟩
            case measure => simp [intOf]; omega
        · have hltI : ¬ (k : Int) < (s.fh.2.1 : Int) := by omega
          have haA := all_yes (f := rFd) (l := s.feeds) (fun j hj => HIA.out j (by rw [HN0.out] at hj; omega))
          have d0 : X.cell? ⟨w.heap.size, 0, none⟩ = some (.slice s.fh.1 s.fh.2.1 s.fh.2.2) := (blk_cell HR.out.1 0).trans rfl
          have d1 : X.cell? ⟨w.heap.size, 1, none⟩ = some (.slice s.bh.1 s.bh.2.1 s.bh.2.2) := (blk_cell HR.out.1 1).trans rfl
          have dl := blk_lt HR.out.1
          go_wp2_with fail
          clear dl d0 d1
          go_loopw [4] (fun i wr => ∃ (k : Nat) (X : World), k ≤ s.bh.2.1 ∧ i = .int .i64 k ∧ X = wr ∧ Hid (X.heap[w.heap.size]? = some (.cells s.cells.toArray 29 (0, 0)) ∧ Below w.heap.size w X) ∧ Hid (∀ j, j < k → (rBk s.fh.2.1) (s.brks.getD j default) = true)) (fun i _ => s.bh.2.1 - (intOf i).toNat)
          case atStart => exact ⟨0, _, Nat.zero_le _, rfl, rfl, HR, Lib.hid (fun j hj => absurd hj (Nat.not_lt_zero _))⟩
          case round =>
            obtain ⟨k, X, hk, rfl, rfl, HS, HIB⟩ := hrel
            by_cases hlt : k < s.bh.2.1
            · have hltI : (k : Int) < (s.bh.2.1 : Int) := by omega
              have hki : k < s.brks.length := by rw [HN1.out]; exact hlt
              obtain ⟨b1, o1, q1, hb1, p0, p1, p2, p3⟩ := bks_at (HI.out.later HS.out.2).brks.rows k hki
              have d0 : X.cell? ⟨w.heap.size, 0, none⟩ = some (.slice s.fh.1 s.fh.2.1 s.fh.2.2) := (blk_cell HS.out.1 0).trans rfl
              have d1 : X.cell? ⟨w.heap.size, 1, none⟩ = some (.slice s.bh.1 s.bh.2.1 s.bh.2.2) := (blk_cell HS.out.1 1).trans rfl
              have dl := blk_lt HS.out.1
              rw [q1] at d1
              have HU := Lib.hid (fun h => upto (f := (rBk s.fh.2.1)) HIB.out (k := k) h)
              have HV := Lib.hid (fun h => all_no (f := (rBk s.fh.2.1)) hki h)
              generalize s.brks.getD k default = y at p0 p1 p2 p3 HU HV
              clear q1 hb1 hki
              go_wp2_with fail
              refine (within_ok _ _ _ _).mono ?_
              rintro e W ⟨rfl, rfl⟩
              cases t0 : inR y.feed 0 ((s.fh.2.1 : Int) - 1)
              · have HF := Lib.hid (show powerOk s = false from by have hv := HV.out (by unfold rBk; rw [t0]; (try rfl)); unfold powerOk; rw [q0, q1, haA, hv]; (try rfl))
                go_wp2_with fail
                go_ret
                exact ⟨by rw [HF.out]; rfl, below_alloc HS.out.2 _⟩
              · go_wp2_with fail
                refine (within_ok _ _ _ _).mono ?_
                rintro e W ⟨rfl, rfl⟩
                cases t1 : inR y.limit 0 1000000
                · have HF := Lib.hid (show powerOk s = false from by have hv := HV.out (by unfold rBk; rw [t0, t1]; (try rfl)); unfold powerOk; rw [q0, q1, haA, hv]; (try rfl))
                  go_wp2_with fail
                  go_ret
                  exact ⟨by rw [HF.out]; rfl, below_alloc HS.out.2 _⟩
                · go_wp2_with fail
                  refine (within_ok _ _ _ _).mono ?_
                  rintro e W ⟨rfl, rfl⟩
                  cases t2 : inR y.slow 0 1000000
                  · have HF := Lib.hid (show powerOk s = false from by have hv := HV.out (by unfold rBk; rw [t0, t1, t2]; (try rfl)); unfold powerOk; rw [q0, q1, haA, hv]; (try rfl))
                    go_wp2_with fail
                    go_ret
                    exact ⟨by rw [HF.out]; rfl, below_alloc HS.out.2 _⟩
                  · go_wp2_with fail
                    refine (within_ok _ _ _ _).mono ?_
                    rintro e W ⟨rfl, rfl⟩
                    cases t3 : inR y.fast 0 1000000
                    · have HF := Lib.hid (show powerOk s = false from by have hv := HV.out (by unfold rBk; rw [t0, t1, t2, t3]; (try rfl)); unfold powerOk; rw [q0, q1, haA, hv]; (try rfl))
                      go_wp2_with fail
                      go_ret
                      exact ⟨by rw [HF.out]; rfl, below_alloc HS.out.2 _⟩
                    · have HT := Lib.hid (HU.out (by unfold rBk; rw [t0, t1, t2, t3]; (try rfl)))
                      go_wp2_with fail
                      go_roundw
                      case rel => exact ⟨k + 1, _, by omega, by go_num, rfl, Lib.hid ⟨blk_alloc HS.out.1 _, below_alloc HS.out.2 _⟩, HT⟩
                      case measure => simp [intOf]; omega
            · have hltI : ¬ (k : Int) < (s.bh.2.1 : Int) := by omega
              have haB := all_yes (f := (rBk s.fh.2.1)) (l := s.brks) (fun j hj => HIB.out j (by rw [HN1.out] at hj; omega))
              have d1 : X.cell? ⟨w.heap.size, 1, none⟩ = some (.slice s.bh.1 s.bh.2.1 s.bh.2.2) := (blk_cell HS.out.1 1).trans rfl
              have dl := blk_lt HS.out.1
              have HF := Lib.hid (show powerOk s = true from by unfold powerOk; rw [q0, q1, haA, haB]; rfl)
              go_wp2_with fail
              go_ret
              exact ⟨by rw [HF.out]; rfl, HS.out.2⟩

set_option maxRecDepth 10000 in
set_option maxHeartbeats 8000000 in
theorem rooms_ref (s : Site) (w : World) (hs : s.At w) : Calls Tryz.prog 61 #[s.val] w fun e W' => e = .returned (.bool (roomsOk s)) ∧ Below w.heap.size w W' := by
  have HI := Lib.hid hs
  have n0 : s.loops.length = s.lh.2.1 := hs.loops.len
  have l0 := hs.loops.le
  have w0 : IntKind.i64.wrap ((s.lh.2.1 : Int) - 1) = (s.lh.2.1 : Int) - 1 := IntWalk.i64_in _ (by omega)
  have n1 : s.racks.length = s.rh.2.1 := hs.racks.len
  have l1 := hs.racks.le
  have w1 : IntKind.i64.wrap ((s.rh.2.1 : Int) - 1) = (s.rh.2.1 : Int) - 1 := IntWalk.i64_in _ (by omega)
  have n2 : s.links.length = s.kh.2.1 := hs.links.len
  have l2 := hs.links.le
  have w2 : IntKind.i64.wrap ((s.kh.2.1 : Int) - 1) = (s.kh.2.1 : Int) - 1 := IntWalk.i64_in _ (by omega)
  have n3 : s.brks.length = s.bh.2.1 := hs.brks.len
  have l3 := hs.brks.le
  have w3 : IntKind.i64.wrap ((s.bh.2.1 : Int) - 1) = (s.bh.2.1 : Int) - 1 := IntWalk.i64_in _ (by omega)
  have HN0 := Lib.hid n0
  have HN1 := Lib.hid n1
  have HN2 := Lib.hid n2
  have HN3 := Lib.hid n3
  clear hs n0 n1 n2 n3
  go_enter Tryz.func61, Tryz.ntmps61
  go_wp2_with fail
  obtain ⟨A, hA⟩ : ∃ W' : World, (w.alloc (.cells s.cells.toArray 29)) = W' := ⟨_, rfl⟩
  have h : Has A [(w.heap.size, .cells s.cells.toArray 29 (0, 0))] := by rw [← hA]; simpa using ((Has.nil w).new _)
  have z : A.heap.size = w.heap.size + 1 := by rw [← hA]; simp
  have b : Below w.heap.size w A := by rw [← hA]; exact (below_alloc (below_self w) _)
  rw [hA]
  clear hA
  have HA := Lib.hid (And.intro h.hd b)
  clear h z b
  have d2 : A.cell? ⟨w.heap.size, 2, none⟩ = some (.slice s.lh.1 s.lh.2.1 s.lh.2.2) := (blk_cell HA.out.1 2).trans rfl
  have d3 : A.cell? ⟨w.heap.size, 3, none⟩ = some (.slice s.rh.1 s.rh.2.1 s.rh.2.2) := (blk_cell HA.out.1 3).trans rfl
  have d4 : A.cell? ⟨w.heap.size, 4, none⟩ = some (.int .i64 s.switches) := (blk_cell HA.out.1 4).trans rfl
  have d5 : A.cell? ⟨w.heap.size, 5, none⟩ = some (.slice s.kh.1 s.kh.2.1 s.kh.2.2) := (blk_cell HA.out.1 5).trans rfl
  have dl := blk_lt HA.out.1
  refine (within_ok _ _ _ _).mono ?_
  rintro e W ⟨rfl, rfl⟩
  cases q0 : inR (s.lh.2.1 : Int) 1 4
  · have HF := Lib.hid (show roomsOk s = false from by unfold roomsOk; rw [q0]; (try rfl))
    go_wp2_with fail
    go_ret
    exact ⟨by rw [HF.out]; rfl, HA.out.2⟩
  · go_wp2_with fail
    refine (within_ok _ _ _ _).mono ?_
    rintro e W ⟨rfl, rfl⟩
    cases q1 : inR s.switches 1 8
    · have HF := Lib.hid (show roomsOk s = false from by unfold roomsOk; rw [q0, q1]; (try rfl))
      go_wp2_with fail
      go_ret
      exact ⟨by rw [HF.out]; rfl, HA.out.2⟩
    · have hsw := inR_iff.1 q1
      have wsw : IntKind.i64.wrap (s.switches - 1) = s.switches - 1 := IntWalk.i64_in _ (by omega)
      clear hsw
      go_wp2_with fail
      refine (within_ok _ _ _ _).mono ?_
      rintro e W ⟨rfl, rfl⟩
      cases q2 : inR (s.rh.2.1 : Int) 1 8
      · have HF := Lib.hid (show roomsOk s = false from by unfold roomsOk; rw [q0, q1, q2]; (try rfl))
        go_wp2_with fail
        go_ret
        exact ⟨by rw [HF.out]; rfl, HA.out.2⟩
      · by_cases c3 : s.kh.2.1 ≤ 16
        · have q3 := decide_eq_true c3
          have c3I : ((s.kh.2.1 : Nat) : Int) ≤ 16 := by omega
          go_wp2_with fail
          clear d2 d3 d4 d5 dl
          go_loopw [3] (fun i wr => ∃ (k : Nat) (X : World), k ≤ s.lh.2.1 ∧ i = .int .i64 k ∧ X = wr ∧ Hid (X.heap[w.heap.size]? = some (.cells s.cells.toArray 29 (0, 0)) ∧ Below w.heap.size w X) ∧ Hid (∀ j, j < k → rLp (s.loops.getD j default) = true)) (fun i _ => s.lh.2.1 - (intOf i).toNat)
          case atStart => exact ⟨0, _, Nat.zero_le _, rfl, rfl, HA, Lib.hid (fun j hj => absurd hj (Nat.not_lt_zero _))⟩
          case round =>
            obtain ⟨k, X, hk, rfl, rfl, HR, HIA⟩ := hrel
            by_cases hlt : k < s.lh.2.1
            · have hltI : (k : Int) < (s.lh.2.1 : Int) := by omega
              have hki : k < s.loops.length := by rw [HN0.out]; exact hlt
              obtain ⟨b1, o1, q1, hb1, p0, p1⟩ := lps_at (HI.out.later HR.out.2).loops.rows k hki
              have d2 : X.cell? ⟨w.heap.size, 2, none⟩ = some (.slice s.lh.1 s.lh.2.1 s.lh.2.2) := (blk_cell HR.out.1 2).trans rfl
              have dl := blk_lt HR.out.1
              rw [q1] at d2
              have HU := Lib.hid (fun h => upto (f := rLp) HIA.out (k := k) h)
              have HV := Lib.hid (fun h => all_no (f := rLp) hki h)
              generalize s.loops.getD k default = y at p0 p1 HU HV
              clear q1 hb1 hki
              go_wp2_with fail
              refine (within_ok _ _ _ _).mono ?_
              rintro e W ⟨rfl, rfl⟩
              cases t0 : inR y.carry 0 1000000
              · have HF := Lib.hid (show roomsOk s = false from by have hv := HV.out (by unfold rLp; rw [t0]; (try rfl)); unfold roomsOk; rw [q0, q1, q2, q3, hv]; (try rfl))
                go_wp2_with fail
                go_ret
                exact ⟨by rw [HF.out]; rfl, HR.out.2⟩
              · go_wp2_with fail
                refine (within_ok _ _ _ _).mono ?_
                rintro e W ⟨rfl, rfl⟩
                cases t1 : inR y.delay 0 100
                · have HF := Lib.hid (show roomsOk s = false from by have hv := HV.out (by unfold rLp; rw [t0, t1]; (try rfl)); unfold roomsOk; rw [q0, q1, q2, q3, hv]; (try rfl))
                  go_wp2_with fail
                  go_ret
                  exact ⟨by rw [HF.out]; rfl, HR.out.2⟩
                · have HT := Lib.hid (HU.out (by unfold rLp; rw [t0, t1]; (try rfl)))
                  go_wp2_with fail
                  go_roundw
                  case rel => exact ⟨k + 1, _, by omega, by go_num, rfl, HR, HT⟩
                  case measure => simp [intOf]; omega
            · have hltI : ¬ (k : Int) < (s.lh.2.1 : Int) := by omega
              have haA := all_yes (f := rLp) (l := s.loops) (fun j hj => HIA.out j (by rw [HN0.out] at hj; omega))
              have d2 : X.cell? ⟨w.heap.size, 2, none⟩ = some (.slice s.lh.1 s.lh.2.1 s.lh.2.2) := (blk_cell HR.out.1 2).trans rfl
              have d3 : X.cell? ⟨w.heap.size, 3, none⟩ = some (.slice s.rh.1 s.rh.2.1 s.rh.2.2) := (blk_cell HR.out.1 3).trans rfl
              have dl := blk_lt HR.out.1
              go_wp2_with fail
              clear dl d2 d3
              go_loopw [4] (fun i wr => ∃ (k : Nat) (X : World), k ≤ s.rh.2.1 ∧ i = .int .i64 k ∧ X = wr ∧ Hid (X.heap[w.heap.size]? = some (.cells s.cells.toArray 29 (0, 0)) ∧ Below w.heap.size w X) ∧ Hid (∀ j, j < k → (rRk s.bh.2.1 s.lh.2.1 s.switches) (s.racks.getD j default) = true)) (fun i _ => s.rh.2.1 - (intOf i).toNat)
              case atStart => exact ⟨0, _, Nat.zero_le _, rfl, rfl, HR, Lib.hid (fun j hj => absurd hj (Nat.not_lt_zero _))⟩
              case round =>
                obtain ⟨k, X, hk, rfl, rfl, HS, HIB⟩ := hrel
                by_cases hlt : k < s.rh.2.1
                · have hltI : (k : Int) < (s.rh.2.1 : Int) := by omega
                  have hki : k < s.racks.length := by rw [HN1.out]; exact hlt
                  obtain ⟨b1, o1, q1, hb1, p0, p1, p2, p3⟩ := rks_at (HI.out.later HS.out.2).racks.rows k hki
                  have d1 : X.cell? ⟨w.heap.size, 1, none⟩ = some (.slice s.bh.1 s.bh.2.1 s.bh.2.2) := (blk_cell HS.out.1 1).trans rfl
                  have d2 : X.cell? ⟨w.heap.size, 2, none⟩ = some (.slice s.lh.1 s.lh.2.1 s.lh.2.2) := (blk_cell HS.out.1 2).trans rfl
                  have d3 : X.cell? ⟨w.heap.size, 3, none⟩ = some (.slice s.rh.1 s.rh.2.1 s.rh.2.2) := (blk_cell HS.out.1 3).trans rfl
                  have d4 : X.cell? ⟨w.heap.size, 4, none⟩ = some (.int .i64 s.switches) := (blk_cell HS.out.1 4).trans rfl
                  have dl := blk_lt HS.out.1
                  rw [q1] at d3
                  have HU := Lib.hid (fun h => upto (f := (rRk s.bh.2.1 s.lh.2.1 s.switches)) HIB.out (k := k) h)
                  have HV := Lib.hid (fun h => all_no (f := (rRk s.bh.2.1 s.lh.2.1 s.switches)) hki h)
                  generalize s.racks.getD k default = y at p0 p1 p2 p3 HU HV
                  clear q1 hb1 hki
                  go_wp2_with fail
                  refine (within_ok _ _ _ _).mono ?_
                  rintro e W ⟨rfl, rfl⟩
                  cases t0 : inR y.row 0 3
                  · have HF := Lib.hid (show roomsOk s = false from by have hv := HV.out (by unfold rRk; rw [t0]; (try rfl)); unfold roomsOk; rw [q0, q1, q2, q3, haA, hv]; (try rfl))
                    go_wp2_with fail
                    go_ret
                    exact ⟨by rw [HF.out]; rfl, below_alloc HS.out.2 _⟩
                  · go_wp2_with fail
                    refine (within_ok _ _ _ _).mono ?_
                    rintro e W ⟨rfl, rfl⟩
                    cases t1 : inR y.brk 0 ((s.bh.2.1 : Int) - 1)
                    · have HF := Lib.hid (show roomsOk s = false from by have hv := HV.out (by unfold rRk; rw [t0, t1]; (try rfl)); unfold roomsOk; rw [q0, q1, q2, q3, haA, hv]; (try rfl))
                      go_wp2_with fail
                      go_ret
                      exact ⟨by rw [HF.out]; rfl, below_alloc HS.out.2 _⟩
                    · go_wp2_with fail
                      refine (within_ok _ _ _ _).mono ?_
                      rintro e W ⟨rfl, rfl⟩
                      cases t2 : inR y.loop 0 ((s.lh.2.1 : Int) - 1)
                      · have HF := Lib.hid (show roomsOk s = false from by have hv := HV.out (by unfold rRk; rw [t0, t1, t2]; (try rfl)); unfold roomsOk; rw [q0, q1, q2, q3, haA, hv]; (try rfl))
                        go_wp2_with fail
                        go_ret
                        exact ⟨by rw [HF.out]; rfl, below_alloc HS.out.2 _⟩
                      · go_wp2_with fail
                        refine (within_ok _ _ _ _).mono ?_
                        rintro e W ⟨rfl, rfl⟩
                        cases t3 : inR y.switch 0 (s.switches - 1)
                        · have HF := Lib.hid (show roomsOk s = false from by have hv := HV.out (by unfold rRk; rw [t0, t1, t2, t3]; (try rfl)); unfold roomsOk; rw [q0, q1, q2, q3, haA, hv]; (try rfl))
                          go_wp2_with fail
                          go_ret
                          exact ⟨by rw [HF.out]; rfl, below_alloc HS.out.2 _⟩
                        · have HT := Lib.hid (HU.out (by unfold rRk; rw [t0, t1, t2, t3]; (try rfl)))
                          go_wp2_with fail
                          go_roundw
                          case rel => exact ⟨k + 1, _, by omega, by go_num, rfl, Lib.hid ⟨blk_alloc HS.out.1 _, below_alloc HS.out.2 _⟩, HT⟩
                          case measure => simp [intOf]; omega
                · have hltI : ¬ (k : Int) < (s.rh.2.1 : Int) := by omega
                  have haB := all_yes (f := (rRk s.bh.2.1 s.lh.2.1 s.switches)) (l := s.racks) (fun j hj => HIB.out j (by rw [HN1.out] at hj; omega))
                  have d3 : X.cell? ⟨w.heap.size, 3, none⟩ = some (.slice s.rh.1 s.rh.2.1 s.rh.2.2) := (blk_cell HS.out.1 3).trans rfl
                  have d5 : X.cell? ⟨w.heap.size, 5, none⟩ = some (.slice s.kh.1 s.kh.2.1 s.kh.2.2) := (blk_cell HS.out.1 5).trans rfl
                  have dl := blk_lt HS.out.1
                  go_wp2_with fail
                  clear dl d3 d5
                  go_loopw [6] (fun i wr => ∃ (k : Nat) (X : World), k ≤ s.kh.2.1 ∧ i = .int .i64 k ∧ X = wr ∧ Hid (X.heap[w.heap.size]? = some (.cells s.cells.toArray 29 (0, 0)) ∧ Below w.heap.size w X) ∧ Hid (∀ j, j < k → (rLk s.switches) (s.links.getD j default) = true)) (fun i _ => s.kh.2.1 - (intOf i).toNat)
                  case atStart => exact ⟨0, _, Nat.zero_le _, rfl, rfl, HS, Lib.hid (fun j hj => absurd hj (Nat.not_lt_zero _))⟩
                  case round =>
                    obtain ⟨k, X, hk, rfl, rfl, HW, HIC⟩ := hrel
                    by_cases hlt : k < s.kh.2.1
                    · have hltI : (k : Int) < (s.kh.2.1 : Int) := by omega
                      have hki : k < s.links.length := by rw [HN2.out]; exact hlt
                      obtain ⟨b1, o1, q1, hb1, p0, p1, p2⟩ := lks_at (HI.out.later HW.out.2).links.rows k hki
                      have d4 : X.cell? ⟨w.heap.size, 4, none⟩ = some (.int .i64 s.switches) := (blk_cell HW.out.1 4).trans rfl
                      have d5 : X.cell? ⟨w.heap.size, 5, none⟩ = some (.slice s.kh.1 s.kh.2.1 s.kh.2.2) := (blk_cell HW.out.1 5).trans rfl
                      have dl := blk_lt HW.out.1
                      rw [q1] at d5
                      have HU := Lib.hid (fun h => upto (f := (rLk s.switches)) HIC.out (k := k) h)
                      have HV := Lib.hid (fun h => all_no (f := (rLk s.switches)) hki h)
                      generalize s.links.getD k default = y at p0 p1 p2 HU HV
                      clear q1 hb1 hki
                      go_wp2_with fail
                      refine (within_ok _ _ _ _).mono ?_
                      rintro e W ⟨rfl, rfl⟩
                      cases t0 : inR y.a 0 (s.switches - 1)
                      · have HF := Lib.hid (show roomsOk s = false from by have hv := HV.out (by unfold rLk; rw [t0]; (try rfl)); unfold roomsOk; rw [q0, q1, q2, q3, haA, haB, hv]; (try rfl))
                        go_wp2_with fail
                        go_ret
                        exact ⟨by rw [HF.out]; rfl, below_alloc HW.out.2 _⟩
                      · go_wp2_with fail
                        refine (within_ok _ _ _ _).mono ?_
                        rintro e W ⟨rfl, rfl⟩
                        cases t1 : inR y.b 0 (s.switches - 1)
                        · have HF := Lib.hid (show roomsOk s = false from by have hv := HV.out (by unfold rLk; rw [t0, t1]; (try rfl)); unfold roomsOk; rw [q0, q1, q2, q3, haA, haB, hv]; (try rfl))
                          go_wp2_with fail
                          go_ret
                          exact ⟨by rw [HF.out]; rfl, below_alloc HW.out.2 _⟩
                        · by_cases u2 : y.a = y.b
                          · have t2 : (!decide (y.a = y.b)) = false := by simp [u2]
                            have u2B := beq_iff_eq.2 u2
                            have HF := Lib.hid (show roomsOk s = false from by have hv := HV.out (by unfold rLk; rw [t0, t1, t2]; (try rfl)); unfold roomsOk; rw [q0, q1, q2, q3, haA, haB, hv]; (try rfl))
                            go_wp2_with fail
                            go_ret
                            exact ⟨by rw [HF.out]; rfl, below_alloc HW.out.2 _⟩
                          · have t2 : (!decide (y.a = y.b)) = true := by simp [u2]
                            have u2B := beq_eq_false_iff_ne.2 u2
                            go_wp2_with fail
                            refine (within_ok _ _ _ _).mono ?_
                            rintro e W ⟨rfl, rfl⟩
                            cases t3 : inR y.lat 1 1000000
                            · have HF := Lib.hid (show roomsOk s = false from by have hv := HV.out (by unfold rLk; rw [t0, t1, t2, t3]; (try rfl)); unfold roomsOk; rw [q0, q1, q2, q3, haA, haB, hv]; (try rfl))
                              go_wp2_with fail
                              go_ret
                              exact ⟨by rw [HF.out]; rfl, below_alloc HW.out.2 _⟩
                            · have HT := Lib.hid (HU.out (by unfold rLk; rw [t0, t1, t2, t3]; (try rfl)))
                              go_wp2_with fail
                              go_roundw
                              case rel => exact ⟨k + 1, _, by omega, by go_num, rfl, Lib.hid ⟨blk_alloc HW.out.1 _, below_alloc HW.out.2 _⟩, HT⟩
                              case measure => simp [intOf]; omega
                    · have hltI : ¬ (k : Int) < (s.kh.2.1 : Int) := by omega
                      have haC := all_yes (f := (rLk s.switches)) (l := s.links) (fun j hj => HIC.out j (by rw [HN2.out] at hj; omega))
                      have d5 : X.cell? ⟨w.heap.size, 5, none⟩ = some (.slice s.kh.1 s.kh.2.1 s.kh.2.2) := (blk_cell HW.out.1 5).trans rfl
                      have dl := blk_lt HW.out.1
                      have HF := Lib.hid (show roomsOk s = true from by unfold roomsOk; rw [q0, q1, q2, q3, haA, haB, haC]; rfl)
                      go_wp2_with fail
                      go_ret
                      exact ⟨by rw [HF.out]; rfl, HW.out.2⟩
        · have q3 := decide_eq_false c3
          have c3I : ¬ ((s.kh.2.1 : Nat) : Int) ≤ 16 := by omega
          have HF := Lib.hid (show roomsOk s = false from by unfold roomsOk; rw [q0, q1, q2, q3]; (try rfl))
          go_wp2_with fail
          go_ret
          exact ⟨by rw [HF.out]; rfl, HA.out.2⟩

set_option maxRecDepth 10000 in
set_option maxHeartbeats 8000000 in
theorem sitev_ref (s : Site) (w : World) (hs : s.At w) : Calls Tryz.prog 39 #[s.val] w fun e W' => e = .returned (.bool (siteR s)) ∧ Below w.heap.size w W' := by
  have HI := Lib.hid hs
  have n0 : s.hosts.length = s.hh.2.1 := hs.hosts.len
  have l0 := hs.hosts.le
  have w0 : IntKind.i64.wrap ((s.hh.2.1 : Int) - 1) = (s.hh.2.1 : Int) - 1 := IntWalk.i64_in _ (by omega)
  have n1 : s.racks.length = s.rh.2.1 := hs.racks.len
  have l1 := hs.racks.le
  have w1 : IntKind.i64.wrap ((s.rh.2.1 : Int) - 1) = (s.rh.2.1 : Int) - 1 := IntWalk.i64_in _ (by omega)
  have HN0 := Lib.hid n0
  have HN1 := Lib.hid n1
  clear hs n0 n1
  go_enter Tryz.func39, Tryz.ntmps39
  go_wp2_with fail
  obtain ⟨A, hA⟩ : ∃ W' : World, (w.alloc (.cells s.cells.toArray 29)) = W' := ⟨_, rfl⟩
  have h : Has A [(w.heap.size, .cells s.cells.toArray 29 (0, 0))] := by rw [← hA]; simpa using ((Has.nil w).new _)
  have z : A.heap.size = w.heap.size + 1 := by rw [← hA]; simp
  have b : Below w.heap.size w A := by rw [← hA]; exact (below_alloc (below_self w) _)
  rw [hA]
  clear hA
  have HA := Lib.hid (And.intro h.hd b)
  clear h z b
  have d0 : A.cell? ⟨w.heap.size, 0, none⟩ = some (.slice s.fh.1 s.fh.2.1 s.fh.2.2) := (blk_cell HA.out.1 0).trans rfl
  have d1 : A.cell? ⟨w.heap.size, 1, none⟩ = some (.slice s.bh.1 s.bh.2.1 s.bh.2.2) := (blk_cell HA.out.1 1).trans rfl
  have d2 : A.cell? ⟨w.heap.size, 2, none⟩ = some (.slice s.lh.1 s.lh.2.1 s.lh.2.2) := (blk_cell HA.out.1 2).trans rfl
  have d3 : A.cell? ⟨w.heap.size, 3, none⟩ = some (.slice s.rh.1 s.rh.2.1 s.rh.2.2) := (blk_cell HA.out.1 3).trans rfl
  have d4 : A.cell? ⟨w.heap.size, 4, none⟩ = some (.int .i64 s.switches) := (blk_cell HA.out.1 4).trans rfl
  have d5 : A.cell? ⟨w.heap.size, 5, none⟩ = some (.slice s.kh.1 s.kh.2.1 s.kh.2.2) := (blk_cell HA.out.1 5).trans rfl
  have d6 : A.cell? ⟨w.heap.size, 6, none⟩ = some (.slice s.hh.1 s.hh.2.1 s.hh.2.2) := (blk_cell HA.out.1 6).trans rfl
  have dl := blk_lt HA.out.1
  refine (power_ref s A (HI.out.later HA.out.2)).mono ?_
  rintro e B ⟨rfl, b⟩
  have HB := Lib.hid (And.intro (blk_below HA.out.1 b) (below_trans HA.out.2 b))
  clear b d0 d1 d2 d3 d4 d5 d6 dl
  have d0 : B.cell? ⟨w.heap.size, 0, none⟩ = some (.slice s.fh.1 s.fh.2.1 s.fh.2.2) := (blk_cell HB.out.1 0).trans rfl
  have d1 : B.cell? ⟨w.heap.size, 1, none⟩ = some (.slice s.bh.1 s.bh.2.1 s.bh.2.2) := (blk_cell HB.out.1 1).trans rfl
  have d2 : B.cell? ⟨w.heap.size, 2, none⟩ = some (.slice s.lh.1 s.lh.2.1 s.lh.2.2) := (blk_cell HB.out.1 2).trans rfl
  have d3 : B.cell? ⟨w.heap.size, 3, none⟩ = some (.slice s.rh.1 s.rh.2.1 s.rh.2.2) := (blk_cell HB.out.1 3).trans rfl
  have d4 : B.cell? ⟨w.heap.size, 4, none⟩ = some (.int .i64 s.switches) := (blk_cell HB.out.1 4).trans rfl
  have d5 : B.cell? ⟨w.heap.size, 5, none⟩ = some (.slice s.kh.1 s.kh.2.1 s.kh.2.2) := (blk_cell HB.out.1 5).trans rfl
  have d6 : B.cell? ⟨w.heap.size, 6, none⟩ = some (.slice s.hh.1 s.hh.2.1 s.hh.2.2) := (blk_cell HB.out.1 6).trans rfl
  have dl := blk_lt HB.out.1
  cases q0 : powerOk s
  · have HF := Lib.hid (show siteR s = false from by unfold siteR; rw [q0]; (try rfl))
    go_wp2_with fail
    go_ret
    exact ⟨by rw [HF.out]; rfl, HB.out.2⟩
  · go_wp2_with fail
    refine (rooms_ref s B (HI.out.later HB.out.2)).mono ?_
    rintro e C ⟨rfl, b⟩
    have HC := Lib.hid (And.intro (blk_below HB.out.1 b) (below_trans HB.out.2 b))
    clear b d0 d1 d2 d3 d4 d5 d6 dl
    have d0 : C.cell? ⟨w.heap.size, 0, none⟩ = some (.slice s.fh.1 s.fh.2.1 s.fh.2.2) := (blk_cell HC.out.1 0).trans rfl
    have d1 : C.cell? ⟨w.heap.size, 1, none⟩ = some (.slice s.bh.1 s.bh.2.1 s.bh.2.2) := (blk_cell HC.out.1 1).trans rfl
    have d2 : C.cell? ⟨w.heap.size, 2, none⟩ = some (.slice s.lh.1 s.lh.2.1 s.lh.2.2) := (blk_cell HC.out.1 2).trans rfl
    have d3 : C.cell? ⟨w.heap.size, 3, none⟩ = some (.slice s.rh.1 s.rh.2.1 s.rh.2.2) := (blk_cell HC.out.1 3).trans rfl
    have d4 : C.cell? ⟨w.heap.size, 4, none⟩ = some (.int .i64 s.switches) := (blk_cell HC.out.1 4).trans rfl
    have d5 : C.cell? ⟨w.heap.size, 5, none⟩ = some (.slice s.kh.1 s.kh.2.1 s.kh.2.2) := (blk_cell HC.out.1 5).trans rfl
    have d6 : C.cell? ⟨w.heap.size, 6, none⟩ = some (.slice s.hh.1 s.hh.2.1 s.hh.2.2) := (blk_cell HC.out.1 6).trans rfl
    have dl := blk_lt HC.out.1
    cases q1 : roomsOk s
    · have HF := Lib.hid (show siteR s = false from by unfold siteR; rw [q0, q1]; (try rfl))
      go_wp2_with fail
      go_ret
      exact ⟨by rw [HF.out]; rfl, HC.out.2⟩
    · go_wp2_with fail
      refine (within_ok _ _ _ _).mono ?_
      rintro e W ⟨rfl, rfl⟩
      cases q2 : inR (s.hh.2.1 : Int) 1 16
      · have HF := Lib.hid (show siteR s = false from by unfold siteR; rw [q0, q1, q2]; (try rfl))
        go_wp2_with fail
        go_ret
        exact ⟨by rw [HF.out]; rfl, HC.out.2⟩
      · go_wp2_with fail
        clear dl d0 d1 d2 d3 d4 d5 d6
        go_loopw [3] (fun i wr => ∃ (k : Nat) (X : World), k ≤ s.hh.2.1 ∧ i = .int .i64 k ∧ X = wr ∧ Hid (X.heap[w.heap.size]? = some (.cells s.cells.toArray 29 (0, 0)) ∧ Below w.heap.size w X) ∧ Hid (∀ j, j < k → (rHo s.rh.2.1) (s.hosts.getD j default) = true)) (fun i _ => s.hh.2.1 - (intOf i).toNat)
        case atStart => exact ⟨0, _, Nat.zero_le _, rfl, rfl, HC, Lib.hid (fun j hj => absurd hj (Nat.not_lt_zero _))⟩
        case round =>
          obtain ⟨k, X, hk, rfl, rfl, HR, HIA⟩ := hrel
          by_cases hlt : k < s.hh.2.1
          · have hltI : (k : Int) < (s.hh.2.1 : Int) := by omega
            have hki : k < s.hosts.length := by rw [HN0.out]; exact hlt
            obtain ⟨b1, o1, q1, hb1, p0, p1, p2, p3⟩ := hos_at (HI.out.later HR.out.2).hosts.rows k hki
            have d3 : X.cell? ⟨w.heap.size, 3, none⟩ = some (.slice s.rh.1 s.rh.2.1 s.rh.2.2) := (blk_cell HR.out.1 3).trans rfl
            have d6 : X.cell? ⟨w.heap.size, 6, none⟩ = some (.slice s.hh.1 s.hh.2.1 s.hh.2.2) := (blk_cell HR.out.1 6).trans rfl
            have dl := blk_lt HR.out.1
            rw [q1] at d6
            have HU := Lib.hid (fun h => upto (f := (rHo s.rh.2.1)) HIA.out (k := k) h)
            have HV := Lib.hid (fun h => all_no (f := (rHo s.rh.2.1)) hki h)
            generalize s.hosts.getD k default = y at p0 p1 p2 p3 HU HV
            clear q1 hb1 hki
            go_wp2_with fail
            refine (within_ok _ _ _ _).mono ?_
            rintro e W ⟨rfl, rfl⟩
            cases t0 : inR y.rack 0 ((s.rh.2.1 : Int) - 1)
            · have HF := Lib.hid (show siteR s = false from by have hv := HV.out (by unfold rHo; rw [t0]; (try rfl)); unfold siteR; rw [q0, q1, q2, hv]; (try rfl))
              go_wp2_with fail
              go_ret
              exact ⟨by rw [HF.out]; rfl, below_alloc HR.out.2 _⟩
            · go_wp2_with fail
              refine (within_ok _ _ _ _).mono ?_
              rintro e W ⟨rfl, rfl⟩
              cases t1 : inR y.cores 1 1000
              · have HF := Lib.hid (show siteR s = false from by have hv := HV.out (by unfold rHo; rw [t0, t1]; (try rfl)); unfold siteR; rw [q0, q1, q2, hv]; (try rfl))
                go_wp2_with fail
                go_ret
                exact ⟨by rw [HF.out]; rfl, below_alloc HR.out.2 _⟩
              · go_wp2_with fail
                refine (within_ok _ _ _ _).mono ?_
                rintro e W ⟨rfl, rfl⟩
                cases t2 : inR y.idle 0 10000
                · have HF := Lib.hid (show siteR s = false from by have hv := HV.out (by unfold rHo; rw [t0, t1, t2]; (try rfl)); unfold siteR; rw [q0, q1, q2, hv]; (try rfl))
                  go_wp2_with fail
                  go_ret
                  exact ⟨by rw [HF.out]; rfl, below_alloc HR.out.2 _⟩
                · go_wp2_with fail
                  refine (within_ok _ _ _ _).mono ?_
                  rintro e W ⟨rfl, rfl⟩
                  cases t3 : inR y.per 0 1000
                  · have HF := Lib.hid (show siteR s = false from by have hv := HV.out (by unfold rHo; rw [t0, t1, t2, t3]; (try rfl)); unfold siteR; rw [q0, q1, q2, hv]; (try rfl))
                    go_wp2_with fail
                    go_ret
                    exact ⟨by rw [HF.out]; rfl, below_alloc HR.out.2 _⟩
                  · have HT := Lib.hid (HU.out (by unfold rHo; rw [t0, t1, t2, t3]; (try rfl)))
                    go_wp2_with fail
                    go_roundw
                    case rel => exact ⟨k + 1, _, by omega, by go_num, rfl, Lib.hid ⟨blk_alloc HR.out.1 _, below_alloc HR.out.2 _⟩, HT⟩
                    case measure => simp [intOf]; omega
          · have hltI : ¬ (k : Int) < (s.hh.2.1 : Int) := by omega
            have haA := all_yes (f := (rHo s.rh.2.1)) (l := s.hosts) (fun j hj => HIA.out j (by rw [HN0.out] at hj; omega))
            have d6 : X.cell? ⟨w.heap.size, 6, none⟩ = some (.slice s.hh.1 s.hh.2.1 s.hh.2.2) := (blk_cell HR.out.1 6).trans rfl
            have dl := blk_lt HR.out.1
            have HF := Lib.hid (show siteR s = true from by unfold siteR; rw [q0, q1, q2, haA]; rfl)
            go_wp2_with fail
            go_ret
            exact ⟨by rw [HF.out]; rfl, HR.out.2⟩
end Go.Proofs.YthlefdbhkbpejaaGreat

namespace Go.Proofs.YthlefdbhkbpejaaGreat
open Go Go.RowKit
set_option linter.unusedSimpArgs false

theorem idx_inR (n m : Int) : inR n 0 (m - 1) = idx n m := by
  unfold inR idx
  exact decide_eq_decide.2 (by omega)
theorem rBk_eq (n : Nat) : rBk n = okBk n := by
  funext b
  unfold rBk okBk num
  rw [idx_inR]
  simp only [Bool.and_assoc]
theorem rRk_eq (nb nl : Nat) (sw : Int) : rRk nb nl sw = okRk nb nl sw := by
  funext r
  unfold rRk okRk
  rw [idx_inR, idx_inR, idx_inR, show inR r.row 0 3 = idx r.row 4 from idx_inR r.row 4]
theorem rLk_eq (sw : Int) : rLk sw = okLk sw := by
  funext l
  unfold rLk okLk
  rw [idx_inR, idx_inR]
theorem rHo_eq (nr : Nat) : rHo nr = okHo nr := by
  funext h
  unfold rHo okHo
  rw [idx_inR]
theorem siteR_eq {s : Site} {w : World} (hs : s.At w) : siteR s = siteOk s := by
  unfold siteR powerOk roomsOk siteOk sizesOk
  rw [hs.feeds.len, hs.brks.len, hs.loops.len, hs.racks.len, hs.links.len, hs.hosts.len, rBk_eq, rRk_eq, rLk_eq, rHo_eq, show rFd = okFd from rfl, show rLp = okLp from rfl]
  ac_rfl
theorem site_ref (s : Site) (w : World) (hs : s.At w) : Calls Tryz.prog 39 #[s.val] w fun e W' => e = .returned (.bool (siteOk s)) ∧ Below w.heap.size w W' := by
  rw [← siteR_eq hs]
  exact sitev_ref s w hs

end Go.Proofs.YthlefdbhkbpejaaGreat
