/- Chapter 05: nets in memory; flow.Valid, flow.asked (written by wip/gen05net.py). -/
import Derived.Test.YthlefdbhkbpejaaGreatInts
import Derived.Test.YthlefdbhkbpejaaGreatFMst
import Derived.Shelf.Abstract
import Derived.Shelf.RegionOpen
import Derived.RangeFuncBox
import Derived.OwnWalkIn
import Derived.TacticsInMore
import Derived.LoopNIn
import Derived.RangeFuncLeaves
import Derived.Maps.OwnIn
import Derived.Laws.EntriesVeiled
import Derived.Laws.OwnMore
import Derived.WalkMore
namespace Go.Proofs.YthlefdbhkbpejaaGreat.F5
open Go Go.RowKit

def inR (n lo hi : Int) : Bool := decide (lo ≤ n ∧ n ≤ hi)
theorem inR_iff {n lo hi : Int} : inR n lo hi = true ↔ lo ≤ n ∧ n ≤ hi := by simp [inR]
theorem inR_not {n lo hi : Int} : inR n lo hi = false ↔ ¬ (lo ≤ n ∧ n ≤ hi) := by simp [inR]
end Go.Proofs.YthlefdbhkbpejaaGreat.F5

namespace Go.Proofs.YthlefdbhkbpejaaGreat.F5
open Go Go.RowKit
set_option linter.unusedSimpArgs false

abbrev Ar.cells (x : Ar) : List Value := [.int .i64 x.u, .int .i64 x.v, .int .i64 x.c]
abbrev Ar.val (x : Ar) : Value := .agg x.cells.toArray
abbrev Ars (xs : List Ar) : List (List Value) := xs.map Ar.cells
theorem ars_at {n : Nat} {w : World} {a : Option Addr} {xs : List Ar} (h : RowsAt n w a 3 (Ars xs)) (k : Nat) (hk : k < xs.length) :
    ∃ b off, a = some ⟨b, off, none⟩ ∧ b < n ∧ w.cell? ⟨b, off + k * 3, none⟩ = some (.int .i64 (xs.getD k default).u) ∧ w.cell? ⟨b, off + k * 3 + 1, none⟩ = some (.int .i64 (xs.getD k default).v) ∧ w.cell? ⟨b, off + k * 3 + 2, none⟩ = some (.int .i64 (xs.getD k default).c) := by
  obtain ⟨b, off, ha, hb, hc⟩ := h k (xs.getD k default).cells (by simp [hk])
  exact ⟨b, off, ha, hb, hc 0 _ rfl, hc 1 _ rfl, hc 2 _ rfl⟩


set_option maxHeartbeats 1000000 in
theorem indexAr_ok (gf : Nat) (lb : Array Value) (p : Ar → Bool) (a : Option Addr) (n cap : Nat) (xs : List Ar) (w : World) (hn : xs.length = n) (hl : n ≤ 9223372036854775807) (hm : RowsAt w.heap.size w a 3 (Ars xs))
    (hp : ∀ W x, Below w.heap.size w W → Calls Tryz.prog gf (#[x.val] ++ lb) W fun e W' => e = .returned (.bool (p x)) ∧ Below W.heap.size W W')
    (eg : ∀ args w, (callFunc gf args).run Tryz.prog w = .ok (.enter gf args) w) :
    Calls Tryz.prog 118 #[.slice a n cap, .func (.func gf) #[] lb] w fun e W' => e = .returned (.int .i64 (idxI p xs)) ∧ Below w.heap.size w W' := by
  have Hn := Lib.hid hn; clear hn
  have Hm := Lib.hid hm; clear hm
  have Hp := Lib.hid hp; clear hp
  have Eg := Lib.hid eg; clear eg
  go_enter Tryz.func118, Tryz.ntmps118
  go_wp2_with fail
  go_loopw [8] (fun i wr => ∃ k : Nat, k ≤ n ∧ i = .int .i64 k ∧ Below w.heap.size w wr ∧ Hid (∀ j, j < k → p (xs.getD j default) = false)) (fun i _ => n - (intOf i).toNat)
  case atStart => exact ⟨0, Nat.zero_le _, rfl, below_self w, fun j hj => by omega⟩
  case round =>
    obtain ⟨k, hk, rfl, hb, Hno⟩ := hrel
    have HB := Lib.hid hb; clear hb
    by_cases hlt : k < n
    · obtain ⟨b, off, rfl, hb, hc0, hc1, hc2⟩ := ars_at (Hm.out.below HB.out) k (by rw [Hn.out]; exact hlt)
      have eg := Eg.out
      go_wp2_with fail
      refine (Hp.out _ (xs.getD k default) HB.out).mono ?_
      rintro e W2 ⟨rfl, hb2⟩
      have HB2 := Lib.hid (below_trans HB.out hb2)
      clear hb2 hc0 hc1 hc2 eg HB
      cases hpx : p (xs.getD k default)
      · have HN := Lib.hid (no_succ Hno.out hpx)
        clear hpx
        go_wp2_with fail
        go_roundw
        case rel => exact ⟨k + 1, by omega, by go_num, HB2.out, HN⟩
        case measure => simp [intOf]; omega
      · have HI := Lib.hid (idxI_found (by rw [Hn.out]; exact hlt) hpx Hno.out)
        clear hpx
        go_wp2_with fail
        go_ret
        exact ⟨by rw [HI.out]; rfl, HB2.out⟩
    · have HI := Lib.hid (idxI_none (p := p) (l := xs) (fun j hj => Hno.out j (by rw [Hn.out] at hj; omega)))
      go_wp2_with fail
      go_ret
      exact ⟨by rw [HI.out]; rfl, HB.out⟩

theorem containsAr_ok (gf : Nat) (lb : Array Value) (p : Ar → Bool) (a : Option Addr) (n cap : Nat) (xs : List Ar) (w : World) (hn : xs.length = n) (hl : n ≤ 9223372036854775807) (hm : RowsAt w.heap.size w a 3 (Ars xs))
    (hp : ∀ W x, Below w.heap.size w W → Calls Tryz.prog gf (#[x.val] ++ lb) W fun e W' => e = .returned (.bool (p x)) ∧ Below W.heap.size W W')
    (eg : ∀ args w, (callFunc gf args).run Tryz.prog w = .ok (.enter gf args) w) :
    Calls Tryz.prog 113 #[.slice a n cap, .func (.func gf) #[] lb] w fun e W' => e = .returned (.bool (xs.any p)) ∧ Below w.heap.size w W' := by
  have Hn := Lib.hid hn; clear hn
  have Hm := Lib.hid hm; clear hm
  have Hp := Lib.hid hp; clear hp
  have Eg := Lib.hid eg; clear eg
  rw [← idxI_any]
  go_enter Tryz.func113, Tryz.ntmps113
  go_wp2_with fail
  refine (indexAr_ok gf lb p a n cap xs w Hn.out hl Hm.out Hp.out Eg.out).mono ?_
  rintro e W2 ⟨rfl, hb2⟩
  have HB := Lib.hid hb2; clear hb2
  go_wp2_with fail
  go_ret
  exact ⟨rfl, HB.out⟩


/-- A net is valid. -/
def okA (N : Int) (a : Ar) : Bool := inR a.u 0 (N - 1) && (inR a.v 0 (N - 1) && (decide (a.u ≠ a.v) && inR a.c 0 100000000))
def netOk (N : Int) (l : List Ar) : Bool := decide (2 ≤ N) && (decide (N ≤ 64) && (decide (l.length ≤ 128) && l.all (okA N)))
theorem okA_iff {N : Int} {a : Ar} : okA N a = true ↔ (0 ≤ a.u ∧ a.u < N) ∧ (0 ≤ a.v ∧ a.v < N) ∧ a.u ≠ a.v ∧ 0 ≤ a.c ∧ a.c ≤ 100000000 := by
  unfold okA
  simp only [Bool.and_eq_true, inR_iff, decide_eq_true_eq]
  omega
theorem netOk_iff {N : Int} {l : List Ar} : netOk N l = true ↔ 2 ≤ N ∧ N ≤ 64 ∧ l.length ≤ 128 ∧ ∀ a ∈ l, okA N a = true := by
  unfold netOk
  simp only [Bool.and_eq_true, decide_eq_true_eq, List.all_eq_true]
/-- The error of what is asked of a net and two nodes. -/
def askF (N : Int) (l : List Ar) (s t : Int) : Int := if netOk N l = true then (if inR s 0 (N - 1) = true ∧ inR t 0 (N - 1) = true ∧ s ≠ t then 0 else 2) else 1
theorem askF_zero {N : Int} {l : List Ar} {s t : Int} (h : askF N l s t = 0) : netOk N l = true ∧ (0 ≤ s ∧ s < N) ∧ (0 ≤ t ∧ t < N) ∧ s ≠ t := by
  unfold askF at h
  split at h
  · rename_i h1
    split at h
    · rename_i h2
      have h3 := inR_iff.1 h2.1
      have h4 := inR_iff.1 h2.2.1
      exact ⟨h1, by omega, by omega, h2.2.2⟩
    · omega
  · omega

theorem is_ok (v N : Int) (h : Value) (b : Nat) (w : World) (hb : w.heap[b]? = some (.cells #[.int .i64 N, h] 44 (0, 0))) : Calls Tryz.prog 112 #[.int .i64 v, .pointer (some ⟨b, 0, none⟩)] w fun e W' => e = .returned (.bool (inR v 0 (N - 1))) ∧ w = W' := by
  have hc : w.cell? ⟨b, 0, none⟩ = some (.int .i64 N) := (blk_cell hb 0).trans rfl
  have hl := blk_lt hb
  by_cases h1 : 0 ≤ v
  · by_cases h2 : v < N
    · rw [inR_iff.2 ⟨h1, by omega⟩]
      go_enter Tryz.func112, Tryz.ntmps112
      go_wp2_with fail
      go_ret
      exact ⟨rfl, rfl⟩
    · rw [inR_not.2 (fun h => h2 (by omega))]
      go_enter Tryz.func112, Tryz.ntmps112
      go_wp2_with fail
      go_ret
      exact ⟨rfl, rfl⟩
  · rw [inR_not.2 (fun h => h1 h.1)]
    go_enter Tryz.func112, Tryz.ntmps112
    go_wp2_with fail
    go_ret
    exact ⟨rfl, rfl⟩


set_option maxHeartbeats 4000000 in
theorem bad_ok (a : Ar) (N : Int) (h : Value) (b q : Nat) (w : World) (hb : w.heap[b]? = some (.cells #[.int .i64 N, h] 44 (0, 0))) (hq : w.heap[q]? = some (.cells #[.func (.func 112) #[] #[.pointer (some ⟨b, 0, none⟩)]] 51 (0, 0))) :
    Calls Tryz.prog 114 #[a.val, .pointer (some ⟨q, 0, none⟩)] w fun e W' => e = .returned (.bool (!okA N a)) ∧ Below w.heap.size w W' := by
  have HB := Lib.hid hb
  have HQ := Lib.hid hq
  have hqc : w.cell? ⟨q, 0, none⟩ = some (.func (.func 112) #[] #[.pointer (some ⟨b, 0, none⟩)]) := (blk_cell hq 0).trans rfl
  have hql := blk_lt hq
  obtain ⟨au, av, ac⟩ := a
  clear hb hq
  cases h1 : inR au 0 (N - 1)
  · have e : okA N ⟨au, av, ac⟩ = false := by unfold okA; simp [h1]
    rw [e]
    have H1 := Lib.hid h1
    clear h1 e
    go_enter Tryz.func114, Tryz.ntmps114
    go_wp2_with fail
    refine (is_ok au N h b _ (blk_alloc HB.out _)).mono ?_
    rintro e W' ⟨rfl, rfl⟩
    rw [H1.out]
    go_wp2_with fail
    go_ret
    exact ⟨rfl, below_alloc (below_self w) _⟩
  · cases h2 : inR av 0 (N - 1)
    · have e : okA N ⟨au, av, ac⟩ = false := by unfold okA; simp [h2]
      rw [e]
      have H1 := Lib.hid h1
      have H2 := Lib.hid h2
      clear h1 h2 e
      go_enter Tryz.func114, Tryz.ntmps114
      go_wp2_with fail
      refine (is_ok au N h b _ (blk_alloc HB.out _)).mono ?_
      rintro e W' ⟨rfl, rfl⟩
      rw [H1.out]
      go_wp2_with fail
      refine (is_ok av N h b _ (blk_alloc HB.out _)).mono ?_
      rintro e W' ⟨rfl, rfl⟩
      rw [H2.out]
      go_wp2_with fail
      go_ret
      exact ⟨rfl, below_alloc (below_self w) _⟩
    · have H1 := Lib.hid h1
      have H2 := Lib.hid h2
      have HE := Lib.hid (show okA N ⟨au, av, ac⟩ = (decide (au ≠ av) && inR ac 0 100000000) by unfold okA; simp [h1, h2])
      rw [HE.out]
      clear h1 h2
      by_cases h3 : au = av
      · subst h3
        rw [decide_eq_false (fun h => h rfl)]
        go_enter Tryz.func114, Tryz.ntmps114
        go_wp2_with fail
        refine (is_ok au N h b _ (blk_alloc HB.out _)).mono ?_
        rintro e W' ⟨rfl, rfl⟩
        rw [H1.out]
        go_wp2_with fail
        refine (is_ok au N h b _ (blk_alloc HB.out _)).mono ?_
        rintro e W' ⟨rfl, rfl⟩
        rw [H1.out]
        go_wp2_with fail
        go_ret
        exact ⟨rfl, below_alloc (below_self w) _⟩
      · rw [decide_eq_true (show au ≠ av from h3), Bool.true_and]
        have h3b : (au == av) = false := beq_eq_false_iff_ne.2 h3
        by_cases h4 : 0 ≤ ac
        · by_cases h5 : ac ≤ 100000000
          · rw [inR_iff.2 ⟨h4, h5⟩]
            have h6 : decide (ac < 0) = false := decide_eq_false (by omega)
            have h7 : decide (100000000 < ac) = false := decide_eq_false (by omega)
            go_enter Tryz.func114, Tryz.ntmps114
            go_wp2_with fail
            refine (is_ok au N h b _ (blk_alloc HB.out _)).mono ?_
            rintro e W' ⟨rfl, rfl⟩
            rw [H1.out]
            go_wp2_with fail
            refine (is_ok av N h b _ (blk_alloc HB.out _)).mono ?_
            rintro e W' ⟨rfl, rfl⟩
            rw [H2.out]
            go_wp2_with fail
            go_ret
            exact ⟨rfl, below_alloc (below_self w) _⟩
          · rw [inR_not.2 (fun h => h5 h.2)]
            go_enter Tryz.func114, Tryz.ntmps114
            go_wp2_with fail
            refine (is_ok au N h b _ (blk_alloc HB.out _)).mono ?_
            rintro e W' ⟨rfl, rfl⟩
            rw [H1.out]
            go_wp2_with fail
            refine (is_ok av N h b _ (blk_alloc HB.out _)).mono ?_
            rintro e W' ⟨rfl, rfl⟩
            rw [H2.out]
            go_wp2_with fail
            go_ret
            exact ⟨rfl, below_alloc (below_self w) _⟩
        · rw [inR_not.2 (fun h => h4 h.1)]
          go_enter Tryz.func114, Tryz.ntmps114
          go_wp2_with fail
          refine (is_ok au N h b _ (blk_alloc HB.out _)).mono ?_
          rintro e W' ⟨rfl, rfl⟩
          rw [H1.out]
          go_wp2_with fail
          refine (is_ok av N h b _ (blk_alloc HB.out _)).mono ?_
          rintro e W' ⟨rfl, rfl⟩
          rw [H2.out]
          go_wp2_with fail
          go_ret
          exact ⟨rfl, below_alloc (below_self w) _⟩


set_option maxHeartbeats 1000000 in
theorem valid_ok (N : Int) (a : Option Addr) (k c : Nat) (l : List Ar) (w : World) (hn : l.length = k) (hl : k ≤ 9223372036854775807) (hm : RowsAt w.heap.size w a 3 (Ars l)) :
    Calls Tryz.prog 91 #[.agg #[.int .i64 N, .slice a k c]] w fun e W' => e = .returned (.bool (netOk N l)) ∧ Below w.heap.size w W' := by
  have Hn := Lib.hid hn; clear hn
  have Hm := Lib.hid hm; clear hm
  by_cases h1 : 2 ≤ N
  · by_cases h2 : N ≤ 64
    · by_cases h3 : k ≤ 128
      · have h3I : (k : Int) ≤ 128 := by omega
        have HE := Lib.hid (show netOk N l = l.all (okA N) by unfold netOk; rw [decide_eq_true h1, decide_eq_true h2, decide_eq_true (show l.length ≤ 128 by rw [Hn.out]; exact h3)]; simp)
        go_enter Tryz.func91, Tryz.ntmps91
        go_wp2_with fail
        obtain ⟨A, hA⟩ : ∃ W' : World, ((w.alloc (.cells #[.int .i64 N, .slice a k c] 44)).alloc (.cells #[.func (.func 112) #[] #[.pointer (some ⟨w.heap.size, 0, none⟩)]] 51)) = W' := ⟨_, rfl⟩
        have h : Has A [(w.heap.size + 1, .cells #[.func (.func 112) #[] #[.pointer (some ⟨w.heap.size, 0, none⟩)]] 51 (0, 0)), (w.heap.size, .cells #[.int .i64 N, .slice a k c] 44 (0, 0))] := by rw [← hA]; simpa using (((Has.nil w).new _).new _)
        have z : A.heap.size = w.heap.size + 1 + 1 := by rw [← hA]; simp
        have b : Below w.heap.size w A := by rw [← hA]; exact (below_alloc (below_alloc (below_self w) _) _)
        rw [hA]
        clear hA
        have HA := Lib.hid (And.intro h.tl.hd (And.intro h.hd b))
        clear h z b
        refine (containsAr_ok 114 #[.pointer (some ⟨w.heap.size + 1, 0, none⟩)] (fun x => !okA N x) a k c l A Hn.out hl (Hm.out.later HA.out.2.2)
          (fun W x hb => bad_ok x N _ w.heap.size (w.heap.size + 1) W (blk_below HA.out.1 hb) (blk_below HA.out.2.1 hb)) (enters_of Tryz.func114 (by kernel_rfl) rfl)).mono ?_
        rintro e B ⟨rfl, hb⟩
        have HB := Lib.hid (below_trans HA.out.2.2 hb)
        clear hb
        go_wp2_with fail
        go_ret
        refine ⟨ret_bool ?_, HB.out⟩
        rw [HE.out, List.any_eq_not_all_not]
        simp
      · have h3I : ¬ (k : Int) ≤ 128 := by omega
        have HE := Lib.hid (show netOk N l = false by unfold netOk; rw [decide_eq_false (show ¬ l.length ≤ 128 by rw [Hn.out]; exact h3)]; simp)
        rw [HE.out]
        go_enter Tryz.func91, Tryz.ntmps91
        go_wp2_with fail
        go_ret
        exact ⟨rfl, below_alloc (below_self w) _⟩
    · have HE := Lib.hid (show netOk N l = false by unfold netOk; rw [decide_eq_false h2]; simp)
      rw [HE.out]
      go_enter Tryz.func91, Tryz.ntmps91
      go_wp2_with fail
      go_ret
      exact ⟨rfl, below_alloc (below_self w) _⟩
  · have HE := Lib.hid (show netOk N l = false by unfold netOk; rw [decide_eq_false h1]; simp)
    rw [HE.out]
    go_enter Tryz.func91, Tryz.ntmps91
    go_wp2_with fail
    go_ret
    exact ⟨rfl, below_alloc (below_self w) _⟩

set_option maxHeartbeats 1000000 in
theorem asked_ok (N : Int) (a : Option Addr) (k c : Nat) (l : List Ar) (s t : Int) (w : World) (hn : l.length = k) (hl : k ≤ 9223372036854775807) (hm : RowsAt w.heap.size w a 3 (Ars l)) :
    Calls Tryz.prog 50 #[.agg #[.int .i64 N, .slice a k c], .int .i64 s, .int .i64 t] w fun e W' => e = .returned (.int .i64 (askF N l s t)) ∧ Below w.heap.size w W' := by
  have Hn := Lib.hid hn; clear hn
  have Hm := Lib.hid hm; clear hm
  cases hv : netOk N l
  · have HE := Lib.hid (show askF N l s t = 1 by unfold askF; rw [hv]; rfl)
    rw [HE.out]
    have HV := Lib.hid hv
    clear hv
    go_enter Tryz.func50, Tryz.ntmps50
    go_wp2_with fail
    obtain ⟨A, hA⟩ : ∃ W' : World, (w.alloc (.cells #[.int .i64 N, .slice a k c] 44)) = W' := ⟨_, rfl⟩
    have h : Has A [(w.heap.size, .cells #[.int .i64 N, .slice a k c] 44 (0, 0))] := by rw [← hA]; simpa using ((Has.nil w).new _)
    have z : A.heap.size = w.heap.size + 1 := by rw [← hA]; simp
    have b : Below w.heap.size w A := by rw [← hA]; exact (below_alloc (below_self w) _)
    rw [hA]
    clear hA
    have HA := Lib.hid (And.intro h.hd b)
    clear h z b
    refine (valid_ok N a k c l A Hn.out hl (Hm.out.later HA.out.2)).mono ?_
    rintro e B ⟨rfl, hb⟩
    have HB := Lib.hid (below_trans HA.out.2 hb)
    clear hb
    rw [HV.out]
    go_wp2_with fail
    go_ret
    exact ⟨rfl, HB.out⟩
  · have HV := Lib.hid hv
    have hA : askF N l s t = (if inR s 0 (N - 1) = true ∧ inR t 0 (N - 1) = true ∧ s ≠ t then 0 else 2) := by unfold askF; rw [hv]; rfl
    clear hv
    by_cases hts : t < s
    · have hst : ¬ s < t := by omega
      by_cases h1 : t < 0
      · have HE := Lib.hid (show askF N l s t = 2 by rw [hA, if_neg]; intro h; have h2 := inR_iff.1 h.1; have h3 := inR_iff.1 h.2.1; omega)
        rw [HE.out]
        clear hA
        go_enter Tryz.func50, Tryz.ntmps50
        go_wp2_with fail
        obtain ⟨A, hA⟩ : ∃ W' : World, (w.alloc (.cells #[.int .i64 N, .slice a k c] 44)) = W' := ⟨_, rfl⟩
        have h : Has A [(w.heap.size, .cells #[.int .i64 N, .slice a k c] 44 (0, 0))] := by rw [← hA]; simpa using ((Has.nil w).new _)
        have z : A.heap.size = w.heap.size + 1 := by rw [← hA]; simp
        have b : Below w.heap.size w A := by rw [← hA]; exact (below_alloc (below_self w) _)
        rw [hA]
        clear hA
        have HA := Lib.hid (And.intro h.hd b)
        clear h z b
        refine (valid_ok N a k c l A Hn.out hl (Hm.out.later HA.out.2)).mono ?_
        rintro e B ⟨rfl, hb⟩
        have HB := Lib.hid (And.intro (blk_below HA.out.1 hb) (below_trans HA.out.2 hb))
        clear hb HA
        rw [HV.out]
        have hc : B.cell? ⟨w.heap.size, 0, none⟩ = some (.int .i64 N) := (blk_cell HB.out.1 0).trans rfl
        have hl2 := blk_lt HB.out.1
        go_wp2_with fail
        go_ret
        exact ⟨rfl, HB.out.2⟩
      · by_cases h2 : N ≤ s
        · have HE := Lib.hid (show askF N l s t = 2 by rw [hA, if_neg]; intro h; have h3 := inR_iff.1 h.1; have h4 := inR_iff.1 h.2.1; omega)
          rw [HE.out]
          clear hA
          go_enter Tryz.func50, Tryz.ntmps50
          go_wp2_with fail
          obtain ⟨A, hA⟩ : ∃ W' : World, (w.alloc (.cells #[.int .i64 N, .slice a k c] 44)) = W' := ⟨_, rfl⟩
          have h : Has A [(w.heap.size, .cells #[.int .i64 N, .slice a k c] 44 (0, 0))] := by rw [← hA]; simpa using ((Has.nil w).new _)
          have z : A.heap.size = w.heap.size + 1 := by rw [← hA]; simp
          have b : Below w.heap.size w A := by rw [← hA]; exact (below_alloc (below_self w) _)
          rw [hA]
          clear hA
          have HA := Lib.hid (And.intro h.hd b)
          clear h z b
          refine (valid_ok N a k c l A Hn.out hl (Hm.out.later HA.out.2)).mono ?_
          rintro e B ⟨rfl, hb⟩
          have HB := Lib.hid (And.intro (blk_below HA.out.1 hb) (below_trans HA.out.2 hb))
          clear hb HA
          rw [HV.out]
          have hc : B.cell? ⟨w.heap.size, 0, none⟩ = some (.int .i64 N) := (blk_cell HB.out.1 0).trans rfl
          have hl2 := blk_lt HB.out.1
          go_wp2_with fail
          go_ret
          exact ⟨rfl, HB.out.2⟩
        · have HE := Lib.hid (show askF N l s t = 0 by rw [hA, if_pos]; exact ⟨inR_iff.2 (by omega), inR_iff.2 (by omega), by omega⟩)
          have h3b : (s == t) = false := beq_eq_false_iff_ne.2 (by omega)
          rw [HE.out]
          clear hA
          go_enter Tryz.func50, Tryz.ntmps50
          go_wp2_with fail
          obtain ⟨A, hA⟩ : ∃ W' : World, (w.alloc (.cells #[.int .i64 N, .slice a k c] 44)) = W' := ⟨_, rfl⟩
          have h : Has A [(w.heap.size, .cells #[.int .i64 N, .slice a k c] 44 (0, 0))] := by rw [← hA]; simpa using ((Has.nil w).new _)
          have z : A.heap.size = w.heap.size + 1 := by rw [← hA]; simp
          have b : Below w.heap.size w A := by rw [← hA]; exact (below_alloc (below_self w) _)
          rw [hA]
          clear hA
          have HA := Lib.hid (And.intro h.hd b)
          clear h z b
          refine (valid_ok N a k c l A Hn.out hl (Hm.out.later HA.out.2)).mono ?_
          rintro e B ⟨rfl, hb⟩
          have HB := Lib.hid (And.intro (blk_below HA.out.1 hb) (below_trans HA.out.2 hb))
          clear hb HA
          rw [HV.out]
          have hc : B.cell? ⟨w.heap.size, 0, none⟩ = some (.int .i64 N) := (blk_cell HB.out.1 0).trans rfl
          have hl2 := blk_lt HB.out.1
          go_wp2_with fail
          go_ret
          exact ⟨rfl, HB.out.2⟩
    · by_cases hst : s < t
      · skip
        by_cases h1 : s < 0
        · have HE := Lib.hid (show askF N l s t = 2 by rw [hA, if_neg]; intro h; have h2 := inR_iff.1 h.1; have h3 := inR_iff.1 h.2.1; omega)
          rw [HE.out]
          clear hA
          go_enter Tryz.func50, Tryz.ntmps50
          go_wp2_with fail
          obtain ⟨A, hA⟩ : ∃ W' : World, (w.alloc (.cells #[.int .i64 N, .slice a k c] 44)) = W' := ⟨_, rfl⟩
          have h : Has A [(w.heap.size, .cells #[.int .i64 N, .slice a k c] 44 (0, 0))] := by rw [← hA]; simpa using ((Has.nil w).new _)
          have z : A.heap.size = w.heap.size + 1 := by rw [← hA]; simp
          have b : Below w.heap.size w A := by rw [← hA]; exact (below_alloc (below_self w) _)
          rw [hA]
          clear hA
          have HA := Lib.hid (And.intro h.hd b)
          clear h z b
          refine (valid_ok N a k c l A Hn.out hl (Hm.out.later HA.out.2)).mono ?_
          rintro e B ⟨rfl, hb⟩
          have HB := Lib.hid (And.intro (blk_below HA.out.1 hb) (below_trans HA.out.2 hb))
          clear hb HA
          rw [HV.out]
          have hc : B.cell? ⟨w.heap.size, 0, none⟩ = some (.int .i64 N) := (blk_cell HB.out.1 0).trans rfl
          have hl2 := blk_lt HB.out.1
          go_wp2_with fail
          go_ret
          exact ⟨rfl, HB.out.2⟩
        · by_cases h2 : N ≤ t
          · have HE := Lib.hid (show askF N l s t = 2 by rw [hA, if_neg]; intro h; have h3 := inR_iff.1 h.1; have h4 := inR_iff.1 h.2.1; omega)
            rw [HE.out]
            clear hA
            go_enter Tryz.func50, Tryz.ntmps50
            go_wp2_with fail
            obtain ⟨A, hA⟩ : ∃ W' : World, (w.alloc (.cells #[.int .i64 N, .slice a k c] 44)) = W' := ⟨_, rfl⟩
            have h : Has A [(w.heap.size, .cells #[.int .i64 N, .slice a k c] 44 (0, 0))] := by rw [← hA]; simpa using ((Has.nil w).new _)
            have z : A.heap.size = w.heap.size + 1 := by rw [← hA]; simp
            have b : Below w.heap.size w A := by rw [← hA]; exact (below_alloc (below_self w) _)
            rw [hA]
            clear hA
            have HA := Lib.hid (And.intro h.hd b)
            clear h z b
            refine (valid_ok N a k c l A Hn.out hl (Hm.out.later HA.out.2)).mono ?_
            rintro e B ⟨rfl, hb⟩
            have HB := Lib.hid (And.intro (blk_below HA.out.1 hb) (below_trans HA.out.2 hb))
            clear hb HA
            rw [HV.out]
            have hc : B.cell? ⟨w.heap.size, 0, none⟩ = some (.int .i64 N) := (blk_cell HB.out.1 0).trans rfl
            have hl2 := blk_lt HB.out.1
            go_wp2_with fail
            go_ret
            exact ⟨rfl, HB.out.2⟩
          · have HE := Lib.hid (show askF N l s t = 0 by rw [hA, if_pos]; exact ⟨inR_iff.2 (by omega), inR_iff.2 (by omega), by omega⟩)
            have h3b : (s == t) = false := beq_eq_false_iff_ne.2 (by omega)
            rw [HE.out]
            clear hA
            go_enter Tryz.func50, Tryz.ntmps50
            go_wp2_with fail
            obtain ⟨A, hA⟩ : ∃ W' : World, (w.alloc (.cells #[.int .i64 N, .slice a k c] 44)) = W' := ⟨_, rfl⟩
            have h : Has A [(w.heap.size, .cells #[.int .i64 N, .slice a k c] 44 (0, 0))] := by rw [← hA]; simpa using ((Has.nil w).new _)
            have z : A.heap.size = w.heap.size + 1 := by rw [← hA]; simp
            have b : Below w.heap.size w A := by rw [← hA]; exact (below_alloc (below_self w) _)
            rw [hA]
            clear hA
            have HA := Lib.hid (And.intro h.hd b)
            clear h z b
            refine (valid_ok N a k c l A Hn.out hl (Hm.out.later HA.out.2)).mono ?_
            rintro e B ⟨rfl, hb⟩
            have HB := Lib.hid (And.intro (blk_below HA.out.1 hb) (below_trans HA.out.2 hb))
            clear hb HA
            rw [HV.out]
            have hc : B.cell? ⟨w.heap.size, 0, none⟩ = some (.int .i64 N) := (blk_cell HB.out.1 0).trans rfl
            have hl2 := blk_lt HB.out.1
            go_wp2_with fail
            go_ret
            exact ⟨rfl, HB.out.2⟩
      · obtain rfl : s = t := by omega
        have HE := Lib.hid (show askF N l s s = 2 by rw [hA, if_neg]; exact fun h => h.2.2 rfl)
        rw [HE.out]
        clear hA
        by_cases h1 : s < 0
        · skip
          go_enter Tryz.func50, Tryz.ntmps50
          go_wp2_with fail
          obtain ⟨A, hA⟩ : ∃ W' : World, (w.alloc (.cells #[.int .i64 N, .slice a k c] 44)) = W' := ⟨_, rfl⟩
          have h : Has A [(w.heap.size, .cells #[.int .i64 N, .slice a k c] 44 (0, 0))] := by rw [← hA]; simpa using ((Has.nil w).new _)
          have z : A.heap.size = w.heap.size + 1 := by rw [← hA]; simp
          have b : Below w.heap.size w A := by rw [← hA]; exact (below_alloc (below_self w) _)
          rw [hA]
          clear hA
          have HA := Lib.hid (And.intro h.hd b)
          clear h z b
          refine (valid_ok N a k c l A Hn.out hl (Hm.out.later HA.out.2)).mono ?_
          rintro e B ⟨rfl, hb⟩
          have HB := Lib.hid (And.intro (blk_below HA.out.1 hb) (below_trans HA.out.2 hb))
          clear hb HA
          rw [HV.out]
          have hc : B.cell? ⟨w.heap.size, 0, none⟩ = some (.int .i64 N) := (blk_cell HB.out.1 0).trans rfl
          have hl2 := blk_lt HB.out.1
          go_wp2_with fail
          go_ret
          exact ⟨rfl, HB.out.2⟩
        · by_cases h2 : N ≤ s
          · skip
            go_enter Tryz.func50, Tryz.ntmps50
            go_wp2_with fail
            obtain ⟨A, hA⟩ : ∃ W' : World, (w.alloc (.cells #[.int .i64 N, .slice a k c] 44)) = W' := ⟨_, rfl⟩
            have h : Has A [(w.heap.size, .cells #[.int .i64 N, .slice a k c] 44 (0, 0))] := by rw [← hA]; simpa using ((Has.nil w).new _)
            have z : A.heap.size = w.heap.size + 1 := by rw [← hA]; simp
            have b : Below w.heap.size w A := by rw [← hA]; exact (below_alloc (below_self w) _)
            rw [hA]
            clear hA
            have HA := Lib.hid (And.intro h.hd b)
            clear h z b
            refine (valid_ok N a k c l A Hn.out hl (Hm.out.later HA.out.2)).mono ?_
            rintro e B ⟨rfl, hb⟩
            have HB := Lib.hid (And.intro (blk_below HA.out.1 hb) (below_trans HA.out.2 hb))
            clear hb HA
            rw [HV.out]
            have hc : B.cell? ⟨w.heap.size, 0, none⟩ = some (.int .i64 N) := (blk_cell HB.out.1 0).trans rfl
            have hl2 := blk_lt HB.out.1
            go_wp2_with fail
            go_ret
            exact ⟨rfl, HB.out.2⟩
          · skip
            go_enter Tryz.func50, Tryz.ntmps50
            go_wp2_with fail
            obtain ⟨A, hA⟩ : ∃ W' : World, (w.alloc (.cells #[.int .i64 N, .slice a k c] 44)) = W' := ⟨_, rfl⟩
            have h : Has A [(w.heap.size, .cells #[.int .i64 N, .slice a k c] 44 (0, 0))] := by rw [← hA]; simpa using ((Has.nil w).new _)
            have z : A.heap.size = w.heap.size + 1 := by rw [← hA]; simp
            have b : Below w.heap.size w A := by rw [← hA]; exact (below_alloc (below_self w) _)
            rw [hA]
            clear hA
            have HA := Lib.hid (And.intro h.hd b)
            clear h z b
            refine (valid_ok N a k c l A Hn.out hl (Hm.out.later HA.out.2)).mono ?_
            rintro e B ⟨rfl, hb⟩
            have HB := Lib.hid (And.intro (blk_below HA.out.1 hb) (below_trans HA.out.2 hb))
            clear hb HA
            rw [HV.out]
            have hc : B.cell? ⟨w.heap.size, 0, none⟩ = some (.int .i64 N) := (blk_cell HB.out.1 0).trans rfl
            have hl2 := blk_lt HB.out.1
            go_wp2_with fail
            go_ret
            exact ⟨rfl, HB.out.2⟩
end Go.Proofs.YthlefdbhkbpejaaGreat.F5
