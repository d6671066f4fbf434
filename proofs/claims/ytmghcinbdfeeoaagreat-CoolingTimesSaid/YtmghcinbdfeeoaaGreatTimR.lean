/- Chapter 15: the reference's constant, After and Longest (written by wip/gen15timr.py). -/
import Derived.Test.YtmghcinbdfeeoaaGreatLng
import Derived.Test.YtmghcinbdfeeoaaGreatCooR
import Derived.Test.YtmghcinbdfeeoaaGreatHtR
namespace Go.Proofs.YtmghcinbdfeeoaaGreat
open Go Go.RowKit
set_option linter.unusedSimpArgs false

set_option maxHeartbeats 1000000 in
theorem constref_ok (x : Int) (n : Nat) (w : World) (hn : n ≤ 1000) :
    Calls Tryz.prog 17 #[.int .i64 x, .int .i64 n] w fun e W' => ∃ v, e = .returned v ∧ OwnI w.heap.size W' v (List.replicate n x) ∧ Below w.heap.size w W' := by
  go_enter Tryz.func17, Tryz.ntmps17
  go_wp2_with fail
  go_loopw [5, 6] (fun v i wr => ∃ (k : Nat) (X : World) (av : Option Addr) (cv : Nat), k ≤ n ∧ v = .slice av k cv ∧ i = .int .i64 k ∧ X = wr ∧ Hid (Below w.heap.size w X ∧ X.ownsRow w.heap.size 3 1 (.slice av k cv) k (intsV (List.replicate k x)))) (fun _ i _ => n - (intOf i).toNat)
  case atStart => exact ⟨0, _, _, _, Nat.zero_le _, rfl, rfl, rfl, Lib.hid ⟨below_self w, World.ownsRow_nil _ _ _ _⟩⟩
  case round =>
    obtain ⟨k, X, av, cv, hk, rfl, rfl, rfl, HX⟩ := hrel
    by_cases hlt : k < n
    · have hltI : (k : Int) < (n : Int) := by omega
      obtain ⟨i0, hi, hz0, hz1, hz2⟩ := info_parts info3
      go_wp2_with (at_builtin; go_must (refine wpList_append_any rfl _ _ 47 rfl w.heap.size 3 i0 _ 1 8 Tryz.underlying47 hi hz0 hz1 hz2 rfl (by decide) _ _ _ rfl (HX.out.2.alloc _) _ _ _ [.int .i64 x] rfl ?c0 ?c1 ?c2 ?c3 ?c4 ?c5 ?c6 ?_))
      case c0 => intro h; cases h
      case c1 => rfl
      case c2 => exact fun _ => ⟨_, rfl, src_new _ _ _⟩
      case c3 => simp [Value.oneCell']
      case c4 => unfold maxLen; omega
      case c5 => omega
      case c6 => have := HX.out.1.size; simp; omega
      intro a2 cap2 W3 hown3 hgrow3
      have hoA := HX.out.2.alloc (.cells #[.int .i64 x] 3)
      have h3w : Below w.heap.size w W3 := grown_below (below_alloc HX.out.1 _) hoA hgrow3.out (Nat.le_refl _) (by have := HX.out.1.size; simp; omega)
      have H3 := Lib.hid (And.intro h3w (show W3.ownsRow w.heap.size 3 1 (.slice a2 (k + 1) cap2) (k + 1) (intsV (List.replicate (k + 1) x)) by rw [List.replicate_succ', intsV_app]; exact hown3.out.1))
      clear h3w hgrow3 hown3 hoA HX hi hz0 hz1 hz2
      go_wp2_with fail
      go_roundw
      case rel => exact ⟨k + 1, _, _, _, by omega, rfl, by go_num, rfl, H3⟩
      case measure => simp [intOf]; omega
    · have hltI : ¬ (k : Int) < (n : Int) := by omega
      obtain rfl : k = n := by omega
      have HO := Lib.hid (show Below w.heap.size w X ∧ OwnI w.heap.size X (.slice av k cv) (List.replicate k x) by
        refine ⟨HX.out.1, ?_⟩
        unfold OwnI
        rw [List.length_replicate]
        exact HX.out.2)
      clear HX
      go_wp2_with fail
      go_ret
      exact ⟨_, rfl, HO.out.2, HO.out.1⟩

theorem constref_all (x : Int) (w : World) :
    Calls Tryz.prog 17 #[.int .i64 x, .int .i64 1000] w fun e W' => ∃ v, e = .returned v ∧ OwnI w.heap.size W' v (List.replicate 1000 x) ∧ Below w.heap.size w W' := constref_ok x 1000 w (Nat.le_refl _)

/-! The heat of a valid world is at most what an input may be. -/
/-- The cores in use of the first m hosts, the first k replicas counted. -/
def usT (x : Wish) (v : Wld) (k : Nat) : Nat → Int
  | 0 => 0
  | m + 1 => usT x v k m + usedL x (v.reps.take k) m
theorem usT_succ {x : Wish} {v : Wld} {k : Nat} (hk : k < v.reps.length) (r : Rep) (hr : v.reps.getD k default = r) : ∀ m : Nat, usT x v (k + 1) m = usT x v k m + (if (0 ≤ r.host ∧ r.host < (m : Int)) ∧ 0 ≤ r.svc ∧ r.svc < (x.svcs.length : Int) then (x.svcs.getD r.svc.toNat default).cores else 0)
  | 0 => by
    simp only [usT]
    rw [if_neg (by omega)]
    rfl
  | m + 1 => by
    simp only [usT]
    rw [usT_succ hk r hr m, usedL_succ hk r hr]
    by_cases hs : 0 ≤ r.svc ∧ r.svc < (x.svcs.length : Int)
    · by_cases h1 : r.host = (m : Int)
      · rw [if_neg (by omega), if_pos (by omega), if_pos (by omega)]
        omega
      · by_cases h2 : 0 ≤ r.host ∧ r.host < (m : Int)
        · rw [if_pos ⟨h2, hs⟩, if_neg (by omega), if_pos (by omega)]
          omega
        · rw [if_neg (by omega), if_neg (by omega), if_neg (by omega)]
          omega
    · rw [if_neg (by omega), if_neg (by omega), if_neg (by omega)]
      omega
theorem usT_nil {x : Wish} {v : Wld} : ∀ m, usT x v 0 m = 0
  | 0 => rfl
  | m + 1 => by
    simp only [usT, usT_nil m, List.take_zero]
    rfl
theorem usT_le {x : Wish} {v : Wld} (hr : RepsIn x v) (m : Nat) : ∀ k, k ≤ v.reps.length → 0 ≤ usT x v k m ∧ usT x v k m ≤ 1000 * k
  | 0, _ => by rw [usT_nil]; omega
  | k + 1, hk => by
    have ih := usT_le hr m k (by omega)
    have h1 := hr.2.1 k (by omega)
    have h2 := hr.2.2 (v.reps.getD k default).svc.toNat (by omega)
    rw [usT_succ (by omega) _ rfl]
    split
    · omega
    · omega
theorem sumT_small {s : Site} {x : Wish} {v : Wld} {p : Nat → Bool} (h : worldOk s x v = true) : ∀ k, k ≤ s.hosts.length → sumT s x v p k ≤ 10000 * k + 1000 * usT x v v.reps.length k
  | 0, _ => by simp [sumT, usT]
  | k + 1, hk => by
    have ih := sumT_small (p := p) h k (by omega)
    have hh := siteOk_host (worldOk_site h) (i := k) (by omega)
    have hu := used_le (h := (k : Int)) (worldOk_reps h)
    have h3 := mul_le_i hh.2.2.1 hu.1 hh.2.2.2 (Int.le_refl _)
    have e : usedL x (v.reps.take v.reps.length) (k : Int) = used x v k := (used_all x v k).symm
    simp only [usT]
    rw [sumT_succ, e]
    unfold wattsH
    split
    · split <;> omega
    · omega
theorem heat_le (s : Site) (x : Wish) (v : Wld) (loop : Int) : heat s x v loop ≤ 100000000 := by
  rw [← heat_is]
  cases h : worldOk s x v
  · rw [sumH_no h]; omega
  · rw [sumH_ok h]
    have h1 := sumT_small (p := inLoop s loop) h s.hosts.length (Nat.le_refl _)
    have h2 := usT_le (worldOk_reps h) s.hosts.length v.reps.length (Nat.le_refl _)
    have h3 := (worldOk_reps h).1
    have h4 := siteOk_sizes (worldOk_site h)
    omega
theorem heat_nn (s : Site) (x : Wish) (v : Wld) (l : Int) : 0 ≤ heat s x v l := by
  unfold heat
  split
  · exact (heatT_le _).1
  · exact Int.le_refl _
theorem loop_okR {s : Site} {k : Nat} (h : siteOk s = true) (hk : k < s.loops.length) : (0 ≤ (s.loops.getD k default).carry ∧ (s.loops.getD k default).carry ≤ 1000000) ∧ 0 ≤ (s.loops.getD k default).delay ∧ (s.loops.getD k default).delay ≤ 100 := by
  unfold siteOk at h
  simp only [Bool.and_eq_true, List.all_eq_true] at h
  have := h.2.2.2.1 _ (getD_in hk)
  unfold okLp num at this
  rw [Bool.and_eq_true, inR_iff, inR_iff] at this
  exact this
/-- What is asked of valid things has no error. -/
theorem cou_zero {s : Site} {x : Wish} {v : Wld} {loop start : Int} {m : Nat} (hw : worldOk s x v = true) (l0 : 0 ≤ loop) (l1 : loop < s.loops.length) (hst : 0 ≤ start ∧ start ≤ 1000000) (hm : m ≤ 1000) : couE s loop start (List.replicate m (heat s x v loop)) m = 0 := by
  obtain ⟨k, rfl⟩ : ∃ k : Nat, loop = k := ⟨loop.toNat, by omega⟩
  have hs := worldOk_site hw
  have hl := loop_okR hs (k := k) (by omega)
  have hg := heat_nn s x v k
  have hg2 := heat_le s x v k
  have hL : lineE s k = true := by
    unfold lineE
    rw [hs, decide_eq_true (p := 0 ≤ (k : Int)) (by omega), decide_eq_true (p := (k : Int) < (s.loops.length : Int)) (by omega)]
    rfl
  have hcar : lCar s k = (s.loops.getD k default).carry := by unfold lCar; rw [Int.toNat_natCast]
  have hps : lPs s k = [⟨0, 1, (s.loops.getD k default).delay⟩] := by unfold lPs; rw [Int.toNat_natCast]
  unfold couE
  rw [if_pos hL]
  refine ask_line ?_ (by rw [hcar]; omega) (by omega) (by omega) (by simpa using hm) fun j hj => ?_
  · intro p hp
    rw [hps] at hp
    simp only [List.mem_cons, List.not_mem_nil, or_false] at hp
    subst hp
    exact okP_iff'.2 ⟨by simp only; omega, by simp only; omega, by simp only; omega⟩
  · rw [List.length_replicate] at hj
    rw [List.getD_eq_getElem?_getD, List.getElem?_replicate, if_pos hj]
    simp only [Option.getD_some]
    omega
theorem conOk_iff {s : Site} {x : Wish} {v : Wld} {loop start n : Int} : conOk s x v loop start n = true ↔ worldOk s x v = true ∧ 0 ≤ loop ∧ loop < s.loops.length ∧ (0 ≤ start ∧ start ≤ 1000000) ∧ 0 ≤ n ∧ n ≤ 1000 := by
  unfold conOk
  simp only [Bool.and_eq_true, decide_eq_true_eq, inR_iff]
theorem con_yes {s : Site} {x : Wish} {v : Wld} {loop start n : Int} (h : conOk s x v loop start n = true) : conE s x v loop start n = 0 := by
  obtain ⟨hw, l0, l1, hst, n0, n1⟩ := conOk_iff.1 h
  obtain ⟨m, rfl⟩ : ∃ m : Nat, n = m := ⟨n.toNat, by omega⟩
  unfold conE
  rw [if_pos h, Int.toNat_natCast]
  exact cou_zero hw l0 l1 hst (by omega)
theorem con_no {s : Site} {x : Wish} {v : Wld} {loop start n : Int} (h : conOk s x v loop start n = false) : conE s x v loop start n = 1 := by
  unfold conE
  rw [if_neg (by simp [h])]
theorem con_ends {s : Site} {x : Wish} {v : Wld} {loop start : Int} : conE s x v loop start 0 = conE s x v loop start 1000 := by
  have h : conOk s x v loop start 0 = conOk s x v loop start 1000 := by
    rw [Bool.eq_iff_iff, conOk_iff, conOk_iff]
    constructor
    · rintro ⟨a, b, c, d, _⟩; exact ⟨a, b, c, d, by omega, by omega⟩
    · rintro ⟨a, b, c, d, _⟩; exact ⟨a, b, c, d, by omega, by omega⟩
  cases hc : conOk s x v loop start 0
  · rw [con_no hc, con_no (h ▸ hc)]
  · rw [con_yes hc, con_yes (h ▸ hc)]
/-- The levels, of a valid world, as the references' Course gives them. -/
theorem con_val {s : Site} {x : Wish} {v : Wld} {loop start : Int} {m : Nat} (h : conOk s x v loop start m = true) : conV s x v loop start m = couV s loop start (List.replicate m (heat s x v loop)) m := by
  unfold conV
  rw [if_pos h, Int.toNat_natCast]

set_option maxRecDepth 10000 in
set_option maxHeartbeats 4000000 in
theorem afterref_ok (s : Site) (x : Wish) (v : Wld) (loop start n : Int) (w : World) (hs : s.At w) (hx : x.At w) (hv : v.At w) :
    Calls Tryz.prog 7 #[s.val, x.val, v.val, .int .i64 loop, .int .i64 start, .int .i64 n] w fun e W' => e = .returned (.tuple #[.int .i64 (aftV s x v loop start n), .int .i64 (conE s x v loop start n)]) ∧ Below w.heap.size w W' := by
  have HI := Lib.hid (And.intro hs (And.intro hx hv))
  have hN : s.loops.length = s.lh.2.1 := hs.loops.len
  have hNl := hs.loops.le
  have HN := Lib.hid hN
  clear hs hx hv hN
  cases hc : conOk s x v loop start n
  · have HE := Lib.hid (con_no hc)
    have HA := Lib.hid (show aftV s x v loop start n = 0 by unfold aftV; rw [if_neg (by rw [HE.out]; omega)])
    rw [HE.out, HA.out]
    have HC := Lib.hid (show ¬ (worldOk s x v = true ∧ 0 ≤ loop ∧ loop < s.loops.length ∧ (0 ≤ start ∧ start ≤ 1000000) ∧ 0 ≤ n ∧ n ≤ 1000) from fun h => absurd (conOk_iff.2 h) (by simp [hc]))
    clear hc HE HA
    go_enter Tryz.func7, Tryz.ntmps7
    go_wp2_with fail
    obtain ⟨A, hA⟩ : ∃ W' : World, (((w.alloc (.cells s.cells.toArray 29)).alloc (.cells x.cells.toArray 32)).alloc (.cells v.cells.toArray 36)) = W' := ⟨_, rfl⟩
    have h : Has A [(w.heap.size + 1 + 1, .cells v.cells.toArray 36 (0, 0)), (w.heap.size + 1, .cells x.cells.toArray 32 (0, 0)), (w.heap.size, .cells s.cells.toArray 29 (0, 0))] := by rw [← hA]; simpa using ((((Has.nil w).new _).new _).new _)
    have z : A.heap.size = w.heap.size + 1 + 1 + 1 := by rw [← hA]; simp
    have b : Below w.heap.size w A := by rw [← hA]; exact (below_alloc (below_alloc (below_alloc (below_self w) _) _) _)
    rw [hA]
    clear hA
    have HZ := Lib.hid (show VB w s x v A from ⟨h.tl.tl.hd, h.tl.hd, h.hd, b⟩)
    clear h z b
    refine (world_ref s x v A (HI.out.1.later HZ.out.bel) (HI.out.2.1.later HZ.out.bel) (HI.out.2.2.later HZ.out.bel)).mono ?_
    rintro e B ⟨rfl, hb⟩
    have HB := Lib.hid (HZ.out.later hb)
    clear hb HZ
    have d2 : B.cell? ⟨w.heap.size, 2, none⟩ = some (.slice s.lh.1 s.lh.2.1 s.lh.2.2) := (blk_cell HB.out.si 2).trans rfl
    have dl := blk_lt HB.out.si
    cases hok : worldOk s x v
    · clear hok
      go_wp2_with fail
      go_ret2
      exact ⟨rfl, HB.out.bel⟩
    · have HO := Lib.hid hok
      clear hok
      by_cases l0 : 0 ≤ loop
      · by_cases l1 : loop < (s.lh.2.1 : Int)
        · by_cases s0 : 0 ≤ start
          · by_cases s1 : start ≤ 1000000
            · by_cases n0 : 0 ≤ n
              · by_cases n1 : n ≤ 1000
                · exact absurd ⟨HO.out, l0, by rw [HN.out]; exact l1, ⟨s0, s1⟩, n0, n1⟩ HC.out
                · go_wp2_with fail
                  go_ret2
                  exact ⟨rfl, HB.out.bel⟩
              · go_wp2_with fail
                go_ret2
                exact ⟨rfl, HB.out.bel⟩
            · go_wp2_with fail
              go_ret2
              exact ⟨rfl, HB.out.bel⟩
          · go_wp2_with fail
            go_ret2
            exact ⟨rfl, HB.out.bel⟩
        · go_wp2_with fail
          go_ret2
          exact ⟨rfl, HB.out.bel⟩
      · go_wp2_with fail
        go_ret2
        exact ⟨rfl, HB.out.bel⟩
  · obtain ⟨hw, l0, l1, h1, h2⟩ := conOk_iff.1 hc
    obtain ⟨k, rfl⟩ : ∃ k : Nat, n = k := ⟨n.toNat, by omega⟩
    have hE := con_yes hc
    have HE := Lib.hid hE
    have HA := Lib.hid (show aftV s x v loop start k = (couV s loop start (List.replicate k (heat s x v loop)) k).getD k default by unfold aftV; rw [if_pos hE, con_val hc, Int.toNat_natCast])
    obtain ⟨_, _, hlen⟩ := con_len hE
    rw [con_val hc, Int.toNat_natCast] at hlen
    have hz := cou_zero (m := k) hw l0 l1 h1 (by omega)
    rw [HE.out, HA.out]
    have hk : k ≤ 1000 := by omega
    obtain ⟨h1a, h1b⟩ := h1
    rw [HN.out] at l1
    have HW := Lib.hid hw
    clear hc hw hE h2
    obtain ⟨g, hg⟩ : ∃ g, heat s x v loop = g := ⟨_, rfl⟩
    rw [hg] at HA hlen hz ⊢
    have HG := Lib.hid (show sumH s x v (inLoop s loop) = g by rw [← hg]; exact heat_is s x v loop)
    have HL := Lib.hid (And.intro hlen hz)
    clear hg hlen hz
    go_enter Tryz.func7, Tryz.ntmps7
    go_wp2_with fail
    obtain ⟨A, hA⟩ : ∃ W' : World, (((w.alloc (.cells s.cells.toArray 29)).alloc (.cells x.cells.toArray 32)).alloc (.cells v.cells.toArray 36)) = W' := ⟨_, rfl⟩
    have h : Has A [(w.heap.size + 1 + 1, .cells v.cells.toArray 36 (0, 0)), (w.heap.size + 1, .cells x.cells.toArray 32 (0, 0)), (w.heap.size, .cells s.cells.toArray 29 (0, 0))] := by rw [← hA]; simpa using ((((Has.nil w).new _).new _).new _)
    have z : A.heap.size = w.heap.size + 1 + 1 + 1 := by rw [← hA]; simp
    have b : Below w.heap.size w A := by rw [← hA]; exact (below_alloc (below_alloc (below_alloc (below_self w) _) _) _)
    rw [hA]
    clear hA
    have HZ := Lib.hid (show VB w s x v A from ⟨h.tl.tl.hd, h.tl.hd, h.hd, b⟩)
    clear h z b
    refine (world_ref s x v A (HI.out.1.later HZ.out.bel) (HI.out.2.1.later HZ.out.bel) (HI.out.2.2.later HZ.out.bel)).mono ?_
    rintro e B ⟨rfl, hb⟩
    have HB := Lib.hid (HZ.out.later hb)
    clear hb HZ
    have d2 : B.cell? ⟨w.heap.size, 2, none⟩ = some (.slice s.lh.1 s.lh.2.1 s.lh.2.2) := (blk_cell HB.out.si 2).trans rfl
    have dlsi := blk_lt HB.out.si
    have dlwi := blk_lt HB.out.wi
    have dlwo := blk_lt HB.out.wo
    rw [HW.out]
    go_wp2_with fail
    have hkk : ∀ W, Below B.heap.size B W → W.cell? ⟨w.heap.size, 0, none⟩ = some (.slice s.fh.1 s.fh.2.1 s.fh.2.2) ∧ W.cell? ⟨w.heap.size, 1, none⟩ = some (.slice s.bh.1 s.bh.2.1 s.bh.2.2) ∧ W.cell? ⟨w.heap.size, 2, none⟩ = some (.slice s.lh.1 s.lh.2.1 s.lh.2.2) ∧ W.cell? ⟨w.heap.size, 3, none⟩ = some (.slice s.rh.1 s.rh.2.1 s.rh.2.2) ∧ W.cell? ⟨w.heap.size, 4, none⟩ = some (.int .i64 s.switches) ∧ W.cell? ⟨w.heap.size, 5, none⟩ = some (.slice s.kh.1 s.kh.2.1 s.kh.2.2) ∧ W.cell? ⟨w.heap.size, 6, none⟩ = some (.slice s.hh.1 s.hh.2.1 s.hh.2.2) ∧ W.cell? ⟨w.heap.size + 1, 0, none⟩ = some (.slice x.sh.1 x.sh.2.1 x.sh.2.2) ∧ W.cell? ⟨w.heap.size + 1 + 1, 0, none⟩ = some (.slice v.hh.1 v.hh.2.1 v.hh.2.2) ∧ W.cell? ⟨w.heap.size + 1 + 1, 1, none⟩ = some (.slice v.rh.1 v.rh.2.1 v.rh.2.2) := fun W hb => ⟨(blk_cell (HB.out.later hb).si 0).trans rfl, (blk_cell (HB.out.later hb).si 1).trans rfl, (blk_cell (HB.out.later hb).si 2).trans rfl, (blk_cell (HB.out.later hb).si 3).trans rfl, (blk_cell (HB.out.later hb).si 4).trans rfl, (blk_cell (HB.out.later hb).si 5).trans rfl, (blk_cell (HB.out.later hb).si 6).trans rfl, (blk_cell (HB.out.later hb).wi 0).trans rfl, (blk_cell (HB.out.later hb).wo 0).trans rfl, (blk_cell (HB.out.later hb).wo 1).trans rfl⟩
    have HS := Lib.hid hkk
    clear hkk
    have bX : Below B.heap.size B B.drew := (below_self B).drew
    go_region_held3 (fun W => W.cell? ⟨w.heap.size, 0, none⟩ = some (.slice s.fh.1 s.fh.2.1 s.fh.2.2) ∧ W.cell? ⟨w.heap.size, 1, none⟩ = some (.slice s.bh.1 s.bh.2.1 s.bh.2.2) ∧ W.cell? ⟨w.heap.size, 2, none⟩ = some (.slice s.lh.1 s.lh.2.1 s.lh.2.2) ∧ W.cell? ⟨w.heap.size, 3, none⟩ = some (.slice s.rh.1 s.rh.2.1 s.rh.2.2) ∧ W.cell? ⟨w.heap.size, 4, none⟩ = some (.int .i64 s.switches) ∧ W.cell? ⟨w.heap.size, 5, none⟩ = some (.slice s.kh.1 s.kh.2.1 s.kh.2.2) ∧ W.cell? ⟨w.heap.size, 6, none⟩ = some (.slice s.hh.1 s.hh.2.1 s.hh.2.2) ∧ W.cell? ⟨w.heap.size + 1, 0, none⟩ = some (.slice x.sh.1 x.sh.2.1 x.sh.2.2) ∧ W.cell? ⟨w.heap.size + 1 + 1, 0, none⟩ = some (.slice v.hh.1 v.hh.2.1 v.hh.2.2) ∧ W.cell? ⟨w.heap.size + 1 + 1, 1, none⟩ = some (.slice v.rh.1 v.rh.2.1 v.rh.2.2))
      (exact HS.out _ (by assumption))
      (first
        | (go_at_call 16; (with_reducible refine (coolref_ok' s loop start a3 k c3 (List.replicate k g) k _ (HI.out.1.later (below_trans HB.out.bel bR)) hR3).mono ?_); rintro e W9 ⟨u, rfl, ho9, b9⟩; have bC := below_trans bR b9)
        | (go_at_call 17; (with_reducible refine (constref_ok g k _ (by omega)).mono ?_); rintro e W3 ⟨u3, rfl, ho3, b3⟩; obtain ⟨a3, c3, rfl, hR3⟩ := ownI_reads ho3 (n := k) (by simp); have bR := below_trans bH b3)
        | (go_at_call 18; (with_reducible refine (heat_ref s x v loop _ (HI.out.1.later (below_trans HB.out.bel bX)) (HI.out.2.1.later (below_trans HB.out.bel bX)) (HI.out.2.2.later (below_trans HB.out.bel bX))).mono ?_); rintro e W2 ⟨rfl, b2⟩; rw [HG.out]; have bH := below_trans bX b2))
    have HF := Lib.hid (below_trans HB.out.bel bC)
    rw [HL.out.2]
    obtain ⟨L, hL⟩ : ∃ L, couV s loop start (List.replicate k g) k = L := ⟨_, rfl⟩
    have hl : L.length = k + 1 := by rw [← hL]; exact HL.out.1
    rw [hL] at ho9
    have HLL := Lib.hid hL
    obtain ⟨a, cap, rfl, hr⟩ := ownI_reads ho9 hl
    obtain ⟨b1, o1, q1, hb1, c0⟩ := ints_at hr.rows k (by omega)
    simp only at q1
    subst q1
    have hlt : (k : Int) < ((k + 1 : Nat) : Int) := by omega
    generalize hy : L.getD k default = y at c0
    have HY := Lib.hid hy
    clear hy hr ho9 hL bC bR b9 b3 bH b2 bX hR3 HS d2 dlsi dlwi dlwo
    go_wp2_with fail
    go_ret2
    exact ⟨by rw [HLL.out, HY.out]; rfl, HF.out⟩

set_option maxRecDepth 10000 in
set_option maxHeartbeats 4000000 in
theorem longref_ok (s : Site) (x : Wish) (v : Wld) (loop start limit : Int) (w : World) (hs : s.At w) (hx : x.At w) (hv : v.At w) :
    Calls Tryz.prog 9 #[s.val, x.val, v.val, .int .i64 loop, .int .i64 start, .int .i64 limit] w fun e W' => e = .returned (.tuple #[.int .i64 (lngV s x v loop start limit), .int .i64 (lngE s x v loop start limit)]) ∧ Below w.heap.size w W' := by
  have HI := Lib.hid (And.intro hs (And.intro hx hv))
  have hN : s.loops.length = s.lh.2.1 := hs.loops.len
  have HN := Lib.hid hN
  clear hs hx hv hN
  have hends := con_ends (s := s) (x := x) (v := v) (loop := loop) (start := start)
  cases hc : conOk s x v loop start 1000
  · have h1 := con_no hc
    have HE := Lib.hid (And.intro (show lngE s x v loop start limit = 1 by unfold lngE; rw [h1]; rfl) (show lngV s x v loop start limit = 0 by unfold lngV lngE; rw [h1]; rfl))
    rw [HE.out.1, HE.out.2]
    have H1 := Lib.hid (hends.trans h1)
    clear hends h1 hc
    go_enter Tryz.func9, Tryz.ntmps9
    go_wp2_with fail
    obtain ⟨A, hA⟩ : ∃ W' : World, (((w.alloc (.cells s.cells.toArray 29)).alloc (.cells x.cells.toArray 32)).alloc (.cells v.cells.toArray 36)) = W' := ⟨_, rfl⟩
    have h : Has A [(w.heap.size + 1 + 1, .cells v.cells.toArray 36 (0, 0)), (w.heap.size + 1, .cells x.cells.toArray 32 (0, 0)), (w.heap.size, .cells s.cells.toArray 29 (0, 0))] := by rw [← hA]; simpa using ((((Has.nil w).new _).new _).new _)
    have z : A.heap.size = w.heap.size + 1 + 1 + 1 := by rw [← hA]; simp
    have b : Below w.heap.size w A := by rw [← hA]; exact (below_alloc (below_alloc (below_alloc (below_self w) _) _) _)
    rw [hA]
    clear hA
    have HA := Lib.hid b
    clear h z b
    refine (afterref_ok s x v loop start 0 A (HI.out.1.later HA.out) (HI.out.2.1.later HA.out) (HI.out.2.2.later HA.out)).mono ?_
    rintro e B ⟨rfl, hb⟩
    have HB := Lib.hid (below_trans HA.out hb)
    clear hb HA
    rw [H1.out]
    go_wp2_with fail
    go_ret2
    exact ⟨rfl, HB.out⟩
  · have h1 := con_yes hc
    obtain ⟨hw, l0, l1, hst, _⟩ := conOk_iff.1 hc
    have hz := cou_zero (m := 1000) hw l0 l1 hst (by omega)
    obtain ⟨_, _, hlen⟩ := con_len h1
    have hV := con_val (m := 1000) hc
    have HV := Lib.hid hV
    have hlen : (conV s x v loop start ((1000 : Nat) : Int)).length = 1001 := hlen
    rw [HV.out] at hlen
    have H1 := Lib.hid (hends.trans h1)
    by_cases hr : inR limit 0 1000000 = true
    · have hE : lngE s x v loop start limit = 0 := by unfold lngE; rw [if_pos h1, if_pos hr]
      have HE := Lib.hid (And.intro hE (show lngV s x v loop start limit = (if lngI s x v loop start limit < 0 then 1000 else lngI s x v loop start limit - 1) by unfold lngV; rw [if_pos hE]))
      rw [HE.out.1]
      have hr := inR_iff.1 hr
      have hr0 := hr.1
      have hr1 := hr.2
      have HI2 := Lib.hid (show lngI s x v loop start limit = idxI (fun y => decide (limit < y)) (couV s loop start (List.replicate 1000 (heat s x v loop)) (1000 : Nat)) by unfold lngI; rw [← HV.out]; rfl)
      clear hE hr hV hends h1 hc hw l0 l1 hst
      obtain ⟨g, hg⟩ : ∃ g, heat s x v loop = g := ⟨_, rfl⟩
      rw [hg] at HI2 hlen hz
      have HG := Lib.hid (show sumH s x v (inLoop s loop) = g by rw [← hg]; exact heat_is s x v loop)
      have hCn := constref_all g
      have hz : couE s loop start (List.replicate 1000 g) 1000 = 0 := hz
      have hGl : (List.replicate 1000 g).length = 1000 := by simp
      have hI2 := HI2.out
      obtain ⟨G, hG⟩ : ∃ G, List.replicate 1000 g = G := ⟨_, rfl⟩
      rw [hG] at hCn hz hGl hlen hI2
      have HI2 := Lib.hid (show lngI s x v loop start limit = idxI (fun y => decide (limit < y)) (couV s loop start G 1000) from hI2)
      have HCn := Lib.hid hCn
      have HGl := Lib.hid hGl
      have HL := Lib.hid (And.intro hlen hz)
      clear hg hlen hz hCn hGl hG hI2
      go_enter Tryz.func9, Tryz.ntmps9
      go_wp2_with fail
      obtain ⟨A, hA⟩ : ∃ W' : World, (((w.alloc (.cells s.cells.toArray 29)).alloc (.cells x.cells.toArray 32)).alloc (.cells v.cells.toArray 36)) = W' := ⟨_, rfl⟩
      have h : Has A [(w.heap.size + 1 + 1, .cells v.cells.toArray 36 (0, 0)), (w.heap.size + 1, .cells x.cells.toArray 32 (0, 0)), (w.heap.size, .cells s.cells.toArray 29 (0, 0))] := by rw [← hA]; simpa using ((((Has.nil w).new _).new _).new _)
      have z : A.heap.size = w.heap.size + 1 + 1 + 1 := by rw [← hA]; simp
      have b : Below w.heap.size w A := by rw [← hA]; exact (below_alloc (below_alloc (below_alloc (below_self w) _) _) _)
      rw [hA]
      clear hA
      have HZ := Lib.hid (show VB w s x v A from ⟨h.tl.tl.hd, h.tl.hd, h.hd, b⟩)
      clear h z b
      refine (afterref_ok s x v loop start 0 A (HI.out.1.later HZ.out.bel) (HI.out.2.1.later HZ.out.bel) (HI.out.2.2.later HZ.out.bel)).mono ?_
      rintro e B ⟨rfl, hb⟩
      have HB := Lib.hid (HZ.out.later hb)
      clear hb HZ
      rw [H1.out]
      have dlsi := blk_lt HB.out.si
      have dlwi := blk_lt HB.out.wi
      have dlwo := blk_lt HB.out.wo
      go_wp2_with fail
      have hkk : ∀ W, Below B.heap.size B W → W.cell? ⟨w.heap.size, 0, none⟩ = some (.slice s.fh.1 s.fh.2.1 s.fh.2.2) ∧ W.cell? ⟨w.heap.size, 1, none⟩ = some (.slice s.bh.1 s.bh.2.1 s.bh.2.2) ∧ W.cell? ⟨w.heap.size, 2, none⟩ = some (.slice s.lh.1 s.lh.2.1 s.lh.2.2) ∧ W.cell? ⟨w.heap.size, 3, none⟩ = some (.slice s.rh.1 s.rh.2.1 s.rh.2.2) ∧ W.cell? ⟨w.heap.size, 4, none⟩ = some (.int .i64 s.switches) ∧ W.cell? ⟨w.heap.size, 5, none⟩ = some (.slice s.kh.1 s.kh.2.1 s.kh.2.2) ∧ W.cell? ⟨w.heap.size, 6, none⟩ = some (.slice s.hh.1 s.hh.2.1 s.hh.2.2) ∧ W.cell? ⟨w.heap.size + 1, 0, none⟩ = some (.slice x.sh.1 x.sh.2.1 x.sh.2.2) ∧ W.cell? ⟨w.heap.size + 1 + 1, 0, none⟩ = some (.slice v.hh.1 v.hh.2.1 v.hh.2.2) ∧ W.cell? ⟨w.heap.size + 1 + 1, 1, none⟩ = some (.slice v.rh.1 v.rh.2.1 v.rh.2.2) := fun W hb => ⟨(blk_cell (HB.out.later hb).si 0).trans rfl, (blk_cell (HB.out.later hb).si 1).trans rfl, (blk_cell (HB.out.later hb).si 2).trans rfl, (blk_cell (HB.out.later hb).si 3).trans rfl, (blk_cell (HB.out.later hb).si 4).trans rfl, (blk_cell (HB.out.later hb).si 5).trans rfl, (blk_cell (HB.out.later hb).si 6).trans rfl, (blk_cell (HB.out.later hb).wi 0).trans rfl, (blk_cell (HB.out.later hb).wo 0).trans rfl, (blk_cell (HB.out.later hb).wo 1).trans rfl⟩
      have HS := Lib.hid hkk
      clear hkk
      have bX : Below B.heap.size B B.drew := (below_self B).drew
      go_region_held3 (fun W => W.cell? ⟨w.heap.size, 0, none⟩ = some (.slice s.fh.1 s.fh.2.1 s.fh.2.2) ∧ W.cell? ⟨w.heap.size, 1, none⟩ = some (.slice s.bh.1 s.bh.2.1 s.bh.2.2) ∧ W.cell? ⟨w.heap.size, 2, none⟩ = some (.slice s.lh.1 s.lh.2.1 s.lh.2.2) ∧ W.cell? ⟨w.heap.size, 3, none⟩ = some (.slice s.rh.1 s.rh.2.1 s.rh.2.2) ∧ W.cell? ⟨w.heap.size, 4, none⟩ = some (.int .i64 s.switches) ∧ W.cell? ⟨w.heap.size, 5, none⟩ = some (.slice s.kh.1 s.kh.2.1 s.kh.2.2) ∧ W.cell? ⟨w.heap.size, 6, none⟩ = some (.slice s.hh.1 s.hh.2.1 s.hh.2.2) ∧ W.cell? ⟨w.heap.size + 1, 0, none⟩ = some (.slice x.sh.1 x.sh.2.1 x.sh.2.2) ∧ W.cell? ⟨w.heap.size + 1 + 1, 0, none⟩ = some (.slice v.hh.1 v.hh.2.1 v.hh.2.2) ∧ W.cell? ⟨w.heap.size + 1 + 1, 1, none⟩ = some (.slice v.rh.1 v.rh.2.1 v.rh.2.2))
        (exact HS.out _ (by assumption))
        (first
          | (go_at_call 16; (with_reducible refine (coolref_ok' s loop start a3 1000 c3 G 1000 _ (HI.out.1.later (below_trans HB.out.bel bR)) hR3).mono ?_); rintro e W9 ⟨u, rfl, ho9, b9⟩; have bC := below_trans bR b9)
          | (go_at_call 17; (with_reducible refine (HCn.out _).mono ?_); rintro e W3 ⟨u3, rfl, ho3, b3⟩; obtain ⟨a3, c3, rfl, hR3⟩ := ownI_reads ho3 HGl.out; have bR := below_trans bH b3)
          | (go_at_call 18; (with_reducible refine (heat_ref s x v loop _ (HI.out.1.later (below_trans HB.out.bel bX)) (HI.out.2.1.later (below_trans HB.out.bel bX)) (HI.out.2.2.later (below_trans HB.out.bel bX))).mono ?_); rintro e W2 ⟨rfl, b2⟩; rw [HG.out]; have bH := below_trans bX b2))
      have HF := Lib.hid (below_trans HB.out.bel bC)
      have hz2 : couE s loop start G 1000 = 0 := HL.out.2
      rw [hz2]
      obtain ⟨L, hL⟩ : ∃ L, couV s loop start G 1000 = L := ⟨_, rfl⟩
      have hl : L.length = 1001 := by rw [← hL]; exact HL.out.1
      rw [hL] at ho9
      have hI2 := HI2.out
      rw [hL] at hI2
      have HI2 := Lib.hid hI2
      clear hI2
      have HLn := Lib.hid hl
      obtain ⟨a, cap, rfl, hrd⟩ := ownI_reads ho9 hl
      have HR := Lib.hid hrd.rows
      clear hrd ho9 hL bC bR b9 b3 bH b2 bX hR3 HS dlsi dlwi dlwo hz2 hl
      go_wp2_with fail
      go_loopw [17] (fun i wr => ∃ (j : Nat) (X : World), j ≤ 1001 ∧ i = .int .i64 ((j : Int) - 1) ∧ X = wr ∧ Hid ((∀ q, q < j → decide (limit < L.getD q default) = false) ∧ Below W9.heap.size W9 X)) (fun i _ => 1001 - (intOf i + 1).toNat)
      case atStart => exact ⟨0, _, by omega, rfl, rfl, Lib.hid ⟨fun q hq => by omega, below_self W9⟩⟩
      case round =>
        obtain ⟨j, X, hj, rfl, rfl, HX⟩ := hrel
        by_cases hlt : j < 1001
        · have hltI : (j : Int) - 1 < 1000 := by omega
          obtain ⟨b1, o1, rfl, hb1, c0⟩ := ints_at (HR.out.later HX.out.2) j (by rw [HLn.out]; exact hlt)
          have hw1 : IntKind.i64.wrap ((j : Int) - 1 + 1) = (j : Int) := by rw [IntWalk.i64_in _ (by omega)]; omega
          have hjI : (j : Int) < 1001 := by omega
          generalize hy : L.getD j default = y at c0
          have HY := Lib.hid hy
          clear hy
          by_cases hle : y ≤ limit
          · have HN2 := Lib.hid (no_succ (p := fun y => decide (limit < y)) HX.out.1 (decide_eq_false (by rw [HY.out]; omega)))
            go_wp2_with fail
            go_roundw
            case rel => exact ⟨j + 1, _, by omega, by congr 1; omega, rfl, Lib.hid ⟨HN2.out, HX.out.2⟩⟩
            case measure => simp [intOf]; omega
          · have HQ := Lib.hid (show lngI s x v loop start limit = (j : Int) by rw [HI2.out]; exact idxI_found (by rw [HLn.out]; exact hlt) (by rw [HY.out]; exact decide_eq_true (by omega)) HX.out.1)
            go_wp2_with fail
            go_ret2
            exact ⟨by rw [HE.out.2, HQ.out, if_neg (by omega)]; rfl, below_trans HF.out HX.out.2⟩
        · have hltI : ¬ (j : Int) - 1 < 1000 := by omega
          have HQ := Lib.hid (show lngI s x v loop start limit = -1 by rw [HI2.out]; exact idxI_none fun q hq => HX.out.1 q (by rw [HLn.out] at hq; omega))
          obtain rfl : j = 1001 := by omega
          go_wp2_with fail
          go_ret2
          exact ⟨by rw [HE.out.2, HQ.out]; rfl, below_trans HF.out HX.out.2⟩
    · have hE : lngE s x v loop start limit = 1 := by unfold lngE; rw [if_pos h1, if_neg hr]
      have HE := Lib.hid (And.intro hE (show lngV s x v loop start limit = 0 by unfold lngV; rw [if_neg (by rw [hE]; omega)]))
      rw [HE.out.1, HE.out.2]
      have hr2 : ¬ (0 ≤ limit ∧ limit ≤ 1000000) := fun h => hr (inR_iff.2 h)
      clear hE hr hV hends h1 hc hw l0 l1 hst hlen hz HV
      go_enter Tryz.func9, Tryz.ntmps9
      go_wp2_with fail
      obtain ⟨A, hA⟩ : ∃ W' : World, (((w.alloc (.cells s.cells.toArray 29)).alloc (.cells x.cells.toArray 32)).alloc (.cells v.cells.toArray 36)) = W' := ⟨_, rfl⟩
      have h : Has A [(w.heap.size + 1 + 1, .cells v.cells.toArray 36 (0, 0)), (w.heap.size + 1, .cells x.cells.toArray 32 (0, 0)), (w.heap.size, .cells s.cells.toArray 29 (0, 0))] := by rw [← hA]; simpa using ((((Has.nil w).new _).new _).new _)
      have z : A.heap.size = w.heap.size + 1 + 1 + 1 := by rw [← hA]; simp
      have b : Below w.heap.size w A := by rw [← hA]; exact (below_alloc (below_alloc (below_alloc (below_self w) _) _) _)
      rw [hA]
      clear hA
      have HA := Lib.hid b
      clear h z b
      refine (afterref_ok s x v loop start 0 A (HI.out.1.later HA.out) (HI.out.2.1.later HA.out) (HI.out.2.2.later HA.out)).mono ?_
      rintro e B ⟨rfl, hb⟩
      have HB := Lib.hid (below_trans HA.out hb)
      clear hb HA
      rw [H1.out]
      by_cases l0 : 0 ≤ limit
      · have l1 : ¬ limit ≤ 1000000 := fun h => hr2 ⟨l0, h⟩
        clear hr2
        go_wp2_with fail
        go_ret2
        exact ⟨rfl, HB.out⟩
      · clear hr2
        go_wp2_with fail
        go_ret2
        exact ⟨rfl, HB.out⟩
end Go.Proofs.YtmghcinbdfeeoaaGreat
