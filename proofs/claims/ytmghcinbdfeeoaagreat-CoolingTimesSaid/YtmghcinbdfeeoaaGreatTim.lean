/- Chapter 15: cooling.constant, After, Longest. -/
import Derived.Test.YtmghcinbdfeeoaaGreatInts
import Derived.StillTailTactics
import Derived.IntWalk
import Derived.Deep.RegionHeld3
import Derived.Laws.CopyOwn
import Derived.Test.YtmghcinbdfeeoaaGreatCooC
namespace Go.Proofs.YtmghcinbdfeeoaaGreat
open Go Go.RowKit

theorem and_small : ∀ n : Nat, n ≤ 1000 → bits BinOp.and IntKind.u64 n 4294967295 = n := by decide +kernel
theorem and_zero : bits BinOp.and IntKind.u64 0 4294967295 = 0 := by rfl
theorem and_one : bits BinOp.and IntKind.u64 1 4294967295 = 1 := by rfl
theorem u64_in {z : Int} (h : 0 ≤ z) (h2 : z < 18446744073709551616) : IntKind.u64.wrap z = z := by
  unfold IntKind.wrap
  simp [IntKind.bits, IntKind.signed]
  omega
set_option maxHeartbeats 1000000 in
theorem mul64_n (n : Nat) (hn : n ≤ 1000) (w : World) : Calls Tryz.prog 83 #[.int .u64 1, .int .u64 n] w fun e W' => e = .returned (.tuple #[.int .u64 0, .int .u64 n]) ∧ w = W' := by
  go_enter Tryz.func83, Tryz.ntmps83
  go_wp2_with fail
  go_ret2
  have ha := and_small n hn
  have hc : (n : Int) / 4294967296 = 0 := by omega
  have hw := u64_in (z := (n : Int)) (by omega) (by omega)
  have hz := u64_in (z := 0) (by omega) (by omega)
  refine ⟨?_, rfl⟩
  simp [ha, hc, hw, hz, and_one, and_zero]
end Go.Proofs.YtmghcinbdfeeoaaGreat

namespace Go.Proofs.YtmghcinbdfeeoaaGreat
open Go Go.RowKit

set_option maxHeartbeats 1000000 in
theorem mul_n (n : Nat) (hn : n ≤ 1000) (w : World) : Calls Tryz.prog 44 #[.int .u64 1, .int .u64 n] w fun e W' => e = .returned (.tuple #[.int .u64 0, .int .u64 n]) ∧ w = W' := by
  have Hn := Lib.hid hn
  clear hn
  go_enter Tryz.func44, Tryz.ntmps44
  go_wp2_with fail
  refine (mul64_n n Hn.out _).mono ?_
  rintro e W' ⟨rfl, rfl⟩
  go_wp2_with fail
  go_ret2
  exact ⟨rfl, rfl⟩
theorem splice_rep {α : Type} (m c : Nat) (x : α) (rest : List α) (_hc : c ≤ rest.length) : splice (List.replicate m x ++ rest) m (List.replicate c x) = List.replicate (m + c) x ++ rest.drop c := by
  unfold splice
  rw [List.take_left' (by simp), List.length_replicate, List.drop_append, List.drop_of_length_le (by simp), List.length_replicate]
  rw [List.nil_append, ← List.append_assoc, List.replicate_append_replicate]
  congr 2
  omega

theorem copy_pos {cs : List Value} {X : World} {g m : Nat} (h : ∀ j v, cs[j]? = some v → X.cell? ((⟨g, 0, none⟩ : Addr).add j) = some v) : 0 < cs.length → (some ⟨g, m, none⟩ : Option Addr) = some ⟨g, m, none⟩ ∧ ∃ ad, (some ⟨g, 0, none⟩ : Option Addr) = some ad ∧ ∀ j v, cs[j]? = some v → X.cell? (ad.add j) = some v := fun _ => ⟨rfl, _, rfl, h⟩

/-- The loop's memory: the new row, m loads of it laid. -/
structure RP (w : World) (z : Int) (n m : Nat) (X : World) : Prop where
  row : ∃ rest, X.heap[w.heap.size]? = some (.cells (List.replicate m (Value.int .i64 z) ++ rest).toArray 3 (0, 0)) ∧ m + rest.length = n
  below : Below w.heap.size w X

set_option maxRecDepth 100000 in
set_option maxHeartbeats 2000000 in
theorem repeat_pos (g0 o0 n : Nat) (z : Int) (w : World) (hn0 : 1 ≤ n) (hn1 : n ≤ 1000) (hm : w.cell? ⟨g0, o0, none⟩ = some (.int .i64 z)) :
    Calls Tryz.prog 25 #[.slice (some ⟨g0, o0, none⟩) 1 1, .int .i64 n] w fun e W' => ∃ v, e = .returned v ∧ OwnI w.heap.size W' v (List.replicate n z) ∧ Below w.heap.size w W' := by
  have Hm := Lib.hid hm
  have HN := Lib.hid (And.intro hn0 hn1)
  have hu := u64_in (z := (n : Int)) (by omega) (by omega)
  have hi6 : IntKind.i64.wrap (n : Int) = n := IntWalk.i64_in _ (by omega)
  clear hm
  obtain ⟨i0, hi, hz0, hz1, hz2⟩ := info_parts info3
  go_enter Tryz.func25, Tryz.ntmps25
  go_wp2_with fail
  refine (mul_n n HN.out.2 _).mono ?_
  rintro e W' ⟨rfl, rfl⟩
  go_wp2_with (with_reducible refine wpList_make_row rfl 47 _ _ rfl 3 i0 _ 1 8 Tryz.underlying47 hi hz0 hz1 hz2 n _ rfl rfl ?a2 ?a3 ?a4 ?_)
  case a2 => rfl
  case a3 => omega
  case a4 => omega
  intro W4 h4 hb4 hs4
  have h4' : W4.heap[w.heap.size]? = some (.cells (madeCells #[Value.int .i64 0] n).toList.toArray 3 (0, 0)) := by rw [Array.toArray_toList]; exact h4.out
  have hlen : (madeCells #[Value.int .i64 0] n).toList.length = n := made_length _ _
  generalize (madeCells #[Value.int .i64 0] n).toList = cur at h4' hlen
  have H4 := Lib.hid (And.intro h4' (And.intro hb4 hlen))
  clear h4 h4' hb4 hlen hs4 hi hz0 hz1 hz2
  go_wp2_with (with_reducible refine wpList_copy_k rfl _ _ _ _ rfl 3 1 Tryz.underlying47 (by kernel_rfl) _ _ _ _ _ _ rfl rfl w.heap.size 0 cur 3 H4.out.1 [.int .i64 z] (by decide) ?b1 ?b2 ?b3 ?b4 ?_)
  case b1 => show 1 = min 1 n * 1; omega
  case b2 =>
    intro j v hv
    cases j with
    | zero =>
      simp at hv
      subst hv
      exact (H4.out.2.1.cell (p := ⟨g0, o0, none⟩) (World.block_lt_of_cell? w _ Hm.out)).trans Hm.out
    | succ j => simp at hv
  case b3 => rw [H4.out.2.2]; simpa using HN.out.1
  case b4 => simp [Value.oneCell']
  intro W5 hr5 hb5
  have hrp : RP w z n 1 W5 := by
    refine ⟨⟨cur.drop 1, ?_, ?_⟩, hb5.below H4.out.2.1 (Nat.le_refl _)⟩
    · rw [hr5.out]
      simp [splice]
    · rw [List.length_drop, H4.out.2.2]
      have := HN.out.1
      omega
  have HRP := Lib.hid hrp
  clear hr5 hb5 hrp H4
  go_wp2_with fail
  go_loopw [8] (fun i wr => ∃ (m : Nat) (X : World), (1 ≤ m ∧ m ≤ n) ∧ i = .int .i64 m ∧ X = wr ∧ Hid (RP w z n m X)) (fun i _ => n - (intOf i).toNat)
  case atStart => exact ⟨1, _, ⟨by omega, by omega⟩, rfl, rfl, HRP⟩
  case round =>
    clear HRP
    obtain ⟨m, X, ⟨hm1, hm2⟩, rfl, rfl, Hr⟩ := hrel
    by_cases hlt : m < n
    · obtain ⟨rest, hrow, hlen⟩ := Hr.out.row
      obtain ⟨c, hc⟩ : ∃ c, Nat.min m (n - m) = c := ⟨_, rfl⟩
      have hc1 : c ≤ n - m := by rw [← hc]; exact Nat.min_le_right _ _
      have hc2 : c ≤ m := by rw [← hc]; exact Nat.min_le_left _ _
      have hc3 : 1 ≤ c := by rw [← hc]; exact Nat.le_min.2 ⟨hm1, by omega⟩
      have hn : (List.replicate c (Value.int .i64 z)).length = Nat.min m (n - m) := by rw [hc, List.length_replicate]
      have hg : X.drew.heap[w.heap.size]? = some (.cells (List.replicate m (Value.int .i64 z) ++ rest).toArray 3 (0, 0)) := hrow
      have hbl : Below w.heap.size w X.drew := Hr.out.below.drew
      have hpos : ∀ j v, (List.replicate c (Value.int .i64 z))[j]? = some v → X.drew.cell? ((⟨w.heap.size, 0, none⟩ : Addr).add j) = some v := by
        intro j v hv
        have hj : j < c := by have := (List.getElem?_eq_some_iff.1 hv).1; simpa using this
        have hv2 : v = .int .i64 z := by
          have := (List.getElem?_eq_some_iff.1 hv).2
          simpa using this.symm
        subst hv2
        rw [Addr.add_mid, blk_cell hg, Nat.zero_add, List.getElem?_toArray, List.getElem?_append_left (by rw [List.length_replicate]; omega), List.getElem?_replicate, if_pos (by omega)]
      have hfit : m + (List.replicate c (Value.int .i64 z)).length ≤ (List.replicate m (Value.int .i64 z) ++ rest).length := by simp; omega
      have h1c : ∀ v ∈ List.replicate c (Value.int .i64 z), v.oneCell' = true := by
        intro v hv
        obtain ⟨_, rfl⟩ := List.mem_replicate.1 hv
        rfl
      have HH := Lib.hid (And.intro hn (And.intro hpos (And.intro hfit (And.intro h1c (And.intro hg (And.intro hbl hlen))))))
      have hmI : (m : Int) ≤ n := by omega
      have hne : ¬ n = m := by omega
      have hmI0 : (0 : Int) ≤ (m : Int) := by omega
      have hwr : IntKind.i64.wrap ((m : Int) + (c : Int)) = (m : Int) + (c : Int) := IntWalk.i64_in _ ⟨by omega, by omega⟩
      clear hn hpos hfit h1c hg hbl hlen hrow hc Hr
      go_wp2_with fail
      go_region_held3 (fun _ => True) (trivial)
        ((refine step_copy_splice (by rfl) (.tmp 41) (.tmp 44) 47 47 (by rfl) 3 Tryz.underlying47 (by kernel_rfl) (some ⟨w.heap.size, m, none⟩) (some ⟨w.heap.size, 0, none⟩) (n - m) (n - m) m n (by rfl) (by rfl) w.heap.size m (List.replicate m (Value.int .i64 z) ++ rest) 3 HH.out.2.2.2.2.1 (List.replicate c (Value.int .i64 z)) HH.out.1 (copy_pos HH.out.2.1) HH.out.2.2.1 HH.out.2.2.2.1 w.heap.size w HH.out.2.2.2.2.2.1 (Nat.le_refl _) ?_; intro W6 hrow6 hb6))
      have hrp : RP w z n (m + c) W6 := by
        refine ⟨⟨rest.drop c, ?_, ?_⟩, hb6⟩
        · rw [hrow6.out, splice_rep m c _ rest (by have := HH.out.2.2.2.2.2.2; omega)]
        · rw [List.length_drop]; have := HH.out.2.2.2.2.2.2; omega
      have HRP := Lib.hid hrp
      clear hrow6 hb6 hrp HH
      go_wp2_with fail
      go_roundw
      case rel => exact ⟨m + c, _, ⟨by omega, by omega⟩, by go_num, rfl, HRP⟩
      case measure => simp [intOf]; omega
    · have hm300 : m = n := by omega
      have hfin : OwnI w.heap.size X (.slice (some ⟨w.heap.size, 0, none⟩) n n) (List.replicate n z) ∧ Below w.heap.size w X := by
        obtain ⟨rest, hrow, hlen⟩ := Hr.out.row
        rw [hm300] at hrow hlen
        obtain rfl : rest = [] := List.eq_nil_of_length_eq_zero (by omega)
        refine ⟨?_, Hr.out.below⟩
        unfold OwnI
        have e : intsV (List.replicate n z) = List.replicate n (Value.int .i64 z) := by unfold intsV; rw [List.map_replicate]
        rw [e, List.length_replicate]
        rw [List.append_nil] at hrow
        exact owns_of_blk hrow (Nat.le_refl _) (by rw [List.length_replicate]; omega) (by unfold maxLen; omega)
      have HF := Lib.hid hfin
      clear hfin Hr hm300
      go_wp2_with fail
      go_ret
      exact ⟨_, rfl, HF.out⟩

set_option maxRecDepth 100000 in
set_option maxHeartbeats 2000000 in
theorem repeat_zero (g0 o0 : Nat) (w : World) :
    Calls Tryz.prog 25 #[.slice (some ⟨g0, o0, none⟩) 1 1, .int .i64 0] w fun e W' => ∃ v, e = .returned v ∧ OwnI w.heap.size W' v [] ∧ Below w.heap.size w W' := by
  obtain ⟨i0, hi, hz0, hz1, hz2⟩ := info_parts info3
  go_enter Tryz.func25, Tryz.ntmps25
  go_wp2_with fail
  refine (mul_n 0 (by omega) _).mono ?_
  rintro e W' ⟨rfl, rfl⟩
  go_wp2_with (with_reducible refine wpList_make_row rfl 47 _ _ rfl 3 i0 _ 1 8 Tryz.underlying47 hi hz0 hz1 hz2 0 _ rfl rfl ?a2 ?a3 ?a4 ?_)
  case a2 => rfl
  case a3 => omega
  case a4 => omega
  intro W4 h4 hb4 hs4
  have h4' : W4.heap[w.heap.size]? = some (.cells (madeCells #[Value.int .i64 0] 0).toList.toArray 3 (0, 0)) := by rw [Array.toArray_toList]; exact h4.out
  have hlen : (madeCells #[Value.int .i64 0] 0).toList.length = 0 := made_length _ _
  generalize (madeCells #[Value.int .i64 0] 0).toList = cur at h4' hlen
  obtain rfl : cur = [] := List.eq_nil_of_length_eq_zero hlen
  have H4 := Lib.hid (And.intro h4' hb4)
  clear h4 h4' hb4 hlen hs4 hi hz0 hz1 hz2
  go_wp2_with (with_reducible refine wpList_copy_k rfl _ _ _ _ rfl 3 1 Tryz.underlying47 (by kernel_rfl) _ _ _ _ _ _ rfl rfl w.heap.size 0 [] 3 H4.out.1 [] (by decide) ?b1 ?b2 ?b3 ?b4 ?_)
  case b1 => rfl
  case b3 => simp
  case b4 => simp
  intro W5 hr5 hb5
  have hf : OwnI w.heap.size W5 (.slice (some ⟨w.heap.size, 0, none⟩) 0 0) [] ∧ Below w.heap.size w W5 := by
    refine ⟨?_, hb5.below H4.out.2 (Nat.le_refl _)⟩
    unfold OwnI
    exact owns_of_blk (by simpa [splice, intsV] using hr5.out) (Nat.le_refl _) rfl (by unfold maxLen; omega)
  have HF := Lib.hid hf
  clear hr5 hb5 hf H4
  go_wp2_with fail
  go_loopw [8] (fun i wr => ∃ X : World, i = .int .i64 0 ∧ X = wr ∧ Hid (OwnI w.heap.size X (.slice (some ⟨w.heap.size, 0, none⟩) 0 0) [] ∧ Below w.heap.size w X)) (fun _ _ => 0)
  case atStart => exact ⟨_, rfl, rfl, HF⟩
  case round =>
    clear HF
    obtain ⟨X, rfl, rfl, HX⟩ := hrel
    go_wp2_with fail
    go_ret
    exact ⟨_, rfl, HX.out⟩

theorem repeat_ok (g0 o0 n : Nat) (z : Int) (w : World) (hn1 : n ≤ 1000) (hm : w.cell? ⟨g0, o0, none⟩ = some (.int .i64 z)) :
    Calls Tryz.prog 25 #[.slice (some ⟨g0, o0, none⟩) 1 1, .int .i64 n] w fun e W' => ∃ v, e = .returned v ∧ OwnI w.heap.size W' v (List.replicate n z) ∧ Below w.heap.size w W' := by
  by_cases h : n = 0
  · subst h
    exact repeat_zero g0 o0 w
  · exact repeat_pos g0 o0 n z w (by omega) hn1 hm
end Go.Proofs.YtmghcinbdfeeoaaGreat

namespace Go.Proofs.YtmghcinbdfeeoaaGreat
open Go Go.RowKit
set_option linter.unusedSimpArgs false

/-- Whether constant's arguments are valid. -/
def conOk (s : Site) (x : Wish) (v : Wld) (loop start n : Int) : Bool := worldOk s x v && (decide (0 ≤ loop) && (decide (loop < s.loops.length) && (inR start 0 1000000 && inR n 0 1000)))
def conE (s : Site) (x : Wish) (v : Wld) (loop start n : Int) : Int := if conOk s x v loop start n = true then couE s loop start (List.replicate n.toNat (heat s x v loop)) n else 1
def conV (s : Site) (x : Wish) (v : Wld) (loop start n : Int) : List Int := if conOk s x v loop start n = true then couV s loop start (List.replicate n.toNat (heat s x v loop)) n else []

theorem ownI_reads {base : Nat} {W : World} {u : Value} {xs : List Int} (h : OwnI base W u xs) {n : Nat} (hn : xs.length = n) : ∃ a cap, u = .slice a n cap ∧ Reads W (a, n, cap) 1 xs.length (Ints xs) := by
  subst hn
  obtain ⟨a', cap', he, h5, h6⟩ := owns_shape h
  obtain ⟨a, cap, rfl, h1, h2, h3⟩ := h.full
  injection he with e1 e2 e3
  exact ⟨a, cap, rfl, rfl, ⟨h1, by rw [e3]; exact h6, h2⟩, h3⟩
theorem cool_ok' (s : Site) (loop start : Int) (a : Option Addr) (m cap : Nat) (hs : List Int) (n : Int) (w : World) (hat : s.At w) (hh : Reads w (a, m, cap) 1 hs.length (Ints hs)) :
    Calls Tryz.prog 24 #[s.val, .int .i64 loop, .int .i64 start, .slice a m cap, .int .i64 n] w fun e W' => ∃ v, e = .returned (.tuple #[v, .int .i64 (couE s loop start hs n)]) ∧ OwnI w.heap.size W' v (couV s loop start hs n) ∧ Below w.heap.size w W' := cool_ok s loop start (a, m, cap) hs n w hat hh
set_option maxHeartbeats 4000000 in
theorem constant_ok (s : Site) (x : Wish) (v : Wld) (loop start n : Int) (w : World) (hs : s.At w) (hx : x.At w) (hv : v.At w) :
    Calls Tryz.prog 14 #[s.val, x.val, v.val, .int .i64 loop, .int .i64 start, .int .i64 n] w fun e W' => ∃ u, e = .returned (.tuple #[u, .int .i64 (conE s x v loop start n)]) ∧ OwnI w.heap.size W' u (conV s x v loop start n) ∧ Below w.heap.size w W' := by
  have HI := Lib.hid (And.intro hs (And.intro hx hv))
  have hN : s.loops.length = s.lh.2.1 := hs.loops.len
  have hNl := hs.loops.le
  have HN := Lib.hid hN
  clear hs hx hv hN
  cases hc : conOk s x v loop start n
  · have HE := Lib.hid (show conE s x v loop start n = 1 by unfold conE; rw [if_neg (by simp [hc])])
    have HV := Lib.hid (show conV s x v loop start n = [] by unfold conV; rw [if_neg (by simp [hc])])
    have HC := Lib.hid hc
    rw [HE.out, HV.out]
    clear hc
    go_enter Tryz.func14, Tryz.ntmps14
    go_wp2_with fail
    obtain ⟨A, hA⟩ : ∃ W' : World, (((w.alloc (.cells s.cells.toArray 29)).alloc (.cells x.cells.toArray 32)).alloc (.cells v.cells.toArray 36)) = W' := ⟨_, rfl⟩
    have h : Has A [(w.heap.size + 1 + 1, .cells v.cells.toArray 36 (0, 0)), (w.heap.size + 1, .cells x.cells.toArray 32 (0, 0)), (w.heap.size, .cells s.cells.toArray 29 (0, 0))] := by rw [← hA]; simpa using ((((Has.nil w).new _).new _).new _)
    have z : A.heap.size = w.heap.size + 1 + 1 + 1 := by rw [← hA]; simp
    have b : Below w.heap.size w A := by rw [← hA]; exact (below_alloc (below_alloc (below_alloc (below_self w) _) _) _)
    rw [hA]
    clear hA
    have HZ := Lib.hid (show A.heap[w.heap.size]? = some (.cells s.cells.toArray 29 (0, 0)) ∧ A.heap[w.heap.size + 1]? = some (.cells x.cells.toArray 32 (0, 0)) ∧ A.heap[w.heap.size + 1 + 1]? = some (.cells v.cells.toArray 36 (0, 0)) ∧ Below w.heap.size w A from ⟨h.tl.tl.hd, h.tl.hd, h.hd, b⟩)
    clear h z b
    refine (world_ok s x v A (HI.out.1.later HZ.out.2.2.2) (HI.out.2.1.later HZ.out.2.2.2) (HI.out.2.2.later HZ.out.2.2.2)).mono ?_
    rintro e B ⟨rfl, hb⟩
    have HB := Lib.hid (And.intro (blk_below HZ.out.1 hb) (And.intro (blk_below HZ.out.2.1 hb) (And.intro (blk_below HZ.out.2.2.1 hb) (below_trans HZ.out.2.2.2 hb))))
    clear hb HZ
    have d2 : B.cell? ⟨w.heap.size, 2, none⟩ = some (.slice s.lh.1 s.lh.2.1 s.lh.2.2) := (blk_cell HB.out.1 2).trans rfl
    have dl := blk_lt HB.out.1
    cases hok : worldOk s x v
    · clear hok
      go_wp2_with fail
      go_ret2
      exact ⟨_, rfl, OwnI.nil _ _, HB.out.2.2.2⟩
    · have HO := Lib.hid hok
      clear hok
      by_cases l0 : 0 ≤ loop
      · by_cases l1 : loop < (s.lh.2.1 : Int)
        · by_cases s0 : 0 ≤ start
          · by_cases s1 : start ≤ 1000000
            · by_cases n0 : 0 ≤ n
              · by_cases n1 : n ≤ 1000
                · exact absurd HC.out (by unfold conOk; rw [HO.out, decide_eq_true l0, decide_eq_true (p := loop < (s.loops.length : Int)) (by rw [HN.out]; exact l1), inR_iff.2 ⟨s0, s1⟩, inR_iff.2 ⟨n0, n1⟩]; simp)
                · go_wp2_with fail
                  go_ret2
                  exact ⟨_, rfl, OwnI.nil _ _, HB.out.2.2.2⟩
              · go_wp2_with fail
                go_ret2
                exact ⟨_, rfl, OwnI.nil _ _, HB.out.2.2.2⟩
            · go_wp2_with fail
              go_ret2
              exact ⟨_, rfl, OwnI.nil _ _, HB.out.2.2.2⟩
          · go_wp2_with fail
            go_ret2
            exact ⟨_, rfl, OwnI.nil _ _, HB.out.2.2.2⟩
        · go_wp2_with fail
          go_ret2
          exact ⟨_, rfl, OwnI.nil _ _, HB.out.2.2.2⟩
      · go_wp2_with fail
        go_ret2
        exact ⟨_, rfl, OwnI.nil _ _, HB.out.2.2.2⟩
  · have HE := Lib.hid (show conE s x v loop start n = couE s loop start (List.replicate n.toNat (heat s x v loop)) n by unfold conE; rw [if_pos hc])
    have HV := Lib.hid (show conV s x v loop start n = couV s loop start (List.replicate n.toNat (heat s x v loop)) n by unfold conV; rw [if_pos hc])
    rw [HE.out, HV.out]
    have hc' := hc
    unfold conOk at hc'
    simp only [Bool.and_eq_true, decide_eq_true_eq] at hc'
    obtain ⟨hw, l0, l1, h1, h2⟩ := hc'
    have h1 := inR_iff.1 h1
    have h2 := inR_iff.1 h2
    rw [HN.out] at l1
    obtain ⟨k, rfl⟩ : ∃ k : Nat, n = k := ⟨n.toNat, by omega⟩
    have hk : k ≤ 1000 := by omega
    have HW := Lib.hid hw
    have HK := Lib.hid (show List.replicate (k : Int).toNat (heat s x v loop) = List.replicate k (heat s x v loop) by simp)
    rw [HK.out]
    clear hc hw h2
    obtain ⟨g, hg⟩ : ∃ g, heat s x v loop = g := ⟨_, rfl⟩
    rw [hg] at HE HV HK ⊢
    have HG := Lib.hid hg
    clear hg
    go_enter Tryz.func14, Tryz.ntmps14
    go_wp2_with fail
    obtain ⟨A, hA⟩ : ∃ W' : World, (((w.alloc (.cells s.cells.toArray 29)).alloc (.cells x.cells.toArray 32)).alloc (.cells v.cells.toArray 36)) = W' := ⟨_, rfl⟩
    have h : Has A [(w.heap.size + 1 + 1, .cells v.cells.toArray 36 (0, 0)), (w.heap.size + 1, .cells x.cells.toArray 32 (0, 0)), (w.heap.size, .cells s.cells.toArray 29 (0, 0))] := by rw [← hA]; simpa using ((((Has.nil w).new _).new _).new _)
    have z : A.heap.size = w.heap.size + 1 + 1 + 1 := by rw [← hA]; simp
    have b : Below w.heap.size w A := by rw [← hA]; exact (below_alloc (below_alloc (below_alloc (below_self w) _) _) _)
    rw [hA]
    clear hA
    have HZ := Lib.hid (show A.heap[w.heap.size]? = some (.cells s.cells.toArray 29 (0, 0)) ∧ A.heap[w.heap.size + 1]? = some (.cells x.cells.toArray 32 (0, 0)) ∧ A.heap[w.heap.size + 1 + 1]? = some (.cells v.cells.toArray 36 (0, 0)) ∧ Below w.heap.size w A from ⟨h.tl.tl.hd, h.tl.hd, h.hd, b⟩)
    clear h z b
    refine (world_ok s x v A (HI.out.1.later HZ.out.2.2.2) (HI.out.2.1.later HZ.out.2.2.2) (HI.out.2.2.later HZ.out.2.2.2)).mono ?_
    rintro e B ⟨rfl, hb⟩
    have HB := Lib.hid (And.intro (blk_below HZ.out.1 hb) (And.intro (blk_below HZ.out.2.1 hb) (And.intro (blk_below HZ.out.2.2.1 hb) (below_trans HZ.out.2.2.2 hb))))
    clear hb HZ
    have hkk : ∀ W, Below B.heap.size B W → W.cell? ⟨w.heap.size, 0, none⟩ = some (.slice s.fh.1 s.fh.2.1 s.fh.2.2) ∧ W.cell? ⟨w.heap.size, 1, none⟩ = some (.slice s.bh.1 s.bh.2.1 s.bh.2.2) ∧ W.cell? ⟨w.heap.size, 2, none⟩ = some (.slice s.lh.1 s.lh.2.1 s.lh.2.2) ∧ W.cell? ⟨w.heap.size, 3, none⟩ = some (.slice s.rh.1 s.rh.2.1 s.rh.2.2) ∧ W.cell? ⟨w.heap.size, 4, none⟩ = some (.int .i64 s.switches) ∧ W.cell? ⟨w.heap.size, 5, none⟩ = some (.slice s.kh.1 s.kh.2.1 s.kh.2.2) ∧ W.cell? ⟨w.heap.size, 6, none⟩ = some (.slice s.hh.1 s.hh.2.1 s.hh.2.2) ∧ W.cell? ⟨w.heap.size + 1, 0, none⟩ = some (.slice x.sh.1 x.sh.2.1 x.sh.2.2) ∧ W.cell? ⟨w.heap.size + 1 + 1, 0, none⟩ = some (.slice v.hh.1 v.hh.2.1 v.hh.2.2) ∧ W.cell? ⟨w.heap.size + 1 + 1, 1, none⟩ = some (.slice v.rh.1 v.rh.2.1 v.rh.2.2) := fun W hb => ⟨(blk_cell (blk_below HB.out.1 hb) 0).trans rfl, (blk_cell (blk_below HB.out.1 hb) 1).trans rfl, (blk_cell (blk_below HB.out.1 hb) 2).trans rfl, (blk_cell (blk_below HB.out.1 hb) 3).trans rfl, (blk_cell (blk_below HB.out.1 hb) 4).trans rfl, (blk_cell (blk_below HB.out.1 hb) 5).trans rfl, (blk_cell (blk_below HB.out.1 hb) 6).trans rfl, (blk_cell (blk_below HB.out.2.1 hb) 0).trans rfl, (blk_cell (blk_below HB.out.2.2.1 hb) 0).trans rfl, (blk_cell (blk_below HB.out.2.2.1 hb) 1).trans rfl⟩
    have d2 : B.cell? ⟨w.heap.size, 2, none⟩ = some (.slice s.lh.1 s.lh.2.1 s.lh.2.2) := (blk_cell HB.out.1 2).trans rfl
    have dl := blk_lt HB.out.1
    have dm := blk_lt HB.out.2.1
    have dn := blk_lt HB.out.2.2.1
    have HS := Lib.hid hkk
    clear hkk
    rw [HW.out]
    go_wp2_with fail
    have bX : Below B.heap.size B B.drew := (below_self B).drew
    go_region_held3 (fun W => W.cell? ⟨w.heap.size, 0, none⟩ = some (.slice s.fh.1 s.fh.2.1 s.fh.2.2) ∧ W.cell? ⟨w.heap.size, 1, none⟩ = some (.slice s.bh.1 s.bh.2.1 s.bh.2.2) ∧ W.cell? ⟨w.heap.size, 2, none⟩ = some (.slice s.lh.1 s.lh.2.1 s.lh.2.2) ∧ W.cell? ⟨w.heap.size, 3, none⟩ = some (.slice s.rh.1 s.rh.2.1 s.rh.2.2) ∧ W.cell? ⟨w.heap.size, 4, none⟩ = some (.int .i64 s.switches) ∧ W.cell? ⟨w.heap.size, 5, none⟩ = some (.slice s.kh.1 s.kh.2.1 s.kh.2.2) ∧ W.cell? ⟨w.heap.size, 6, none⟩ = some (.slice s.hh.1 s.hh.2.1 s.hh.2.2) ∧ W.cell? ⟨w.heap.size + 1, 0, none⟩ = some (.slice x.sh.1 x.sh.2.1 x.sh.2.2) ∧ W.cell? ⟨w.heap.size + 1 + 1, 0, none⟩ = some (.slice v.hh.1 v.hh.2.1 v.hh.2.2) ∧ W.cell? ⟨w.heap.size + 1 + 1, 1, none⟩ = some (.slice v.rh.1 v.rh.2.1 v.rh.2.2))
      (exact HS.out _ (by first | assumption | exact below_alloc (by assumption) _))
      (first
        | (go_at_call 24; (with_reducible refine (cool_ok' s loop start a3 k c3 (List.replicate k g) k _ (HI.out.1.later (below_trans HB.out.2.2.2 bR)) hR3).mono ?_); rintro e W9 ⟨u, rfl, ho9, b9⟩; have bC := below_trans bR b9)
        | (go_at_call 25; (with_reducible refine (repeat_ok _ 0 k g _ hk (blk_cell (heap_alloc_new _ _) 0)).mono ?_); rintro e W3 ⟨u3, rfl, ho3, b3⟩; obtain ⟨a3, c3, rfl, hR3⟩ := ownI_reads ho3 (n := k) (by simp); have bR := below_trans (below_alloc bH _) b3)
        | (go_at_call 13; (with_reducible refine (heat_ok s x v loop _ (HI.out.1.later (below_trans HB.out.2.2.2 bX)) (HI.out.2.1.later (below_trans HB.out.2.2.2 bX)) (HI.out.2.2.later (below_trans HB.out.2.2.2 bX))).mono ?_); rintro e W2 ⟨rfl, b2⟩; rw [HG.out]; have bH := below_trans bX b2))
    have HF := Lib.hid (And.intro (owns_base ho9 (below_trans HB.out.2.2.2 bR).size) (below_trans HB.out.2.2.2 bC))
    clear ho9 bC bR b9 b3 bH b2 bX hR3 HS
    go_wp2_with fail
    go_ret2
    exact ⟨_, rfl, HF.out⟩

theorem con_len {s : Site} {x : Wish} {v : Wld} {loop start n : Int} (h : conE s x v loop start n = 0) : 0 ≤ n ∧ n ≤ 1000 ∧ (conV s x v loop start n).length = n.toNat + 1 := by
  unfold conE at h
  by_cases hc : conOk s x v loop start n = true
  · rw [if_pos hc] at h
    have e1 : conV s x v loop start n = couV s loop start (List.replicate n.toNat (heat s x v loop)) n := if_pos hc
    rw [e1]
    unfold couE at h
    by_cases hL : lineE s loop = true
    · rw [if_pos hL] at h
      have e2 : couV s loop start (List.replicate n.toNat (heat s x v loop)) n = courseV (lCar s loop) (lPs s loop) [List.replicate n.toNat (heat s x v loop)] start n := if_pos hL
      rw [e2]
      obtain ⟨_, _, _, _, h0, h1⟩ := asked_zero h
      refine ⟨h0, h1, ?_⟩
      unfold courseV
      rw [if_pos h, levs_len]
    · rw [if_neg hL] at h
      omega
  · rw [if_neg hc] at h
    omega
/-- What After returns. -/
def aftV (s : Site) (x : Wish) (v : Wld) (loop start n : Int) : Int := if conE s x v loop start n = 0 then (conV s x v loop start n).getD n.toNat default else 0

end Go.Proofs.YtmghcinbdfeeoaaGreat
