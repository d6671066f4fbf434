/- Chapter 07: the iterator over the states: tick, states, its body. -/
import Derived.Shelf.Abstract
import Derived.Shelf.RegionOpen
import Derived.OwnWalkIn
import Derived.TacticsInMore
import Derived.LoopNIn
import Derived.LoopIn
import Derived.RangeFuncLeaves
import Derived.RangeFuncBox
import Derived.Maps.OwnIn
import Derived.Laws.EntriesVeiled
import Derived.Test.YtojpbmaojbejjaaRefSmall
import Derived.Test.YtojpbmaojbejjaaLib
namespace Go.Proofs.Ytojpbmaojbejjaa
open Go Go.RowKit Go.Shelf
attribute [local go_sem] Oper.semAt_some

theorem ButRow.set (g o : Nat) (W : World) (u : Value) : ButRow g W (W.setCell ⟨g, o, none⟩ u) :=
  ⟨rfl, rfl, rfl, by simp, fun k hk => Below.heap_setCell W _ u k hk⟩
theorem ButRow.refl (g : Nat) (W : World) : ButRow g W W := ⟨rfl, rfl, rfl, rfl, fun _ _ => rfl⟩
theorem ButRow.trans {g : Nat} {W W1 W2 : World} (h : ButRow g W W1) (k : ButRow g W1 W2) : ButRow g W W2 :=
  ⟨k.os.trans h.os, k.tape.trans h.tape, k.output.trans h.output, k.size.trans h.size, fun j hj => (k.block j hj).trans (h.block j hj)⟩
theorem st_set {W : World} {g : Nat} {s : BSt} (h : W.heap[g]? = some (.cells s.cells.toArray 37 (0, 0))) (x : Int) :
    (W.setCell ⟨g, 0, none⟩ (.int .i64 x)).heap[g]? = some (.cells (BSt.cells ⟨x, s.trip⟩).toArray 37 (0, 0)) := by
  simp [World.setCell, Array.getElem?_modify, h]
theorem st_set2 {W : World} {g : Nat} {s : BSt} (h : W.heap[g]? = some (.cells s.cells.toArray 37 (0, 0))) (x : Int) (t : Bool) :
    ((W.setCell ⟨g, 0, none⟩ (.int .i64 x)).setCell ⟨g, 1, none⟩ (.bool t)).heap[g]? = some (.cells (BSt.cells ⟨x, t⟩).toArray 37 (0, 0)) := by
  simp [World.setCell, Array.getElem?_modify, h]

set_option maxHeartbeats 1000000 in
theorem tick_ok (b : Brk) (s : BSt) (x : Int) (gs gb : Nat) (W : World) (hs : W.heap[gs]? = some (.cells s.cells.toArray 37 (0, 0))) (hb : W.heap[gb]? = some (.cells b.cells.toArray 23 (0, 0)))
    (h0 : 0 ≤ s.heat) (h1 : s.heat ≤ 100000000) (x0 : 0 ≤ x) (x1 : x ≤ 100000000) (l0 : 0 ≤ b.limit) (l1 : b.limit ≤ 1000000) (sl : b.slow ≤ 1000000) :
    Calls Try.prog 53 #[.int .i64 x, .pointer (some ⟨gs, 0, none⟩), .pointer (some ⟨gb, 0, none⟩)] W fun e W' => (∃ v, e = .returned v) ∧ W'.heap[gs]? = some (.cells (aft b s x).cells.toArray 37 (0, 0)) ∧ ButRow gs W W' := by
  have Hs := Lib.hid hs
  have k1 := blk_cell hb 1
  have k2 := blk_cell hb 2
  have k3 := blk_cell hb 3
  have q0 := blk_frozen hs 0
  have q1 := blk_frozen hs 1
  have c0 := blk_cell hs 0
  have c5 := blk_cell hs 1
  obtain ⟨heat, trip⟩ := s
  simp only at h0 h1
  simp at k1 k2 k3 c0 c5
  clear hs hb
  cases trip
  · by_cases c1 : b.limit < heat + x
    · by_cases c2 : heat + x - b.limit ≤ 100000000
      · skip
        by_cases c3 : b.fast < x
        · rw [aft_eq (M := heat + x - b.limit) (N := heat + x - b.limit) (B := true) (by omega) (by omega) (decide_eq_true (.inl c3))]
          go_enter Try.func53, Try.ntmps53
          go_wp2_with fail
          go_end0
          exact ⟨⟨_, rfl⟩, st_set2 Hs.out _ _, (ButRow.set _ _ _ _).trans (ButRow.set _ _ _ _)⟩
        · by_cases c4 : b.slow < heat + x - b.limit
          · rw [aft_eq (M := heat + x - b.limit) (N := heat + x - b.limit) (B := true) (by omega) (by omega) (decide_eq_true (.inr c4))]
            go_enter Try.func53, Try.ntmps53
            go_wp2_with fail
            go_end0
            exact ⟨⟨_, rfl⟩, st_set2 Hs.out _ _, (ButRow.set _ _ _ _).trans (ButRow.set _ _ _ _)⟩
          · rw [aft_eq (M := heat + x - b.limit) (N := heat + x - b.limit) (B := false) (by omega) (by omega) (decide_eq_false (by omega))]
            go_enter Try.func53, Try.ntmps53
            go_wp2_with fail
            go_end0
            exact ⟨⟨_, rfl⟩, st_set Hs.out _, ButRow.set _ _ _ _⟩
      · skip
        by_cases c3 : b.fast < x
        · rw [aft_eq (M := heat + x - b.limit) (N := 100000000) (B := true) (by omega) (by omega) (decide_eq_true (.inl c3))]
          go_enter Try.func53, Try.ntmps53
          go_wp2_with fail
          go_end0
          exact ⟨⟨_, rfl⟩, st_set2 Hs.out _ _, (ButRow.set _ _ _ _).trans (ButRow.set _ _ _ _)⟩
        · by_cases c4 : b.slow < heat + x - b.limit
          · rw [aft_eq (M := heat + x - b.limit) (N := 100000000) (B := true) (by omega) (by omega) (decide_eq_true (.inr c4))]
            go_enter Try.func53, Try.ntmps53
            go_wp2_with fail
            go_end0
            exact ⟨⟨_, rfl⟩, st_set2 Hs.out _ _, (ButRow.set _ _ _ _).trans (ButRow.set _ _ _ _)⟩
          · exfalso; omega
    · skip
      by_cases c3 : b.fast < x
      · rw [aft_eq (M := 0) (N := 0) (B := true) (by omega) (by omega) (decide_eq_true (.inl c3))]
        go_enter Try.func53, Try.ntmps53
        go_wp2_with fail
        go_end0
        exact ⟨⟨_, rfl⟩, st_set2 Hs.out _ _, (ButRow.set _ _ _ _).trans (ButRow.set _ _ _ _)⟩
      · by_cases c4 : b.slow < 0
        · rw [aft_eq (M := 0) (N := 0) (B := true) (by omega) (by omega) (decide_eq_true (.inr c4))]
          go_enter Try.func53, Try.ntmps53
          go_wp2_with fail
          go_end0
          exact ⟨⟨_, rfl⟩, st_set2 Hs.out _ _, (ButRow.set _ _ _ _).trans (ButRow.set _ _ _ _)⟩
        · rw [aft_eq (M := 0) (N := 0) (B := false) (by omega) (by omega) (decide_eq_false (by omega))]
          go_enter Try.func53, Try.ntmps53
          go_wp2_with fail
          go_end0
          exact ⟨⟨_, rfl⟩, st_set Hs.out _, ButRow.set _ _ _ _⟩
  · rw [aft_trip]
    by_cases c1 : b.limit < heat + x
    · skip
      go_enter Try.func53, Try.ntmps53
      go_wp2_with fail
      go_end0
      exact ⟨⟨_, rfl⟩, Hs.out, ButRow.refl _ _⟩
    · skip
      go_enter Try.func53, Try.ntmps53
      go_wp2_with fail
      go_end0
      exact ⟨⟨_, rfl⟩, Hs.out, ButRow.refl _ _⟩

theorem states_ok (b : Brk) (s : BSt) (a : Option Addr) (n cap : Nat) (w : World) :
    CallsIn Fence.wide 0 Try.prog 46 #[b.val, s.val, .slice a n cap] w fun e W' => e = .returned (.func (.func 54) #[] #[.pointer (some ⟨w.heap.size + 1 + 1, 0, none⟩), .pointer (some ⟨w.heap.size + 1 + 1 + 1, 0, none⟩), .pointer (some ⟨w.heap.size + 1, 0, none⟩)]) ∧
      (((w.alloc (.cells b.cells.toArray 23)).alloc (.cells s.cells.toArray 37)).alloc (.cells #[.slice a n cap] 43)).alloc (.cells #[.func (.func 53) #[] #[.pointer (some ⟨w.heap.size + 1, 0, none⟩), .pointer (some ⟨w.heap.size, 0, none⟩)]] 78) = W' := by
  refine callsIn_wide.2 ?_
  go_enter Try.func46, Try.ntmps46
  go_wp2_with fail
  go_ret
  exact ⟨rfl, rfl⟩

set_option maxRecDepth 100000 in
set_option maxHeartbeats 1000000 in
theorem st2_ok (l gw gt gs gb n₀ cap n : Nat) (a : Option Addr) (b : Brk) (s0 : BSt) (ws : List Int) (hn : ws.length = n) (_hl : n ≤ 1000000) (hin : StIn b s0) (hw : ∀ z ∈ ws, 0 ≤ z ∧ z ≤ 100000000) (hB : okB b = true) (J J' : Nat → World → Prop)
    (hread : ∀ k W, J k W → W.cell? ⟨gw, 0, none⟩ = some (.slice a n cap) ∧ RowsAt n₀ W a 1 (Ints ws) ∧ n₀ ≤ W.heap.size ∧ W.cell? ⟨gt, 0, none⟩ = some (.func (.func 53) #[] #[.pointer (some ⟨gs, 0, none⟩), .pointer (some ⟨gb, 0, none⟩)]) ∧
      W.heap[gs]? = some (.cells (stAt b s0 (ws.take k)).cells.toArray 37 (0, 0)) ∧ W.heap[gb]? = some (.cells b.cells.toArray 23 (0, 0)))
    (htick : ∀ k W W', J k W → k < n → ButRow gs W W' → W'.heap[gs]? = some (.cells (stAt b s0 (ws.take (k + 1))).cells.toArray 37 (0, 0)) → J' k W')
    (hY : ∀ k W, k < n → J' k W → W.heap[gs]? = some (.cells (stAt b s0 (ws.take (k + 1))).cells.toArray 37 (0, 0)) → YieldAt Fence.wide 0 Try.prog l #[.int .i64 k, (stAt b s0 (ws.take (k + 1))).val] W fun e W' => e = .returned (.bool true) ∧ J (k + 1) W')
    (W : World) (h0 : J 0 W) :
    CallsIn Fence.wide 0 Try.prog 54 #[.func (.yield l) #[] #[], .pointer (some ⟨gw, 0, none⟩), .pointer (some ⟨gt, 0, none⟩), .pointer (some ⟨gs, 0, none⟩)] W fun e W' => (∃ v, e = .returned v) ∧ J n W' := by
  obtain ⟨⟨l0, l1⟩, ⟨_, sl1⟩, _, _⟩ := okB_iff.1 hB
  have Hn := Lib.hid hn; clear hn
  have Hin := Lib.hid hin; clear hin
  have Hw := Lib.hid hw; clear hw
  have Hread := Lib.hid hread; clear hread
  have Htick := Lib.hid htick; clear htick
  have HY := Lib.hid hY; clear hY
  have H0 := Lib.hid h0; clear h0
  have hBs := (Hread.out 0 W H0.out).1
  clear hB
  refine callsIn_of_wp Try.func54 rfl trivial ?_ rfl
  simp only [Try.ntmps54, List.size_toArray, List.length_cons, List.length_nil, Nat.reduceAdd, Nat.reduceSub, Array.replicate_succ, Array.replicate_zero, List.push_toArray, List.append_toArray, List.nil_append, List.cons_append]
  gi_wp2
  gi_loopw [9] (fun i wr => ∃ k : Nat, k ≤ n ∧ i = .int .i64 k ∧ J k wr)
    (fun i _ => n - (intOf i).toNat)
  case atStart => exact ⟨0, Nat.zero_le _, rfl, H0.out⟩
  case round =>
    obtain ⟨k, hk, rfl, hJs⟩ := hrel
    have HJ := Lib.hid hJs; clear hJs
    clear hBs
    by_cases hlt : k < n
    · obtain ⟨_, hr, _, ht, hs, hb⟩ := Hread.out k wr HJ.out
      obtain ⟨b0, off, rfl, _, hc⟩ := ints_at hr k (by rw [Hn.out]; exact hlt)
      have hxm := Hw.out (ws.getD k default) (by rw [List.getD_eq_getElem?_getD, List.getElem?_eq_getElem (by rw [Hn.out]; exact hlt)]; exact List.getElem_mem _)
      have hsn : stAt b s0 (ws.take (k + 1)) = aft b (stAt b s0 (ws.take k)) (ws.getD k default) := by
        rw [List.take_succ_eq_append_getElem (by rw [Hn.out]; exact hlt), stAt_snoc]
        congr 1
        simp [List.getD, List.getElem?_eq_getElem (show k < ws.length by rw [Hn.out]; exact hlt)]
      have hi := StIn.all (ws.take k) s0 Hin.out
      generalize ws.getD k default = x at hc hxm hsn
      have Hsn := Lib.hid hsn; clear hsn
      obtain ⟨x0, x1⟩ := hxm
      have Hi := Lib.hid hi; clear hi
      have Hsb := Lib.hid (And.intro hs hb)
      clear hs hb hr
      gi_wp2_with fail
      refine (callsIn_wide.2 (tick_ok b (stAt b s0 (ws.take k)) x gs gb _ Hsb.out.1 Hsb.out.2 Hi.out.1 Hi.out.2.1 x0 x1 l0 l1 sl1)).mono ?_
      rintro e W1 ⟨⟨v, rfl⟩, hs1, hb1⟩
      rw [← Hsn.out] at hs1
      have HJ' := Lib.hid (Htick.out k wr W1 HJ.out hlt hb1 hs1)
      have hy0 := HY.out k W1 hlt HJ'.out hs1
      have c0 := blk_cell hs1 0
      have c5 := blk_cell hs1 1
      generalize stAt b s0 (ws.take (k + 1)) = S at hy0 c0 c5 hs1 ⊢
      obtain ⟨fn, tmps, assign, body, hy, hR⟩ := hy0
      have HR := Lib.hid hR; clear hR
      simp at c0 c5
      clear Hsb hs1 hb1 hc ht Hsn Hi HJ HJ'
      gi_wp2
      refine HR.out.mono ?_
      rintro e W3 ⟨rfl, hJ3⟩
      have HJ3 := Lib.hid hJ3; clear hJ3
      clear c0 c5 hy HR
      gi_wp2
      go_roundw
      case rel => exact ⟨k + 1, by omega, by simp, HJ3.out⟩
      case measure => simp [intOf]; omega
    · have hkn : k = n := by omega
      subst hkn
      gi_wp2
      go_end0
      exact ⟨⟨_, rfl⟩, HJ.out⟩
end Go.Proofs.Ytojpbmaojbejjaa
