/- Chapter 25: slices.All over messages, and where. -/
import Derived.Shelf.Abstract
import Derived.Shelf.RegionOpen
import Derived.OwnWalkIn
import Derived.TacticsInMore
import Derived.LoopNIn
import Derived.LoopIn
import Derived.RangeFuncLeaves
import Derived.RangeFuncBox
import Derived.Maps.AppendAt
import Derived.Test.YtkfoclibejpbdaaMsg
namespace Go.Proofs.Ytkfoclibejpbdaa
open Go Go.RowKit Go.Shelf
attribute [local go_sem] Oper.semAt_some

set_option maxRecDepth 100000 in
set_option maxHeartbeats 1000000 in
theorem all1_ok (l Bs n₀ cap n : Nat) (a : Option Addr) (ms : List Msg) (hn : ms.length = n) (_hl : n ≤ 1000000) (J : Nat → World → Prop)
    (hread : ∀ k W, J k W → W.cell? ⟨Bs, 0, none⟩ = some (.slice a n cap) ∧ MsgsAt n₀ W a ms ∧ n₀ ≤ W.heap.size)
    (hal : ∀ k W o, J k W → J k (W.alloc o))
    (hY : ∀ k W, k < n → J k W → YieldAt Fence.wide 0 Try.prog l #[.int .i64 k, (ms.getD k default).val] W fun e W' => e = .returned (.bool true) ∧ J (k + 1) W')
    (W : World) (h0 : J 0 W) :
    CallsIn Fence.wide 0 Try.prog 33 #[.func (.yield l) #[] #[], .pointer (some ⟨Bs, 0, none⟩)] W fun e W' => (∃ v, e = .returned v) ∧ J n W' := by
  have Hn := Lib.hid hn; clear hn
  have Hread := Lib.hid hread; clear hread
  have Hal := Lib.hid hal; clear hal
  have HY := Lib.hid hY; clear hY
  have H0 := Lib.hid h0; clear h0
  have hBs := (Hread.out 0 W H0.out).1
  refine callsIn_of_wp Try.func33 rfl trivial ?_ rfl
  simp only [Try.ntmps33, List.size_toArray, List.length_cons, List.length_nil, Nat.reduceAdd, Nat.reduceSub, Array.replicate_succ, Array.replicate_zero, List.push_toArray, List.append_toArray, List.nil_append, List.cons_append]
  gi_wp2
  gi_loopw [7] (fun i wr => ∃ k : Nat, k ≤ n ∧ i = .int .i64 k ∧ J k wr)
    (fun i _ => n - (intOf i).toNat)
  case atStart => exact ⟨0, Nat.zero_le _, rfl, H0.out⟩
  case round =>
    obtain ⟨k, hk, rfl, hJs⟩ := hrel
    have HJ := Lib.hid hJs; clear hJs
    clear hBs
    by_cases hlt : k < n
    · have hs := (Hread.out k wr HJ.out)
      obtain ⟨b, off, rfl, hb, hc⟩ := hs.2.1.at' k (by rw [Hn.out]; exact hlt)
      have hbw : b < wr.heap.size := Nat.lt_of_lt_of_le hb hs.2.2
      clear hs
      have hy0 := HY.out k (wr.alloc (.cells (ms.getD k default).cells.toArray 34)) hlt (Hal.out k wr _ HJ.out)
      generalize ms.getD k default = x at *
      obtain ⟨fn, tmps, assign, body, hy, hR⟩ := hy0
      have HR := Lib.hid hR; clear hR
      obtain ⟨hc0, hc1, hc2, hc3, hc4, hc5, hc6, hc7, hc8⟩ := hc
      gi_wp2
      refine HR.out.mono ?_
      rintro e W3 ⟨rfl, hJ3⟩
      have HJ3 := Lib.hid hJ3; clear hJ3
      clear hc0 hc1 hc2 hc3 hc4 hc5 hc6 hc7 hc8 hy HR
      gi_wp2
      go_roundw
      case rel => exact ⟨k + 1, by omega, by simp, HJ3.out⟩
      case measure => simp [intOf]; omega
    · have hkn : k = n := by omega
      subst hkn
      gi_wp2
      go_end0
      exact ⟨⟨_, rfl⟩, HJ.out⟩

theorem all_ok (a : Option Addr) (n cap : Nat) (w : World) :
    CallsIn Fence.wide 0 Try.prog 32 #[.slice a n cap] w fun e w' => e = .returned (.func (.func 33) #[] #[.pointer (some ⟨w.heap.size, 0, none⟩)]) ∧ w.alloc (.cells #[.slice a n cap] 22) = w' := by
  refine callsIn_wide.2 ?_
  go_enter Try.func32, Try.ntmps32
  go_wp2
  go_ret
  exact ⟨rfl, rfl⟩

/-- The places below k whose messages are so. -/
def idxTo (p : Msg → Bool) (ms : List Msg) (k : Nat) : List Nat := (List.range k).filter fun i => p (ms.getD i default)
def ints (l : List Nat) : List Value := l.map fun (i : Nat) => Value.int .i64 (i : Int)
theorem idxTo_yes {p : Msg → Bool} {ms : List Msg} {k : Nat} (h : p (ms.getD k default) = true) : idxTo p ms (k + 1) = idxTo p ms k ++ [k] := by
  unfold idxTo; rw [List.range_succ, List.filter_append, List.filter_cons, h]; rfl
theorem idxTo_no {p : Msg → Bool} {ms : List Msg} {k : Nat} (h : p (ms.getD k default) = false) : idxTo p ms (k + 1) = idxTo p ms k := by
  unfold idxTo; rw [List.range_succ, List.filter_append, List.filter_cons, h]; simp
theorem idxTo_len (p : Msg → Bool) (ms : List Msg) (k : Nat) : (idxTo p ms k).length ≤ k := by
  unfold idxTo; exact Nat.le_trans (List.length_filter_le _ _) (by simp)
theorem ints_len (l : List Nat) : (ints l).length = l.length := by simp [ints]

theorem info3 : (Try.prog.info? 3).map (fun i => (i.zero, i.size, i.bytes)) = some (some (.int .i64 0), 1, 8) := by kernel_rfl

/-- What holds between two rounds of where's loop. -/
structure WhereJ (rec : LoopState → Option Code → Obj) (gf : Nat) (lb : Array Value) (p : Msg → Bool) (a : Option Addr) (n cap : Nat) (ms : List Msg) (w : World) (k : Nat) (W : World) : Prop where
  below : Below w.heap.size w W
  size : w.heap.size + 6 ≤ W.heap.size
  marks : W.heap[w.heap.size + 4]? = some (.deferred (some []))
  loop : W.heap[w.heap.size + 5]? = some (rec .ready none)
  is : W.heap[w.heap.size + 1]? = some (.cells #[.func (.func gf) #[] lb] 61 (0, 0))
  all : W.heap[w.heap.size + 3]? = some (.cells #[.slice a n cap] 22 (0, 0))
  out : ∃ v, W.heap[w.heap.size + 2]? = some (.cells #[v] 36 (0, 0)) ∧ W.ownsRow (w.heap.size + 6) 3 1 v (idxTo p ms k).length (ints (idxTo p ms k))

theorem WhereJ.next {rec : LoopState → Option Code → Obj} {gf : Nat} {lb : Array Value} {p : Msg → Bool} {a : Option Addr} {n cap : Nat} {ms : List Msg} {w : World} {k : Nat} {W : World} {o : Obj}
    (h1 : W.heap[w.heap.size + 1]? = some (.cells #[.func (.func gf) #[] lb] 61 (0, 0)))
    (h2 : ∃ v, W.heap[w.heap.size + 2]? = some (.cells #[v] 36 (0, 0)) ∧ W.ownsRow (w.heap.size + 6) 3 1 v (idxTo p ms k).length (ints (idxTo p ms k)))
    (h3 : W.heap[w.heap.size + 3]? = some (.cells #[.slice a n cap] 22 (0, 0))) (h4 : W.heap[w.heap.size + 4]? = some (.deferred (some [])))
    (h5 : W.heap[w.heap.size + 5]? = some o) (hb : Below w.heap.size w W) (hs : w.heap.size + 6 ≤ W.heap.size) :
    WhereJ rec gf lb p a n cap ms w k (W.putObj (w.heap.size + 5) (rec .ready none)) := by
  obtain ⟨v, hv, ho⟩ := h2
  exact ⟨below_put hb (by omega) _, by simpa using hs, blk_put h4 (by omega), World.putObj_heap_same (blk_lt h5), blk_put h1 (by omega), blk_put h3 (by omega), v, blk_put hv (by omega), owns_put ho (by omega) _⟩

set_option maxRecDepth 100000 in
set_option maxHeartbeats 2000000 in
theorem where_ok (gf : Nat) (lb : Array Value) (p : Msg → Bool) (a : Option Addr) (n cap : Nat) (ms : List Msg) (w : World) (hn : ms.length = n) (hl : n ≤ 1000000) (hm : MsgsAt w.heap.size w a ms)
    (hp : ∀ W x, Below w.heap.size w W → Calls Try.prog gf (#[x.val] ++ lb) W fun e W' => e = .returned (.bool (p x)) ∧ Below W.heap.size W W')
    (eg : ∀ args w, (callFunc gf args).run Try.prog w = .ok (.enter gf args) w) :
    Calls Try.prog 25 #[.agg #[.slice a n cap], .func (.func gf) #[] lb] w fun e W' =>
      ∃ v, e = .returned v ∧ W'.ownsRow w.heap.size 3 1 v (idxTo p ms n).length (ints (idxTo p ms n)) ∧ Below w.heap.size w W' := by
  have Hn := Lib.hid hn; clear hn
  have Hm := Lib.hid hm; clear hm
  have Hp := Lib.hid hp; clear hp
  have Eg := Lib.hid eg; clear eg
  refine (callsIn_wide (n := 0)).1 ?_
  refine callsIn_of_wp_marks Try.func25 rfl trivial ?_ rfl
  simp only [Try.ntmps25, List.size_toArray, List.length_cons, List.length_nil, Nat.reduceAdd, Nat.reduceSub, Array.replicate_succ, Array.replicate_zero, List.push_toArray, List.append_toArray, List.nil_append, List.cons_append]
  gi_wp2_with fail
  refine (all_ok _ _ _ _).mono ?_
  rintro e w' ⟨rfl, rfl⟩
  gi_wp2
  refine range_wide rfl (enters_of Try.func33 (by kernel_rfl) rfl) ?_
  intro rec hrec hround
  simp only [World.size_alloc, Nat.add_assoc, Nat.reduceAdd] at hround ⊢
  refine (all1_ok _ (w.heap.size + 3) w.heap.size cap n a ms Hn.out hl (WhereJ rec gf lb p a n cap ms w) ?hread ?hal ?hY _ ?h0).mono ?done
  case hread =>
    intro k W h
    exact ⟨by rw [blk_cell h.all]; rfl, Hm.out.below h.below, by have := h.size; omega⟩
  case hal =>
    intro k W o h
    obtain ⟨v, hv, ho⟩ := h.out
    exact ⟨below_alloc h.below o, by have := h.size; simp; omega, blk_alloc h.marks o, blk_alloc h.loop o, blk_alloc h.is o, blk_alloc h.all o, v, blk_alloc hv o, ho.alloc o⟩
  case h0 =>
    have h1 : ∀ (A : World) (o : Obj) (m : Nat), A.heap.size = m → (A.alloc o).heap[m]? = some o := fun A o m h => by rw [← h]; exact blk_new A o
    refine ⟨below_alloc (below_alloc (below_alloc (below_alloc (below_alloc (below_alloc (below_self w) _) _) _) _) _) _, by simp, ?_, ?_, ?_, ?_, .slice none 0 0, ?_, ?_⟩
    · exact blk_alloc (h1 _ _ _ (by simp)) _
    · exact h1 _ _ _ (by simp)
    · exact blk_alloc (blk_alloc (blk_alloc (blk_alloc (h1 _ _ _ (by simp)) _) _) _) _
    · exact blk_alloc (blk_alloc (h1 _ _ _ (by simp)) _) _
    · exact blk_alloc (blk_alloc (blk_alloc (h1 _ _ _ (by simp)) _) _) _
    · exact World.ownsRow_nil _ _ _ _
  case hY =>
    intro k W hk h
    generalize hx : ms.getD k default = x
    have Hx := Lib.hid hx; clear hx
    refine (hround #[.int .i64 k, x.val] W (fun c W' => c = true ∧ WhereJ rec gf lb p a n cap ms w (k + 1) W') rfl h.loop ?_).mono (by rintro e W' ⟨c, rfl, rfl, h⟩; exact ⟨rfl, h⟩)
    have HJ := Lib.hid h; clear h
    have Hround := Lib.hid hround; clear hround
    have Hrec := Lib.hid hrec; clear hrec
    gi_wp2
    refine ⟨blk_alloc HJ.out.loop _, ?_⟩
    obtain ⟨W2, hW2⟩ : ∃ W2, (W.alloc (.cells x.cells.toArray 34)).putObj (w.heap.size + 5) (rec .busy none) = W2 := ⟨_, rfl⟩
    have hsz := HJ.out.size
    have b0 : W2.heap[W.heap.size]? = some (.cells x.cells.toArray 34 (0, 0)) := by rw [← hW2]; exact blk_put (blk_new _ _) (by omega)
    have b1 : W2.heap[w.heap.size + 1]? = some (.cells #[.func (.func gf) #[] lb] 61 (0, 0)) := by rw [← hW2]; exact blk_put (blk_alloc HJ.out.is _) (by omega)
    have b3 : W2.heap[w.heap.size + 3]? = some (.cells #[.slice a n cap] 22 (0, 0)) := by rw [← hW2]; exact blk_put (blk_alloc HJ.out.all _) (by omega)
    have b4 : W2.heap[w.heap.size + 4]? = some (.deferred (some [])) := by rw [← hW2]; exact blk_put (blk_alloc HJ.out.marks _) (by omega)
    have b5 : W2.heap[w.heap.size + 5]? = some (rec .busy none) := by rw [← hW2]; exact World.putObj_heap_same (by simp; omega)
    obtain ⟨v, hv, ho⟩ := HJ.out.out
    have b2 : W2.heap[w.heap.size + 2]? = some (.cells #[v] 36 (0, 0)) := by rw [← hW2]; exact blk_put (blk_alloc hv _) (by omega)
    have o2 : W2.ownsRow (w.heap.size + 6) 3 1 v (idxTo p ms k).length (ints (idxTo p ms k)) := by rw [← hW2]; exact owns_put (ho.alloc _) (by omega) _
    have hsz2 : w.heap.size + 6 ≤ W2.heap.size := by rw [← hW2]; simp; omega
    have hbel : Below w.heap.size w W2 := by rw [← hW2]; exact below_put (below_alloc HJ.out.below _) (by omega) _
    have hW0 : W.heap.size < W2.heap.size := by rw [← hW2]; simp
    rw [hW2]
    clear hW2 hv ho HJ Hround
    have HB := Lib.hid (And.intro b0 (And.intro b1 (And.intro b2 (And.intro b3 (And.intro b4 (And.intro b5 (And.intro o2 hbel)))))))
    have c1 := blk_cell b1 0
    have m0 := blk_cell b0 0
    have m1 := blk_cell b0 1
    have m2 := blk_cell b0 2
    have m3 := blk_cell b0 3
    have m4 := blk_cell b0 4
    have m5 := blk_cell b0 5
    have m6 := blk_cell b0 6
    have m7 := blk_cell b0 7
    have m8 := blk_cell b0 8
    simp at c1 m0 m1 m2 m3 m4 m5 m6 m7 m8
    clear b0 b1 b2 b3 b4 b5 o2 hbel
    have eg := Eg.out
    gi_wp2_with fail
    refine (CallsIn.inRound _ (callsIn_wide.2 (Hp.out W2 x HB.out.2.2.2.2.2.2.2))).mono ?_
    rintro e W3 ⟨rfl, hb3⟩
    clear c1 m0 m1 m2 m3 m4 m5 m6 m7 m8 eg
    have hsz3 : w.heap.size + 6 ≤ W3.heap.size := Nat.le_trans hsz2 hb3.size
    have hW2lt : W2.heap.size ≤ W3.heap.size := hb3.size
    obtain ⟨b0, b1, b2, b3, b4, b5, o2, hbel⟩ := HB.out
    have b2' := blk_below b2 hb3
    have HB3 := Lib.hid (And.intro (blk_below b1 hb3) (And.intro b2' (And.intro (blk_below b3 hb3) (And.intro (blk_below b4 hb3) (And.intro (blk_below b5 hb3) (And.intro (owns_later o2 hb3) (below_trans hbel hb3)))))))
    clear HB b0 b1 b2 b3 b4 b5 o2 hbel hb3
    have hlen : (idxTo p ms k).length ≤ 1000000 := Nat.le_trans (idxTo_len p ms k) (by omega)
    cases hpx : p x with
    | false =>
      have Hpx := Lib.hid hpx; clear hpx
      gi_wp2
      obtain ⟨b1, b2, b3, b4, b5, o2, hbel⟩ := HB3.out
      rw [← Hx.out] at Hpx
      exact ⟨b5, rfl, WhereJ.next b1 ⟨_, b2, by rw [idxTo_no Hpx.out]; exact o2⟩ b3 b4 b5 hbel hsz3⟩
    | true =>
      have Hpx := Lib.hid hpx; clear hpx
      have hown := HB3.out.2.2.2.2.2.1
      have c2 := blk_cell b2' 0
      have f2 := blk_frozen b2' 0
      simp at c2
      clear b2'
      obtain ⟨i0, hi, hz0, hz1, hz2⟩ := info_parts info3
      gi_wp2_with (gi_at_builtin; go_must (refine wpListIn_append_own _ rfl _ _ 36 rfl (w.heap.size + 6) 3 i0 (.int .i64 0) 1 8 Try.underlying36 hi hz0 hz1 hz2 rfl (by decide) _ _ _ rfl (hown.alloc _) ⟨W3.heap.size, 0, none⟩ 1 1 [.int .i64 k] rfl rfl ?c1 ?c2 ?c3 ?c4 ?c5 ?_))
      case c1 => exact cell_one_new _ _ _
      case c2 => simp [Value.oneCell']
      case c3 => unfold maxLen; omega
      case c4 => omega
      case c5 => simp; omega
      intro v' w1 hown' hgrow _
      obtain ⟨g', cap', rfl⟩ := ownsRow_succ hown'
      obtain ⟨b1, b2, b3, b4, b5, o2, hbel⟩ := HB3.out
      have oA := o2.alloc (.cells #[.int .i64 (k : Int)] 3)
      have q2 := grown_blk hgrow (blk_alloc b2 _) (own_ne oA (by omega))
      have HQ := Lib.hid (And.intro (grown_blk hgrow (blk_alloc b1 _) (own_ne oA (by omega))) (And.intro q2 (And.intro (grown_blk hgrow (blk_alloc b3 _) (own_ne oA (by omega))) (And.intro (grown_blk hgrow (blk_alloc b4 _) (own_ne oA (by omega)))
        (And.intro (grown_blk hgrow (blk_alloc b5 _) (own_ne oA (by omega))) (And.intro hown' (grown_below (below_alloc hbel _) oA hgrow (by omega) (by simp; omega))))))))
      have hsz4 : w.heap.size + 6 ≤ w1.heap.size := by have := hgrow.size; simp at this; omega
      have q2c := blk_cell q2 0
      have q2f := blk_frozen q2 0
      simp at q2c
      clear HB3 b1 b2 b3 b4 b5 o2 hbel oA q2 hown hown' hgrow c2 f2 hi hz0 hz1 hz2
      gi_wp2
      obtain ⟨b1, b2, b3, b4, b5, o2, hbel⟩ := HQ.out
      rw [← Hx.out] at Hpx
      exact ⟨blk_set b5 (by simp) _, rfl, WhereJ.next (blk_set b1 (by simp) _) ⟨_, blk_set_same b2, by rw [idxTo_yes Hpx.out]; simp only [ints, List.map_append, List.length_append, List.map_cons, List.map_nil, List.length_cons, List.length_nil]; exact owns_set o2 (by simp) _⟩
        (blk_set b3 (by simp) _) (blk_set b4 (by simp) _) (blk_set b5 (by simp) _) (hbel.setCell (by simp) _) (by simpa using hsz4)⟩
  case done =>
    rintro e W2 ⟨⟨v, rfl⟩, h⟩
    refine ⟨⟨_, rfl⟩, .inl ⟨h.loop, ?_⟩⟩
    obtain ⟨v, hv, ho⟩ := h.out
    obtain ⟨W3, hW3⟩ : ∃ W3, W2.putObj (w.heap.size + 5) (rec .exhausted none) = W3 := ⟨_, rfl⟩
    have b2 : W3.heap[w.heap.size + 2]? = some (.cells #[v] 36 (0, 0)) := by rw [← hW3]; exact blk_put hv (by omega)
    have o2 : W3.ownsRow (w.heap.size + 6) 3 1 v (idxTo p ms n).length (ints (idxTo p ms n)) := by rw [← hW3]; exact owns_put ho (by omega) _
    have b4 : W3.heap[w.heap.size + 4]? = some (.deferred (some [])) := by rw [← hW3]; exact blk_put h.marks (by omega)
    have hbel : Below w.heap.size w W3 := by rw [← hW3]; exact below_put h.below (by omega) _
    rw [hW3]
    have HB := Lib.hid (And.intro b4 (And.intro o2 hbel))
    have c2 := blk_cell b2 0
    simp at c2
    clear hW3 h hv ho b2 o2 b4 hbel hround hrec
    gi_wp2
    refine ⟨by simp, .inl ⟨_, _, rfl, run_takeDeferred HB.out.1, ?_⟩⟩
    refine ⟨_, results_tmp rfl _ _ _, _, rfl, ?_, ?_⟩
    · exact owns_base (owns_put HB.out.2.1 (by omega) _) (by omega)
    · exact below_put HB.out.2.2 (by omega) _

theorem waitc_ok (x : Msg) (to : Int) (B : Nat) (W : World) (hB : W.cell? ⟨B, 0, none⟩ = some (.int .i64 to)) :
    Calls Try.prog 26 #[x.val, .pointer (some ⟨B, 0, none⟩)] W fun e W' => e = .returned (.bool (x.to == to)) ∧ Below W.heap.size W W' := by
  have hlt := World.block_lt_of_cell? W _ hB
  simp only at hlt
  go_enter Try.func26, Try.ntmps26
  go_wp2
  go_ret
  exact ⟨rfl, (below_self W).alloc (Nat.le_refl _) _⟩

theorem countc_ok (x m : Msg) (B : Nat) (W : World) (hB : W.heap[B]? = some (.cells m.cells.toArray 34 (0, 0))) :
    Calls Try.prog 27 #[x.val, .pointer (some ⟨B, 0, none⟩)] W fun e W' => e = .returned (.bool (decide (x = m))) ∧ Below W.heap.size W W' := by
  have hlt := blk_lt hB
  have m0 := blk_cell hB 0
  have m1 := blk_cell hB 1
  have m2 := blk_cell hB 2
  have m3 := blk_cell hB 3
  have m4 := blk_cell hB 4
  have m5 := blk_cell hB 5
  have m6 := blk_cell hB 6
  have m7 := blk_cell hB 7
  have m8 := blk_cell hB 8
  simp at m0 m1 m2 m3 m4 m5 m6 m7 m8
  clear hB
  have heq := eq34 x m
  have hg := guard34
  go_enter Try.func27, Try.ntmps27
  go_wp2
  go_ret
  exact ⟨rfl, (below_self W).alloc (Nat.le_refl _) _⟩

theorem waiting_ok (a : Option Addr) (n cap : Nat) (ms : List Msg) (to : Int) (w : World) (hn : ms.length = n) (hl : n ≤ 1000000) (hm : MsgsAt w.heap.size w a ms) :
    Calls Try.prog 11 #[.agg #[.slice a n cap], .int .i64 to] w fun e W' =>
      ∃ v, e = .returned v ∧ W'.ownsRow w.heap.size 3 1 v (idxTo (fun x => x.to == to) ms n).length (ints (idxTo (fun x => x.to == to) ms n)) ∧ Below w.heap.size w W' := by
  have Hn := Lib.hid hn; clear hn
  have Hm := Lib.hid hm; clear hm
  go_enter Try.func11, Try.ntmps11
  go_wp2_with fail
  obtain ⟨W1, hW1⟩ : ∃ W1, (w.alloc (.cells #[.slice a n cap] 24)).alloc (.cells #[.int .i64 to] 3) = W1 := ⟨_, rfl⟩
  have hb1 : Below w.heap.size w W1 := by rw [← hW1]; exact below_alloc (below_alloc (below_self w) _) _
  have hB : W1.cell? ⟨w.heap.size + 1, 0, none⟩ = some (.int .i64 to) := by rw [← hW1, blk_cell (by simpa using blk_new (w.alloc _) _)]; rfl
  have hlt : w.heap.size + 1 < W1.heap.size := by rw [← hW1]; simp
  rw [hW1]
  have hs1 := hb1.size
  clear hW1
  refine (where_ok 26 #[.pointer (some ⟨w.heap.size + 1, 0, none⟩)] (fun x => x.to == to) a n cap ms W1 Hn.out hl (Hm.out.later hb1)
    (fun W x hb => waitc_ok x to (w.heap.size + 1) W ((hb.cell (p := ⟨w.heap.size + 1, 0, none⟩) hlt).trans hB)) (enters_of Try.func26 (by kernel_rfl) rfl)).mono ?_
  rintro e w2 ⟨v, rfl, ho, hb⟩
  have H := Lib.hid (And.intro ho (below_trans hb1 hb)); clear ho hb hb1 hB
  go_wp2
  go_ret
  exact ⟨_, rfl, owns_base H.out.1 hs1, H.out.2⟩

theorem count_ok (a : Option Addr) (n cap : Nat) (ms : List Msg) (m : Msg) (w : World) (hn : ms.length = n) (hl : n ≤ 1000000) (hm : MsgsAt w.heap.size w a ms) :
    Calls Try.prog 13 #[.agg #[.slice a n cap], m.val] w fun e w' => e = .returned (.int .i64 (ms.count m)) ∧ Below w.heap.size w w' := by
  have hcnt : (idxTo (fun x => decide (x = m)) ms n).length = ms.count m := by
    have h : ∀ k, k ≤ ms.length → (idxTo (fun x => decide (x = m)) ms k).length = (ms.take k).count m := by
      intro k
      induction k with
      | zero => intro _; simp [idxTo]
      | succ k ih =>
        intro hk
        have ih' := ih (by omega)
        rw [take_count ms m k (by omega)]
        by_cases hx : ms.getD k default = m
        · rw [idxTo_yes (by simpa using hx), List.length_append, ih', if_pos hx]; rfl
        · rw [idxTo_no (by simpa using hx), ih', if_neg hx]; rfl
    have := h ms.length (Nat.le_refl _)
    rw [hn] at this
    rwa [← hn, List.take_length, hn] at this
  have Hcnt := Lib.hid hcnt; clear hcnt
  have Hn := Lib.hid hn; clear hn
  have Hm := Lib.hid hm; clear hm
  go_enter Try.func13, Try.ntmps13
  go_wp2_with fail
  obtain ⟨W1, hW1⟩ : ∃ W1, (w.alloc (.cells #[.slice a n cap] 24)).alloc (.cells m.cells.toArray 34) = W1 := ⟨_, rfl⟩
  have hb1 : Below w.heap.size w W1 := by rw [← hW1]; exact below_alloc (below_alloc (below_self w) _) _
  have hB : W1.heap[w.heap.size + 1]? = some (.cells m.cells.toArray 34 (0, 0)) := by rw [← hW1]; simpa using blk_new (w.alloc _) _
  have hlt : w.heap.size + 1 < W1.heap.size := by rw [← hW1]; simp
  rw [hW1]
  have hs1 := hb1.size
  clear hW1
  refine (where_ok 27 #[.pointer (some ⟨w.heap.size + 1, 0, none⟩)] (fun x => decide (x = m)) a n cap ms W1 Hn.out hl (Hm.out.later hb1)
    (fun W x hb => countc_ok x m (w.heap.size + 1) W (blk_below hB hb)) (enters_of Try.func27 (by kernel_rfl) rfl)).mono ?_
  rintro e w2 ⟨v, rfl, ho, hb⟩
  have H := Lib.hid (And.intro ho (below_trans hb1 hb))
  obtain ⟨a2, cap2, rfl, _⟩ := owns_shape ho
  clear ho hb hb1 hB
  have hle := Lib.hid (idxTo_len (fun x => decide (x = m)) ms n)
  rw [Hcnt.out] at hle ⊢
  have hle2 := hle.out
  go_wp2
  go_ret
  exact ⟨rfl, H.out.2⟩
end Go.Proofs.Ytkfoclibejpbdaa
