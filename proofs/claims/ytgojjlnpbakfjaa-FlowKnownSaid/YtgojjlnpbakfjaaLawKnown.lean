/- Chapter 05: the law of the examples, limits and errors: the walk (written by wip/gen05known.py). -/
import Derived.Test.YtgojjlnpbakfjaaLawDual
import Derived.Test.YtgojjlnpbakfjaaCut
import Derived.Test.YtgojjlnpbakfjaaBigA
import Derived.Test.YtgojjlnpbakfjaaBigB
import Derived.Test.YtgojjlnpbakfjaaBigC
namespace Go.Proofs.Ytgojjlnpbakfjaa
open Go Go.RowKit
set_option linter.unusedSimpArgs false

theorem big_crit : IsCrit 64 (bigA 63 0) 0 63 (sel (fun _ => true) (bigA 63 0).length) := ⟨fun _ => true, fun i hi => ⟨fun _ => by
  rw [big_len] at hi
  by_cases h1 : i < 42
  · exact big_need hi (big_okA i h1)
  · by_cases h2 : i < 84
    · have := big_okB (i - 42) (by omega)
      rw [show i - 42 + 42 = i by omega] at this
      exact big_need hi this
    · have := big_okC (i - 84) (by omega)
      rw [show i - 84 + 84 = i by omega] at this
      exact big_need hi this, fun _ => rfl⟩, rfl⟩
theorem big_ask : askF 64 (bigA 63 0) 0 63 = 0 := by
  unfold askF
  rw [if_pos big_net, if_pos (by decide)]
theorem big_max_is {r : Int} {f : List Int} (h : MaxIs 64 (bigA 63 0) 0 63 r f) : r = 199999938 := by
  obtain ⟨hb, rfl⟩ := h.1 big_ask
  rw [← big_best.2.2]
  exact hb.same big_flw big_in (by decide) (by decide)
theorem big_cut_is {c : List Int} (h : CutIs 64 (bigA 63 0) 0 63 c) : c.length = 63 := by
  obtain ⟨d, h1, h2⟩ := big_cut
  rw [(h.1 big_ask).same h1 big_in (by decide) (by decide)]
  exact h2
theorem big_crit_is {c : List Int} (h : CritIs 64 (bigA 63 0) 0 63 c) : c.length = 126 := by
  rw [(h.1 big_ask).same big_crit, sel_all (fun _ _ => rfl)]
  exact big_len

theorem flatA_setv : ∀ {l : List Ar} {i : Nat} {y : Int}, i < l.length → flatA (l.set i ⟨(l.getD i default).u, y, (l.getD i default).c⟩) = (flatA l).set (i * 3 + 1) (.int .i64 y)
  | [], _, _, h => by simp at h
  | x :: l, 0, y, _ => by simp [flatA, Ars]
  | x :: l, i + 1, y, h => by
    have ih := flatA_setv (l := l) (i := i) (y := y) (by simpa using h)
    rw [List.getD_cons_succ, List.set_cons_succ]
    show x.cells ++ flatA _ = (x.cells ++ flatA l).set ((i + 1) * 3 + 1) _
    rw [ih, List.set_append, if_neg (by simp; omega)]
    congr 2
    simp
    omega
theorem made129 : (List.replicate 129 (default : Ar)).length = 129 ∧ madeCells #[.int .i64 0, .int .i64 0, .int .i64 0] 387 = (flatA (List.replicate 129 default)).toArray := ⟨by simp, by kernel_rfl⟩
/-- The odd nets in memory. -/
structure KJ (X1 : World) (m : Nat) (L3 : List Ar) (X : World) : Prop where
  bel : Below X1.heap.size X1 X
  len : L3.length = 129
  row : X.heap[X1.heap.size]? = some (.cells (flatA L3).toArray 32 (0, 0))
  lt : X1.heap.size < m
  a4 : X.heap[m]? = some (.cells #[.int .i64 0, .int .i64 2, .int .i64 0] 32 (0, 0))
  a5 : X.heap[m + 1]? = some (.cells #[.int .i64 1, .int .i64 1, .int .i64 0] 32 (0, 0))
  a6 : X.heap[m + 1 + 1]? = some (.cells #[.int .i64 0, .int .i64 1, .int .i64 (-1)] 32 (0, 0))
  a7 : X.heap[m + 1 + 1 + 1]? = some (.cells #[.int .i64 0, .int .i64 1, .int .i64 100000001] 32 (0, 0))
  odd : X.heap[m + 1 + 1 + 1 + 1]? = some (.cells #[.int .i64 0, .slice none 0 0, .int .i64 1, .slice none 0 0, .int .i64 65, .slice none 0 0, .int .i64 2, .slice (some ⟨X1.heap.size, 0, none⟩) 129 129, .int .i64 2, .slice (some ⟨m, 0, none⟩) 1 1, .int .i64 2, .slice (some ⟨m + 1, 0, none⟩) 1 1, .int .i64 2, .slice (some ⟨m + 1 + 1, 0, none⟩) 1 1, .int .i64 2, .slice (some ⟨m + 1 + 1 + 1, 0, none⟩) 1 1] 24 (0, 0))
theorem KJ.set {X1 X : World} {m : Nat} {L3 : List Ar} (h : KJ X1 m L3 X) {i : Nat} (hi : i < 129) (y : Int) : KJ X1 m (L3.set i ⟨(L3.getD i default).u, y, (L3.getD i default).c⟩) (X.setCell ⟨X1.heap.size, i * 3 + 1, none⟩ (.int .i64 y)) := by
  have hl := h.lt
  refine ⟨h.bel.setCell (Nat.le_refl _) _, by rw [List.length_set]; exact h.len, ?_, hl, blk_set h.a4 (by simp only; omega) _, blk_set h.a5 (by simp only; omega) _, blk_set h.a6 (by simp only; omega) _, blk_set h.a7 (by simp only; omega) _, blk_set h.odd (by simp only; omega) _⟩
  rw [flatA_setv (by rw [h.len]; exact hi)]
  simp [World.setCell, Array.getElem?_modify, h.row]
theorem KJ.cell {X1 X : World} {m : Nat} {L3 : List Ar} (h : KJ X1 m L3 X) {i : Nat} (hi : i < 129) : X.cell? ⟨X1.heap.size, i * 3 + 1, none⟩ = some (.int .i64 (L3.getD i default).v) ∧ X.frozen? ⟨X1.heap.size, i * 3 + 1, none⟩ = false := by
  refine ⟨?_, blk_frozen h.row _⟩
  obtain ⟨b, o, hbo, _, _, h1, _⟩ := ars_at (ars_blk h.row) i (by rw [h.len]; exact hi)
  cases hbo
  simpa using h1
/-- Each odd net: its cells, its arcs. -/
theorem KJ.nets {X1 X : World} {m : Nat} {L3 : List Ar} (h : KJ X1 m L3 X) (j : Nat) (hj : j < 8) : ∃ (N : Int) (a : Option Addr) (k c : Nat) (l : List Ar), X.cell? ⟨m + 1 + 1 + 1 + 1, j * 2, none⟩ = some (.int .i64 N) ∧ X.cell? ⟨m + 1 + 1 + 1 + 1, j * 2 + 1, none⟩ = some (.slice a k c) ∧ l.length = k ∧ k ≤ 129 ∧ RowsAt X.heap.size X a 3 (Ars l) ∧ netOk N l = false := by
  have nilr : ∀ a, RowsAt X.heap.size X a 3 (Ars []) := fun a => RowsAt.nil _ _ _ _
  match j, hj with
  | 0, _ => exact ⟨0, none, 0, 0, [], (blk_cell h.odd 0).trans rfl, (blk_cell h.odd 1).trans rfl, rfl, by omega, nilr _, by decide⟩
  | 1, _ => exact ⟨1, none, 0, 0, [], (blk_cell h.odd 2).trans rfl, (blk_cell h.odd 3).trans rfl, rfl, by omega, nilr _, by decide⟩
  | 2, _ => exact ⟨65, none, 0, 0, [], (blk_cell h.odd 4).trans rfl, (blk_cell h.odd 5).trans rfl, rfl, by omega, nilr _, by decide⟩
  | 3, _ =>
    refine ⟨2, _, 129, 129, L3, (blk_cell h.odd 6).trans rfl, (blk_cell h.odd 7).trans rfl, h.len, by omega, ars_blk h.row, ?_⟩
    unfold netOk
    rw [decide_eq_false (show ¬ L3.length ≤ 128 by rw [h.len]; omega)]
    simp
  | 4, _ => exact ⟨2, _, 1, 1, [⟨0, 2, 0⟩], (blk_cell h.odd 8).trans rfl, (blk_cell h.odd 9).trans rfl, rfl, by omega, ars_blk (l := [⟨0, 2, 0⟩]) h.a4, by decide⟩
  | 5, _ => exact ⟨2, _, 1, 1, [⟨1, 1, 0⟩], (blk_cell h.odd 10).trans rfl, (blk_cell h.odd 11).trans rfl, rfl, by omega, ars_blk (l := [⟨1, 1, 0⟩]) h.a5, by decide⟩
  | 6, _ => exact ⟨2, _, 1, 1, [⟨0, 1, -1⟩], (blk_cell h.odd 12).trans rfl, (blk_cell h.odd 13).trans rfl, rfl, by omega, ars_blk (l := [⟨0, 1, -1⟩]) h.a6, by decide⟩
  | 7, _ => exact ⟨2, _, 1, 1, [⟨0, 1, 100000001⟩], (blk_cell h.odd 14).trans rfl, (blk_cell h.odd 15).trans rfl, rfl, by omega, ars_blk (l := [⟨0, 1, 100000001⟩]) h.a7, by decide⟩
theorem odd_ask {N : Int} {l : List Ar} (h : netOk N l = false) (s t : Int) (set : List Int) : askF N l s t = 1 ∧ acrE N l set = 1 := by
  unfold askF acrE
  rw [h]
  exact ⟨rfl, rfl⟩
theorem samp_errs : chkE 4 sampA 0 3 [1, 1, 0, 1, 0] = 13 ∧ chkE 4 sampA 0 3 [4, 0, 2, 2, 2] = 13 ∧ chkE 4 sampA 0 3 [] = 13 ∧ acrE 4 sampA [1, 0] = 2 ∧ acrE 4 sampA [0, 0] = 2 ∧ acrE 4 sampA [4] = 2 := by decide
theorem samp_rev : askF 4 sampA 3 0 = 0 ∧ chkV 4 sampA 3 0 [1, 1, 0, 1, 1] = -2 ∧ chkE 4 sampA 3 0 [1, 1, 0, 1, 1] = 0 := by decide
theorem samp_rmax {r : Int} {f : List Int} (h : MaxIs 4 sampA 3 0 r f) : r = 0 := by
  obtain ⟨hb, rfl⟩ := h.1 samp_rev.1
  exact hb.val.same (most_of [0, 0, 0, 0, 0] [3] (by decide) (by decide)) samp_in (by decide) (by decide)
theorem samp_rcut {c : List Int} (h : CutIs 4 sampA 3 0 c) : c = [3] := by
  refine (h.1 samp_rev.1).same ?_ samp_in (by decide) (by decide)
  obtain ⟨hb, h1, h2, h3⟩ := most_best (n := 4) (l := sampA) (s := 3) (t := 0) (f := [0, 0, 0, 0, 0]) (set := [3]) (by decide)
  refine cut_of [0, 0, 0, 0, 0] (fun x => x == 3) samp_in (by decide) (by decide) hb (by decide) _ h1 h2 h3 (fun x hx h => ?_) (fun x hx h => ?_)
  · simp at h ⊢
    omega
  · simp at h
    subst h
    exact Rch.self _ _ _
theorem pair_ask : askF 4 sampA 0 0 = 2 ∧ askF 4 sampA (-1) 1 = 2 ∧ askF 4 sampA 0 4 = 2 ∧ askF 4 sampA 4 0 = 2 := by decide
theorem chk_ask {N : Int} {l : List Ar} {s t : Int} {f : List Int} (h : askF N l s t = 2) : chkE N l s t f = 2 := by
  unfold chkE
  rw [if_neg (by omega)]
  exact h
/-- The greatest net in the making. -/
structure VJ (Y : World) (n : Int) (av : Option Addr) (q cv : Nat) (L : List Ar) (X : World) : Prop where
  bel : Below Y.heap.size Y X
  box : X.heap[Y.heap.size]? = some (.cells #[.int .i64 n, .slice av q cv] 24 (0, 0))
  own : OwnA (Y.heap.size + 1) X av q cv L
theorem bigL_len : ∀ k, (bigL k).length = 2 * k
  | 0 => rfl
  | k + 1 => by
    simp only [bigL, List.length_append, bigL_len k, List.length_cons, List.length_nil]
    omega

theorem KJ.later {X1 X X' : World} {m : Nat} {L3 : List Ar} (h : KJ X1 m L3 X) (hb : Below X.heap.size X X') : KJ X1 m L3 X' := ⟨below_trans h.bel hb, h.len, blk_below h.row hb, h.lt, blk_below h.a4 hb, blk_below h.a5 hb, blk_below h.a6 hb, blk_below h.a7 hb, blk_below h.odd hb⟩
theorem VJ.later {Y X X' : World} {n : Int} {av : Option Addr} {q cv : Nat} {L : List Ar} (h : VJ Y n av q cv L X) (hb : Below X.heap.size X X') : VJ Y n av q cv L X' := ⟨below_trans h.bel hb, blk_below h.box hb, h.own.later hb⟩
theorem pair_at {Z : World} {pb : Nat} (h : Z.heap[pb]? = some (.cells #[.int .i64 0, .int .i64 0, .int .i64 (-1), .int .i64 1, .int .i64 0, .int .i64 4, .int .i64 4, .int .i64 0] 44 (0, 0))) (j : Nat) (hj : j < 4) :
    ∃ x y : Int, Z.cell? ⟨pb, j * 2, none⟩ = some (.int .i64 x) ∧ Z.cell? ⟨pb, j * 2 + 1, none⟩ = some (.int .i64 y) ∧ askF 4 sampA x y = 2 := by
  match j, hj with
  | 0, _ => exact ⟨0, 0, (blk_cell h 0).trans rfl, (blk_cell h 1).trans rfl, pair_ask.1⟩
  | 1, _ => exact ⟨-1, 1, (blk_cell h 2).trans rfl, (blk_cell h 3).trans rfl, pair_ask.2.1⟩
  | 2, _ => exact ⟨0, 4, (blk_cell h 4).trans rfl, (blk_cell h 5).trans rfl, pair_ask.2.2.1⟩
  | 3, _ => exact ⟨4, 0, (blk_cell h 6).trans rfl, (blk_cell h 7).trans rfl, pair_ask.2.2.2⟩

set_option maxRecDepth 100000 in
set_option maxHeartbeats 32000000 in
theorem known_walk (w : World) : Calls Try.prog 5 #[] w fun e W' => e = .returned (.bool true) ∧ Below w.heap.size w W' := by

  go_enter Try.func5, Try.ntmps5
  go_wp2_with fail
  refine (sample_ok _).mono ?_
  rintro e W1 ⟨g, rfl, hp, hb1⟩
  have B1 := Lib.hid (And.intro hp hb1)
  clear hb1 hp
  go_upto_region 2 with fail
  have L1 := Lib.hid (show SX w W1.heap.size g (W1.alloc (.cells #[.int .i64 4, .slice (some ⟨g, 0, none⟩) 5 5] 24)) from ⟨blk_new W1 _, B1.out.1.later (below_alloc (below_self W1) _), below_alloc B1.out.2 _⟩)
  generalize W1.alloc _ = X1 at L1 ⊢
  generalize W1.heap.size = b at L1 ⊢
  clear B1
  obtain ⟨i0, hi, hz0, hz1, hz2⟩ := info_parts infoA
  go_wp2_with (with_reducible refine wpList_make_row rfl 22 _ _ rfl 32 i0 _ 3 24 Try.underlying22 hi hz0 hz1 hz2 129 _ rfl rfl ?a2 ?a3 ?a4 ?_)
  case a2 => rfl
  case a3 => omega
  case a4 => omega
  intro W2 h4 hb4 hs4
  have h4' : ∃ L3 : List Ar, L3.length = 129 ∧ W2.heap[X1.heap.size]? = some (.cells (flatA L3).toArray 32 (0, 0)) := ⟨_, made129.1, by rw [← made129.2]; simpa using h4.out⟩
  obtain ⟨L3, hL3, h4'⟩ := h4'
  have H2 := Lib.hid (And.intro hL3 (And.intro h4' hb4))
  clear h4 hs4 hL3 h4' hb4 hi hz0 hz1 hz2
  go_wp2_with fail
  obtain ⟨A, hA⟩ : ∃ W' : World, (((((W2.alloc (.cells #[.int .i64 0, .int .i64 2, .int .i64 0] 32)).alloc (.cells #[.int .i64 1, .int .i64 1, .int .i64 0] 32)).alloc (.cells #[.int .i64 0, .int .i64 1, .int .i64 (-1)] 32)).alloc (.cells #[.int .i64 0, .int .i64 1, .int .i64 100000001] 32)).alloc (.cells #[.int .i64 0, .slice none 0 0, .int .i64 1, .slice none 0 0, .int .i64 65, .slice none 0 0, .int .i64 2, .slice (some ⟨X1.heap.size, 0, none⟩) 129 129, .int .i64 2, .slice (some ⟨W2.heap.size, 0, none⟩) 1 1, .int .i64 2, .slice (some ⟨W2.heap.size + 1, 0, none⟩) 1 1, .int .i64 2, .slice (some ⟨W2.heap.size + 1 + 1, 0, none⟩) 1 1, .int .i64 2, .slice (some ⟨W2.heap.size + 1 + 1 + 1, 0, none⟩) 1 1] 24)) = W' := ⟨_, rfl⟩
  have h : Has A [(W2.heap.size + 1 + 1 + 1 + 1, .cells #[.int .i64 0, .slice none 0 0, .int .i64 1, .slice none 0 0, .int .i64 65, .slice none 0 0, .int .i64 2, .slice (some ⟨X1.heap.size, 0, none⟩) 129 129, .int .i64 2, .slice (some ⟨W2.heap.size, 0, none⟩) 1 1, .int .i64 2, .slice (some ⟨W2.heap.size + 1, 0, none⟩) 1 1, .int .i64 2, .slice (some ⟨W2.heap.size + 1 + 1, 0, none⟩) 1 1, .int .i64 2, .slice (some ⟨W2.heap.size + 1 + 1 + 1, 0, none⟩) 1 1] 24 (0, 0)), (W2.heap.size + 1 + 1 + 1, .cells #[.int .i64 0, .int .i64 1, .int .i64 100000001] 32 (0, 0)), (W2.heap.size + 1 + 1, .cells #[.int .i64 0, .int .i64 1, .int .i64 (-1)] 32 (0, 0)), (W2.heap.size + 1, .cells #[.int .i64 1, .int .i64 1, .int .i64 0] 32 (0, 0)), (W2.heap.size, .cells #[.int .i64 0, .int .i64 2, .int .i64 0] 32 (0, 0))] := by rw [← hA]; simpa using ((((((Has.nil W2).new _).new _).new _).new _).new _)
  have z : A.heap.size = W2.heap.size + 1 + 1 + 1 + 1 + 1 := by rw [← hA]; simp
  have bA : Below W2.heap.size W2 A := by rw [← hA]; exact (below_alloc (below_alloc (below_alloc (below_alloc (below_alloc (below_self W2) _) _) _) _) _)
  rw [hA]
  clear hA
  have HK := Lib.hid (show KJ X1 W2.heap.size L3 A from ⟨below_trans H2.out.2.2 bA, H2.out.1, blk_below H2.out.2.1 bA, blk_lt H2.out.2.1, h.tl.tl.tl.tl.hd, h.tl.tl.tl.hd, h.tl.tl.hd, h.tl.hd, h.hd⟩)
  clear h z bA H2
  generalize W2.heap.size = m at HK ⊢
  go_loopw [62] (fun i wr => ∃ (j : Nat) (X : World) (L : List Ar), j ≤ 129 ∧ i = .int .i64 j ∧ X = wr ∧ Hid (KJ X1 m L X)) (fun i _ => 129 - (intOf i).toNat)
  case atStart => exact ⟨0, _, _, by omega, rfl, rfl, HK⟩
  case round =>
    clear HK
    obtain ⟨j, X, L, hj, rfl, rfl, HX⟩ := hrel
    by_cases hlt : j < 129
    · have hltI : (j : Int) < 129 := by omega
      have q7 : X.cell? ⟨m + 1 + 1 + 1 + 1, 7, none⟩ = some (.slice (some ⟨X1.heap.size, 0, none⟩) 129 129) := (blk_cell HX.out.odd 7).trans rfl
      obtain ⟨qc, qf⟩ := HX.out.cell hlt
      have lo := blk_lt HX.out.odd
      have lr := blk_lt HX.out.row
      have HN := Lib.hid (HX.out.set hlt 1)
      go_wp2_with fail
      go_roundw
      case rel => exact ⟨j + 1, _, _, by omega, by go_num, rfl, HN⟩
      case measure => simp [intOf]; omega
    · have hltI : ¬ (j : Int) < 129 := by omega
      obtain rfl : j = 129 := by omega
      clear hj hlt
      go_wp2_with fail
      go_loopw [75] (fun i wr => ∃ (j : Nat) (Y : World), j ≤ 8 ∧ i = .int .i64 j ∧ Y = wr ∧ Hid (KJ X1 m L Y)) (fun i _ => 8 - (intOf i).toNat)
      case atStart => exact ⟨0, _, by omega, rfl, rfl, HX⟩
      case round =>
        clear HX
        obtain ⟨j, Y, hj, rfl, rfl, HY⟩ := hrel
        by_cases hlt : j < 8
        · have hltI : (j : Int) < 8 := by omega
          obtain ⟨N, a, k, c, l, c0, c1, hlk, hk129, hrow, hodd⟩ := HY.out.nets j hlt
          have HN := Lib.hid (And.intro hlk (And.intro hrow hodd))
          have hk63 : k ≤ 9223372036854775807 := by omega
          have lo := blk_lt HY.out.odd
          clear hlk hrow hodd
          go_upto_region 11 with fail
          have b1 := below_alloc (below_self Y) (.cells #[.int .i64 N, .slice a k c] 24)
          have H1 := Lib.hid (show KJ X1 m L (Y.alloc (.cells #[.int .i64 N, .slice a k c] 24)) ∧ RowsAt (Y.alloc (.cells #[.int .i64 N, .slice a k c] 24)).heap.size (Y.alloc (.cells #[.int .i64 N, .slice a k c] 24)) a 3 (Ars l) ∧ (Y.alloc (.cells #[.int .i64 N, .slice a k c] 24)).heap[Y.heap.size]? = some (.cells #[.int .i64 N, .slice a k c] 24 (0, 0)) from ⟨HY.out.later b1, HN.out.2.1.later b1, blk_new Y _⟩)
          clear b1
          generalize Y.alloc _ = Y1 at H1 ⊢
          generalize Y.heap.size = bq at H1 ⊢
          clear c0 c1 lo HY
          have k0 : Y1.cell? ⟨bq, 0, none⟩ = some (.int .i64 N) := (blk_cell H1.out.2.2 0).trans rfl
          have k1 : Y1.cell? ⟨bq, 1, none⟩ = some (.slice a k c) := (blk_cell H1.out.2.2 1).trans rfl
          have kl := blk_lt H1.out.2.2
          go_wp2_with fail
          refine (max_ok N a k c l 0 0 Y1 HN.out.1 hk63 H1.out.2.1).mono ?_
          rintro e Y2 ⟨r, v, rfl, f, ho, hm, hb⟩
          rw [(odd_ask HN.out.2.2 0 0 [-1]).1]
          obtain ⟨_, _, rfl, _⟩ := ho.rows
          have H2 := Lib.hid (And.intro (H1.out.1.later hb) (And.intro (H1.out.2.1.later hb) (blk_below H1.out.2.2 hb)))
          clear ho hm hb k0 k1 kl H1
          have k0 : Y2.cell? ⟨bq, 0, none⟩ = some (.int .i64 N) := (blk_cell H2.out.2.2 0).trans rfl
          have k1 : Y2.cell? ⟨bq, 1, none⟩ = some (.slice a k c) := (blk_cell H2.out.2.2 1).trans rfl
          have kl := blk_lt H2.out.2.2
          go_wp2_with fail
          have b3 := below_alloc (below_self Y2) (.cells #[.int .i64 (-1)] 3)
          refine (across_ok N a k c l _ 1 1 [-1] _ HN.out.1 hk63 (H2.out.2.1.later b3) rfl (by omega) (ints_blk2 (xs := [-1]) (blk_new Y2 _))).mono ?_
          rintro e Y3 ⟨rfl, hb⟩
          rw [(odd_ask HN.out.2.2 0 0 [-1]).2]
          have hb := below_trans b3 hb
          have H3 := Lib.hid (And.intro (H2.out.1.later hb) (And.intro (H2.out.2.1.later hb) (blk_below H2.out.2.2 hb)))
          clear hb b3 k0 k1 kl H2
          have k0 : Y3.cell? ⟨bq, 0, none⟩ = some (.int .i64 N) := (blk_cell H3.out.2.2 0).trans rfl
          have k1 : Y3.cell? ⟨bq, 1, none⟩ = some (.slice a k c) := (blk_cell H3.out.2.2 1).trans rfl
          have kl := blk_lt H3.out.2.2
          go_wp2_with fail
          refine (valid_ok N a k c l Y3 HN.out.1 hk63 H3.out.2.1).mono ?_
          rintro e Y4 ⟨rfl, hb⟩
          rw [HN.out.2.2]
          have H4 := Lib.hid (H3.out.1.later hb)
          clear hb k0 k1 kl H3
          go_wp2_with fail
          go_roundw
          case rel => exact ⟨j + 1, _, by omega, by go_num, rfl, H4⟩
          case measure => simp [intOf]; omega
        · have hltI : ¬ (j : Int) < 8 := by omega
          obtain rfl : j = 8 := by omega
          clear hj hlt
          have S1 := Lib.hid (L1.out.later HY.out.bel)
          clear HY L1
          go_wp2_with fail
          have HP := Lib.hid (show SX w b g (Y.alloc (.cells #[.int .i64 0, .int .i64 0, .int .i64 (-1), .int .i64 1, .int .i64 0, .int .i64 4, .int .i64 4, .int .i64 0] 44)) ∧ (Y.alloc (.cells #[.int .i64 0, .int .i64 0, .int .i64 (-1), .int .i64 1, .int .i64 0, .int .i64 4, .int .i64 4, .int .i64 0] 44)).heap[Y.heap.size]? = some (.cells #[.int .i64 0, .int .i64 0, .int .i64 (-1), .int .i64 1, .int .i64 0, .int .i64 4, .int .i64 4, .int .i64 0] 44 (0, 0)) from ⟨S1.out.later (below_alloc (below_self Y) _), blk_new Y _⟩)
          generalize Y.alloc _ = P at HP ⊢
          generalize Y.heap.size = pb at HP ⊢
          clear S1
          go_loopw [108] (fun i wr => ∃ (j : Nat) (Z : World), j ≤ 4 ∧ i = .int .i64 j ∧ Z = wr ∧ Hid (SX w b g Z ∧ Z.heap[pb]? = some (.cells #[.int .i64 0, .int .i64 0, .int .i64 (-1), .int .i64 1, .int .i64 0, .int .i64 4, .int .i64 4, .int .i64 0] 44 (0, 0)))) (fun i _ => 4 - (intOf i).toNat)
          case atStart => exact ⟨0, _, by omega, rfl, rfl, HP⟩
          case round =>
            clear HP
            obtain ⟨j, Z, hj, rfl, rfl, HZ⟩ := hrel
            by_cases hlt : j < 4
            · have hltI : (j : Int) < 4 := by omega
              obtain ⟨x, y, c0, c1, hask⟩ := pair_at HZ.out.2 j hlt
              have HA := Lib.hid hask
              have lo := blk_lt HZ.out.2
              clear hask
              go_upto_region 19 with fail
              have b1 := below_alloc (below_self Z) (.cells #[.int .i64 x, .int .i64 y] 44)
              have H1 := Lib.hid (show SX w b g (Z.alloc (.cells #[.int .i64 x, .int .i64 y] 44)) ∧ (Z.alloc (.cells #[.int .i64 x, .int .i64 y] 44)).heap[pb]? = some (.cells #[.int .i64 0, .int .i64 0, .int .i64 (-1), .int .i64 1, .int .i64 0, .int .i64 4, .int .i64 4, .int .i64 0] 44 (0, 0)) ∧ (Z.alloc (.cells #[.int .i64 x, .int .i64 y] 44)).heap[Z.heap.size]? = some (.cells #[.int .i64 x, .int .i64 y] 44 (0, 0)) from ⟨HZ.out.1.later b1, blk_below HZ.out.2 b1, blk_new Z _⟩)
              clear b1
              generalize Z.alloc _ = Z1 at H1 ⊢
              generalize Z.heap.size = bq at H1 ⊢
              clear c0 c1 lo HZ
              have k0 := H1.out.1.c0
              have k1 := H1.out.1.c1
              have kl := H1.out.1.lt
              have p0 : Z1.cell? ⟨bq, 0, none⟩ = some (.int .i64 x) := (blk_cell H1.out.2.2 0).trans rfl
              have p1 : Z1.cell? ⟨bq, 1, none⟩ = some (.int .i64 y) := (blk_cell H1.out.2.2 1).trans rfl
              have pl := blk_lt H1.out.2.2
              go_wp2_with fail
              refine (cut_ok 4 _ 5 5 sampA x y Z1 rfl (by omega) H1.out.1.rows).mono ?_
              rintro e Z2 ⟨v, rfl, f, ho, hm, hb⟩
              rw [HA.out]
              obtain ⟨_, _, rfl, _⟩ := ho.rows
              have H2 := Lib.hid (And.intro (H1.out.1.later hb) (And.intro (blk_below H1.out.2.1 hb) (blk_below H1.out.2.2 hb)))
              clear ho hm hb k0 k1 kl p0 p1 pl H1
              have k0 := H2.out.1.c0
              have k1 := H2.out.1.c1
              have kl := H2.out.1.lt
              have p0 : Z2.cell? ⟨bq, 0, none⟩ = some (.int .i64 x) := (blk_cell H2.out.2.2 0).trans rfl
              have p1 : Z2.cell? ⟨bq, 1, none⟩ = some (.int .i64 y) := (blk_cell H2.out.2.2 1).trans rfl
              have pl := blk_lt H2.out.2.2
              go_wp2_with fail
              refine (crit_ok 4 _ 5 5 sampA x y Z2 rfl (by omega) H2.out.1.rows).mono ?_
              rintro e Z3 ⟨v, rfl, f2, ho, hm, hb⟩
              rw [HA.out]
              obtain ⟨_, _, rfl, _⟩ := ho.rows
              have H3 := Lib.hid (And.intro (H2.out.1.later hb) (And.intro (blk_below H2.out.2.1 hb) (blk_below H2.out.2.2 hb)))
              clear ho hm hb k0 k1 kl p0 p1 pl H2
              have k0 := H3.out.1.c0
              have k1 := H3.out.1.c1
              have kl := H3.out.1.lt
              have p0 : Z3.cell? ⟨bq, 0, none⟩ = some (.int .i64 x) := (blk_cell H3.out.2.2 0).trans rfl
              have p1 : Z3.cell? ⟨bq, 1, none⟩ = some (.int .i64 y) := (blk_cell H3.out.2.2 1).trans rfl
              have pl := blk_lt H3.out.2.2
              go_wp2_with fail
              refine (check_ok 4 _ 5 5 sampA x y none 0 0 [] Z3 rfl (by omega) H3.out.1.rows rfl (by omega) (RowsAt.nil _ _ _ _)).mono ?_
              rintro e Z4 ⟨rfl, hb⟩
              rw [chk_ask HA.out]
              have H4 := Lib.hid (And.intro (H3.out.1.later hb) (blk_below H3.out.2.1 hb))
              clear hb k0 k1 kl p0 p1 pl H3
              go_wp2_with fail
              go_roundw
              case rel => exact ⟨j + 1, _, by omega, by go_num, rfl, H4⟩
              case measure => simp [intOf]; omega
            · have hltI : ¬ (j : Int) < 4 := by omega
              obtain rfl : j = 4 := by omega
              clear hj hlt
              have S0 := Lib.hid HZ.out.1
              clear HZ
              have k0 := S0.out.c0
              have k1 := S0.out.c1
              have kl := S0.out.lt
              go_wp2_with fail
              have b5 := below_alloc (below_self Z) (.cells #[.int .i64 1, .int .i64 1, .int .i64 0, .int .i64 1, .int .i64 0] 3)
              refine (check_ok 4 _ 5 5 sampA 0 3 _ 5 5 [1, 1, 0, 1, 0] _ rfl (by omega) (S0.out.rows.later b5) rfl (by omega) (ints_blk2 (xs := [1, 1, 0, 1, 0]) (blk_new Z _))).mono ?_
              rintro e V0 ⟨rfl, hb⟩
              rw [samp_errs.1]
              have hb := below_trans b5 hb
              have S1 := Lib.hid (S0.out.later hb)
              clear hb b5 k0 k1 kl S0
              have k0 := S1.out.c0
              have k1 := S1.out.c1
              have kl := S1.out.lt
              go_wp2_with fail
              have b5 := below_alloc (below_self V0) (.cells #[.int .i64 4, .int .i64 0, .int .i64 2, .int .i64 2, .int .i64 2] 3)
              refine (check_ok 4 _ 5 5 sampA 0 3 _ 5 5 [4, 0, 2, 2, 2] _ rfl (by omega) (S1.out.rows.later b5) rfl (by omega) (ints_blk2 (xs := [4, 0, 2, 2, 2]) (blk_new V0 _))).mono ?_
              rintro e V1 ⟨rfl, hb⟩
              rw [samp_errs.2.1]
              have hb := below_trans b5 hb
              have S2 := Lib.hid (S1.out.later hb)
              clear hb b5 k0 k1 kl S1
              have k0 := S2.out.c0
              have k1 := S2.out.c1
              have kl := S2.out.lt
              go_wp2_with fail
              refine (check_ok 4 _ 5 5 sampA 0 3 none 0 0 [] _ rfl (by omega) S2.out.rows rfl (by omega) (RowsAt.nil _ _ _ _)).mono ?_
              rintro e V2 ⟨rfl, hb⟩
              rw [samp_errs.2.2.1]
              have S3 := Lib.hid (S2.out.later hb)
              clear hb k0 k1 kl S2
              have k0 := S3.out.c0
              have k1 := S3.out.c1
              have kl := S3.out.lt
              go_wp2_with fail
              have b5 := below_alloc (below_self V2) (.cells #[.int .i64 1, .int .i64 0] 3)
              refine (across_ok 4 _ 5 5 sampA _ 2 2 [1, 0] _ rfl (by omega) (S3.out.rows.later b5) rfl (by omega) (ints_blk2 (xs := [1, 0]) (blk_new V2 _))).mono ?_
              rintro e V3 ⟨rfl, hb⟩
              rw [samp_errs.2.2.2.1]
              have hb := below_trans b5 hb
              have S4 := Lib.hid (S3.out.later hb)
              clear hb b5 k0 k1 kl S3
              have k0 := S4.out.c0
              have k1 := S4.out.c1
              have kl := S4.out.lt
              go_wp2_with fail
              have b5 := below_alloc (below_self V3) (.cells #[.int .i64 0, .int .i64 0] 3)
              refine (across_ok 4 _ 5 5 sampA _ 2 2 [0, 0] _ rfl (by omega) (S4.out.rows.later b5) rfl (by omega) (ints_blk2 (xs := [0, 0]) (blk_new V3 _))).mono ?_
              rintro e V4 ⟨rfl, hb⟩
              rw [samp_errs.2.2.2.2.1]
              have hb := below_trans b5 hb
              have S5 := Lib.hid (S4.out.later hb)
              clear hb b5 k0 k1 kl S4
              have k0 := S5.out.c0
              have k1 := S5.out.c1
              have kl := S5.out.lt
              go_wp2_with fail
              have b5 := below_alloc (below_self V4) (.cells #[.int .i64 4] 3)
              refine (across_ok 4 _ 5 5 sampA _ 1 1 [4] _ rfl (by omega) (S5.out.rows.later b5) rfl (by omega) (ints_blk2 (xs := [4]) (blk_new V4 _))).mono ?_
              rintro e V5 ⟨rfl, hb⟩
              rw [samp_errs.2.2.2.2.2]
              have hb := below_trans b5 hb
              have S6 := Lib.hid (S5.out.later hb)
              clear hb b5 k0 k1 kl S5
              have k0 := S6.out.c0
              have k1 := S6.out.c1
              have kl := S6.out.lt
              go_wp2_with fail
              have b5 := below_alloc (below_self V5) (.cells #[.int .i64 1, .int .i64 1, .int .i64 0, .int .i64 1, .int .i64 1] 3)
              refine (check_ok 4 _ 5 5 sampA 3 0 _ 5 5 [1, 1, 0, 1, 1] _ rfl (by omega) (S6.out.rows.later b5) rfl (by omega) (ints_blk2 (xs := [1, 1, 0, 1, 1]) (blk_new V5 _))).mono ?_
              rintro e V6 ⟨rfl, hb⟩
              rw [samp_rev.2.1, samp_rev.2.2]
              have hb := below_trans b5 hb
              have S7 := Lib.hid (S6.out.later hb)
              clear hb b5 k0 k1 kl S6
              have k0 := S7.out.c0
              have k1 := S7.out.c1
              have kl := S7.out.lt
              go_wp2_with fail
              refine (max_ok 4 _ 5 5 sampA 3 0 V6 rfl (by omega) S7.out.rows).mono ?_
              rintro e V7 ⟨r, v, rfl, f, ho, hm, hb⟩
              rw [samp_rev.1]
              obtain rfl := samp_rmax hm
              obtain ⟨_, _, rfl, _⟩ := ho.rows
              have S8 := Lib.hid (S7.out.later hb)
              clear ho hm hb k0 k1 kl S7
              have k0 := S8.out.c0
              have k1 := S8.out.c1
              have kl := S8.out.lt
              go_wp2_with fail
              refine (cut_ok 4 _ 5 5 sampA 3 0 V7 rfl (by omega) S8.out.rows).mono ?_
              rintro e V8 ⟨v, rfl, f2, ho, hm, hb⟩
              rw [samp_rev.1]
              obtain rfl := samp_rcut hm
              obtain ⟨ac, cc, rfl, hrc⟩ := ho.rows
              have S9 := Lib.hid (And.intro (S8.out.later hb).bel hrc)
              clear ho hm hb hrc k0 k1 kl S8
              go_wp2_with fail
              have b5 := below_alloc (below_self V8) (.cells #[.int .i64 3] 3)
              refine (equalI_ok ac _ 1 cc 1 1 [3] [3] _ rfl rfl (by omega) (S9.out.2.later b5) (ints_blk2 (xs := [3]) (blk_new V8 _))).mono ?_
              rintro e V9 ⟨rfl, hb⟩
              rw [decide_eq_true (rfl : [(3 : Int)] = [3])]
              have S10 := Lib.hid (below_trans S9.out.1 (below_trans b5 hb))
              clear hb b5 S9
              go_wp2_with fail
              have HV0 := Lib.hid (show VJ V9 64 none 0 0 (bigL 0) (V9.alloc (.cells #[.int .i64 64, .slice none 0 0] 24)) from ⟨below_alloc (below_self V9) _, blk_new V9 _, OwnA.nil _ _⟩)
              generalize V9.alloc _ = V10 at HV0 ⊢
              go_loopw [36] (fun i wr => ∃ (k : Nat) (X : World) (av : Option Addr) (cv : Nat), k ≤ 63 ∧ i = .int .i64 k ∧ X = wr ∧ Hid (VJ V9 64 av (2 * k) cv (bigL k) X)) (fun i _ => 63 - (intOf i).toNat)
              case atStart => exact ⟨0, _, _, _, by omega, rfl, rfl, HV0⟩
              case round =>
                clear HV0
                obtain ⟨k, X, av, cv, hk, rfl, rfl, HX⟩ := hrel
                by_cases hlt : k < 63
                · have hltI : (k : Int) < 63 := by omega
                  have k1 : X.cell? ⟨V9.heap.size, 1, none⟩ = some (.slice av (2 * k) cv) := (blk_cell HX.out.box 1).trans rfl
                  have kl := blk_lt HX.out.box
                  obtain ⟨q, hq⟩ : ∃ q, 2 * k = q := ⟨_, rfl⟩
                  rw [hq] at k1 HX
                  have hw1 : IntKind.i64.wrap ((k : Int) + 1) = (k : Int) + 1 := IntWalk.i64_in _ (by omega)
                  have hw2 : IntKind.i64.wrap (100000000 - (k : Int)) = 100000000 - (k : Int) := IntWalk.i64_in _ (by omega)
                  have HT := Lib.hid (show bigL (k + 1) = bigL k ++ [⟨k, (k : Int) + 1, 100000000⟩, ⟨k, (k : Int) + 1, 100000000 - k⟩] from rfl)
                  obtain ⟨i0, hi, hz0, hz1, hz2⟩ := info_parts infoA
                  go_wp2_with (at_builtin; go_must (refine wpList_append_any rfl _ _ 22 rfl (V9.heap.size + 1) 32 i0 _ 3 24 Try.underlying22 hi hz0 hz1 hz2 rfl (by decide) _ q (flatA (bigL k)) rfl (World.ownsRow.alloc HX.out.own.1 _) _ _ _ [.int .i64 k, .int .i64 ((k : Int) + 1), .int .i64 100000000, .int .i64 k, .int .i64 ((k : Int) + 1), .int .i64 (100000000 - (k : Int))] rfl ?c0 ?c1 ?c2 ?c3 ?c4 ?c5 ?c6 ?_))
                  case c0 => simp
                  case c1 => rfl
                  case c2 =>
                    refine fun _ => ⟨_, rfl, fun j u hu => ?_⟩
                    have hA : (⟨X.heap.size, 0, none⟩ : Addr).add j = ⟨X.heap.size, j, none⟩ := by simp [Addr.add]; exact fun h => h.symm
                    rw [hA, blk_cell (blk_new X _) j]
                    simpa using hu
                  case c3 => simp [Value.oneCell']
                  case c4 => unfold maxLen; omega
                  case c5 => omega
                  case c6 => first | omega | (simp; omega)
                  intro a2 cap2 W3 hown3 hgrow3
                  have hoA := World.ownsRow.alloc HX.out.own.1 (.cells #[.int .i64 k, .int .i64 ((k : Int) + 1), .int .i64 100000000, .int .i64 k, .int .i64 ((k : Int) + 1), .int .i64 (100000000 - (k : Int))] 32)
                  have hne : some V9.heap.size ≠ (Value.slice av q cv).ownBlock := own_ne hoA (by omega)
                  have hb3 : Below V9.heap.size V9 W3 := grown_below (below_alloc HX.out.bel _) hoA hgrow3.out (by omega) (by have := HX.out.bel.size; simp; omega)
                  have z1 := grown_blk hgrow3.out (blk_alloc HX.out.box _) hne
                  have ho3 : OwnA (V9.heap.size + 1) W3 a2 (q + 2) cap2 (bigL (k + 1)) := by
                    refine OwnA.of ?_ ?_ hown3.out.2
                    · rw [HT.out, flatA_app]
                      exact hown3.out.1
                    · rw [HT.out, List.length_append, HX.out.own.2.1]; rfl
                  have v1 : W3.cell? ⟨V9.heap.size, 1, none⟩ = some (.slice av q cv) := (blk_cell z1 1).trans rfl
                  have f1 := blk_frozen z1 1
                  have lz := blk_lt z1
                  have HN := Lib.hid (show VJ V9 64 a2 (q + 2) cap2 (bigL (k + 1)) (W3.setCell ⟨V9.heap.size, 1, none⟩ (.slice a2 (q + 2) cap2)) from
                    ⟨hb3.setCell (Nat.le_refl _) _, by simp [World.setCell, Array.getElem?_modify, z1], ⟨owns_set ho3.1 (by simp) _, ho3.2⟩⟩)
                  clear hoA hne hb3 z1 ho3 hown3 hgrow3 k1 kl hi hz0 hz1 hz2 HX hw1 hw2
                  go_wp2_with fail
                  go_roundw
                  case rel => exact ⟨k + 1, _, a2, cap2, by omega, by go_num, rfl, by rw [show 2 * (k + 1) = q + 2 by omega]; exact HN⟩
                  case measure => simp [intOf]; omega
                · have hltI : ¬ (k : Int) < 63 := by omega
                  obtain rfl : k = 63 := by omega
                  clear hk hlt
                  have HB := Lib.hid (show VJ V9 64 av 126 cv (bigA 63 0) X from by rw [← big_same]; exact HX.out)
                  clear HX
                  have k0 : X.cell? ⟨V9.heap.size, 0, none⟩ = some (.int .i64 64) := (blk_cell HB.out.box 0).trans rfl
                  have k1 : X.cell? ⟨V9.heap.size, 1, none⟩ = some (.slice av 126 cv) := (blk_cell HB.out.box 1).trans rfl
                  have kl := blk_lt HB.out.box
                  go_wp2_with fail
                  refine (max_ok 64 av 126 cv (bigA 63 0) 0 63 X HB.out.own.2.1 (by omega) HB.out.own.rows).mono ?_
                  rintro e U1 ⟨r, v, rfl, f, ho, hm, hb⟩
                  rw [big_ask]
                  obtain rfl := big_max_is hm
                  obtain ⟨_, _, rfl, _⟩ := ho.rows
                  have B1 := Lib.hid (HB.out.later hb)
                  clear ho hm hb k0 k1 kl HB
                  have k0 : U1.cell? ⟨V9.heap.size, 0, none⟩ = some (.int .i64 64) := (blk_cell B1.out.box 0).trans rfl
                  have k1 : U1.cell? ⟨V9.heap.size, 1, none⟩ = some (.slice av 126 cv) := (blk_cell B1.out.box 1).trans rfl
                  have kl := blk_lt B1.out.box
                  go_wp2_with fail
                  refine (cut_ok 64 av 126 cv (bigA 63 0) 0 63 U1 B1.out.own.2.1 (by omega) B1.out.own.rows).mono ?_
                  rintro e U2 ⟨v, rfl, f2, ho, hm, hb⟩
                  rw [big_ask]
                  obtain ⟨_, _, rfl, _⟩ := ho.rows
                  rw [big_cut_is hm]
                  have B2 := Lib.hid (B1.out.later hb)
                  clear ho hm hb k0 k1 kl B1
                  have k0 : U2.cell? ⟨V9.heap.size, 0, none⟩ = some (.int .i64 64) := (blk_cell B2.out.box 0).trans rfl
                  have k1 : U2.cell? ⟨V9.heap.size, 1, none⟩ = some (.slice av 126 cv) := (blk_cell B2.out.box 1).trans rfl
                  have kl := blk_lt B2.out.box
                  go_wp2_with fail
                  refine (crit_ok 64 av 126 cv (bigA 63 0) 0 63 U2 B2.out.own.2.1 (by omega) B2.out.own.rows).mono ?_
                  rintro e U3 ⟨v, rfl, f3, ho, hm, hb⟩
                  rw [big_ask]
                  obtain ⟨_, _, rfl, _⟩ := ho.rows
                  rw [big_crit_is hm]
                  have B3 := Lib.hid (below_trans S10.out (B2.out.later hb).bel)
                  clear ho hm hb k0 k1 kl B2
                  go_wp2_with fail
                  refine (works_ok U3).mono ?_
                  rintro e U4 ⟨rfl, hb⟩
                  have B4 := Lib.hid (below_trans B3.out hb)
                  clear hb
                  go_wp2_with fail
                  go_ret
                  exact ⟨rfl, B4.out⟩
end Go.Proofs.Ytgojjlnpbakfjaa
