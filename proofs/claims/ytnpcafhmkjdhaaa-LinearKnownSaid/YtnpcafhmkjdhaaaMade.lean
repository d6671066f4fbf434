/- Chapter 06: made: a line by small numbers, its inputs, the number of ticks. -/
import Derived.Test.YtnpcafhmkjdhaaaNumbers
import Derived.Deep.RegionLaw
import Derived.Deep.DrawnRows
import Derived.Deep.AppendLies
import Derived.Deep.RegionHeld3
namespace Go.Proofs.Ytnpcafhmkjdhaaa
open Go Go.RowKit
attribute [local go_sem ↓] Go.wp_at_zero Go.wp_at_succ

theorem infoP : (Try.prog.info? 43).map (fun i => (i.zero, i.size, i.bytes)) = some (some (.agg #[.int .i64 0, .int .i64 0, .int .i64 0]), 3, 24) := by kernel_rfl
theorem ownr_drew' {W : World} {base : Nat} {e : TypeId} {k : Nat} {v : Value} {n : Nat} {xs : List Value} (h : W.ownsRow base e k v n xs) : W.drew.ownsRow base e k v n xs := h
/-- Between two rounds of made. -/
structure MJ (w : World) (x : SmA) (k : Nat) (av : Option Addr) (cv : Nat) (X : World) : Prop where
  bel : Below w.heap.size w X
  sm : X.heap[w.heap.size]? = some (.cells x.cells.toArray 25 (0, 0))
  out : X.heap[w.heap.size + 1]? = some (.cells #[.int .i64 0, .slice none 0 0] 28 (0, 0))
  ln : X.heap[w.heap.size + 2]? = some (.cells #[.int .i64 x.carry, .slice av k cv] 28 (0, 0))
  own : X.ownsRow (w.heap.size + 3) 43 3 (.slice av k cv) k (flatP (x.ps.take k))
theorem blk_setcell {W : World} {k i : Nat} {c : Array Value} {u : Value} {t : TypeId} {fr : Nat × Nat} (h : W.heap[k]? = some (.cells c t fr)) : (W.setCell ⟨k, i, none⟩ u).heap[k]? = some (.cells (c.setIfInBounds i u) t fr) := by
  simp [World.setCell, Array.getElem?_modify, h]
theorem MJ.drew {w : World} {x : SmA} {k : Nat} {av : Option Addr} {cv : Nat} {X : World} (h : MJ w x k av cv X) : MJ w x k av cv X.drew := ⟨h.bel.drew, h.sm, h.out, h.ln, h.own⟩
theorem MJ.later {w : World} {x : SmA} {k : Nat} {av : Option Addr} {cv : Nat} {X X1 : World} (h : MJ w x k av cv X) (hb : Below X.heap.size X X1) : MJ w x k av cv X1 :=
  ⟨below_trans h.bel hb, blk_below h.sm hb, blk_below h.out hb, blk_below h.ln hb, owns_later h.own hb⟩
theorem MJ.grown {w : World} {x : SmA} {k : Nat} {av : Option Addr} {cv : Nat} {X w1 : World} (h : MJ w x k av cv X) {o : Obj} (hg : (X.alloc o).drew.grownBy w1 (Value.slice av k cv).ownBlock) :
    Below w.heap.size w w1 ∧ w1.heap[w.heap.size]? = some (.cells x.cells.toArray 25 (0, 0)) ∧ w1.heap[w.heap.size + 1]? = some (.cells #[.int .i64 0, .slice none 0 0] 28 (0, 0)) ∧ w1.heap[w.heap.size + 2]? = some (.cells #[.int .i64 x.carry, .slice av k cv] 28 (0, 0)) := by
  have ho : (X.alloc o).drew.ownsRow (w.heap.size + 3) 43 3 (.slice av k cv) k (flatP (x.ps.take k)) := World.ownsRow.alloc h.own o
  refine ⟨grown_below (below_alloc h.bel o).drew ho hg (by omega) (by have := h.bel.size; simp; omega), ?_, ?_, ?_⟩
  · exact grown_blk hg (show (X.alloc o).drew.heap[w.heap.size]? = _ from blk_alloc h.sm o) (own_ne ho (by omega))
  · exact grown_blk hg (show (X.alloc o).drew.heap[w.heap.size + 1]? = _ from blk_alloc h.out o) (own_ne ho (by omega))
  · exact grown_blk hg (show (X.alloc o).drew.heap[w.heap.size + 2]? = _ from blk_alloc h.ln o) (own_ne ho (by omega))
theorem MJ.step {w : World} {x : SmA} {k : Nat} {av : Option Addr} {cv : Nat} {X w1 : World} {g cap q : Nat} {P : List Value} (h : MJ w x k av cv X) {o : Obj} (hg : (X.alloc o).drew.grownBy w1 (Value.slice av k cv).ownBlock)
    (hown : w1.ownsRow (w.heap.size + 3) 43 3 (.slice (some ⟨g, 0, none⟩) q cap) q (flatP (x.ps.take k) ++ P)) (hq : q = k + 1) (hP : flatP (x.ps.take (k + 1)) = flatP (x.ps.take k) ++ P) :
    MJ w x (k + 1) (some ⟨g, 0, none⟩) cap (w1.setCell ⟨w.heap.size + 2, 1, none⟩ (.slice (some ⟨g, 0, none⟩) (k + 1) cap)) := by
  subst hq
  obtain ⟨g1, g2, g3, g4⟩ := h.grown hg
  rw [← hP] at hown
  exact ⟨g1.setCell (by simp) _, blk_set g2 (by simp) _, blk_set g3 (by simp) _, by simpa using blk_setcell (i := 1) (u := .slice (some ⟨g, 0, none⟩) (k + 1) cap) g4, owns_set_ne hown (own_ne hown (by simp)) _⟩
theorem MJ.cells {w : World} {x : SmA} {k : Nat} {av : Option Addr} {cv : Nat} {X : World} (h : MJ w x k av cv X) : X.cell? ⟨w.heap.size, 7, none⟩ = some (.slice x.a.1 x.a.2.1 x.a.2.2) ∧ X.cell? ⟨w.heap.size, 8, none⟩ = some (.slice x.b.1 x.b.2.1 x.b.2.2) ∧ X.cell? ⟨w.heap.size, 2, none⟩ = some (.int .u8 x.n) ∧ X.cell? ⟨w.heap.size + 1 + 1, 0, none⟩ = some (.int .i64 x.carry) ∧ X.cell? ⟨w.heap.size + 1 + 1, 1, none⟩ = some (.slice av k cv) :=
  ⟨(blk_cell h.sm 7).trans rfl, (blk_cell h.sm 8).trans rfl, (blk_cell h.sm 2).trans rfl, (blk_cell h.ln 0).trans rfl, (blk_cell h.ln 1).trans rfl⟩
theorem own_lt {W : World} {base : Nat} {e : TypeId} {k : Nat} {v : Value} {n : Nat} {xs : List Value} (h : W.ownsRow base e k v n xs) : ∀ g, v.ownBlock = some g → g < W.heap.size := by
  intro g hg
  rcases h.2 with ⟨h2, _⟩ | ⟨g', cap, cur, hv, _, hh, r⟩
  · rw [h2] at hg; cases hg
  · rw [hv] at hg
    have : g' = g := by simpa [Value.ownBlock] using hg
    subst this
    exact blk_lt hh
/-- What made gives: the parts, the inputs, each in memory of its own. -/
structure Made (w W : World) (x : SmA) (p h0 h1 : Hd) (s1 s2 gi : Nat) : Prop where
  bel : Below w.heap.size w W
  pn : p.2.1 = 2
  po : W.ownsRow w.heap.size 43 3 p.val 2 (flatP x.ps)
  p1 : ∀ g, p.val.ownBlock = some g → g < s1
  w1 : w.heap.size ≤ s1
  o0 : OwnI s1 W h0.val (x.A.take 30)
  n0 : h0.2.1 = (x.A.take 30).length
  b0 : ∀ g, h0.val.ownBlock = some g → g < s2
  w2 : s1 ≤ s2
  o1 : OwnI s2 W h1.val (x.B.take 30)
  n1 : h1.2.1 = (x.B.take 30).length
  b1 : ∀ g, h1.val.ownBlock = some g → g < gi
  w3 : s2 ≤ gi
  gb : W.heap[gi]? = some (.cells #[h0.val, h1.val] 32 (0, 0))

theorem made_end {w : World} {x : SmA} {av : Option Addr} {cv : Nat} {X X1 X2 : World} {a1 a2 : Option Addr} {n1 q1 n2 q2 : Nat} (h : MJ w x 2 av cv X) (hn1 : n1 = (x.A.take 30).length) (hn2 : n2 = (x.B.take 30).length)
    (H1 : OwnI X.drew.heap.size X1 (.slice a1 n1 q1) (x.A.take 30) ∧ MJ w x 2 av cv X1 ∧ Below X.drew.heap.size X.drew X1) (H2 : OwnI X1.heap.size X2 (.slice a2 n2 q2) (x.B.take 30) ∧ MJ w x 2 av cv X2 ∧ Below X1.heap.size X1 X2) {Z : World}
    (hZ : ((X2.setCell ⟨w.heap.size + 1, 0, none⟩ (.int .i64 x.carry)).setCell ⟨w.heap.size + 1, 1, none⟩ (.slice av 2 cv)).alloc (.cells #[.slice a1 n1 q1, .slice a2 n2 q2] 32) = Z) :
    Z.cell? ⟨w.heap.size + 1, 0, none⟩ = some (.int .i64 x.carry) ∧ Z.cell? ⟨w.heap.size + 1, 1, none⟩ = some (.slice av 2 cv) ∧ Made w Z x (av, 2, cv) (a1, n1, q1) (a2, n2, q2) X.heap.size X1.heap.size X2.heap.size := by
  obtain ⟨o1, M1, b1⟩ := H1
  obtain ⟨o2, M2, b2⟩ := H2
  have hb := blk_alloc (blk_setcell (i := 1) (u := .slice av 2 cv) (blk_setcell (i := 0) (u := .int .i64 x.carry) M2.out)) (.cells #[.slice a1 n1 q1, .slice a2 n2 q2] 32)
  rw [hZ] at hb
  have l0 : w.heap.size + 2 < X.heap.size := blk_lt h.ln
  have l1 : X.heap.size ≤ X1.heap.size := b1.size
  have l2 : X1.heap.size ≤ X2.heap.size := b2.size
  have keep : ∀ {base : Nat} {e : TypeId} {k : Nat} {v : Value} {n : Nat} {xs : List Value}, X2.ownsRow base e k v n xs → w.heap.size + 1 < base → Z.ownsRow base e k v n xs := by
    intro base e k v n xs ho hlt
    rw [← hZ]
    exact World.ownsRow.alloc (owns_set_ne (owns_set_ne ho (own_ne ho hlt) _) (own_ne ho hlt) _) _
  refine ⟨(blk_cell hb 0).trans rfl, (blk_cell hb 1).trans rfl, ?_⟩
  refine ⟨?_, rfl, owns_base (keep M2.own (by omega)) (by omega), own_lt h.own, by omega, ?_, hn1, ?_, l1, ?_, hn2, ?_, l2, ?_⟩
  · rw [← hZ]
    exact below_alloc ((M2.bel.setCell (by simp) _).setCell (by simp) _) _
  · exact keep (owns_later o1 b2) (by show w.heap.size + 1 < X.heap.size; omega)
  · exact own_lt o1
  · exact keep o2 (by omega)
  · exact own_lt o2
  · rw [← hZ]
    have := blk_new ((X2.setCell ⟨w.heap.size + 1, 0, none⟩ (.int .i64 x.carry)).setCell ⟨w.heap.size + 1, 1, none⟩ (.slice av 2 cv)) (.cells #[.slice a1 n1 q1, .slice a2 n2 q2] 32)
    simpa using this

set_option maxHeartbeats 4000000 in
theorem made_ok (x : SmA) (w : World) (hx : x.ok w) : Calls Try.prog 10 #[x.val] w fun e W' => ∃ (p h0 h1 : Hd) (s1 s2 gi : Nat), e = .returned (.tuple #[.agg #[.int .i64 x.carry, .slice p.1 2 p.2.2], .slice (some ⟨gi, 0, none⟩) 2 2, .int .i64 x.N]) ∧ Made w W' x p h0 h1 s1 s2 gi := by
  obtain ⟨⟨c0, c1⟩, ⟨s0, s1⟩, ⟨n0, n1⟩, ⟨t00, t01⟩, ⟨t10, t11⟩, ⟨d00, d01⟩, ⟨d10, d11⟩, hA, hB⟩ := hx.ok
  have hNe := Sml.N_eq hx.ok
  have HX := Lib.hid (And.intro hx (And.intro hA hB))
  clear hx hA hB
  have hw0 : IntKind.i64.wrap x.carry = x.carry := IntWalk.i64_in _ (by omega)
  go_enter Try.func10, Try.ntmps10
  go_wp2_with fail
  obtain ⟨A, hA⟩ : ∃ W' : World, (((w.alloc (.cells x.cells.toArray 25)).alloc (.cells #[.int .i64 0, .slice none 0 0] 28)).alloc (.cells #[.int .i64 x.carry, .slice none 0 0] 28)) = W' := ⟨_, rfl⟩
  have h1 : Has A [(w.heap.size + 1 + 1, .cells #[.int .i64 x.carry, .slice none 0 0] 28 (0, 0)), (w.heap.size + 1, .cells #[.int .i64 0, .slice none 0 0] 28 (0, 0)), (w.heap.size, .cells x.cells.toArray 25 (0, 0))] := by rw [← hA]; simpa using ((((Has.nil w).new _).new _).new _)
  have z1 : A.heap.size = w.heap.size + 1 + 1 + 1 := by rw [← hA]; simp
  have b1 : Below w.heap.size w A := by rw [← hA]; exact (below_alloc (below_alloc (below_alloc (below_self w) _) _) _)
  rw [hA]
  clear hA
  have HS := Lib.hid (show MJ w x 0 none 0 A from ⟨b1, h1.tl.tl.hd, h1.tl.hd, h1.hd, World.ownsRow_nil _ _ _ _⟩)
  clear h1 z1 b1 hw0 c0 c1 s0 s1
  go_loopw [6] (fun i wr => ∃ (k : Nat) (X : World) (av : Option Addr) (cv : Nat), k ≤ 2 ∧ i = .int .i64 k ∧ X = wr ∧ Hid (MJ w x k av cv X)) (fun i _ => 2 - (intOf i).toNat)
  case atStart => exact ⟨0, _, _, _, by omega, rfl, rfl, HS⟩
  case round =>
    obtain ⟨k, X, av, cv, hk, rfl, rfl, HM⟩ := hrel
    by_cases hlt : k < 2
    · have k0 := blk_cell HM.out.sm 3
      have k1 := blk_cell HM.out.sm 4
      have k2 := blk_cell HM.out.sm 5
      have k3 := blk_cell HM.out.sm 6
      have k4 := blk_cell HM.out.ln 1
      simp at k0 k1 k2 k3 k4
      obtain ⟨i0, hi, hz0, hz1, hz2⟩ := info_parts infoP
      have hw1 : IntKind.i64.wrap x.t0 = x.t0 := IntWalk.i64_in _ (by omega)
      have hw2 : IntKind.i64.wrap x.d0 = x.d0 := IntWalk.i64_in _ (by omega)
      have hw5 : IntKind.i64.wrap x.t1 = x.t1 := IntWalk.i64_in _ (by omega)
      have hw6 : IntKind.i64.wrap x.d1 = x.d1 := IntWalk.i64_in _ (by omega)
      have HS0 := Lib.hid (show w.heap.size + 3 ≤ X.heap.size by have := blk_lt HM.out.ln; omega)
      have lx : w.heap.size + 1 + 1 < X.heap.size := blk_lt HM.out.ln
      rcases (show k = 0 ∨ k = 1 by omega) with rfl | rfl
      · clear hk hlt
        have HP : Hid (flatP (x.ps.take (0 + 1)) = flatP (x.ps.take 0) ++ [.int .i64 0, .int .i64 (x.t0.tmod 4), .int .i64 (x.d0.tmod 9)]) := Lib.hid (by rw [Int.tmod_eq_emod_of_nonneg t00, Int.tmod_eq_emod_of_nonneg d00]; rfl)
        go_wp2_with fail
        go_region_law (first
          | (refine step_append_lies _ (by rfl) _ _ 26 (by rfl) (w.heap.size + 3) 43 i0 _ 3 24 Try.underlying26 hi hz0 hz1 hz2 rfl (by decide) _ 0 (flatP (x.ps.take 0)) (by rfl) (ownr_drew' (World.ownsRow.alloc HM.out.own (.cells #[.int .i64 0, .int .i64 (x.t0.tmod 4), .int .i64 (x.d0.tmod 9)] 43))) ⟨X.heap.size, 0, none⟩ 1 1 [.int .i64 0, .int .i64 (x.t0.tmod 4), .int .i64 (x.d0.tmod 9)] (by rfl) rfl (World.news_of_block (show (X.alloc (.cells #[.int .i64 0, .int .i64 (x.t0.tmod 4), .int .i64 (x.d0.tmod 9)] 43)).drew.heap[X.heap.size]? = _ from blk_new X (.cells #[.int .i64 0, .int .i64 (x.t0.tmod 4), .int .i64 (x.d0.tmod 9)] 43))) (by simp [Value.oneCell']) (by omega) (by unfold maxLen; omega) (by omega) (show w.heap.size + 3 ≤ (X.alloc _).heap.size by have h1 := HS0.out; simp; omega) _ rfl ?_
             intro g1 cap1 w1 hown1 hgrow hat hlt1
             have y0 := blk_cell (HM.out.grown hgrow).2.2.2 1
             have y1 := blk_frozen (HM.out.grown hgrow).2.2.2 1
             simp at y0))
        all_goals
          have q := Lib.hid (HM.out.step hgrow hown1 rfl HP.out)
          clear hown1 hgrow hat hlt1 y0 y1 k0 k1 k2 k3 k4 hi hz0 hz1 hz2 lx HM
          go_wp2_with fail
          go_roundw
          case rel => exact ⟨1, _, _, _, by omega, by go_num, rfl, q⟩
          case measure => simp [intOf]
      · clear hk hlt
        have HP : Hid (flatP (x.ps.take (1 + 1)) = flatP (x.ps.take 1) ++ [.int .i64 1, .int .i64 (x.t1.tmod 4), .int .i64 (x.d1.tmod 9)]) := Lib.hid (by rw [Int.tmod_eq_emod_of_nonneg t10, Int.tmod_eq_emod_of_nonneg d10]; rfl)
        go_wp2_with fail
        go_region_law (first
          | (refine step_append_lies _ (by rfl) _ _ 26 (by rfl) (w.heap.size + 3) 43 i0 _ 3 24 Try.underlying26 hi hz0 hz1 hz2 rfl (by decide) _ 1 (flatP (x.ps.take 1)) (by rfl) (ownr_drew' (World.ownsRow.alloc HM.out.own (.cells #[.int .i64 1, .int .i64 (x.t1.tmod 4), .int .i64 (x.d1.tmod 9)] 43))) ⟨X.heap.size, 0, none⟩ 1 1 [.int .i64 1, .int .i64 (x.t1.tmod 4), .int .i64 (x.d1.tmod 9)] (by rfl) rfl (World.news_of_block (show (X.alloc (.cells #[.int .i64 1, .int .i64 (x.t1.tmod 4), .int .i64 (x.d1.tmod 9)] 43)).drew.heap[X.heap.size]? = _ from blk_new X (.cells #[.int .i64 1, .int .i64 (x.t1.tmod 4), .int .i64 (x.d1.tmod 9)] 43))) (by simp [Value.oneCell']) (by omega) (by unfold maxLen; omega) (by omega) (show w.heap.size + 3 ≤ (X.alloc _).heap.size by have h1 := HS0.out; simp; omega) _ rfl ?_
             intro g1 cap1 w1 hown1 hgrow hat hlt1
             have y0 := blk_cell (HM.out.grown hgrow).2.2.2 1
             have y1 := blk_frozen (HM.out.grown hgrow).2.2.2 1
             simp at y0))
        all_goals
          have q := Lib.hid (HM.out.step hgrow hown1 rfl HP.out)
          clear hown1 hgrow hat hlt1 y0 y1 k0 k1 k2 k3 k4 hi hz0 hz1 hz2 lx HM
          go_wp2_with fail
          go_roundw
          case rel => exact ⟨2, _, _, _, by omega, by go_num, rfl, q⟩
          case measure => simp [intOf]
    · have hk2 : k = 2 := by omega
      subst hk2
      clear hk hlt
      have HD := Lib.hid HM.out.drew
      have k0 := blk_cell HM.out.sm 7
      have k1 := blk_cell HM.out.sm 8
      have k2 := blk_cell HM.out.sm 2
      have k3 := blk_cell HM.out.ln 0
      have k4 := blk_cell HM.out.ln 1
      simp at k0 k1 k2 k3 k4
      have hw1 : IntKind.i64.wrap x.n = x.n := IntWalk.i64_in _ (by omega)
      have hw2 : x.n.tmod 41 = x.N := by rw [Int.tmod_eq_emod_of_nonneg n0]; exact hNe
      have hN := x.N_le
      have hAl : x.a.2.1 ≤ 9223372036854775807 := by have := HX.out.1.ag; unfold Hd.good maxLen at this; omega
      have hBl : x.b.2.1 ≤ 9223372036854775807 := by have := HX.out.1.bg; unfold Hd.good maxLen at this; omega
      have HC := Lib.hid (fun W (h : MJ w x 2 av cv W) => (MJ.cells h))
      clear k0 k1 k2 k3 k4
      go_wp2_with fail
      go_region_held3 (fun w' => w'.cell? ⟨w.heap.size, 7, none⟩ = some (.slice x.a.1 x.a.2.1 x.a.2.2) ∧ w'.cell? ⟨w.heap.size, 8, none⟩ = some (.slice x.b.1 x.b.2.1 x.b.2.2) ∧ w'.cell? ⟨w.heap.size, 2, none⟩ = some (.int .u8 x.n) ∧ w'.cell? ⟨w.heap.size + 1 + 1, 0, none⟩ = some (.int .i64 x.carry) ∧ w'.cell? ⟨w.heap.size + 1 + 1, 1, none⟩ = some (.slice av 2 cv))
        ((first | with_reducible exact HC.out _ HD.out | with_reducible exact kX1 | with_reducible exact kX2 | with_reducible exact kA | with_reducible go_keep))
        (first
          | (go_at_call 14; with_reducible refine (numbers_ok x.a.1 x.a.2.1 x.a.2.2 x.A X.drew HX.out.1.al hAl HX.out.2.1 (HX.out.1.ar.later HD.out.bel)).mono ?_; rintro e X1 ⟨v1, rfl, ho1, hb1⟩; (obtain ⟨a1, q1, rfl, hr1⟩ := ho1.rows); have H1 := Lib.hid (And.intro ho1 (And.intro (HD.out.later hb1) hb1)); have kX1 := HC.out _ H1.out.2.1; clear hr1 ho1 hb1)
          | (go_at_call 14; with_reducible refine (numbers_ok x.b.1 x.b.2.1 x.b.2.2 x.B X1 HX.out.1.bl hBl HX.out.2.2 (HX.out.1.br.later H1.out.2.1.bel)).mono ?_; rintro e X2 ⟨v2, rfl, ho2, hb2⟩; (obtain ⟨a2, q2, rfl, hr2⟩ := ho2.rows); have H2 := Lib.hid (And.intro ho2 (And.intro (H1.out.2.1.later hb2) hb2)); have kX2 := HC.out _ H2.out.2.1; have r5 : X2.cell? ⟨w.heap.size + 1, 0, none⟩ = some (.int .i64 0) := (blk_cell H2.out.2.1.out 0).trans rfl; have r6 : X2.cell? ⟨w.heap.size + 1, 1, none⟩ = some (.slice none 0 0) := (blk_cell H2.out.2.1.out 1).trans rfl; have r7 := blk_frozen H2.out.2.1.out 0; have r8 := blk_frozen H2.out.2.1.out 1; have r9 : w.heap.size + 1 < X2.heap.size := blk_lt H2.out.2.1.out; have kA := HC.out _ (H2.out.2.1.later (below_alloc (below_self X2) (.cells #[.slice a1 (x.A.take 30).length q1, .slice a2 (x.B.take 30).length q2] 32))); clear hr2 ho2 hb2))
      all_goals
        have hl1 : (x.A.take 30).length = min 30 x.A.length := List.length_take
        have hl2 : (x.B.take 30).length = min 30 x.B.length := List.length_take
        rw [hl1] at H1
        rw [hl2] at H2
        generalize min 30 x.A.length = n1 at H1 hl1 ⊢
        generalize min 30 x.B.length = n2 at H2 hl2 ⊢
        generalize hZ : (((X2.setCell _ _).setCell _ _).alloc _) = Z
        have HZ := made_end HM.out hl1.symm hl2.symm H1.out H2.out hZ
        clear hZ H1 H2 kX1 kX2 kA r5 r6 r7 r8 r9
        obtain ⟨y0, y1, hM⟩ := HZ
        have HN := Lib.hid hM
        clear hM
        go_wp2_with fail
        refine bodyPost_ret (v := .tuple #[.agg #[.int .i64 x.carry, .slice av 2 cv], .slice (some ⟨X2.heap.size, 0, none⟩) 2 2, .int .i64 x.N]) (by simp [results, Try.results10, go_sem, y0, y1]) rfl ⟨(av, 2, cv), (a1, n1, q1), (a2, n2, q2), _, _, _, rfl, HN.out⟩
end Go.Proofs.Ytnpcafhmkjdhaaa
