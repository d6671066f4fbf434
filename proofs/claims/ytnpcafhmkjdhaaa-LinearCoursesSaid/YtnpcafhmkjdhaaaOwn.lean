/- Chapter 06: own: arguments of their own. -/
import Derived.Test.YtnpcafhmkjdhaaaOwnA
import Derived.Deep.RegionLaw
import Derived.Deep.DrawnRows
import Derived.Deep.RegionHeld3
namespace Go.Proofs.Ytnpcafhmkjdhaaa
open Go Go.RowKit
attribute [local go_sem ↓] Go.wp_at_zero Go.wp_at_succ

theorem ownr_drew2 {W : World} {base : Nat} {e : TypeId} {k : Nat} {v : Value} {n : Nat} {xs : List Value} (h : W.ownsRow base e k v n xs) : W.drew.ownsRow base e k v n xs := h
def OwnRes (w : World) (x : Arg) (e : Ending) (W' : World) : Prop := ∃ (p' i' : Hd) (hs' : List Hd), e = .returned (ownArg x p' i' hs').val ∧ OY w W' (ownArg x p' i' hs') (w.heap.size + 2)
theorem infoI : (Try.prog.info? 32).map (fun i => (i.zero, i.size, i.bytes)) = some (some (.slice none 0 0), 1, 24) := by kernel_rfl

set_option maxHeartbeats 4000000 in
theorem own_ok (x : Arg) (w : World) (hx : x.ok w) : Calls Try.prog 20 #[x.val] w fun e W' => OwnRes w x e W' := by
  obtain ⟨hp1, hp2, hp3⟩ := hx.pg
  have hpl := hx.pl
  obtain ⟨hi1, hi2, hi3⟩ := hx.ig
  have hil := hx.il
  have hml : maxLen = 9223372036854775807 := rfl
  rw [hml] at hp2 hi2
  clear hml
  have HX := Lib.hid (And.intro hx (And.intro hp3 (And.intro hpl hil)))
  obtain ⟨m0, hm0⟩ : ∃ k, min x.p.2.1 18 = k := ⟨_, rfl⟩
  have hk1 : m0 ≤ x.p.2.1 := by omega
  have hk2 : m0 ≤ 18 := by omega
  have hkc : (m0 : Int) ≤ (x.p.2.2 : Int) := by omega
  have hmn : (if (18 : Int) < (x.p.2.1 : Int) then (18 : Int) else (x.p.2.1 : Int)) = (m0 : Int) := by split <;> omega
  have hlen : (x.ps.take 18).length = m0 := by rw [List.length_take, hpl]; omega
  have HM0 := Lib.hid hlen
  clear hx hp3 hm0 hi3 hpl hil hlen
  go_enter Try.func20, Try.ntmps20
  go_upto_region 2 with fail
  obtain ⟨A, hA⟩ : ∃ W' : World, ((w.alloc (.cells x.cells.toArray 52)).alloc (.cells #[.int .i64 0, .slice none 0 0, .int .i64 0, .slice none 0 0, .int .i64 0, .int .i64 0, .int .i64 0] 52)) = W' := ⟨_, rfl⟩
  have h1 : Has A [(w.heap.size + 1, .cells #[.int .i64 0, .slice none 0 0, .int .i64 0, .slice none 0 0, .int .i64 0, .int .i64 0, .int .i64 0] 52 (0, 0)), (w.heap.size, .cells x.cells.toArray 52 (0, 0))] := by rw [← hA]; simpa using (((Has.nil w).new _).new _)
  have z1 : A.heap.size = w.heap.size + 1 + 1 := by rw [← hA]; simp
  have b1 : Below w.heap.size w A := by rw [← hA]; exact (below_alloc (below_alloc (below_self w) _) _)
  rw [hA]
  clear hA
  have y1 : A.cell? ⟨w.heap.size, 1, none⟩ = some (.slice x.p.1 x.p.2.1 x.p.2.2) := (blk_cell h1.tl.hd 1).trans rfl
  have HA := Lib.hid (And.intro h1 (And.intro b1 z1))
  clear h1 b1
  obtain ⟨i0, hi, hz0, hz1, hz2⟩ := info_parts infoP
  go_wp2_with (at_builtin; go_must (refine wpList_append_any rfl _ _ 26 rfl (w.heap.size + 2) 43 i0 _ 3 24 Try.underlying26 hi hz0 hz1 hz2 rfl (by decide) _ _ _ rfl (World.ownsRow_nil _ _ _ _) _ _ _ (flatP (x.ps.take 18)) rfl ?c0 ?c1 ?c2 ?c3 ?c4 ?c5 ?c6 ?_))
  case c0 => intro h; have := HX.out.2.1 h; omega
  case c1 => rw [flatP_len, HM0.out]
  case c2 =>
    intro h0
    have hr : RowsAt A.heap.size A x.p.1 3 (Prts (x.ps.take 18)) := by
      have := (HX.out.1.pr.later HA.out.2.1).take 18
      unfold Prts
      rw [List.map_take]
      exact this
    exact rows_src (by omega) (prts_three _) hr (by simp only [Prts, List.length_map]; rw [HM0.out]; exact h0)
  case c3 => exact flatP_one _
  case c4 => unfold maxLen; omega
  case c5 => omega
  case c6 => have := HA.out.2.2; omega
  intro a' cap' w1 hown hgrow
  have hA0 : (A.grownBy w1 none) := hgrow.out
  have hb1 : Below w.heap.size w w1 := HA.out.2.1.grown hA0 (by have := HA.out.2.2; omega) (by intro k hk; cases hk)
  have z1b : w1.heap[w.heap.size]? = some (.cells x.cells.toArray 52 (0, 0)) := grown_blk hA0 HA.out.1.tl.hd (by simp)
  have z2b : w1.heap[w.heap.size + 1]? = some (.cells #[.int .i64 0, .slice none 0 0, .int .i64 0, .slice none 0 0, .int .i64 0, .int .i64 0, .int .i64 0] 52 (0, 0)) := grown_blk hA0 HA.out.1.hd (by simp)
  have v1 : w1.cell? ⟨w.heap.size, 1, none⟩ = some (.slice x.p.1 x.p.2.1 x.p.2.2) := (blk_cell z1b 1).trans rfl
  have v2 := blk_frozen z1b 1
  have hpw := hown.out.1
  have hJ : OJ w x w1.heap.size (a', m0, cap') 0 none 0 [] (w1.setCell ⟨w.heap.size, 1, none⟩ (.slice a' m0 cap')) := by
    refine ⟨hb1.setCell (Nat.le_refl _) _, ?_, blk_set z2b (by simp) _, ?_, own_lt hpw, by have := blk_lt z2b; omega, by simp, World.ownsRow_nil _ _ _ _, rfl, fun j hj => by omega⟩
    · simpa using blk_setcell (i := 1) (u := .slice a' m0 cap') z1b
    · rw [HM0.out]
      exact owns_set_ne hpw (own_ne hpw (by simp)) _
  have HJ0 := Lib.hid hJ
  generalize w1.heap.size = R at HJ0
  clear hA0 hb1 z1b z2b hpw hJ hgrow hown HA y1 hi hz0 hz1 hz2 z1 hmn hkc hk1
  go_upto_region 5 with fail
  clear v1 v2
  generalize w1.setCell _ _ = X0 at HJ0 ⊢
  generalize hp' : (a', m0, cap') = p' at HJ0
  have e1 : a' = p'.1 := by rw [← hp']
  have e2 : m0 = p'.2.1 := by rw [← hp']
  have e3 : cap' = p'.2.2 := by rw [← hp']
  subst e1 e2 e3
  clear hp'
  go_loopw [4, 5] (fun v i wr => ∃ (k : Nat) (X : World) (av : Option Addr) (cv : Nat) (hs' : List Hd), k ≤ x.i.2.1 ∧ k ≤ 18 ∧ v = .slice av k cv ∧ i = .int .i64 k ∧ X = wr ∧ Hid (OJ w x R p' k av cv hs' X)) (fun _ i _ => x.i.2.1 - (intOf i).toNat)
  case atStart => exact ⟨0, _, _, _, _, Nat.zero_le _, Nat.zero_le _, rfl, rfl, rfl, HJ0⟩
  case round =>
    obtain ⟨k, X, av, cv, hs', hk, hk18, rfl, rfl, rfl, HJ⟩ := hrel
    by_cases hlt : k < x.i.2.1
    · have hltI : (k : Int) < (x.i.2.1 : Int) := by omega
      by_cases h18 : k < 18
      · have h18I : (k : Int) < 18 := by omega
        have hkl : k < x.ins.length := by rw [HX.out.2.2.2]; exact hlt
        have y3 : X.cell? ⟨w.heap.size, 3, none⟩ = some (.slice x.i.1 x.i.2.1 x.i.2.2) := (blk_cell HJ.out.box 3).trans rfl
        have hir := HX.out.1.ir
        obtain ⟨bi, oi, hie, hbi, hc⟩ := hds_at hir.rows k (by rw [hir.len]; exact hkl)
        obtain ⟨ql1, ql2, ql3⟩ := HX.out.1.ir.at' k hkl
        have qg := HX.out.1.hg k hkl
        generalize x.hs.getD k default = hk0 at hc ql1 ql2 ql3 qg
        obtain ⟨ak, nk, ck⟩ := hk0
        have hkk : ∀ k' av' cv' hs'' W, OJ w x R p' k' av' cv' hs'' W → W.cell? ⟨w.heap.size, 3, none⟩ = some (.slice (some ⟨bi, oi, none⟩) x.i.2.1 x.i.2.2) ∧ W.cell? ⟨bi, oi + k, none⟩ = some (.slice ak nk ck) := fun _ _ _ _ _ h => h.cells hie hbi hc
        have HK := Lib.hid hkk
        clear hkk
        obtain ⟨y3', hc'⟩ := HK.out _ _ _ _ _ HJ.out
        clear y3 hc
        obtain ⟨g1', g2', g3'⟩ := qg
        rw [show maxLen = 9223372036854775807 from rfl] at g2'
        simp only at g1' g2' g3' ql1 ql2
        obtain ⟨m, hm⟩ : ∃ m, (cutI (x.ins.getD k default)).length = m := ⟨_, rfl⟩
        have hmv : m = min nk (if 1000 < nk then 1001 else 60) := by rw [← hm]; unfold cutI; rw [List.length_take, ql1, Nat.min_comm]
        have HC := Lib.hid (And.intro True.intro (And.intro hm (And.intro ql3 (show ak = none → m = 0 ∧ ck = 0 from fun h => by have := g3' h; omega))))
        have hm6 : m ≤ 1000000 := by rw [hmv]; split <;> omega
        obtain ⟨i0, hi, hz0, hz1, hz2⟩ := info_parts infoI
        have HD := Lib.hid HJ.out.drew
        have HRW := Lib.hid (show RowsAt X.drew.heap.size X.drew ak 1 (Ints (cutI (x.ins.getD k default))) from ints_take (HC.out.2.2.1.later HD.out.bel) _)
        have hk63 : k + 1 ≤ maxLen := by unfold maxLen; omega
        have hb24 : (k + 1) * 24 ≤ 140737488355328 := by omega
        clear hir hbi ql1 ql2 ql3 g3' hm hie
        by_cases hbig : 1000 < nk
        · have hbI : (1000 : Int) < (nk : Int) := by omega
          rw [if_pos hbig] at hmv
          have hmk : (if (1001 : Int) < (nk : Int) then (1001 : Int) else (nk : Int)) = (m : Int) := by rw [hmv]; split <;> omega
          have hmc : (m : Int) ≤ (ck : Int) := by omega
          have hfit : (nk : Int) ≤ (ck : Int) := by omega
          clear hmv
          go_wp2_with fail
          go_region_held3 (fun w' => w'.cell? ⟨w.heap.size, 3, none⟩ = some (.slice (some ⟨bi, oi, none⟩) x.i.2.1 x.i.2.2) ∧ w'.cell? ⟨bi, oi + k, none⟩ = some (.slice ak nk ck))
            ((first | with_reducible exact HK.out _ _ _ _ _ HD.out | with_reducible exact kX1 | with_reducible exact kA | with_reducible exact kW))
            (first
              | (go_at_call 40; (with_reducible refine (clone_ok ak m ck (cutI (x.ins.getD k default)) X.drew HC.out.2.1 hm6 HC.out.2.2.2 HRW.out).mono ?_); rintro e X1 ⟨v1, rfl, ho1, hb1⟩; have hlen1 := HC.out.2.1; (obtain ⟨a1, q1, rfl, hr1⟩ := ho1.rows); rw [hlen1] at ho1 ⊢; have H1 := Lib.hid (And.intro ho1 (And.intro hb1 (HD.out.later hb1))); have hsX : X.heap.size ≤ X1.heap.size := hb1.size; have kX1 := HK.out _ _ _ _ _ H1.out.2.2; have kA := HK.out _ _ _ _ _ (H1.out.2.2.later (below_alloc (below_self X1) (.cells #[.slice a1 m q1] 32))); have hone : ∀ u ∈ [Value.slice a1 m q1], u.oneCell' = true := (by simp [Value.oneCell']); have hRX1 : R ≤ (X1.alloc (.cells #[.slice a1 m q1] 32)).heap.size := (by have h1 := H1.out.2.2.RX; simp; omega); clear hr1 ho1 hb1 hlen1)
              | (refine step_append_lies _ (by rfl) _ _ 29 (by rfl) R 32 i0 _ 1 24 Try.underlying29 hi hz0 hz1 hz2 rfl (by decide) _ k (hs'.map Hd.val) (by rfl) (World.ownsRow.alloc H1.out.2.2.own (.cells #[.slice a1 m q1] 32)) ⟨X1.heap.size, 0, none⟩ 1 1 [.slice a1 m q1] (by rfl) rfl (World.news_of_block (blk_new X1 (.cells #[.slice a1 m q1] 32))) hone (by omega) hk63 hb24 hRX1 _ rfl ?_; intro g1 cap1 w1 hown1 hgrow hat hlt1; have q := Lib.hid (OJ.step (q1 := (a1, m, q1)) HD.out H1.out.2.1 H1.out.1 hgrow hown1 rfl hat); have kW := HK.out _ _ _ _ _ q.out))
          all_goals
            clear hown1 hgrow hat hlt1 H1 HJ hi hz0 hz1 hz2 hc' y3' kX1 kA kW hone hRX1 hk63 hb24
            go_wp2_with fail
            go_roundw
            case rel => exact ⟨k + 1, _, _, _, _, by omega, by omega, rfl, by go_num, rfl, q⟩
            case measure => simp [intOf]; omega
        · have hbI : ¬ (1000 : Int) < (nk : Int) := by omega
          rw [if_neg hbig] at hmv
          have hmk : (if (60 : Int) < (nk : Int) then (60 : Int) else (nk : Int)) = (m : Int) := by rw [hmv]; split <;> omega
          have hmc : (m : Int) ≤ (ck : Int) := by omega
          have hfit : (nk : Int) ≤ (ck : Int) := by omega
          clear hmv
          go_wp2_with fail
          go_region_held3 (fun w' => w'.cell? ⟨w.heap.size, 3, none⟩ = some (.slice (some ⟨bi, oi, none⟩) x.i.2.1 x.i.2.2) ∧ w'.cell? ⟨bi, oi + k, none⟩ = some (.slice ak nk ck))
            ((first | with_reducible exact HK.out _ _ _ _ _ HD.out | with_reducible exact kX1 | with_reducible exact kA | with_reducible exact kW))
            (first
              | (go_at_call 40; (with_reducible refine (clone_ok ak m ck (cutI (x.ins.getD k default)) X.drew HC.out.2.1 hm6 HC.out.2.2.2 HRW.out).mono ?_); rintro e X1 ⟨v1, rfl, ho1, hb1⟩; have hlen1 := HC.out.2.1; (obtain ⟨a1, q1, rfl, hr1⟩ := ho1.rows); rw [hlen1] at ho1 ⊢; have H1 := Lib.hid (And.intro ho1 (And.intro hb1 (HD.out.later hb1))); have hsX : X.heap.size ≤ X1.heap.size := hb1.size; have kX1 := HK.out _ _ _ _ _ H1.out.2.2; have kA := HK.out _ _ _ _ _ (H1.out.2.2.later (below_alloc (below_self X1) (.cells #[.slice a1 m q1] 32))); have hone : ∀ u ∈ [Value.slice a1 m q1], u.oneCell' = true := (by simp [Value.oneCell']); have hRX1 : R ≤ (X1.alloc (.cells #[.slice a1 m q1] 32)).heap.size := (by have h1 := H1.out.2.2.RX; simp; omega); clear hr1 ho1 hb1 hlen1)
              | (refine step_append_lies _ (by rfl) _ _ 29 (by rfl) R 32 i0 _ 1 24 Try.underlying29 hi hz0 hz1 hz2 rfl (by decide) _ k (hs'.map Hd.val) (by rfl) (World.ownsRow.alloc H1.out.2.2.own (.cells #[.slice a1 m q1] 32)) ⟨X1.heap.size, 0, none⟩ 1 1 [.slice a1 m q1] (by rfl) rfl (World.news_of_block (blk_new X1 (.cells #[.slice a1 m q1] 32))) hone (by omega) hk63 hb24 hRX1 _ rfl ?_; intro g1 cap1 w1 hown1 hgrow hat hlt1; have q := Lib.hid (OJ.step (q1 := (a1, m, q1)) HD.out H1.out.2.1 H1.out.1 hgrow hown1 rfl hat); have kW := HK.out _ _ _ _ _ q.out))
          all_goals
            clear hown1 hgrow hat hlt1 H1 HJ hi hz0 hz1 hz2 hc' y3' kX1 kA kW hone hRX1 hk63 hb24
            go_wp2_with fail
            go_roundw
            case rel => exact ⟨k + 1, _, _, _, _, by omega, by omega, rfl, by go_num, rfl, q⟩
            case measure => simp [intOf]; omega
      · have h18I : ¬ (k : Int) < 18 := by omega
        have hke : k = (x.ins.take 18).length := by rw [List.length_take, HX.out.2.2.2]; omega
        have HE := Lib.hid (HJ.out.end' hke)
        have u3 : X.cell? ⟨w.heap.size, 3, none⟩ = some (.slice x.i.1 x.i.2.1 x.i.2.2) := (blk_cell HJ.out.box 3).trans rfl
        have u4 : X.cell? ⟨w.heap.size, 4, none⟩ = some (.int .i64 x.n) := (blk_cell HJ.out.box 4).trans rfl
        have f3 := blk_frozen HJ.out.box 3
        have f4 := blk_frozen HJ.out.box 4
        clear hke hk hk18
        by_cases hn1 : 100 < x.n
        · by_cases hn2 : x.n < 1000
          · have HNV := Lib.hid (show cutN x.n = 100 from if_pos ⟨hn1, hn2⟩)
            have HY := Lib.hid (And.intro ((HE.out.set (b := w.heap.size) (o := 3) (by omega) (by omega) (.slice av k cv)).set (b := w.heap.size) (o := 4) (by omega) (by omega) (.int .i64 100)) (And.intro (by simpa using blk_setcell (i := 4) (u := .int .i64 100) (blk_setcell (i := 3) (u := .slice av k cv) HJ.out.box)) (blk_set (a := ⟨w.heap.size, 4, none⟩) (blk_set (a := ⟨w.heap.size, 3, none⟩) HJ.out.out (by simp) (.slice av k cv)) (by simp) (.int .i64 100))))
            go_upto_region 14 with fail
            clear f3 f4 u4 u3
            generalize hYe : ((X.setCell ⟨w.heap.size, 3, none⟩ (.slice av k cv)).setCell ⟨w.heap.size, 4, none⟩ (.int .i64 100)) = Y at HY ⊢
            clear hYe
            have r0 := blk_cell HY.out.2.2 0
            have r1 := blk_cell HY.out.2.2 1
            have r2 := blk_cell HY.out.2.2 2
            have r3 := blk_cell HY.out.2.2 3
            have r4 := blk_cell HY.out.2.2 4
            have r5 := blk_cell HY.out.2.2 5
            have r6 := blk_cell HY.out.2.2 6
            have g0 := blk_frozen HY.out.2.2 0
            have g1 := blk_frozen HY.out.2.2 1
            have g2 := blk_frozen HY.out.2.2 2
            have g3 := blk_frozen HY.out.2.2 3
            have g4 := blk_frozen HY.out.2.2 4
            have g5 := blk_frozen HY.out.2.2 5
            have g6 := blk_frozen HY.out.2.2 6
            have t0 := blk_cell HY.out.2.1 0
            have t1 := blk_cell HY.out.2.1 1
            have t2 := blk_cell HY.out.2.1 2
            have t3 := blk_cell HY.out.2.1 3
            have t4 := blk_cell HY.out.2.1 4
            have t5 := blk_cell HY.out.2.1 5
            have t6 := blk_cell HY.out.2.1 6
            simp at r0 r1 r2 r3 r4 r5 r6 t0 t1 t2 t3 t4 t5 t6
            go_wp2_with fail
            refine bodyPost_ret (v := .agg #[.int .i64 x.carry, .slice p'.1 p'.2.1 p'.2.2, .int .i64 x.start, .slice av k cv, .int .i64 100, .int .i64 x.tick, .int .i64 x.limit]) (by simp [results, Try.results20, go_sem, r0, r1, r2, r3, r4, r5, r6]) rfl ?_
            rw [show (Value.agg #[.int .i64 x.carry, .slice p'.1 p'.2.1 p'.2.2, .int .i64 x.start, .slice av k cv, .int .i64 100, .int .i64 x.tick, .int .i64 x.limit]) = (ownArg x p' (av, k, cv) hs').val from by unfold ownArg; rw [HNV.out]]
            exact ⟨p', (av, k, cv), hs', rfl, HY.out.1.set7 _ _ _ _ _ _ _⟩
          · have HNV := Lib.hid (show cutN x.n = x.n from if_neg (by omega))
            have HY := Lib.hid (And.intro (HE.out.set (b := w.heap.size) (o := 3) (by omega) (by omega) (.slice av k cv)) (And.intro (by simpa using blk_setcell (i := 3) (u := .slice av k cv) HJ.out.box) (blk_set (a := ⟨w.heap.size, 3, none⟩) HJ.out.out (by simp) (.slice av k cv))))
            go_upto_region 14 with fail
            clear f3 f4 u4 u3
            generalize hYe : X.setCell ⟨w.heap.size, 3, none⟩ (.slice av k cv) = Y at HY ⊢
            clear hYe
            have r0 := blk_cell HY.out.2.2 0
            have r1 := blk_cell HY.out.2.2 1
            have r2 := blk_cell HY.out.2.2 2
            have r3 := blk_cell HY.out.2.2 3
            have r4 := blk_cell HY.out.2.2 4
            have r5 := blk_cell HY.out.2.2 5
            have r6 := blk_cell HY.out.2.2 6
            have g0 := blk_frozen HY.out.2.2 0
            have g1 := blk_frozen HY.out.2.2 1
            have g2 := blk_frozen HY.out.2.2 2
            have g3 := blk_frozen HY.out.2.2 3
            have g4 := blk_frozen HY.out.2.2 4
            have g5 := blk_frozen HY.out.2.2 5
            have g6 := blk_frozen HY.out.2.2 6
            have t0 := blk_cell HY.out.2.1 0
            have t1 := blk_cell HY.out.2.1 1
            have t2 := blk_cell HY.out.2.1 2
            have t3 := blk_cell HY.out.2.1 3
            have t4 := blk_cell HY.out.2.1 4
            have t5 := blk_cell HY.out.2.1 5
            have t6 := blk_cell HY.out.2.1 6
            simp at r0 r1 r2 r3 r4 r5 r6 t0 t1 t2 t3 t4 t5 t6
            go_wp2_with fail
            refine bodyPost_ret (v := .agg #[.int .i64 x.carry, .slice p'.1 p'.2.1 p'.2.2, .int .i64 x.start, .slice av k cv, .int .i64 x.n, .int .i64 x.tick, .int .i64 x.limit]) (by simp [results, Try.results20, go_sem, r0, r1, r2, r3, r4, r5, r6]) rfl ?_
            rw [show (Value.agg #[.int .i64 x.carry, .slice p'.1 p'.2.1 p'.2.2, .int .i64 x.start, .slice av k cv, .int .i64 x.n, .int .i64 x.tick, .int .i64 x.limit]) = (ownArg x p' (av, k, cv) hs').val from by unfold ownArg; rw [HNV.out]]
            exact ⟨p', (av, k, cv), hs', rfl, HY.out.1.set7 _ _ _ _ _ _ _⟩
        · have HNV := Lib.hid (show cutN x.n = x.n from if_neg (by omega))
          have HY := Lib.hid (And.intro (HE.out.set (b := w.heap.size) (o := 3) (by omega) (by omega) (.slice av k cv)) (And.intro (by simpa using blk_setcell (i := 3) (u := .slice av k cv) HJ.out.box) (blk_set (a := ⟨w.heap.size, 3, none⟩) HJ.out.out (by simp) (.slice av k cv))))
          go_upto_region 14 with fail
          clear f3 f4 u4 u3
          generalize hYe : X.setCell ⟨w.heap.size, 3, none⟩ (.slice av k cv) = Y at HY ⊢
          clear hYe
          have r0 := blk_cell HY.out.2.2 0
          have r1 := blk_cell HY.out.2.2 1
          have r2 := blk_cell HY.out.2.2 2
          have r3 := blk_cell HY.out.2.2 3
          have r4 := blk_cell HY.out.2.2 4
          have r5 := blk_cell HY.out.2.2 5
          have r6 := blk_cell HY.out.2.2 6
          have g0 := blk_frozen HY.out.2.2 0
          have g1 := blk_frozen HY.out.2.2 1
          have g2 := blk_frozen HY.out.2.2 2
          have g3 := blk_frozen HY.out.2.2 3
          have g4 := blk_frozen HY.out.2.2 4
          have g5 := blk_frozen HY.out.2.2 5
          have g6 := blk_frozen HY.out.2.2 6
          have t0 := blk_cell HY.out.2.1 0
          have t1 := blk_cell HY.out.2.1 1
          have t2 := blk_cell HY.out.2.1 2
          have t3 := blk_cell HY.out.2.1 3
          have t4 := blk_cell HY.out.2.1 4
          have t5 := blk_cell HY.out.2.1 5
          have t6 := blk_cell HY.out.2.1 6
          simp at r0 r1 r2 r3 r4 r5 r6 t0 t1 t2 t3 t4 t5 t6
          go_wp2_with fail
          refine bodyPost_ret (v := .agg #[.int .i64 x.carry, .slice p'.1 p'.2.1 p'.2.2, .int .i64 x.start, .slice av k cv, .int .i64 x.n, .int .i64 x.tick, .int .i64 x.limit]) (by simp [results, Try.results20, go_sem, r0, r1, r2, r3, r4, r5, r6]) rfl ?_
          rw [show (Value.agg #[.int .i64 x.carry, .slice p'.1 p'.2.1 p'.2.2, .int .i64 x.start, .slice av k cv, .int .i64 x.n, .int .i64 x.tick, .int .i64 x.limit]) = (ownArg x p' (av, k, cv) hs').val from by unfold ownArg; rw [HNV.out]]
          exact ⟨p', (av, k, cv), hs', rfl, HY.out.1.set7 _ _ _ _ _ _ _⟩
    · have hltI : ¬ (k : Int) < (x.i.2.1 : Int) := by omega
      have hke : k = (x.ins.take 18).length := by rw [List.length_take, HX.out.2.2.2]; omega
      have HE := Lib.hid (HJ.out.end' hke)
      have u3 : X.cell? ⟨w.heap.size, 3, none⟩ = some (.slice x.i.1 x.i.2.1 x.i.2.2) := (blk_cell HJ.out.box 3).trans rfl
      have u4 : X.cell? ⟨w.heap.size, 4, none⟩ = some (.int .i64 x.n) := (blk_cell HJ.out.box 4).trans rfl
      have f3 := blk_frozen HJ.out.box 3
      have f4 := blk_frozen HJ.out.box 4
      clear hke hk hk18
      by_cases hn1 : 100 < x.n
      · by_cases hn2 : x.n < 1000
        · have HNV := Lib.hid (show cutN x.n = 100 from if_pos ⟨hn1, hn2⟩)
          have HY := Lib.hid (And.intro ((HE.out.set (b := w.heap.size) (o := 3) (by omega) (by omega) (.slice av k cv)).set (b := w.heap.size) (o := 4) (by omega) (by omega) (.int .i64 100)) (And.intro (by simpa using blk_setcell (i := 4) (u := .int .i64 100) (blk_setcell (i := 3) (u := .slice av k cv) HJ.out.box)) (blk_set (a := ⟨w.heap.size, 4, none⟩) (blk_set (a := ⟨w.heap.size, 3, none⟩) HJ.out.out (by simp) (.slice av k cv)) (by simp) (.int .i64 100))))
          go_upto_region 14 with fail
          clear f3 f4 u4 u3
          generalize hYe : ((X.setCell ⟨w.heap.size, 3, none⟩ (.slice av k cv)).setCell ⟨w.heap.size, 4, none⟩ (.int .i64 100)) = Y at HY ⊢
          clear hYe
          have r0 := blk_cell HY.out.2.2 0
          have r1 := blk_cell HY.out.2.2 1
          have r2 := blk_cell HY.out.2.2 2
          have r3 := blk_cell HY.out.2.2 3
          have r4 := blk_cell HY.out.2.2 4
          have r5 := blk_cell HY.out.2.2 5
          have r6 := blk_cell HY.out.2.2 6
          have g0 := blk_frozen HY.out.2.2 0
          have g1 := blk_frozen HY.out.2.2 1
          have g2 := blk_frozen HY.out.2.2 2
          have g3 := blk_frozen HY.out.2.2 3
          have g4 := blk_frozen HY.out.2.2 4
          have g5 := blk_frozen HY.out.2.2 5
          have g6 := blk_frozen HY.out.2.2 6
          have t0 := blk_cell HY.out.2.1 0
          have t1 := blk_cell HY.out.2.1 1
          have t2 := blk_cell HY.out.2.1 2
          have t3 := blk_cell HY.out.2.1 3
          have t4 := blk_cell HY.out.2.1 4
          have t5 := blk_cell HY.out.2.1 5
          have t6 := blk_cell HY.out.2.1 6
          simp at r0 r1 r2 r3 r4 r5 r6 t0 t1 t2 t3 t4 t5 t6
          go_wp2_with fail
          refine bodyPost_ret (v := .agg #[.int .i64 x.carry, .slice p'.1 p'.2.1 p'.2.2, .int .i64 x.start, .slice av k cv, .int .i64 100, .int .i64 x.tick, .int .i64 x.limit]) (by simp [results, Try.results20, go_sem, r0, r1, r2, r3, r4, r5, r6]) rfl ?_
          rw [show (Value.agg #[.int .i64 x.carry, .slice p'.1 p'.2.1 p'.2.2, .int .i64 x.start, .slice av k cv, .int .i64 100, .int .i64 x.tick, .int .i64 x.limit]) = (ownArg x p' (av, k, cv) hs').val from by unfold ownArg; rw [HNV.out]]
          exact ⟨p', (av, k, cv), hs', rfl, HY.out.1.set7 _ _ _ _ _ _ _⟩
        · have HNV := Lib.hid (show cutN x.n = x.n from if_neg (by omega))
          have HY := Lib.hid (And.intro (HE.out.set (b := w.heap.size) (o := 3) (by omega) (by omega) (.slice av k cv)) (And.intro (by simpa using blk_setcell (i := 3) (u := .slice av k cv) HJ.out.box) (blk_set (a := ⟨w.heap.size, 3, none⟩) HJ.out.out (by simp) (.slice av k cv))))
          go_upto_region 14 with fail
          clear f3 f4 u4 u3
          generalize hYe : X.setCell ⟨w.heap.size, 3, none⟩ (.slice av k cv) = Y at HY ⊢
          clear hYe
          have r0 := blk_cell HY.out.2.2 0
          have r1 := blk_cell HY.out.2.2 1
          have r2 := blk_cell HY.out.2.2 2
          have r3 := blk_cell HY.out.2.2 3
          have r4 := blk_cell HY.out.2.2 4
          have r5 := blk_cell HY.out.2.2 5
          have r6 := blk_cell HY.out.2.2 6
          have g0 := blk_frozen HY.out.2.2 0
          have g1 := blk_frozen HY.out.2.2 1
          have g2 := blk_frozen HY.out.2.2 2
          have g3 := blk_frozen HY.out.2.2 3
          have g4 := blk_frozen HY.out.2.2 4
          have g5 := blk_frozen HY.out.2.2 5
          have g6 := blk_frozen HY.out.2.2 6
          have t0 := blk_cell HY.out.2.1 0
          have t1 := blk_cell HY.out.2.1 1
          have t2 := blk_cell HY.out.2.1 2
          have t3 := blk_cell HY.out.2.1 3
          have t4 := blk_cell HY.out.2.1 4
          have t5 := blk_cell HY.out.2.1 5
          have t6 := blk_cell HY.out.2.1 6
          simp at r0 r1 r2 r3 r4 r5 r6 t0 t1 t2 t3 t4 t5 t6
          go_wp2_with fail
          refine bodyPost_ret (v := .agg #[.int .i64 x.carry, .slice p'.1 p'.2.1 p'.2.2, .int .i64 x.start, .slice av k cv, .int .i64 x.n, .int .i64 x.tick, .int .i64 x.limit]) (by simp [results, Try.results20, go_sem, r0, r1, r2, r3, r4, r5, r6]) rfl ?_
          rw [show (Value.agg #[.int .i64 x.carry, .slice p'.1 p'.2.1 p'.2.2, .int .i64 x.start, .slice av k cv, .int .i64 x.n, .int .i64 x.tick, .int .i64 x.limit]) = (ownArg x p' (av, k, cv) hs').val from by unfold ownArg; rw [HNV.out]]
          exact ⟨p', (av, k, cv), hs', rfl, HY.out.1.set7 _ _ _ _ _ _ _⟩
      · have HNV := Lib.hid (show cutN x.n = x.n from if_neg (by omega))
        have HY := Lib.hid (And.intro (HE.out.set (b := w.heap.size) (o := 3) (by omega) (by omega) (.slice av k cv)) (And.intro (by simpa using blk_setcell (i := 3) (u := .slice av k cv) HJ.out.box) (blk_set (a := ⟨w.heap.size, 3, none⟩) HJ.out.out (by simp) (.slice av k cv))))
        go_upto_region 14 with fail
        clear f3 f4 u4 u3
        generalize hYe : X.setCell ⟨w.heap.size, 3, none⟩ (.slice av k cv) = Y at HY ⊢
        clear hYe
        have r0 := blk_cell HY.out.2.2 0
        have r1 := blk_cell HY.out.2.2 1
        have r2 := blk_cell HY.out.2.2 2
        have r3 := blk_cell HY.out.2.2 3
        have r4 := blk_cell HY.out.2.2 4
        have r5 := blk_cell HY.out.2.2 5
        have r6 := blk_cell HY.out.2.2 6
        have g0 := blk_frozen HY.out.2.2 0
        have g1 := blk_frozen HY.out.2.2 1
        have g2 := blk_frozen HY.out.2.2 2
        have g3 := blk_frozen HY.out.2.2 3
        have g4 := blk_frozen HY.out.2.2 4
        have g5 := blk_frozen HY.out.2.2 5
        have g6 := blk_frozen HY.out.2.2 6
        have t0 := blk_cell HY.out.2.1 0
        have t1 := blk_cell HY.out.2.1 1
        have t2 := blk_cell HY.out.2.1 2
        have t3 := blk_cell HY.out.2.1 3
        have t4 := blk_cell HY.out.2.1 4
        have t5 := blk_cell HY.out.2.1 5
        have t6 := blk_cell HY.out.2.1 6
        simp at r0 r1 r2 r3 r4 r5 r6 t0 t1 t2 t3 t4 t5 t6
        go_wp2_with fail
        refine bodyPost_ret (v := .agg #[.int .i64 x.carry, .slice p'.1 p'.2.1 p'.2.2, .int .i64 x.start, .slice av k cv, .int .i64 x.n, .int .i64 x.tick, .int .i64 x.limit]) (by simp [results, Try.results20, go_sem, r0, r1, r2, r3, r4, r5, r6]) rfl ?_
        rw [show (Value.agg #[.int .i64 x.carry, .slice p'.1 p'.2.1 p'.2.2, .int .i64 x.start, .slice av k cv, .int .i64 x.n, .int .i64 x.tick, .int .i64 x.limit]) = (ownArg x p' (av, k, cv) hs').val from by unfold ownArg; rw [HNV.out]]
        exact ⟨p', (av, k, cv), hs', rfl, HY.out.1.set7 _ _ _ _ _ _ _⟩
end Go.Proofs.Ytnpcafhmkjdhaaa
