/- Chapter 07: the reference's Course and Trips. -/
import Derived.Test.YtojpbmaojbejjaaRefCourse
import Derived.Deep.DeepCutAuto
import Derived.Deep.CutRange
namespace Go.Proofs.Ytojpbmaojbejjaa
open Go Go.RowKit

theorem courseE_all {b : Brk} {s : BSt} {ws : List Int} (hs : okS b s = true) (hl : ws.length ≤ 1000) (h : ∀ j, j < ws.length → okW (ws.getD j default) = true) : courseE b s ws = 0 := by
  unfold courseE
  rw [if_pos hs]
  refine if_pos ⟨hl, ?_⟩
  rw [List.all_eq_true]
  intro z hz
  obtain ⟨j, hj, rfl⟩ := List.getElem_of_mem hz
  have := h j hj
  simpa [List.getD, List.getElem?_eq_getElem hj] using this
theorem courseE_bad {b : Brk} {s : BSt} {ws : List Int} (hs : okS b s = true) {j : Nat} (hj : j < ws.length) (h : okW (ws.getD j default) = false) : courseE b s ws = 2 := by
  unfold courseE
  rw [if_pos hs]
  refine if_neg ?_
  rintro ⟨_, ha⟩
  rw [List.all_eq_true] at ha
  have h2 := ha (ws.getD j default) (by simp [List.getD, List.getElem?_eq_getElem hj])
  rw [h] at h2
  cases h2
theorem courseL_ne {b : Brk} {s : BSt} {ws : List Int} (h : ¬ courseE b s ws = 0) : courseL b s ws = [] := by unfold courseL; rw [if_neg h]
theorem take_next (b : Brk) (s : BSt) {ws : List Int} {k : Nat} (hk : k < ws.length) : stAt b s (ws.take (k + 1)) = aft b (stAt b s (ws.take k)) (ws.getD k default) ∧ runB b s (ws.take (k + 1)) = runB b s (ws.take k) ++ [stAt b s (ws.take (k + 1))] := by
  have h1 : stAt b s (ws.take (k + 1)) = aft b (stAt b s (ws.take k)) (ws.getD k default) := by
    rw [List.take_succ_eq_append_getElem hk, stAt_snoc]
    congr 1
    simp [List.getD, List.getElem?_eq_getElem hk]
  refine ⟨h1, ?_⟩
  rw [h1, List.take_succ_eq_append_getElem hk, runB_snoc]
  congr 2
  congr 1
  simp [List.getD, List.getElem?_eq_getElem hk]

/-- The loop's memory: the boxes of the breaker and of the state, the states so far. -/
structure RC (w : World) (b : Brk) (R : Nat) (S : List BSt) (c : BSt) (v : Value) (W : World) : Prop where
  has : Has W [(w.heap.size + 1, .cells c.cells.toArray 37 (0, 0)), (w.heap.size, .cells b.cells.toArray 23 (0, 0))]
  below : Below w.heap.size w W
  own : OwnS R W v S
  base : w.heap.size + 2 ≤ R
  size : R ≤ W.heap.size
theorem RC.next {w : World} {b : Brk} {R : Nat} {S : List BSt} {c : BSt} {v : Value} {W W2 : World} (h : RC w b R S c v W) (hb : Below W.heap.size W W2) (t : BSt) :
    RC w b R S t v ((W2.setCell ⟨w.heap.size + 1, 0, none⟩ (.int .i64 t.heat)).setCell ⟨w.heap.size + 1, 1, none⟩ (.bool t.trip)) := by
  have h1 := h.has.below hb
  have hR := h.base
  have hz := hb.size
  have hz2 := h.size
  exact ⟨Has.cons (st_store h1.hd t) (Has.cons (blk_set (blk_set h1.tl.hd (by simp) _) (by simp) _) (Has.nil _)), ((below_trans h.below hb).setCell (by simp) _).setCell (by simp) _,
    owns_set (owns_set (owns_later h.own hb) (by simp; omega) _) (by simp; omega) _, hR, by simp; omega⟩

set_option maxRecDepth 100000 in
set_option maxHeartbeats 2000000 in
theorem course_ref (b : Brk) (s : BSt) (a : Option Addr) (n cap : Nat) (ws : List Int) (w : World) (hn : ws.length = n) (_hl : n ≤ 9223372036854775807) (hm : RowsAt w.heap.size w a 1 (Ints ws)) :
    Calls Try.prog 25 #[b.val, s.val, .slice a n cap] w fun e W' => ∃ v, e = .returned (.tuple #[v, .int .i64 (courseE b s ws)]) ∧ OwnS w.heap.size W' v (courseL b s ws) ∧ Below w.heap.size w W' := by
  have Hm := Lib.hid hm; clear hm
  have Hn := Lib.hid hn
  rcases okS_cases b s with ⟨hb, hs⟩ | hb
  · have e0 := courseE_one (ws := ws) hs
    have e1 := courseL_ne (b := b) (s := s) (ws := ws) (by omega)
    rw [e0, e1]
    have HB := Lib.hid hb
    clear e0 e1 hb hs hn
    go_enter Try.func25, Try.ntmps25
    go_wp2_with fail
    refine (valid_ref _ _).mono ?_
    rintro e W' ⟨rfl, rfl⟩
    rw [HB.out]
    go_wp2_with fail
    go_ret2
    exact ⟨_, rfl, OwnS.nil _ _, below_alloc (below_alloc (below_alloc (below_self w) _) _) _⟩
  · obtain ⟨⟨l0, l1⟩, ⟨z0, z1⟩, y0, y1⟩ := okB_iff.1 hb
    have HB := Lib.hid hb
    clear hb
    cases hs : okS b s
    · have e0 := courseE_one (ws := ws) hs
      have e1 := courseL_ne (b := b) (s := s) (ws := ws) (by omega)
      rw [e0, e1]
      have HS := Lib.hid hs
      clear e0 e1 hs hn
      go_enter Try.func25, Try.ntmps25
      go_wp2_with fail
      refine (valid_ref _ _).mono ?_
      rintro e W' ⟨rfl, rfl⟩
      rw [HB.out]
      go_wp2_with fail
      refine (validState_ref b s _ HB.out).mono ?_
      rintro e W3 ⟨rfl, hb3⟩
      rw [HS.out]
      have w3 := Lib.hid (below_trans (below_alloc (below_alloc (below_alloc (below_self w) _) _) _) hb3)
      clear hb3
      go_wp2_with fail
      go_ret2
      exact ⟨_, rfl, OwnS.nil _ _, w3.out⟩
    · have HS := Lib.hid hs
      by_cases hbig : 1000 < n
      · have e0 : courseE b s ws = 2 := by unfold courseE; rw [if_pos hs, if_neg (by omega)]
        have e1 := courseL_ne (b := b) (s := s) (ws := ws) (by omega)
        rw [e0, e1]
        clear e0 e1 hs hn
        go_enter Try.func25, Try.ntmps25
        go_wp2_with fail
        refine (valid_ref _ _).mono ?_
        rintro e W' ⟨rfl, rfl⟩
        rw [HB.out]
        go_wp2_with fail
        refine (validState_ref b s _ HB.out).mono ?_
        rintro e W3 ⟨rfl, hb3⟩
        rw [HS.out]
        have w3 := Lib.hid (below_trans (below_alloc (below_alloc (below_alloc (below_self w) _) _) _) hb3)
        clear hb3
        go_wp2_with fail
        go_ret2
        exact ⟨_, rfl, OwnS.nil _ _, w3.out⟩
      · obtain ⟨E, hE⟩ : ∃ E, courseE b s ws = E := ⟨_, rfl⟩
        obtain ⟨L, hL⟩ : ∃ L, courseL b s ws = L := ⟨_, rfl⟩
        rw [hE, hL]
        have HE := Lib.hid (And.intro hE hL)
        have HI := Lib.hid (StIn.of hs)
        clear hE hL hs hn
        go_enter Try.func25, Try.ntmps25
        go_wp2_with fail
        obtain ⟨A, hA⟩ : ∃ W' : World, ((w.alloc (.cells b.cells.toArray 23)).alloc (.cells s.cells.toArray 37)) = W' := ⟨_, rfl⟩
        have H1 : Has A [(w.heap.size + 1, .cells s.cells.toArray 37 (0, 0)), (w.heap.size, .cells b.cells.toArray 23 (0, 0))] := by rw [← hA]; simpa using (((Has.nil w).new _).new _)
        have s1 : A.heap.size = w.heap.size + 1 + 1 := by rw [← hA]; simp
        have b1 : Below w.heap.size w A := by rw [← hA]; exact (below_alloc (below_alloc (below_self w) _) _)
        rw [hA]
        clear hA
        refine (valid_ref _ _).mono ?_
        rintro e W' ⟨rfl, rfl⟩
        rw [HB.out]
        have h2 := H1.alloc (.cells b.cells.toArray 23)
        have w2 := Lib.hid (below_alloc b1 (.cells b.cells.toArray 23))
        generalize A.alloc _ = X at *
        have c0 := blk_cell h2.hd 0
        have c1 := blk_cell h2.hd 1
        simp at c0 c1
        have k0 := blk_cell h2.tl.hd 0
        have k1 := blk_cell h2.tl.hd 1
        have k2 := blk_cell h2.tl.hd 2
        have k3 := blk_cell h2.tl.hd 3
        simp at k0 k1 k2 k3
        have H2 := Lib.hid h2
        clear h2 H1 s1 b1
        go_wp2_with fail
        refine (validState_ref b s _ HB.out).mono ?_
        rintro e W3 ⟨rfl, hb3⟩
        rw [HS.out]
        have h3 := H2.out.below hb3
        have w3 := below_trans w2.out hb3
        clear c0 c1 k0 k1 k2 k3
        have c0 := blk_cell h3.hd 0
        have c1 := blk_cell h3.hd 1
        simp at c0 c1
        have k0 := blk_cell h3.tl.hd 0
        have k1 := blk_cell h3.tl.hd 1
        have k2 := blk_cell h3.tl.hd 2
        have k3 := blk_cell h3.tl.hd 3
        simp at k0 k1 k2 k3
        have hs3 : w.heap.size + 1 < W3.heap.size := blk_lt h3.hd
        have hR : RC w b W3.heap.size [s] s (.slice (some ⟨W3.heap.size, 0, none⟩) 1 1) (W3.alloc (.cells #[.int .i64 s.heat, .bool s.trip] 37)) :=
          ⟨h3.alloc _, below_alloc w3 _, owns_of_blk (xs := s.cells) (blk_new _ _) (Nat.le_refl _) rfl (by unfold maxLen; simp), by omega, by simp⟩
        have HR := Lib.hid hR
        clear hR h3 H2 hb3 w2 w3
        go_wp2_with fail
        generalize W3.alloc _ = W4 at HR ⊢
        generalize W3.heap.size = R at HR hs3 ⊢
        clear c0 c1 k0 k1 k2 k3
        go_loopw [8, 27] (fun v i wr => ∃ (k : Nat) (X : World), k ≤ n ∧ i = .int .i64 k ∧ X = wr ∧ Hid (RC w b R (runB b s (ws.take k)) (stAt b s (ws.take k)) v X) ∧ Hid (∀ j, j < k → okW (ws.getD j default) = true)) (fun _ i _ => n - (intOf i).toNat)
        case atStart => exact ⟨0, _, Nat.zero_le _, rfl, rfl, HR.out, fun j hj => by omega⟩
        case round =>
          clear HR
          obtain ⟨k, X, hk, rfl, rfl, Hr, Hok⟩ := hrel
          by_cases hlt : k < n
          · obtain ⟨b0, o0, rfl, hb0, hc0⟩ := ints_at (Hm.out.below Hr.out.below) k (by rw [Hn.out]; exact hlt)
            obtain ⟨ht1, ht2⟩ := take_next b s (ws := ws) (k := k) (by rw [Hn.out]; exact hlt)
            have hI := StIn.all (ws.take k) s HI.out
            have hlen : (runB b s (ws.take k)).length = k + 1 := by rw [runB_len, List.length_take, Hn.out]; omega
            generalize hx : ws.getD k default = x at hc0 ht1
            generalize stAt b s (ws.take k) = c at Hr ht1 hI
            generalize runB b s (ws.take k) = S at Hr ht2 hlen
            have Hx := Lib.hid hx
            have Ht := Lib.hid (And.intro ht1 (And.intro ht2 (And.intro hI hlen)))
            clear hx ht1 ht2 hI hlen
            by_cases hxx : 0 ≤ x ∧ x ≤ 100000000
            · obtain ⟨x0, x1⟩ := hxx
              have c0 := blk_cell Hr.out.has.hd 0
              have c1 := blk_cell Hr.out.has.hd 1
              simp at c0 c1
              have k0 := blk_cell Hr.out.has.tl.hd 0
              have k1 := blk_cell Hr.out.has.tl.hd 1
              have k2 := blk_cell Hr.out.has.tl.hd 2
              have k3 := blk_cell Hr.out.has.tl.hd 3
              simp at k0 k1 k2 k3
              have lX : w.heap.size + 1 < X.heap.size := blk_lt Hr.out.has.hd
              go_wp2_with fail
              refine (after_ref b c x _ Ht.out.2.2.1.1 Ht.out.2.2.1.2.1 x0 x1 l0 l1).mono ?_
              rintro e W5 ⟨rfl, hb5⟩
              have hr5 := Hr.out.next hb5 (aft b c x)
              have h5 := Hr.out.has.below hb5
              have f0 := blk_frozen h5.hd 0
              have f1 := blk_frozen h5.hd 1
              clear c0 c1 k0 k1 k2 k3
              have c0 := blk_cell h5.hd 0
              have c1 := blk_cell h5.hd 1
              simp at c0 c1
              generalize htt : aft b c x = t at hr5 ⊢
              have Htt := Lib.hid htt
              have Hr5 := Lib.hid hr5
              clear h5 hb5 Hr hr5 htt hc0 lX
              have lX : w.heap.size + 1 < W5.heap.size := World.block_lt_of_cell? W5 _ c0
              go_upto_region 12 with fail
              generalize (World.setCell _ _ _).setCell _ _ = W6 at Hr5 ⊢
              clear c0 c1 f0 f1 lX
              obtain ⟨av, capv, rfl, _⟩ := owns_shape Hr5.out.own
              have c0 := blk_cell Hr5.out.has.hd 0
              have c1 := blk_cell Hr5.out.has.hd 1
              simp at c0 c1
              obtain ⟨i0, hi, hz0, hz1, hz2⟩ := info_parts info37
              have hsl : S.length ≤ 1001 := by have := Ht.out.2.2.2; omega
              have hcR := Hr5.out.base
              have hcS := Hr5.out.size
              go_wp2_with (at_builtin; go_must (refine wpList_append_own _ rfl _ _ 40 rfl R 37 i0 _ 2 16 Try.underlying40 hi hz0 hz1 hz2 rfl (by decide) _ _ _ rfl (World.ownsRow.alloc Hr5.out.own (.cells t.cells.toArray 37)) ⟨W6.heap.size, 0, none⟩ 1 1 t.cells rfl rfl ?d1 ?d2 ?d3 ?d4 ?d5 ?_))
              case d1 => exact src_new _ _ _
              case d2 => exact cells_one t
              case d3 => unfold maxLen; omega
              case d4 => omega
              case d5 => simp; omega
              intro v' w1 hown' hgrow _
              have hoA := World.ownsRow.alloc Hr5.out.own (.cells t.cells.toArray 37)
              have h7 := (Hr5.out.has.alloc (.cells t.cells.toArray 37)).grown hgrow (by intro p hp; exact own_ne hoA (by simp at hp; rcases hp with rfl | rfl <;> (first | omega | (simp; omega))))
              have w7 := grown_below (below_alloc Hr5.out.below (.cells t.cells.toArray 37)) hoA hgrow (by omega) (by simp; omega)
              obtain ⟨av', capv', rfl, _⟩ := owns_shape hown'
              have h8 : RC w b R (S ++ [t]) t (.slice av' (S.length + 1) capv') w1 := by
                refine ⟨h7, w7, ?_, hcR, ?_⟩
                · unfold OwnS
                  rw [flatS_app, flatS_one, List.length_append]
                  exact hown'
                · have := hgrow.size; simp at this; omega
              have h9 : RC w b R (runB b s (ws.take (k + 1))) (stAt b s (ws.take (k + 1))) (.slice av' (S.length + 1) capv') w1 := by
                rw [Ht.out.2.1, Ht.out.1, Htt.out]; exact h8
              have H9 := Lib.hid h9
              have Hok' : Hid (∀ j, j < k + 1 → okW (ws.getD j default) = true) := by
                intro j hj
                by_cases e : j = k
                · subst e; rw [Hx.out]; exact inR_iff.2 ⟨x0, x1⟩
                · exact Hok.out j (by omega)
              clear h7 w7 h8 h9 hoA hown' hgrow hi hz0 hz1 hz2 c0 c1 hsl Hr5 Ht Htt hcR hcS
              go_wp2_with fail
              go_roundw
              case rel => exact ⟨k + 1, _, by omega, by go_num, rfl, H9, Hok'⟩
              case measure => simp [intOf]; omega
            · have hE : E = 2 := by
                rw [← HE.out.1]
                exact courseE_bad HS.out (by rw [Hn.out]; exact hlt) (by rw [Hx.out]; exact inR_not.2 hxx)
              subst hE
              have hL : L = [] := by rw [← HE.out.2]; exact courseL_ne (by rw [HE.out.1]; omega)
              subst hL
              have HW := Lib.hid Hr.out.below
              clear Hr Ht
              by_cases c0 : x < 0
              case' neg => have c9 : 100000000 < x := by omega
              all_goals
                clear hxx
                go_wp2_with fail
                go_ret2
                exact ⟨_, rfl, OwnS.nil _ _, HW.out⟩
          · have hkn : k = n := by omega
            subst hkn
            have hE : E = 0 := by
              rw [← HE.out.1]
              exact courseE_all HS.out (by rw [Hn.out]; omega) (fun j hj => Hok.out j (by rw [Hn.out] at hj; exact hj))
            subst hE
            have hL : L = runB b s ws := by rw [← HE.out.2]; unfold courseL; rw [if_pos HE.out.1]
            have HLL := Lib.hid hL
            have hre := Hr.out
            rw [List.take_of_length_le (by rw [Hn.out]; omega)] at hre
            obtain ⟨av, capv, rfl, _⟩ := owns_shape hre.own
            have HRE := Lib.hid hre
            clear Hr hre hL
            go_wp2_with fail
            go_ret2
            exact ⟨_, rfl, by rw [HLL.out]; exact owns_base HRE.out.own (by have := HRE.out.base; omega), HRE.out.below⟩
end Go.Proofs.Ytojpbmaojbejjaa
