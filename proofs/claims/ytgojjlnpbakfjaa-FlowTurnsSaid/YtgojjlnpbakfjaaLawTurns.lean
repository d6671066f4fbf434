/- Chapter 05: the law of turned nets, greater capacities and arcs left out: the walk. -/
import Derived.Test.YtgojjlnpbakfjaaLawDual
import Derived.Test.YtgojjlnpbakfjaaDelA
import Derived.Test.YtgojjlnpbakfjaaCrit
namespace Go.Proofs.Ytgojjlnpbakfjaa
open Go Go.RowKit
set_option linter.unusedSimpArgs false

theorem ask_mk {n : Nat} {l : List Ar} {s t : Nat} (hv : netOk n l = true) (hs : s < n) (ht : t < n) (hst : s ≠ t) : askF n l s t = 0 := by
  unfold askF
  rw [if_pos hv, if_pos ⟨inR_iff.2 (by omega), inR_iff.2 (by omega), by omega⟩]
theorem turn_net {n : Nat} {l : List Ar} (hv : netOk n l = true) : netOk n (turnL l) = true := by
  obtain ⟨h1, h2, h3, h4⟩ := netOk_iff.1 hv
  refine netOk_iff.2 ⟨h1, h2, by simpa [turnL] using h3, fun a ha => ?_⟩
  obtain ⟨b, hb, rfl⟩ := List.mem_map.1 ha
  have := okA_iff.1 (h4 b hb)
  exact okA_iff.2 ⟨this.2.1, this.1, fun e => this.2.2.1 e.symm, this.2.2.2⟩
theorem more_net {n : Nat} {l : List Ar} {i : Nat} {y : Int} (hv : netOk n l = true) (hi : i < l.length) (h0 : 0 ≤ y) (h1 : y ≤ 100000000) : netOk n (moreL l i y) = true := by
  obtain ⟨g1, g2, g3, g4⟩ := netOk_iff.1 hv
  refine netOk_iff.2 ⟨g1, g2, by simpa [moreL] using g3, fun a ha => ?_⟩
  rcases List.mem_or_eq_of_mem_set ha with ha | rfl
  · exact g4 a ha
  · have := okA_iff.1 (g4 (l.getD i default) (by rw [List.getD_eq_getElem?_getD, List.getElem?_eq_getElem hi]; exact List.getElem_mem _))
    exact okA_iff.2 ⟨this.1, this.2.1, this.2.2.1, h0, h1⟩
theorem erase_net {n : Nat} {l : List Ar} {i : Nat} (hv : netOk n l = true) : netOk n (l.eraseIdx i) = true := by
  obtain ⟨h1, h2, h3, h4⟩ := netOk_iff.1 hv
  refine netOk_iff.2 ⟨h1, h2, ?_, fun a ha => h4 a (List.mem_of_mem_eraseIdx ha)⟩
  have := List.length_eraseIdx_le l i
  omega
theorem more_erase (l : List Ar) (i : Nat) (y : Int) : (moreL l i y).eraseIdx i = l.eraseIdx i := by
  unfold moreL
  rw [List.eraseIdx_set_eq]
theorem turnL_snoc (l : List Ar) (x : Ar) : turnL (l ++ [x]) = turnL l ++ [⟨x.v, x.u, x.c⟩] := by simp [turnL, Ar.turn]
theorem flatA_set : ∀ {l : List Ar} {i : Nat} {y : Int}, i < l.length → flatA (moreL l i y) = (flatA l).set (i * 3 + 2) (.int .i64 y)
  | [], _, _, h => by simp at h
  | x :: l, 0, y, _ => by simp [moreL, flatA, Ars]
  | x :: l, i + 1, y, h => by
    have ih := flatA_set (l := l) (i := i) (y := y) (by simpa using h)
    unfold moreL at ih ⊢
    rw [List.getD_cons_succ, List.set_cons_succ]
    show x.cells ++ flatA _ = (x.cells ++ flatA l).set ((i + 1) * 3 + 2) _
    rw [ih, List.set_append, if_neg (by simp; omega)]
    congr 2
    simp
    omega
theorem OwnA.cap {base g m c : Nat} {w : World} {l : List Ar} (h : OwnA base w (some ⟨g, 0, none⟩) m c l) {i : Nat} (hi : i < m) (y : Int) : OwnA base (w.setCell ⟨g, i * 3 + 2, none⟩ (.int .i64 y)) (some ⟨g, 0, none⟩) m c (moreL l i y) := by
  obtain ⟨g', cur, he, hbg, hg, hcur, htk, hmc, hcm⟩ := h.blk (by omega)
  injection he with he
  injection he with he
  subst he
  refine own_of_cur (cur := cur.set (i * 3 + 2) (.int .i64 y)) hbg ?_ (by rw [List.length_set]; exact hcur) hmc hcm (by rw [moreL, List.length_set]; exact h.2.1) ?_
  · simp [World.setCell, Array.getElem?_modify, hg]
  · rw [flatA_set (by rw [h.2.1]; exact hi), ← htk, List.take_set]
theorem OwnA.cell {base g m c : Nat} {w : World} {l : List Ar} (h : OwnA base w (some ⟨g, 0, none⟩) m c l) {i : Nat} (hi : i < m) : w.cell? ⟨g, i * 3 + 2, none⟩ = some (.int .i64 (l.getD i default).c) ∧ w.frozen? ⟨g, i * 3 + 2, none⟩ = false ∧ g < w.heap.size ∧ base ≤ g := by
  obtain ⟨g', cur, he, hbg, hg, _⟩ := h.blk (by omega)
  injection he with he
  injection he with he
  subst he
  obtain ⟨b, o, hbo, _, _, _, h2⟩ := ars_at h.rows i (by rw [h.2.1]; exact hi)
  cases hbo
  exact ⟨by simpa using h2, blk_frozen hg _, blk_lt hg, hbg⟩
/-- A net of arcs of the call's own in a box. -/
structure TX (w : World) (b g : Nat) (n : Int) (m c : Nat) (L : List Ar) (X : World) : Prop where
  box : X.heap[b]? = some (.cells #[.int .i64 n, .slice (some ⟨g, 0, none⟩) m c] 24 (0, 0))
  own : OwnA w.heap.size X (some ⟨g, 0, none⟩) m c L
  bel : Below w.heap.size w X
  gb : g < b
  wg : w.heap.size ≤ g
section
variable {w X X' : World} {b g : Nat} {n : Int} {m c : Nat} {L : List Ar}
theorem TX.later (h : TX w b g n m c L X) (hb : Below X.heap.size X X') : TX w b g n m c L X' := ⟨blk_below h.box hb, h.own.later hb, below_trans h.bel hb, h.gb, h.wg⟩
theorem TX.c0 (h : TX w b g n m c L X) : X.cell? ⟨b, 0, none⟩ = some (.int .i64 n) := (blk_cell h.box 0).trans rfl
theorem TX.c1 (h : TX w b g n m c L X) : X.cell? ⟨b, 1, none⟩ = some (.slice (some ⟨g, 0, none⟩) m c) := (blk_cell h.box 1).trans rfl
theorem TX.lt (h : TX w b g n m c L X) : b < X.heap.size := blk_lt h.box
theorem TX.cap (h : TX w b g n m c L X) {i : Nat} (hi : i < m) (y : Int) : TX w b g n m c (moreL L i y) (X.setCell ⟨g, i * 3 + 2, none⟩ (.int .i64 y)) :=
  ⟨blk_set h.box (by have := h.gb; simp only; omega) _, h.own.cap hi y, h.bel.setCell h.wg _, h.gb, h.wg⟩
end
/-- The turned net in the making. -/
structure UJ (X2 : World) (b : Nat) (n : Int) (av : Option Addr) (q cv : Nat) (L : List Ar) (X : World) : Prop where
  bel : Below X2.heap.size X2 X
  box : X.heap[b]? = some (.cells #[.int .i64 n, .slice av q cv] 24 (0, 0))
  own : OwnA (b + 1) X av q cv L
theorem most_turn {n : Nat} {L : List Ar} {s t : Nat} {f g : List Int} (hin : inN n L) (hs : s < n) (ht : t < n) (hst : s ≠ t) (hf : Best n L s t f) (hg : Best n (turnL L) t s g) : net (turnL L) g t = net L f s := by
  obtain ⟨h1, h2⟩ := hf.turn hin (by omega) (by omega) (by omega) (by omega) (by omega)
  rw [← h2]
  exact hg.same h1 (inN_turn hin) (by omega) (by omega)

set_option maxRecDepth 100000 in
set_option maxHeartbeats 16000000 in
theorem turns_walk (nd : Int) (a : Option Addr) (k c : Nat) (l : List Edg) (sa sb at' kk : Int) (w : World) (hnd : 0 ≤ nd ∧ nd ≤ 255) (hl : l.length = k ∧ k ≤ c ∧ c ≤ maxLen ∧ (a = none → k = 0 ∧ c = 0) ∧ RowsAt w.heap.size w a 3 (Edgs l) ∧ ∀ z ∈ l, z.ok) (hsa : 0 ≤ sa ∧ sa ≤ 255) (hsb : 0 ≤ sb ∧ sb ≤ 255) (hat : 0 ≤ at' ∧ at' ≤ 255) (hkk : 0 ≤ kk ∧ kk ≤ 255) :
    Calls Try.prog 9 #[.int .u8 nd, .slice a k c, .int .u8 sa, .int .u8 sb, .int .u8 at', .int .u8 kk] w fun e W' => e = .returned (.bool true) ∧ Below w.heap.size w W' := by
  obtain ⟨hl1, hl2, hl3, hl4, hl5, hl6⟩ := hl
  have hk63 : k ≤ 9223372036854775807 := by unfold maxLen at hl3; omega
  have h0 := sm_ask hnd hsa hsb hl6
  have hc255 : ∀ x ∈ smL (smN nd) (l.take 40), x.c ≤ 255 := by
    intro x hx
    obtain ⟨e, he, rfl, _⟩ := smL_mem hx
    have := hl6 e (List.mem_of_mem_take he)
    unfold Edg.ok at this
    simp only [mkA]
    omega
  obtain ⟨_, hn2, hn10⟩ := smN_in hnd
  have HM := Lib.hid (And.intro hnd (And.intro hsa (And.intro hsb (And.intro hl1 (And.intro hl5 hl6)))))
  have hLlen := smL_len (smN nd) (l.take 40)
  rw [List.length_take] at hLlen
  obtain ⟨n, hN⟩ : ∃ n, smN nd = n := ⟨_, rfl⟩
  obtain ⟨L, hL⟩ : ∃ L, smL (smN nd) (l.take 40) = L := ⟨_, rfl⟩
  obtain ⟨s, hS⟩ : ∃ s, sa % (smN nd : Int) = s := ⟨_, rfl⟩
  obtain ⟨t, hT⟩ : ∃ t, smT (smN nd) sa sb = t := ⟨_, rfl⟩
  have HS := Lib.hid (small_ok nd a k c l sa sb)
  rw [hL] at hLlen hc255
  have hL40 : L.length ≤ 40 := by omega
  rw [hL, hS, hT, hN] at HS
  rw [hL, hS, hT, hN] at h0
  rw [hN] at hn2 hn10
  obtain ⟨hv, hs, ht, hstn⟩ := askF_zero h0
  obtain ⟨s, rfl⟩ : ∃ z : Nat, s = z := ⟨s.toNat, by omega⟩
  obtain ⟨t, rfl⟩ : ∃ z : Nat, t = z := ⟨t.toNat, by omega⟩
  have hsn : s < n := by omega
  have htn : t < n := by omega
  have hin : inN n L := fun a ha => by have := okA_iff.1 ((netOk_iff.1 hv).2.2.2 a ha); omega
  have H0 := Lib.hid (And.intro h0 (And.intro hin (And.intro hv (And.intro (show s ≠ t by omega) hc255))))
  have HL40 := Lib.hid hL40
  clear hL hS hT hN h0 hv hs ht hstn hin hl1 hl2 hl3 hl4 hl5 hl6 hnd hsa hsb hLlen hL40 hc255
  go_enter Try.func9, Try.ntmps9
  go_wp2_with fail
  refine (HS.out w HM.out.1 HM.out.2.1 HM.out.2.2.1 HM.out.2.2.2.1 hk63 HM.out.2.2.2.2.1 HM.out.2.2.2.2.2).mono ?_
  rintro e W1 ⟨a1, m1, c1, rfl, ho, hb⟩
  have H1 := Lib.hid (And.intro ho hb)
  have hm40 : m1 ≤ 40 := by have := ho.len.1; have := HL40.out; omega
  have hm63 : m1 ≤ 9223372036854775807 := by omega
  clear ho hb HS
  go_upto_region 2 with fail
  have hbx := below_alloc (below_self W1) (.cells #[.int .i64 n, .slice a1 m1 c1] 24)
  have H2 := Lib.hid (show OwnA w.heap.size (W1.alloc (.cells #[.int .i64 n, .slice a1 m1 c1] 24)) a1 m1 c1 L ∧ Below w.heap.size w (W1.alloc (.cells #[.int .i64 n, .slice a1 m1 c1] 24)) ∧ (W1.alloc (.cells #[.int .i64 n, .slice a1 m1 c1] 24)).heap[W1.heap.size]? = some (.cells #[.int .i64 n, .slice a1 m1 c1] 24 (0, 0)) from ⟨H1.out.1.later hbx, below_trans H1.out.2 hbx, blk_new W1 _⟩)
  have HLW := Lib.hid (show ∀ g, a1 = some ⟨g, 0, none⟩ → g < W1.heap.size ∧ w.heap.size ≤ g from fun g e => by
    have := H1.out.1.1.lt g (by rw [e]; rfl)
    omega)
  clear hbx
  generalize W1.alloc _ = X1 at H2 ⊢
  generalize W1.heap.size = b at H2 HLW ⊢
  clear H1
  have k0 : X1.cell? ⟨b, 0, none⟩ = some (.int .i64 n) := (blk_cell H2.out.2.2 0).trans rfl
  have k1 : X1.cell? ⟨b, 1, none⟩ = some (.slice a1 m1 c1) := (blk_cell H2.out.2.2 1).trans rfl
  have kl := blk_lt H2.out.2.2
  go_wp2_with fail
  refine (max_ok n a1 m1 c1 L s t X1 H2.out.1.2.1 hm63 H2.out.1.rows).mono ?_
  rintro e X2 ⟨r, v, rfl, f, ho, hm, hb⟩
  rw [H0.out.1]
  obtain ⟨hB, hr⟩ := hm.1 H0.out.1
  rw [Int.toNat_natCast] at hB
  obtain ⟨_, _, rfl, _⟩ := ho.rows
  have HF := Lib.hid (And.intro hB hr)
  have H3 := Lib.hid (And.intro (H2.out.1.later hb) (And.intro (below_trans H2.out.2.1 hb) (blk_below H2.out.2.2 hb)))
  clear ho hm hb hB hr k0 k1 kl H2
  have k0 : X2.cell? ⟨b, 0, none⟩ = some (.int .i64 n) := (blk_cell H3.out.2.2 0).trans rfl
  have k1 : X2.cell? ⟨b, 1, none⟩ = some (.slice a1 m1 c1) := (blk_cell H3.out.2.2 1).trans rfl
  have kl := blk_lt H3.out.2.2
  go_wp2_with fail
  have HU0 := Lib.hid (show UJ X2 X2.heap.size n none 0 0 [] (X2.alloc (.cells #[.int .i64 n, .slice none 0 0] 24)) from ⟨below_alloc (below_self X2) _, blk_new X2 _, OwnA.nil _ _⟩)
  generalize X2.alloc _ = X3 at HU0 ⊢
  clear k0 k1 kl
  go_loopw [54] (fun i wr => ∃ (j : Nat) (X : World) (av : Option Addr) (cv : Nat), j ≤ m1 ∧ i = .int .i64 j ∧ X = wr ∧ Hid (UJ X2 X2.heap.size n av j cv (turnL (L.take j)) X)) (fun i _ => m1 - (intOf i).toNat)
  case atStart => exact ⟨0, _, _, _, Nat.zero_le _, rfl, rfl, Lib.hid HU0.out⟩
  case round =>
    clear HU0
    obtain ⟨j, X, av, cv, hj, rfl, rfl, HX⟩ := hrel
    by_cases hlt : j < m1
    · have hltI : (j : Int) < (m1 : Int) := by omega
      have hjl : j < L.length := by rw [H3.out.1.2.1]; exact hlt
      obtain ⟨b1, o1, rfl, hb1, c0, c1', c2⟩ := ars_at (H3.out.1.rows.later HX.out.bel) j hjl
      have hts := take_snocA2 hjl
      obtain ⟨x, hx⟩ : ∃ x, L.getD j default = x := ⟨_, rfl⟩
      rw [hx] at c0 c1' c2 hts
      obtain ⟨xu, xv, xc⟩ := x
      simp only at c0 c1' c2
      have hS := turnL_snoc (L.take j) ⟨xu, xv, xc⟩
      rw [← hts] at hS
      have HT := Lib.hid hS
      have k1 : X.cell? ⟨X2.heap.size, 1, none⟩ = some (.slice av j cv) := (blk_cell HX.out.box 1).trans rfl
      have kl := blk_lt HX.out.box
      clear hts hS hx hjl
      obtain ⟨i0, hi, hz0, hz1, hz2⟩ := info_parts infoA
      go_wp2_with (at_builtin; go_must (refine wpList_append_any rfl _ _ 22 rfl (X2.heap.size + 1) 32 i0 _ 3 24 Try.underlying22 hi hz0 hz1 hz2 rfl (by decide) _ j (flatA (turnL (L.take j))) rfl (World.ownsRow.alloc (World.ownsRow.alloc HX.out.own.1 _) _) _ _ _ [.int .i64 xv, .int .i64 xu, .int .i64 xc] rfl ?c0 ?c1 ?c2 ?c3 ?c4 ?c5 ?c6 ?_))
      case c3 => simp [Value.oneCell']
      case c4 => unfold maxLen; omega
      case c5 => omega
      case c6 => first | omega | (simp; omega)
      intro a2 cap2 W3 hown3 hgrow3
      have hoA := World.ownsRow.alloc (World.ownsRow.alloc HX.out.own.1 (.cells #[.int .i64 xu, .int .i64 xv, .int .i64 xc] 32)) (.cells #[.int .i64 xv, .int .i64 xu, .int .i64 xc] 32)
      have hne : some X2.heap.size ≠ (Value.slice av j cv).ownBlock := own_ne hoA (by omega)
      have hb3 : Below X2.heap.size X2 W3 := grown_below (below_alloc (below_alloc HX.out.bel _) _) hoA hgrow3.out (by omega) (by have := HX.out.bel.size; simp; omega)
      have z1 := grown_blk hgrow3.out (blk_alloc (blk_alloc HX.out.box _) _) hne
      have ho3 : OwnA (X2.heap.size + 1) W3 a2 (j + 1) cap2 (turnL (L.take (j + 1))) := by
        refine OwnA.of ?_ ?_ hown3.out.2
        · rw [HT.out, flatA_app]
          exact hown3.out.1
        · rw [HT.out, List.length_append, HX.out.own.2.1]; rfl
      have v1 : W3.cell? ⟨X2.heap.size, 1, none⟩ = some (.slice av j cv) := (blk_cell z1 1).trans rfl
      have f1 := blk_frozen z1 1
      have lz := blk_lt z1
      have HN := Lib.hid (show UJ X2 X2.heap.size n a2 (j + 1) cap2 (turnL (L.take (j + 1))) (W3.setCell ⟨X2.heap.size, 1, none⟩ (.slice a2 (j + 1) cap2)) from
        ⟨hb3.setCell (Nat.le_refl _) _, by simp [World.setCell, Array.getElem?_modify, z1], ⟨owns_set ho3.1 (by simp) _, ho3.2⟩⟩)
      clear hoA hne hb3 z1 ho3 hown3 hgrow3 k1 kl hi hz0 hz1 hz2 HX c0 c1' c2 hb1
      go_wp2_with fail
      go_roundw
      case rel => exact ⟨j + 1, _, a2, cap2, by omega, by go_num, rfl, HN⟩
      case measure => simp [intOf]; omega
    · have hltI : ¬ (j : Int) < (m1 : Int) := by omega
      obtain rfl : j = m1 := by omega
      have htL : L.take j = L := List.take_of_length_le (by rw [H3.out.1.2.1]; exact Nat.le_refl _)
      rw [htL] at HX
      clear htL
      have htask : askF n (turnL L) t s = 0 := ask_mk (turn_net H0.out.2.2.1) htn hsn (fun e => H0.out.2.2.2.1 e.symm)
      have HTA := Lib.hid htask
      clear htask
      have k0 : X.cell? ⟨X2.heap.size, 0, none⟩ = some (.int .i64 n) := (blk_cell HX.out.box 0).trans rfl
      have k1 : X.cell? ⟨X2.heap.size, 1, none⟩ = some (.slice av j cv) := (blk_cell HX.out.box 1).trans rfl
      have kl := blk_lt HX.out.box
      go_wp2_with fail
      refine (max_ok n av j cv (turnL L) t s X HX.out.own.2.1 hm63 HX.out.own.rows).mono ?_
      rintro e X4 ⟨r2, v, rfl, f2, ho, hm, hb⟩
      rw [HTA.out]
      obtain ⟨hB, hr⟩ := hm.1 HTA.out
      rw [Int.toNat_natCast] at hB
      have hrr : r2 = r := by rw [hr, HF.out.2]; exact most_turn H0.out.2.1 hsn htn H0.out.2.2.2.1 HF.out.1 hB
      subst hrr
      obtain ⟨_, _, rfl, _⟩ := ho.rows
      have hbX := below_trans HX.out.bel hb
      have H5 := Lib.hid (And.intro (H3.out.1.later hbX) (And.intro (below_trans H3.out.2.1 hbX) (blk_below H3.out.2.2 hbX)))
      clear ho hm hb hB hr hbX k0 k1 kl HX H3
      have hr0 : (r2 != r2) = false := by simp
      have k0 : X4.cell? ⟨b, 0, none⟩ = some (.int .i64 n) := (blk_cell H5.out.2.2 0).trans rfl
      have k1 : X4.cell? ⟨b, 1, none⟩ = some (.slice a1 j c1) := (blk_cell H5.out.2.2 1).trans rfl
      have kl := blk_lt H5.out.2.2
      by_cases hm0 : j = 0
      · have hr00 : r2 = 0 := by
          rw [HF.out.2]
          have : L = [] := List.eq_nil_of_length_eq_zero (by rw [H5.out.1.2.1]; exact hm0)
          rw [this]
          simp [net]
        subst hm0
        subst hr00
        go_wp2_with fail
        refine (works_ok X4).mono ?_
        rintro e V3 ⟨rfl, hb⟩
        have HW3 := Lib.hid (below_trans H5.out.2.1 hb)
        clear hb
        go_wp2_with fail
        go_ret
        exact ⟨rfl, HW3.out⟩
      · obtain ⟨g, _, ha1, _⟩ := H5.out.1.blk (by omega)
        subst ha1
        have HT0 := Lib.hid (show TX w b g n j c1 L X4 from ⟨H5.out.2.2, H5.out.1, H5.out.2.1, (HLW.out g rfl).1, (HLW.out g rfl).2⟩)
        clear H5
        have hj0 : ¬ (j : Int) = 0 := by omega
        obtain ⟨i, hi⟩ : ∃ i : Nat, at' % (j : Int) = i := ⟨(at' % (j : Int)).toNat, by have := Int.emod_nonneg at' hj0; omega⟩
        have hij : i < j := by have := Int.emod_lt_of_pos at' (show (0 : Int) < j by omega); omega
        have hwat : IntKind.i64.wrap at' = at' := IntWalk.i64_in _ (by omega)
        have htm : at'.tmod (j : Int) = i := by rw [Int.tmod_eq_emod_of_nonneg hat.1, hi]
        have hjb : ((j : Int) == 0) = false := beq_eq_false_iff_ne.2 hj0
        clear hi
        go_wp2_with fail
        refine (crit_ok n (some ⟨g, 0, none⟩) j c1 L s t X4 HT0.out.own.2.1 hm63 HT0.out.own.rows).mono ?_
        rintro e X5 ⟨v, rfl, cl, ho, hc, hb⟩
        rw [H0.out.1]
        obtain ⟨C, hC, hcl⟩ := hc.1 H0.out.1
        rw [Int.toNat_natCast] at hC
        have hhas : cl.contains (i : Int) = C i := by rw [hcl]; exact sel_has (by rw [HT0.out.own.2.1]; exact hij)
        have HC := Lib.hid (And.intro hhas (hC i (by rw [HT0.out.own.2.1]; exact hij)))
        obtain ⟨av2, cv2, rfl, _⟩ := ho.rows
        have hX4 := HT0.out.lt
        have H6 := Lib.hid (And.intro (HT0.out.later hb) (And.intro ho (own_le ho)))
        have HGX := Lib.hid (show b < X4.heap.size from hX4)
        clear ho hb hc hC hcl hhas hX4 k0 k1 kl HT0 hwat htm
        obtain ⟨cy, hcy⟩ : ∃ cy, (L.getD i default).c = cy := ⟨_, rfl⟩
        obtain ⟨qc, qf, qg, qw⟩ := H6.out.1.own.cell hij
        have hcb : 0 ≤ cy ∧ cy ≤ 255 := by
          have hm : L.getD i default ∈ L := by rw [List.getD_eq_getElem?_getD, List.getElem?_eq_getElem (by rw [H6.out.1.own.2.1]; exact hij)]; exact List.getElem_mem _
          have h1 := (okA_iff.1 ((netOk_iff.1 H0.out.2.2.1).2.2.2 _ hm)).2.2.2.1
          have h2 := H0.out.2.2.2.2 _ hm
          omega
        rw [hcy] at qc
        have HCY := Lib.hid hcy
        clear hcy
        have hwk : IntKind.i64.wrap kk = kk := IntWalk.i64_in _ (by omega)
        have hwc : IntKind.i64.wrap (cy + kk) = cy + kk := IntWalk.i64_in _ (by omega)
        have k1 := H6.out.1.c1
        have kl := H6.out.1.lt
        have hiI : (i : Int) < (j : Int) := by omega
        go_upto_region 17 with fail
        have H7 := Lib.hid (show TX w b g n j c1 (moreL L i (cy + kk)) (X5.setCell ⟨g, i * 3 + 2, none⟩ (.int .i64 (cy + kk))) ∧ OwnI X4.heap.size (X5.setCell ⟨g, i * 3 + 2, none⟩ (.int .i64 (cy + kk))) (.slice av2 cl.length cv2) cl from
          ⟨H6.out.1.cap hij _, owns_set_ne H6.out.2.1 (own_ne H6.out.2.1 (by have := H6.out.1.gb; have := HGX.out; simp only; omega)) _⟩)
        have hcl63 := H6.out.2.2
        clear H6 qc qf qg qw hwc k1 kl
        generalize X5.setCell ⟨g, i * 3 + 2, none⟩ (.int .i64 (cy + kk)) = Y5 at H7 ⊢
        have hma : askF n (moreL L i (cy + kk)) s t = 0 := ask_mk (more_net H0.out.2.2.1 (by have := H7.out.1.own.2.1; rw [moreL, List.length_set] at this; omega) (by omega) (by omega)) hsn htn H0.out.2.2.2.1
        have HMA := Lib.hid hma
        clear hma
        have k0 := H7.out.1.c0
        have k1 := H7.out.1.c1
        have kl := H7.out.1.lt
        go_wp2_with fail
        refine (max_ok n (some ⟨g, 0, none⟩) j c1 (moreL L i (cy + kk)) s t Y5 H7.out.1.own.2.1 hm63 H7.out.1.own.rows).mono ?_
        rintro e Y6 ⟨r3, v, rfl, f3, ho, hm, hb⟩
        rw [HMA.out]
        obtain ⟨hB, hr⟩ := hm.1 HMA.out
        rw [Int.toNat_natCast] at hB
        have hwd : r2 ≤ r3 ∧ r3 ≤ r2 + kk := by
          rw [hr, HF.out.2]
          rw [← HCY.out] at hB ⊢
          exact HF.out.1.wider hkk.1 hB H0.out.2.1 (by omega) (by omega)
        obtain ⟨_, _, rfl, _⟩ := ho.rows
        have H8 := Lib.hid (And.intro (H7.out.1.later hb) (H7.out.2.later hb))
        clear ho hm hb hB hr k0 k1 kl H7
        have hrb : -12800000000 ≤ r2 ∧ r2 ≤ 12800000000 := by
          have h1 := net_bound L f (s : Int) HF.out.1.flw.ok (fun x hx => by have := okA_iff.1 ((netOk_iff.1 H0.out.2.2.1).2.2.2 x hx); omega)
          have h2 := HL40.out
          rw [HF.out.2]
          omega
        have hwr : IntKind.i64.wrap (r2 + kk) = r2 + kk := IntWalk.i64_in _ (by omega)
        have hn1 : ¬ r3 < r2 := by omega
        have hn2' : ¬ r2 + kk < r3 := by omega
        have hwi : IntKind.i64.wrap ((i : Int) + 1) = (i : Int) + 1 := IntWalk.i64_in _ (by omega)
        have k1 := H8.out.1.c1
        have kl := H8.out.1.lt
        go_wp2_with fail
        refine (deleteA_ok w.heap.size g j c1 (moreL L i (cy + kk)) i Y6 H8.out.1.own hij).mono ?_
        rintro e Z ⟨rfl, ho, hbut⟩
        rw [more_erase] at ho
        have hgb := H8.out.1.gb
        have hzb := hbut.blk H8.out.1.box (by omega)
        have v1 : Z.cell? ⟨b, 1, none⟩ = some (.slice (some ⟨g, 0, none⟩) j c1) := (blk_cell hzb 1).trans rfl
        have f1 := blk_frozen hzb 1
        have lz := blk_lt hzb
        have hbelZ : Below w.heap.size w Z := hbut.below H8.out.1.bel H8.out.1.wg
        have hclZ : OwnI X4.heap.size Z (.slice av2 cl.length cv2) cl := owns_but_ne H8.out.2 hbut (own_ne H8.out.2 (by have := HGX.out; omega))
        have H9 := Lib.hid (show TX w b g n (j - 1) c1 (L.eraseIdx i) (Z.setCell ⟨b, 1, none⟩ (.slice (some ⟨g, 0, none⟩) (j - 1) c1)) ∧ OwnI X4.heap.size (Z.setCell ⟨b, 1, none⟩ (.slice (some ⟨g, 0, none⟩) (j - 1) c1)) (.slice av2 cl.length cv2) cl from
          ⟨⟨by simp [World.setCell, Array.getElem?_modify, hzb], ⟨owns_set_ne ho.1 (by simp [Value.ownBlock]; omega) _, ho.2⟩, hbelZ.setCell (by have := H8.out.1.wg; simp only; omega) _, hgb, H8.out.1.wg⟩, owns_set hclZ HGX.out _⟩)
        clear ho hbut hzb hbelZ hclZ hwd hwr hrb hn1 hn2' hwi k1 kl H8 hgb
        go_upto_region 21 with fail
        generalize Z.setCell ⟨b, 1, none⟩ (.slice (some ⟨g, 0, none⟩) (j - 1) c1) = Z2 at H9 ⊢
        clear v1 f1 lz
        have hea : askF n (L.eraseIdx i) s t = 0 := ask_mk (erase_net H0.out.2.2.1) hsn htn H0.out.2.2.2.1
        have HEA := Lib.hid hea
        clear hea
        have hj63 : j - 1 ≤ 9223372036854775807 := by omega
        have k0 := H9.out.1.c0
        have k1 := H9.out.1.c1
        have kl := H9.out.1.lt
        go_wp2_with fail
        refine (max_ok n (some ⟨g, 0, none⟩) (j - 1) c1 (L.eraseIdx i) s t Z2 H9.out.1.own.2.1 hj63 H9.out.1.own.rows).mono ?_
        rintro e Z3 ⟨r4, v, rfl, f4, ho, hm, hb⟩
        rw [HEA.out]
        obtain ⟨hB, hr⟩ := hm.1 HEA.out
        rw [Int.toNat_natCast] at hB
        have hnd := (HF.out.1.val).needed hB.val H0.out.2.1 (by omega) (by omega)
        rw [← HF.out.2, ← hr, ← HC.out.2] at hnd
        obtain ⟨_, _, rfl, _⟩ := ho.rows
        have HZ3 := Lib.hid (And.intro (below_trans H9.out.1.bel hb) (H9.out.2.later hb))
        clear ho hm hb hB hr k0 k1 kl H9
        obtain ⟨_, _, he, hrc⟩ : ∃ a' c', Value.slice av2 cl.length cv2 = .slice a' cl.length c' ∧ RowsAt Z3.heap.size Z3 a' 1 (Ints cl) := HZ3.out.2.rows
        injection he with he1 _ he3
        subst he1
        have HRC := Lib.hid hrc
        have HND := Lib.hid hnd
        clear hrc he3 hnd
        go_wp2_with fail
        refine (containsV_ok av2 cl.length cv2 cl i Z3 rfl hcl63 HRC.out).mono ?_
        rintro e Z4 ⟨rfl, hb⟩
        rw [HC.out.1]
        have HZ4 := Lib.hid (below_trans HZ3.out.1 hb)
        clear hb
        by_cases hlv : r4 < r2
        · rw [HND.out.2 hlv]
          go_wp2_with fail
          refine (works_ok Z4).mono ?_
          rintro e Z5 ⟨rfl, hb⟩
          have HZ5 := Lib.hid (below_trans HZ4.out hb)
          clear hb
          go_wp2_with fail
          go_ret
          exact ⟨rfl, HZ5.out⟩
        · rw [show C i = false by cases hb : C i; exact rfl; exact absurd (HND.out.1 hb) hlv]
          go_wp2_with fail
          refine (works_ok Z4).mono ?_
          rintro e Z5 ⟨rfl, hb⟩
          have HZ5 := Lib.hid (below_trans HZ4.out hb)
          clear hb
          go_wp2_with fail
          go_ret
          exact ⟨ret_bool (by rw [decide_eq_false (show ¬ r4 < r2 by omega)]; rfl), HZ5.out⟩
end Go.Proofs.Ytgojjlnpbakfjaa
