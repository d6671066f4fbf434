/- Chapter 05: the law of the least cut: the walk. -/
import Derived.Test.YtgojjlnpbakfjaaLawMaxes
import Derived.Test.YtgojjlnpbakfjaaSml
namespace Go.Proofs.Ytgojjlnpbakfjaa
open Go Go.RowKit
set_option linter.unusedSimpArgs false

set_option maxHeartbeats 1000000 in
theorem indexV_ok (a : Option Addr) (n cap : Nat) (xs : List Int) (y : Int) (w : World) (hn : xs.length = n) (hl : n ≤ 9223372036854775807) (hm : RowsAt w.heap.size w a 1 (Ints xs)) :
    Calls Try.prog 43 #[.slice a n cap, .int .i64 y] w fun e W' => e = .returned (.int .i64 (idxI (fun x => y == x) xs)) ∧ Below w.heap.size w W' := by
  have Hn := Lib.hid hn; clear hn
  have Hm := Lib.hid hm; clear hm
  go_enter Try.func43, Try.ntmps43
  go_wp2_with fail
  go_loopw [8] (fun i wr => ∃ k : Nat, k ≤ n ∧ i = .int .i64 k ∧ w = wr ∧ Hid (∀ j, j < k → (y == xs.getD j default) = false)) (fun i _ => n - (intOf i).toNat)
  case atStart => exact ⟨0, Nat.zero_le _, rfl, rfl, fun j hj => by omega⟩
  case round =>
    obtain ⟨k, hk, rfl, rfl, Hno⟩ := hrel
    by_cases hlt : k < n
    · have hltI : (k : Int) < (n : Int) := by omega
      obtain ⟨b, off, rfl, hb, hc⟩ := ints_at Hm.out k (by rw [Hn.out]; exact hlt)
      obtain ⟨x, hx⟩ : ∃ x, xs.getD k default = x := ⟨_, rfl⟩
      rw [hx] at hc
      have HX := Lib.hid hx
      clear hx
      by_cases hyx : y = x
      · have q5 : (y == x) = true := beq_iff_eq.2 hyx
        have HI := Lib.hid (idxI_found (p := fun x => y == x) (by rw [Hn.out]; exact hlt) (by show (y == xs.getD k default) = true; rw [HX.out]; exact q5) Hno.out)
        clear hyx
        go_wp2_with fail
        go_ret
        exact ⟨by rw [HI.out]; rfl, below_self w⟩
      · have q5 : (y == x) = false := beq_eq_false_iff_ne.2 hyx
        have HN := Lib.hid (no_succ (p := fun x => y == x) Hno.out (by show (y == xs.getD k default) = false; rw [HX.out]; exact q5))
        clear hyx
        go_wp2_with fail
        go_roundw
        case rel => exact ⟨k + 1, by omega, by go_num, trivial, HN⟩
        case measure => simp [intOf]; omega
    · have hltI : ¬ (k : Int) < (n : Int) := by omega
      have HI := Lib.hid (idxI_none (p := fun x => y == x) (l := xs) (fun j hj => Hno.out j (by rw [Hn.out] at hj; omega)))
      go_wp2_with fail
      go_ret
      exact ⟨by rw [HI.out]; rfl, below_self w⟩
theorem containsV_ok (a : Option Addr) (n cap : Nat) (xs : List Int) (y : Int) (w : World) (hn : xs.length = n) (hl : n ≤ 9223372036854775807) (hm : RowsAt w.heap.size w a 1 (Ints xs)) :
    Calls Try.prog 29 #[.slice a n cap, .int .i64 y] w fun e W' => e = .returned (.bool (xs.contains y)) ∧ Below w.heap.size w W' := by
  have Hn := Lib.hid hn; clear hn
  have Hm := Lib.hid hm; clear hm
  have HC := Lib.hid (show decide (0 ≤ idxI (fun x => y == x) xs) = xs.contains y by rw [idxI_any, List.contains_eq_any_beq])
  obtain ⟨R, hR⟩ : ∃ R, xs.contains y = R := ⟨_, rfl⟩
  rw [hR] at HC ⊢
  clear hR
  go_enter Try.func29, Try.ntmps29
  go_wp2_with fail
  refine (indexV_ok a n cap xs y w Hn.out hl Hm.out).mono ?_
  rintro e W2 ⟨rfl, hb2⟩
  have HB := Lib.hid hb2; clear hb2
  go_wp2_with fail
  go_ret
  exact ⟨by rw [← HC.out]; rfl, HB.out⟩

theorem sel_last (P : Nat → Bool) : ∀ k, lastD (-1) (sel P k) < k
  | 0 => by simp [sel, lastD]
  | k + 1 => by
    have ih := sel_last P k
    simp only [sel]
    split
    · rw [lastD_snoc]; omega
    · rw [List.append_nil]; omega
theorem sel_inc {N : Int} (P : Nat → Bool) : ∀ k : Nat, (k : Int) ≤ N → incB N (-1) (sel P k) = true
  | 0, _ => rfl
  | k + 1, h => by
    have ih := sel_inc (N := N) P k (by omega)
    have hl := sel_last P k
    simp only [sel]
    split
    · have hk : (k : Int) < N := by omega
      rw [incB_snoc, ih, decide_eq_true hl, decide_eq_true hk]; rfl
    · rw [List.append_nil]; exact ih
theorem sel_has {P : Nat → Bool} {n x : Nat} (hx : x < n) : (sel P n).contains (x : Int) = P x := by
  refine bool_same (p := P x = true) ?_ Iff.rfl
  rw [List.contains_iff_mem, sel_mem]
  constructor
  · rintro ⟨i, h1, h2, h3⟩
    obtain rfl : x = i := by omega
    exact h2
  · exact fun h => ⟨x, hx, h, rfl⟩
/-- What Cut returns is a set of the greatest value's capacity. -/
theorem IsCut.cap {n : Nat} {l : List Ar} {s t c} (h : IsCut n l s t c) (hin : inN n l) (s0 : 0 ≤ s) (s1 : s < n) (t0 : 0 ≤ t) (t1 : t < n) :
    ∃ f, Best n l s t f ∧ capL l c = net l f s ∧ c.contains s = true ∧ c.contains t = false ∧ (∀ x ∈ c, Rch l f s x) ∧ ∃ S, c = sel S n := by
  obtain ⟨f, hf, S, hS, rfl⟩ := h
  have hC : ∀ x : Int, 0 ≤ x → x < n → ((sel S n).contains x = true ↔ Rch l f s x) := fun x h0 h1 => by
    have := hS x.toNat (by omega)
    rw [show ((x.toNat : Nat) : Int) = x by omega] at this
    rw [← this, ← sel_has (P := S) (n := n) (x := x.toNat) (by omega), show ((x.toNat : Nat) : Int) = x by omega]
  have hs : (sel S n).contains s = true := (hC s s0 s1).2 (Rch.self _ _ _)
  have ht : (sel S n).contains t = false := by
    cases hb : (sel S n).contains t
    · rfl
    · exact absurd ((hC t t0 t1).1 hb) (hf.far hin s0 s1)
  refine ⟨f, hf, ?_, hs, ht, fun x hx => ?_, S, rfl⟩
  · have hsh : Shut l f (fun x => (sel S n).contains x) := fun x y hr hx => by
      obtain ⟨⟨x0, x1⟩, y0, y1⟩ := res_in hin hr
      exact (hC y y0 y1).2 (((hC x x0 x1).1 hx).step hr)
    unfold capL
    rw [← (crs_tight hf.flw.ok).2 ((tight_shut hf.flw.ok).2 hsh)]
    exact hf.flw.cross hin s0 s1 hs ht
  · obtain ⟨i, h1, h2, rfl⟩ := sel_mem.1 hx
    exact (hS i h1).1 h2
/-- Another set. -/
theorem dual_other {n : Nat} {l : List Ar} {s t : Int} {f c : List Int} (hf : Best n l s t f) (hin : inN n l) (s0 : 0 ≤ s) (s1 : s < n) (hc : ∀ x ∈ c, Rch l f s x) {o : List Int} (hs : o.contains s = true) (ht : o.contains t = false) :
    net l f s ≤ capL l o ∧ (capL l o = net l f s → ∀ x ∈ c, o.contains x = true) :=
  ⟨hf.flw.le hin s0 s1 (S := fun x => o.contains x) hs ht, fun he x hx => hf.least hin s0 s1 (S := fun x => o.contains x) hs ht he (hc x hx)⟩

theorem sel_upd (P : Nat → Bool) (j : Nat) (x : Bool) : sel (upd P j x) (j + 1) = sel P j ++ (if x = true then [(j : Int)] else []) := by
  have h1 : sel (upd P j x) j = sel P j := sel_congr fun i hi => by unfold upd; rw [if_neg (by omega)]
  have h2 : upd P j x j = x := by unfold upd; rw [if_pos rfl]
  simp only [sel, h1, h2]
theorem upd_ok {P : Nat → Bool} {j s t : Nat} (h : ∀ i, i < j → (i = s → P i = true) ∧ (i = t → P i = false)) {x : Bool} (hx : (j = s → x = true) ∧ (j = t → x = false)) : ∀ i, i < j + 1 → (i = s → upd P j x i = true) ∧ (i = t → upd P j x i = false) := fun i hi => by
  unfold upd
  by_cases e : i = j
  · rw [if_pos e, e]; exact hx
  · rw [if_neg e]; exact h i (by omega)
/-- A net in a box. -/
structure BX (w : World) (b : Nat) (n : Int) (a : Option Addr) (k c : Nat) (l : List Ar) (X : World) : Prop where
  box : X.heap[b]? = some (.cells #[.int .i64 n, .slice a k c] 24 (0, 0))
  rows : RowsAt X.heap.size X a 3 (Ars l)
  len : l.length = k
  bel : Below w.heap.size w X
theorem BX.later {w X X' : World} {b : Nat} {N : Int} {a : Option Addr} {k c : Nat} {l : List Ar} (h : BX w b N a k c l X) (hb : Below X.heap.size X X') : BX w b N a k c l X' := ⟨blk_below h.box hb, h.rows.later hb, h.len, below_trans h.bel hb⟩
theorem BX.c0 {w X : World} {b : Nat} {N : Int} {a : Option Addr} {k c : Nat} {l : List Ar} (h : BX w b N a k c l X) : X.cell? ⟨b, 0, none⟩ = some (.int .i64 N) := (blk_cell h.box 0).trans rfl
theorem BX.c1 {w X : World} {b : Nat} {N : Int} {a : Option Addr} {k c : Nat} {l : List Ar} (h : BX w b N a k c l X) : X.cell? ⟨b, 1, none⟩ = some (.slice a k c) := (blk_cell h.box 1).trans rfl
theorem BX.lt {w X : World} {b : Nat} {N : Int} {a : Option Addr} {k c : Nat} {l : List Ar} (h : BX w b N a k c l X) : b < X.heap.size := blk_lt h.box
theorem acr_in {n : Nat} {l : List Ar} {c : List Int} (hv : netOk n l = true) (hi : incB n (-1) c = true) : acrE n l c = 0 ∧ acrV n l c = capL l c := by
  have h1 : acrE n l c = 0 := by unfold acrE; rw [hv, hi]; rfl
  exact ⟨h1, by unfold acrV; rw [if_pos h1]⟩
theorem own_le {base : Nat} {W : World} {v : Value} {xs : List Int} (h : OwnI base W v xs) : xs.length ≤ 9223372036854775807 := by
  obtain ⟨a, c, _, h1, h2⟩ := owns_shape h
  exact Nat.le_trans h1 h2

set_option maxRecDepth 100000 in
set_option maxHeartbeats 8000000 in
theorem dual_walk (nd : Int) (a : Option Addr) (k c : Nat) (l : List Edg) (sa sb st : Int) (w : World) (hnd : 0 ≤ nd ∧ nd ≤ 255) (hl : l.length = k ∧ k ≤ c ∧ c ≤ maxLen ∧ (a = none → k = 0 ∧ c = 0) ∧ RowsAt w.heap.size w a 3 (Edgs l) ∧ ∀ z ∈ l, z.ok) (hsa : 0 ≤ sa ∧ sa ≤ 255) (hsb : 0 ≤ sb ∧ sb ≤ 255) (_hst : 0 ≤ st ∧ st ≤ 65535) :
    Calls Try.prog 8 #[.int .u8 nd, .slice a k c, .int .u8 sa, .int .u8 sb, .int .u16 st] w fun e W' => e = .returned (.bool true) ∧ Below w.heap.size w W' := by
  obtain ⟨hl1, hl2, hl3, hl4, hl5, hl6⟩ := hl
  have hk63 : k ≤ 9223372036854775807 := by unfold maxLen at hl3; omega
  have h0 := sm_ask hnd hsa hsb hl6
  obtain ⟨_, hn2, hn10⟩ := smN_in hnd
  have HM := Lib.hid (And.intro hnd (And.intro hsa (And.intro hsb (And.intro hl1 (And.intro hl5 hl6)))))
  obtain ⟨n, hN⟩ : ∃ n, smN nd = n := ⟨_, rfl⟩
  obtain ⟨L, hL⟩ : ∃ L, smL (smN nd) (l.take 40) = L := ⟨_, rfl⟩
  obtain ⟨s, hS⟩ : ∃ s, sa % (smN nd : Int) = s := ⟨_, rfl⟩
  obtain ⟨t, hT⟩ : ∃ t, smT (smN nd) sa sb = t := ⟨_, rfl⟩
  have HS := Lib.hid (small_ok nd a k c l sa sb)
  rw [hL, hS, hT, hN] at HS
  rw [hL, hS, hT, hN] at h0
  rw [hN] at hn2 hn10
  obtain ⟨hv, hs, ht, hstn⟩ := askF_zero h0
  obtain ⟨s, rfl⟩ : ∃ z : Nat, s = z := ⟨s.toNat, by omega⟩
  obtain ⟨t, rfl⟩ : ∃ z : Nat, t = z := ⟨t.toNat, by omega⟩
  have hsn : s < n := by omega
  have htn : t < n := by omega
  have hin : inN n L := fun a ha => by have := okA_iff.1 ((netOk_iff.1 hv).2.2.2 a ha); omega
  have H0 := Lib.hid (And.intro h0 (And.intro hin (And.intro hv (show s ≠ t by omega))))
  clear hL hS hT hN h0 hv hs ht hstn hin hl1 hl2 hl3 hl4 hl5 hl6 hnd hsa hsb
  go_enter Try.func8, Try.ntmps8
  go_wp2_with fail
  refine (HS.out w HM.out.1 HM.out.2.1 HM.out.2.2.1 HM.out.2.2.2.1 hk63 HM.out.2.2.2.2.1 HM.out.2.2.2.2.2).mono ?_
  rintro e W1 ⟨a1, m1, c1, rfl, ho, hb⟩
  have H1 := Lib.hid (And.intro ho hb)
  have hm63 : m1 ≤ 9223372036854775807 := by have := ho.len.2; unfold maxLen at this; omega
  clear ho hb
  go_upto_region 2 with fail
  have H2 := Lib.hid (show BX w W1.heap.size n a1 m1 c1 L (W1.alloc (.cells #[.int .i64 n, .slice a1 m1 c1] 24)) from ⟨blk_new W1 _, H1.out.1.rows.later (below_alloc (below_self W1) _), H1.out.1.len.1, below_alloc H1.out.2 _⟩)
  generalize W1.alloc _ = X1 at H2 ⊢
  generalize W1.heap.size = b at H2 ⊢
  clear H1 HS
  have k0 := H2.out.c0
  have k1 := H2.out.c1
  have kl := H2.out.lt
  go_wp2_with fail
  refine (max_ok n a1 m1 c1 L s t X1 H2.out.len hm63 H2.out.rows).mono ?_
  rintro e X2 ⟨r, v, rfl, f, ho, hm, hb⟩
  rw [H0.out.1]
  obtain ⟨hB, hr⟩ := hm.1 H0.out.1
  rw [Int.toNat_natCast] at hB
  obtain ⟨_, _, rfl, _⟩ := ho.rows
  have H3 := Lib.hid (And.intro (H2.out.later hb) (And.intro hB hr))
  clear ho hm hb hB hr k0 k1 kl H2
  have k0 := H3.out.1.c0
  have k1 := H3.out.1.c1
  have kl := H3.out.1.lt
  go_wp2_with fail
  refine (cut_ok n a1 m1 c1 L s t X2 H3.out.1.len hm63 H3.out.1.rows).mono ?_
  rintro e X3 ⟨v, rfl, cu, ho, hc, hb⟩
  rw [H0.out.1]
  have hcu := hc.1 H0.out.1
  rw [Int.toNat_natCast] at hcu
  obtain ⟨f2, hf2, hcap, hcs, hct, hcr, S, hcS⟩ := hcu.cap H0.out.2.1 (by omega) (by omega) (by omega) (by omega)
  have hval : capL L cu = r := by rw [hcap, H3.out.2.2]; exact hf2.same H3.out.2.1 H0.out.2.1 (by omega) (by omega)
  have hinc : incB n (-1) cu = true := by rw [hcS]; exact sel_inc S n (Int.le_refl _)
  obtain ⟨e1, e2⟩ := acr_in H0.out.2.2.1 hinc
  rw [hval] at e2
  obtain ⟨av, cv, rfl, hr⟩ := ho.rows
  have H4 := Lib.hid (And.intro (H3.out.1.later hb) (And.intro hr (And.intro (own_le ho) (And.intro hcs (And.intro hct (And.intro (fun x hx => (H3.out.2.1.rch_iff hf2 H0.out.2.1 (by omega) (by omega)).2 (hcr x hx)) (And.intro hval (And.intro e1 (And.intro e2 (And.intro H3.out.2 hcu))))))))))
  clear ho hc hb hcu hf2 hcap hcs hct hcr hcS hval hinc e1 e2 hr k0 k1 kl H3
  have k0 := H4.out.1.c0
  have k1 := H4.out.1.c1
  have kl := H4.out.1.lt
  go_wp2_with fail
  refine (across_ok n a1 m1 c1 L av cu.length cv cu X3 H4.out.1.len hm63 H4.out.1.rows rfl H4.out.2.2.1 H4.out.2.1).mono ?_
  rintro e X4 ⟨rfl, hb⟩
  rw [H4.out.2.2.2.2.2.2.2.1, H4.out.2.2.2.2.2.2.2.2.1]
  have hrr : (r != r) = false := by simp
  have H5 := Lib.hid (And.intro (H4.out.1.later hb) (H4.out.2.1.later hb))
  clear hb k0 k1 kl
  go_wp2_with fail
  refine (containsV_ok av cu.length cv cu s X4 rfl H4.out.2.2.1 H5.out.2).mono ?_
  rintro e X5 ⟨rfl, hb⟩
  rw [H4.out.2.2.2.1]
  have H6 := Lib.hid (And.intro (H5.out.1.later hb) (H5.out.2.later hb))
  clear hb H5
  go_wp2_with fail
  refine (containsV_ok av cu.length cv cu t X5 rfl H4.out.2.2.1 H6.out.2).mono ?_
  rintro e X6 ⟨rfl, hb⟩
  rw [H4.out.2.2.2.2.1]
  have H7 := Lib.hid (And.intro (H6.out.1.later hb) (H6.out.2.later hb))
  clear hb H6
  go_wp2_with fail
  go_loopw [21, 22] (fun v i wr => ∃ (j : Nat) (X : World) (av2 : Option Addr) (cv2 q : Nat) (P : Nat → Bool), j ≤ n ∧ q ≤ j ∧ v = .slice av2 q cv2 ∧ i = .int .i64 j ∧ X = wr ∧ Hid (Below X6.heap.size X6 X ∧ (sel P j).length = q ∧ X.ownsRow X6.heap.size 3 1 (.slice av2 q cv2) q (intsV (sel P j)) ∧ ∀ i, i < j → (i = s → P i = true) ∧ (i = t → P i = false))) (fun _ i _ => n - (intOf i).toNat)
  case atStart => exact ⟨0, _, _, _, 0, fun _ => true, Nat.zero_le _, Nat.zero_le _, rfl, rfl, rfl, Lib.hid ⟨below_self X6, rfl, World.ownsRow_nil _ _ _ _, fun i hi => by omega⟩⟩
  case round =>
    obtain ⟨j, X, av2, cv2, q, P, hj, hq, rfl, rfl, rfl, HX⟩ := hrel
    have d0 : X.cell? ⟨b, 0, none⟩ = some (.int .i64 n) := (H7.out.1.later HX.out.1).c0
    have ld := (H7.out.1.later HX.out.1).lt
    by_cases hlt : j < n
    · have hltI : (j : Int) < (n : Int) := by omega
      by_cases hjs : j = s
      · have q1 : ((j : Int) == (s : Int)) = true := by rw [hjs]; simp
        have HJ := Lib.hid hjs
        clear hjs
        have HS := Lib.hid (And.intro (sel_upd P j true) (upd_ok (s := s) (t := t) HX.out.2.2.2 (x := true) (by simp only [eq_self, implies_true, true_and]; have := HJ.out; have := H0.out.2.2.2; omega)))
        rw [if_pos rfl] at HS
        obtain ⟨i0, hi, hz0, hz1, hz2⟩ := info_parts info3
        go_wp2_with (at_builtin; go_must (refine wpList_append_any rfl _ _ 26 rfl X6.heap.size 3 i0 _ 1 8 Try.underlying26 hi hz0 hz1 hz2 rfl (by decide) _ _ _ rfl (HX.out.2.2.1.alloc _) _ _ _ [.int .i64 j] rfl ?ac0 ?ac1 ?ac2 ?ac3 ?ac4 ?ac5 ?ac6 ?_))
        case ac0 => intro h; cases h
        case ac1 => rfl
        case ac2 => exact fun _ => ⟨_, rfl, src_new _ _ _⟩
        case ac3 => simp [Value.oneCell']
        case ac4 => unfold maxLen; omega
        case ac5 => omega
        case ac6 => have := HX.out.1.size; simp; omega
        intro a7 cap7 W7 hown7 hgrow7
        have hoA := HX.out.2.2.1.alloc (.cells #[.int .i64 j] 3)
        have h3w : Below X6.heap.size X6 W7 := grown_below (below_alloc HX.out.1 _) hoA hgrow7.out (Nat.le_refl _) (by have := HX.out.1.size; simp; omega)
        have H3 := Lib.hid (And.intro h3w (And.intro (show (sel (upd P j true) (j + 1)).length = q + 1 by rw [HS.out.1, List.length_append, HX.out.2.1]; rfl) (And.intro (show W7.ownsRow X6.heap.size 3 1 (.slice a7 (q + 1) cap7) (q + 1) (intsV (sel (upd P j true) (j + 1))) by rw [HS.out.1, intsV_app]; exact hown7.out.1) HS.out.2)))
        clear h3w hgrow7 hown7 hoA HX hi hz0 hz1 hz2 d0 ld HS
        go_wp2_with fail
        go_roundw
        case rel => exact ⟨j + 1, _, _, _, q + 1, _, by omega, by omega, rfl, by go_num, rfl, H3⟩
        case measure => simp [intOf]; omega
      · have q1 : ((j : Int) == (s : Int)) = false := beq_eq_false_iff_ne.2 (by omega)
        by_cases hjt : j = t
        · have q2 : ((j : Int) != (t : Int)) = false := by rw [hjt]; simp
          have HJ := Lib.hid hjs
          clear hjs hjt
          have HS := Lib.hid (And.intro (sel_upd P j false) (upd_ok (s := s) (t := t) HX.out.2.2.2 (x := false) (by have := HJ.out; exact ⟨fun e => absurd e this, fun _ => rfl⟩)))
          rw [if_neg (by decide), List.append_nil] at HS
          have H3 := Lib.hid (show Below X6.heap.size X6 X ∧ (sel (upd P j false) (j + 1)).length = q ∧ X.ownsRow X6.heap.size 3 1 (.slice av2 q cv2) q (intsV (sel (upd P j false) (j + 1))) ∧ _ from ⟨HX.out.1, by rw [HS.out.1]; exact HX.out.2.1, by rw [HS.out.1]; exact HX.out.2.2.1, HS.out.2⟩)
          clear HX HS
          go_wp2_with fail
          go_roundw
          case rel => exact ⟨j + 1, _, _, _, q, _, by omega, by omega, rfl, by go_num, rfl, H3⟩
          case measure => simp [intOf]; omega
        · have q2 : ((j : Int) != (t : Int)) = true := bne_iff_ne.2 (by omega)
          have HJ := Lib.hid (And.intro hjs hjt)
          clear hjs hjt
          cases hbit : (bits BinOp.and IntKind.u16 (st / 2 ^ j) 1 == 1)
          · skip
            have HS := Lib.hid (And.intro (sel_upd P j false) (upd_ok (s := s) (t := t) HX.out.2.2.2 (x := false) (by have := HJ.out; exact ⟨fun e => absurd e this.1, fun _ => rfl⟩)))
            rw [if_neg (by decide), List.append_nil] at HS
            have H3 := Lib.hid (show Below X6.heap.size X6 X ∧ (sel (upd P j false) (j + 1)).length = q ∧ X.ownsRow X6.heap.size 3 1 (.slice av2 q cv2) q (intsV (sel (upd P j false) (j + 1))) ∧ _ from ⟨HX.out.1, by rw [HS.out.1]; exact HX.out.2.1, by rw [HS.out.1]; exact HX.out.2.2.1, HS.out.2⟩)
            clear HX HS
            go_wp2_with fail
            go_roundw
            case rel => exact ⟨j + 1, _, _, _, q, _, by omega, by omega, rfl, by go_num, rfl, H3⟩
            case measure => simp [intOf]; omega
          · skip
            have HS := Lib.hid (And.intro (sel_upd P j true) (upd_ok (s := s) (t := t) HX.out.2.2.2 (x := true) (by simp only [eq_self, implies_true, true_and]; exact fun e => absurd e HJ.out.2)))
            rw [if_pos rfl] at HS
            obtain ⟨i0, hi, hz0, hz1, hz2⟩ := info_parts info3
            go_wp2_with (at_builtin; go_must (refine wpList_append_any rfl _ _ 26 rfl X6.heap.size 3 i0 _ 1 8 Try.underlying26 hi hz0 hz1 hz2 rfl (by decide) _ _ _ rfl (HX.out.2.2.1.alloc _) _ _ _ [.int .i64 j] rfl ?bc0 ?bc1 ?bc2 ?bc3 ?bc4 ?bc5 ?bc6 ?_))
            case bc0 => intro h; cases h
            case bc1 => rfl
            case bc2 => exact fun _ => ⟨_, rfl, src_new _ _ _⟩
            case bc3 => simp [Value.oneCell']
            case bc4 => unfold maxLen; omega
            case bc5 => omega
            case bc6 => have := HX.out.1.size; simp; omega
            intro a7 cap7 W7 hown7 hgrow7
            have hoA := HX.out.2.2.1.alloc (.cells #[.int .i64 j] 3)
            have h3w : Below X6.heap.size X6 W7 := grown_below (below_alloc HX.out.1 _) hoA hgrow7.out (Nat.le_refl _) (by have := HX.out.1.size; simp; omega)
            have H3 := Lib.hid (And.intro h3w (And.intro (show (sel (upd P j true) (j + 1)).length = q + 1 by rw [HS.out.1, List.length_append, HX.out.2.1]; rfl) (And.intro (show W7.ownsRow X6.heap.size 3 1 (.slice a7 (q + 1) cap7) (q + 1) (intsV (sel (upd P j true) (j + 1))) by rw [HS.out.1, intsV_app]; exact hown7.out.1) HS.out.2)))
            clear h3w hgrow7 hown7 hoA HX hi hz0 hz1 hz2 d0 ld HS
            go_wp2_with fail
            go_roundw
            case rel => exact ⟨j + 1, _, _, _, q + 1, _, by omega, by omega, rfl, by go_num, rfl, H3⟩
            case measure => simp [intOf]; omega
    · have hltI : ¬ (j : Int) < (n : Int) := by omega
      obtain rfl : j = n := by omega
      have hos : (sel P j).contains (s : Int) = true := by rw [sel_has hsn]; exact (HX.out.2.2.2 s hsn).1 rfl
      have hot : (sel P j).contains (t : Int) = false := by rw [sel_has htn]; exact (HX.out.2.2.2 t htn).2 rfl
      have hdo := dual_other H4.out.2.2.2.2.2.2.2.2.2.1.1 H0.out.2.1 (by omega) (by omega) (c := cu) H4.out.2.2.2.2.2.1 hos hot
      rw [← H4.out.2.2.2.2.2.2.2.2.2.1.2] at hdo
      obtain ⟨R2, hR2⟩ : ∃ R2, capL L (sel P j) = R2 := ⟨_, rfl⟩
      rw [hR2] at hdo
      obtain ⟨e1, e2⟩ := acr_in H0.out.2.2.1 (sel_inc (N := (j : Int)) P j (Int.le_refl _))
      rw [hR2] at e2
      have hle := hdo.1
      have HO := Lib.hid (And.intro hdo.2 (And.intro e1 e2))
      have hown : OwnI X6.heap.size X (.slice av2 q cv2) (sel P j) := by unfold OwnI; rw [HX.out.2.1]; exact HX.out.2.2.1
      obtain ⟨_, _, he, hro⟩ := hown.rows
      injection he with he1 he2 he3
      subst he1
      have hq63 : q ≤ 9223372036854775807 := by rw [he2]; exact own_le hown
      have HX2 := Lib.hid (And.intro (H7.out.1.later HX.out.1) (And.intro hro (And.intro HX.out.2.1 (H7.out.2.later HX.out.1))))
      have k0 := HX2.out.1.c0
      have k1 := HX2.out.1.c1
      have kl := HX2.out.1.lt
      clear hR2 hdo e1 e2 hos hot hown he2 he3 hro HX d0 ld
      go_wp2_with fail
      refine (across_ok j a1 m1 c1 L av2 q cv2 (sel P j) X HX2.out.1.len hm63 HX2.out.1.rows HX2.out.2.2.1 hq63 HX2.out.2.1).mono ?_
      rintro e Y ⟨rfl, hb⟩
      rw [HO.out.2.1, HO.out.2.2]
      have HY := Lib.hid (And.intro (below_trans HX2.out.1.bel hb) (And.intro (HX2.out.2.1.later hb) (And.intro HX2.out.2.2.1 (HX2.out.2.2.2.later hb))))
      clear hb k0 k1 kl HX2
      have hlt2 : ¬ R2 < r := by omega
      by_cases heq : R2 = r
      · have q3 : (R2 == r) = true := beq_iff_eq.2 heq
        have HA := Lib.hid (HO.out.1 heq)
        have hcl := H4.out.2.2.1
        clear heq
        go_wp2_with fail
        go_loopw [124] (fun i wr => ∃ (m : Nat) (V : World), m ≤ cu.length ∧ i = .int .i64 m ∧ V = wr ∧ Hid (Below Y.heap.size Y V)) (fun i _ => cu.length - (intOf i).toNat)
        case atStart => exact ⟨0, _, Nat.zero_le _, rfl, rfl, Lib.hid (below_self Y)⟩
        case round =>
          obtain ⟨m, V, hm, rfl, rfl, HV⟩ := hrel
          by_cases hlm : m < cu.length
          · have hlmI : (m : Int) < (cu.length : Int) := by omega
            obtain ⟨b2, o2, rfl, hb2, c0⟩ := ints_at (HY.out.2.2.2.later HV.out) m hlm
            have hmem := getD_mem hlm
            obtain ⟨z, hz⟩ : ∃ z, cu.getD m default = z := ⟨_, rfl⟩
            rw [hz] at c0 hmem
            have HZ := Lib.hid hmem
            clear hz hmem
            go_wp2_with fail
            refine (containsV_ok av2 q cv2 (sel P j) z V HY.out.2.2.1 hq63 (HY.out.2.1.later HV.out)).mono ?_
            rintro e V2 ⟨rfl, hb⟩
            rw [HA.out z HZ.out]
            have HV2 := Lib.hid (below_trans HV.out hb)
            clear hb c0 hb2 HV HZ
            go_wp2_with fail
            go_roundw
            case rel => exact ⟨m + 1, _, by omega, by go_num, rfl, HV2⟩
            case measure => simp [intOf]; omega
          · have hlmI : ¬ (m : Int) < (cu.length : Int) := by omega
            go_wp2_with fail
            refine (works_ok V).mono ?_
            rintro e V2 ⟨rfl, hb⟩
            have HV2 := Lib.hid (below_trans (below_trans HY.out.1 HV.out) hb)
            clear hb
            go_wp2_with fail
            go_ret
            exact ⟨rfl, HV2.out⟩
      · have q3 : (R2 == r) = false := beq_eq_false_iff_ne.2 heq
        clear heq
        go_wp2_with fail
        refine (works_ok Y).mono ?_
        rintro e V2 ⟨rfl, hb⟩
        have HV2 := Lib.hid (below_trans HY.out.1 hb)
        clear hb
        go_wp2_with fail
        go_ret
        exact ⟨rfl, HV2.out⟩
end Go.Proofs.Ytgojjlnpbakfjaa
