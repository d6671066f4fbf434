/- Chapter 05: the examples that each law checks: works returns true. -/
import Derived.Test.YtgojjlnpbakfjaaArs
import Derived.Test.YtgojjlnpbakfjaaCrit
import Derived.Test.YtgojjlnpbakfjaaChk
import Derived.Test.YtgojjlnpbakfjaaAcr
namespace Go.Proofs.Ytgojjlnpbakfjaa
open Go Go.RowKit
set_option linter.unusedSimpArgs false

/-- A flow and a set of its value, by a test. -/
def mostB (n : Nat) (l : List Ar) (s t : Int) (f set : List Int) : Bool := ((okFb l f && conB n l s t f) && (set.contains s && !set.contains t)) && decide (capL l set = net l f s)
theorem most_best {n : Nat} {l : List Ar} {s t : Int} {f set : List Int} (h : mostB n l s t f set = true) : Best n l s t f ∧ (set.contains s = true ∧ set.contains t = false ∧ capS (fun x => set.contains x) l = net l f s) := by
  unfold mostB at h
  simp only [Bool.and_eq_true, decide_eq_true_eq, Bool.not_eq_true'] at h
  obtain ⟨⟨⟨h1, h2⟩, h3, h4⟩, h5⟩ := h
  have hf : Flw n l s t f := flw_iff.1 (by rw [h1, h2]; rfl)
  exact ⟨⟨hf, _, h3, h4, h5⟩, h3, h4, h5⟩
theorem most_of {n : Nat} {l : List Ar} {s t v : Int} (f set : List Int) (h : mostB n l s t f set = true) (hv : net l f s = v) : Most n l s t v := ⟨f, (most_best h).1, hv⟩
/-- The least cut, if each of its nodes can be reached. -/
theorem cut_of {n : Nat} {l : List Ar} {s t : Int} {c : List Int} (f : List Int) (P : Nat → Bool) (hn : inN n l) (h0 : 0 ≤ s) (h1 : s < n) (hb : Best n l s t f) (hc : c = sel P n) (S : Int → Bool) (hs : S s = true) (ht : S t = false) (hcap : capS S l = net l f s) (hSP : ∀ x : Nat, x < n → S x = true → P x = true) (hP : ∀ x : Nat, x < n → P x = true → Rch l f s x) : IsCut n l s t c :=
  ⟨f, hb, P, fun x hx => ⟨hP x hx, fun hr => hSP x hx (hb.least hn h0 h1 hs ht hcap hr)⟩, hc⟩
theorem samp_ok : netOk 4 sampA = true := by decide
theorem samp_ask : askF 4 sampA 0 3 = 0 := by decide
theorem samp_in : inN 4 sampA := by
  intro a ha
  have := okA_iff.1 ((netOk_iff.1 samp_ok).2.2.2 a ha)
  omega
theorem samp_most : Most 4 sampA 0 3 5 := most_of [3, 2, 1, 2, 3] [0] (by decide) (by decide)
theorem samp_cut : IsCut 4 sampA 0 3 [0] := by
  obtain ⟨hb, h1, h2, h3⟩ := most_best (n := 4) (l := sampA) (s := 0) (t := 3) (f := [3, 2, 1, 2, 3]) (set := [0]) (by decide)
  refine cut_of [3, 2, 1, 2, 3] (fun x => x == 0) samp_in (by decide) (by decide) hb (by decide) _ h1 h2 h3 (fun x hx h => ?_) (fun x hx h => ?_)
  · simp at h ⊢
    omega
  · simp at h
    subst h
    exact Rch.self _ _ _
theorem samp_need (i : Nat) (hi : i < 5) : Needed 4 sampA 0 3 i := by
  refine ⟨5, if i = 0 ∨ i = 4 then 2 else if i = 1 then 3 else 4, samp_most, ?_, by split <;> (try split) <;> omega⟩
  match i, hi with
  | 0, _ => exact most_of [2, 0, 0, 2] [0] (by decide) (by decide)
  | 1, _ => exact most_of [3, 1, 2, 1] [0] (by decide) (by decide)
  | 2, _ => exact most_of [2, 2, 2, 2] [0, 1] (by decide) (by decide)
  | 3, _ => exact most_of [2, 2, 2, 4] [0, 1, 2] (by decide) (by decide)
  | 4, _ => exact most_of [2, 0, 0, 2] [0, 1, 2] (by decide) (by decide)
theorem samp_crit : IsCrit 4 sampA 0 3 [0, 1, 2, 3, 4] := ⟨fun _ => true, fun i hi => ⟨fun _ => samp_need i hi, fun _ => rfl⟩, by decide⟩
theorem samp_chk : chkV 4 sampA 0 3 [1, 1, 0, 1, 1] = 2 ∧ chkE 4 sampA 0 3 [1, 1, 0, 1, 1] = 0 := by decide
theorem samp_acr : acrV 4 sampA [0, 1] = 9 ∧ acrE 4 sampA [0, 1] = 0 := by decide
/-- What Max, Cut and Critical return of the example. -/
theorem samp_max {r : Int} {f : List Int} (h : MaxIs 4 sampA 0 3 r f) : r = 5 ∧ f.length = 5 := by
  obtain ⟨hb, rfl⟩ := h.1 samp_ask
  exact ⟨hb.val.same samp_most samp_in (by decide) (by decide), okF_len hb.flw.ok⟩
theorem samp_cut_is {c : List Int} (h : CutIs 4 sampA 0 3 c) : c = [0] := (h.1 samp_ask).same samp_cut samp_in (by decide) (by decide)
theorem samp_crit_is {c : List Int} (h : CritIs 4 sampA 0 3 c) : c = [0, 1, 2, 3, 4] := (h.1 samp_ask).same samp_crit

/-- The example's net in a box. -/
structure SX (w : World) (b g : Nat) (X : World) : Prop where
  box : X.heap[b]? = some (.cells #[.int .i64 4, .slice (some ⟨g, 0, none⟩) 5 5] 24 (0, 0))
  rows : RowsAt X.heap.size X (some ⟨g, 0, none⟩) 3 (Ars sampA)
  bel : Below w.heap.size w X
theorem SX.later {w : World} {b g : Nat} {X X' : World} (h : SX w b g X) (hb : Below X.heap.size X X') : SX w b g X' := ⟨blk_below h.box hb, h.rows.later hb, below_trans h.bel hb⟩
theorem SX.c0 {w : World} {b g : Nat} {X : World} (h : SX w b g X) : X.cell? ⟨b, 0, none⟩ = some (.int .i64 4) := (blk_cell h.box 0).trans rfl
theorem SX.c1 {w : World} {b g : Nat} {X : World} (h : SX w b g X) : X.cell? ⟨b, 1, none⟩ = some (.slice (some ⟨g, 0, none⟩) 5 5) := (blk_cell h.box 1).trans rfl
theorem SX.lt {w : World} {b g : Nat} {X : World} (h : SX w b g X) : b < X.heap.size := blk_lt h.box
theorem ints_blk2 {W : World} {g : Nat} {xs : List Int} {t : TypeId} {fr : Nat × Nat} (h : W.heap[g]? = some (.cells (intsV xs).toArray t fr)) : RowsAt W.heap.size W (some ⟨g, 0, none⟩) 1 (Ints xs) := by
  intro i r hr
  refine ⟨g, 0, rfl, blk_lt h, fun j v hv => ?_⟩
  rw [List.getElem?_map] at hr
  cases hx : xs[i]? with
  | none => rw [hx] at hr; cases hr
  | some x =>
    rw [hx] at hr
    simp at hr
    subst hr
    cases j with
    | zero =>
      simp at hv
      subst hv
      rw [blk_cell h]
      simp [intsV, hx]
    | succ j => simp at hv

set_option maxRecDepth 100000 in
set_option maxHeartbeats 8000000 in
theorem works_ok (w : World) : Calls Try.prog 14 #[] w fun e W' => e = .returned (.bool true) ∧ Below w.heap.size w W' := by
  have KA := Lib.hid samp_ask
  have KV := Lib.hid samp_ok
  have KC := Lib.hid samp_chk
  have KR := Lib.hid samp_acr
  go_enter Try.func14, Try.ntmps14
  go_wp2_with fail
  refine (sample_ok _).mono ?_
  rintro e W1 ⟨g, rfl, hp, hb1⟩
  have B1 := Lib.hid (And.intro hp hb1)
  clear hb1 hp
  go_wp2_with fail
  have L1 := Lib.hid (show SX w W1.heap.size g (W1.alloc (.cells #[.int .i64 4, .slice (some ⟨g, 0, none⟩) 5 5] 24)) from ⟨blk_new W1 _, B1.out.1.later (below_alloc (below_self W1) _), below_alloc B1.out.2 _⟩)
  generalize W1.alloc _ = X1 at L1 ⊢
  generalize W1.heap.size = b at L1 ⊢
  clear B1
  refine (max_ok 4 _ 5 5 sampA 0 3 _ rfl (by omega) L1.out.rows).mono ?_
  rintro e W2 ⟨r, v, rfl, f, ho, hm, hb2⟩
  obtain ⟨rfl, hfl⟩ := samp_max hm
  rw [KA.out]
  obtain ⟨af, cf, rfl, _⟩ := ho.rows
  rw [hfl]
  have L2 := Lib.hid (L1.out.later hb2)
  clear ho hm hb2 hfl L1
  have k0 := L2.out.c0
  have k1 := L2.out.c1
  have kl := L2.out.lt
  go_wp2_with fail
  refine (cut_ok 4 _ 5 5 sampA 0 3 _ rfl (by omega) L2.out.rows).mono ?_
  rintro e W3 ⟨v, rfl, c, ho, hc, hb3⟩
  obtain rfl := samp_cut_is hc
  rw [KA.out]
  obtain ⟨ac, cc, rfl, hrc⟩ := ho.rows
  have L3 := Lib.hid (L2.out.later hb3)
  have HC := Lib.hid hrc
  clear k0 k1 kl hb3 L2 ho hrc hc
  have k0 := L3.out.c0
  have k1 := L3.out.c1
  have kl := L3.out.lt
  go_wp2_with fail
  refine (valid_ok 4 _ 5 5 sampA _ rfl (by omega) L3.out.rows).mono ?_
  rintro e W4 ⟨rfl, hb4⟩
  rw [KV.out]
  have L4 := Lib.hid (L3.out.later hb4)
  have HC4 := Lib.hid (HC.out.later hb4)
  clear k0 k1 kl hb4 L3 HC
  go_wp2_with fail
  have b5 := below_alloc (below_self W4) (.cells #[.int .i64 0] 3)
  refine (equalI_ok ac _ 1 cc 1 1 [0] [0] _ rfl rfl (by omega) (HC4.out.later b5) (ints_blk2 (xs := [0]) (blk_new W4 _))).mono ?_
  rintro e W5 ⟨rfl, hb5⟩
  have hd : decide ([(0 : Int)] = [0]) = true := by decide
  rw [hd]
  have L5 := Lib.hid (L4.out.later (below_trans b5 hb5))
  clear hb5 b5 L4 HC4 hd
  have k0 := L5.out.c0
  have k1 := L5.out.c1
  have kl := L5.out.lt
  go_wp2_with fail
  refine (crit_ok 4 _ 5 5 sampA 0 3 _ rfl (by omega) L5.out.rows).mono ?_
  rintro e W6 ⟨v, rfl, c, ho, hc, hb6⟩
  obtain rfl := samp_crit_is hc
  rw [KA.out]
  obtain ⟨ak, ck, rfl, hrk⟩ := ho.rows
  have L6 := Lib.hid (L5.out.later hb6)
  have HK := Lib.hid hrk
  clear k0 k1 kl hb6 L5 ho hrk hc
  have k0 := L6.out.c0
  have k1 := L6.out.c1
  have kl := L6.out.lt
  go_wp2_with fail
  have b7 := below_alloc (below_self W6) (.cells #[.int .i64 0, .int .i64 1] 3)
  refine (across_ok 4 _ 5 5 sampA _ 2 2 [0, 1] _ rfl (by omega) (L6.out.rows.later b7) rfl (by omega) (ints_blk2 (xs := [0, 1]) (blk_new W6 _))).mono ?_
  rintro e W7 ⟨rfl, hb7⟩
  rw [KR.out.1, KR.out.2]
  have L7 := Lib.hid (L6.out.later (below_trans b7 hb7))
  have HK7 := Lib.hid (HK.out.later (below_trans b7 hb7))
  clear k0 k1 kl hb7 b7 L6 HK
  have k0 := L7.out.c0
  have k1 := L7.out.c1
  have kl := L7.out.lt
  go_wp2_with fail
  have b8 := below_alloc (below_self W7) (.cells #[.int .i64 1, .int .i64 1, .int .i64 0, .int .i64 1, .int .i64 1] 3)
  refine (check_ok 4 _ 5 5 sampA 0 3 _ 5 5 [1, 1, 0, 1, 1] _ rfl (by omega) (L7.out.rows.later b8) rfl (by omega) (ints_blk2 (xs := [1, 1, 0, 1, 1]) (blk_new W7 _))).mono ?_
  rintro e W8 ⟨rfl, hb8⟩
  rw [KC.out.1, KC.out.2]
  have L8 := Lib.hid (below_trans L7.out.bel (below_trans b8 hb8))
  have HK8 := Lib.hid (HK7.out.later (below_trans b8 hb8))
  clear k0 k1 kl hb8 b8 L7 HK7
  go_wp2_with fail
  have b9 := below_alloc (below_self W8) (.cells #[.int .i64 0, .int .i64 1, .int .i64 2, .int .i64 3, .int .i64 4] 3)
  refine (equalI_ok ak _ 5 ck 5 5 [0, 1, 2, 3, 4] [0, 1, 2, 3, 4] _ rfl rfl (by omega) (HK8.out.later b9) (ints_blk2 (xs := [0, 1, 2, 3, 4]) (blk_new W8 _))).mono ?_
  rintro e W9 ⟨rfl, hb9⟩
  have hd : decide ([(0 : Int), 1, 2, 3, 4] = [0, 1, 2, 3, 4]) = true := by decide
  rw [hd]
  have L9 := Lib.hid (below_trans L8.out (below_trans b9 hb9))
  clear hb9 b9 L8 HK8 hd
  go_wp2_with fail
  go_ret
  exact ⟨rfl, L9.out⟩
end Go.Proofs.Ytgojjlnpbakfjaa
