/- Chapter 05: the law that no flow has a greater value: the walk. -/
import Derived.Test.YtgojjlnpbakfjaaLawMaxes
import Derived.Test.YtgojjlnpbakfjaaSml
import Derived.Test.YtgojjlnpbakfjaaChk
namespace Go.Proofs.Ytgojjlnpbakfjaa
open Go Go.RowKit
set_option linter.unusedSimpArgs false

theorem chk_cases {n : Nat} {l : List Ar} {s t : Nat} {f g : List Int} (h0 : askF n l s t = 0) (hb : Best n l s t f) (hin : inN n l) (s1 : s < n) : chkE n l s t g = 13 ∨ (chkE n l s t g = 0 ∧ chkV n l s t g ≤ net l f s) := by
  cases h : okFb l g && conB n l s t g
  · left
    unfold chkE
    rw [if_pos h0, Int.toNat_natCast, h]
    rfl
  · right
    have h1 : chkE n l s t g = 0 := by
      unfold chkE
      rw [if_pos h0, Int.toNat_natCast, h]
      rfl
    refine ⟨h1, ?_⟩
    unfold chkV
    rw [if_pos h1]
    exact hb.most hin (by omega) (by omega) (flw_iff.1 h)
set_option maxRecDepth 100000 in
set_option maxHeartbeats 16000000 in
theorem bound_walk (nd : Int) (a : Option Addr) (k c : Nat) (l : List Edg) (sa sb : Int) (ab : Option Addr) (kb cb : Nat) (zs : List Int) (w : World) (hnd : 0 ≤ nd ∧ nd ≤ 255) (hl : l.length = k ∧ k ≤ c ∧ c ≤ maxLen ∧ (a = none → k = 0 ∧ c = 0) ∧ RowsAt w.heap.size w a 3 (Edgs l) ∧ ∀ z ∈ l, z.ok) (hsa : 0 ≤ sa ∧ sa ≤ 255) (hsb : 0 ≤ sb ∧ sb ≤ 255)
    (hzs : zs.length = kb ∧ kb ≤ cb ∧ cb ≤ maxLen ∧ (ab = none → kb = 0 ∧ cb = 0) ∧ RowsAt w.heap.size w ab 1 (zs.map fun z => [.int .u8 z]) ∧ ∀ z ∈ zs, 0 ≤ z ∧ z ≤ 255) :
    Calls Try.prog 7 #[.int .u8 nd, .slice a k c, .int .u8 sa, .int .u8 sb, .slice ab kb cb] w fun e W' => e = .returned (.bool true) ∧ Below w.heap.size w W' := by
  obtain ⟨hl1, hl2, hl3, hl4, hl5, hl6⟩ := hl
  have hk63 : k ≤ 9223372036854775807 := by unfold maxLen at hl3; omega
  have h0 := sm_ask hnd hsa hsb hl6
  obtain ⟨_, hn2, hn10⟩ := smN_in hnd
  have HM := Lib.hid (And.intro hnd (And.intro hsa (And.intro hsb (And.intro hl1 (And.intro hl5 hl6)))))
  have HB := Lib.hid (And.intro hzs.1 hzs.2.2.2.2)
  have hkb63 : kb ≤ 9223372036854775807 := by have := hzs.2.1; have := hzs.2.2.1; unfold maxLen at this; omega
  have hLlen := smL_len (smN nd) (l.take 40)
  rw [List.length_take] at hLlen
  obtain ⟨n, hN⟩ : ∃ n, smN nd = n := ⟨_, rfl⟩
  obtain ⟨L, hL⟩ : ∃ L, smL (smN nd) (l.take 40) = L := ⟨_, rfl⟩
  obtain ⟨s, hS⟩ : ∃ s, sa % (smN nd : Int) = s := ⟨_, rfl⟩
  obtain ⟨t, hT⟩ : ∃ t, smT (smN nd) sa sb = t := ⟨_, rfl⟩
  have HS := Lib.hid (small_ok nd a k c l sa sb)
  rw [hL] at hLlen
  have hL40 : L.length ≤ 40 := by omega
  rw [hL, hS, hT, hN] at HS
  rw [hL, hS, hT, hN] at h0
  rw [hN] at hn2 hn10
  obtain ⟨hv, hs, ht, hstn⟩ := askF_zero h0
  obtain ⟨s, rfl⟩ : ∃ z : Nat, s = z := ⟨s.toNat, by omega⟩
  obtain ⟨t, rfl⟩ : ∃ z : Nat, t = z := ⟨t.toNat, by omega⟩
  have hsn : s < n := by omega
  have htn : t < n := by omega
  have hin : inN n L := fun a ha => by have := okA_iff.1 ((netOk_iff.1 hv).2.2.2 a ha); omega
  have H0 := Lib.hid (And.intro h0 (And.intro hin (And.intro hv (show s ≠ t by omega))))
  have HL40 := Lib.hid hL40
  clear hL hS hT hN h0 hv hs ht hstn hin hl1 hl2 hl3 hl4 hl5 hl6 hnd hsa hsb hzs hLlen hL40
  go_enter Try.func7, Try.ntmps7
  go_wp2_with fail
  refine (HS.out w HM.out.1 HM.out.2.1 HM.out.2.2.1 HM.out.2.2.2.1 hk63 HM.out.2.2.2.2.1 HM.out.2.2.2.2.2).mono ?_
  rintro e W1 ⟨a1, m1, c1, rfl, ho, hb⟩
  have H1 := Lib.hid (And.intro ho.rows (And.intro ho.len.1 hb))
  have hm40 : m1 ≤ 40 := by have := ho.len.1; have := HL40.out; omega
  have hm63 : m1 ≤ 9223372036854775807 := by omega
  clear ho hb
  go_upto_region 2 with fail
  have H2 := Lib.hid (show Below W1.heap.size W1 (W1.alloc (.cells #[.int .i64 n, .slice a1 m1 c1] 24)) ∧ (W1.alloc (.cells #[.int .i64 n, .slice a1 m1 c1] 24)).heap[W1.heap.size]? = some (.cells #[.int .i64 n, .slice a1 m1 c1] 24 (0, 0)) from ⟨below_alloc (below_self W1) _, blk_new W1 _⟩)
  generalize W1.alloc _ = X1 at H2 ⊢
  clear HS
  have k0 : X1.cell? ⟨W1.heap.size, 0, none⟩ = some (.int .i64 n) := (blk_cell H2.out.2 0).trans rfl
  have k1 : X1.cell? ⟨W1.heap.size, 1, none⟩ = some (.slice a1 m1 c1) := (blk_cell H2.out.2 1).trans rfl
  have kl := blk_lt H2.out.2
  go_wp2_with fail
  refine (max_ok n a1 m1 c1 L s t X1 H1.out.2.1 hm63 (H1.out.1.later H2.out.1)).mono ?_
  rintro e X2 ⟨r, v, rfl, f, ho, hm, hb⟩
  rw [H0.out.1]
  obtain ⟨hB, hr⟩ := hm.1 H0.out.1
  rw [Int.toNat_natCast] at hB
  have hfl : f.length = m1 := by rw [okF_len hB.flw.ok]; exact H1.out.2.1
  obtain ⟨af, cf, rfl, hrf⟩ := ho.rows
  have hfull := ho.full
  rw [hfl]
  have HF := Lib.hid (And.intro hB (And.intro hr (And.intro hfl hrf)))
  have HNF := Lib.hid (show af = none → m1 = 0 ∧ cf = 0 by
    obtain ⟨a', c', he, _, hn, _⟩ := hfull
    injection he with e1 _ e3
    subst e1 e3
    rw [hfl] at hn
    exact hn)
  have H3 := Lib.hid (And.intro (below_trans H2.out.1 hb) (blk_below H2.out.2 hb))
  clear ho hm hb hB hr hfl hrf hfull k0 k1 kl H2
  have k0 : X2.cell? ⟨W1.heap.size, 0, none⟩ = some (.int .i64 n) := (blk_cell H3.out.2 0).trans rfl
  have k1 : X2.cell? ⟨W1.heap.size, 1, none⟩ = some (.slice a1 m1 c1) := (blk_cell H3.out.2 1).trans rfl
  have kl := blk_lt H3.out.2
  have hmm : ((m1 : Int) != (m1 : Int)) = false := by simp
  obtain ⟨i0, hi, hz0, hz1, hz2⟩ := info_parts info3
  go_wp2_with (with_reducible refine wpList_make_row rfl 26 _ _ rfl 3 i0 _ 1 8 Try.underlying26 hi hz0 hz1 hz2 n _ rfl rfl ?a2 ?a3 ?a4 ?_)
  case a2 => rfl
  case a3 => omega
  case a4 => omega
  intro W4 h4 hb4 hs4
  have h4' : W4.heap[X2.heap.size]? = some (.cells (intsV (List.replicate n 0)).toArray 3 (0, 0)) := by
    have hm : madeCells #[Value.int .i64 0] n = (intsV (List.replicate n 0)).toArray := by
      apply Array.toList_inj.1
      rw [toList_madeCells_one]
      simp [intsV]
    rw [← hm]
    simpa using h4.out
  have hC : CR W1 n a1 m1 c1 n X2.heap.size (List.replicate n 0) W4 := by
    refine ⟨below_trans H3.out.1 hb4, blk_below H3.out.2 hb4, ?_, by simp⟩
    unfold OwnI
    rw [List.length_replicate]
    exact owns_of_blk h4' kl (by simp [intsV]) (by unfold maxLen; omega)
  have HC := Lib.hid (And.intro hC hb4)
  have k1 : W4.cell? ⟨W1.heap.size, 1, none⟩ = some (.slice a1 m1 c1) := (blk_cell hC.box 1).trans rfl
  have kl := blk_lt hC.box
  clear k0 h4 hb4 hs4 h4' hC hi hz0 hz1 hz2
  go_wp2_with fail
  clear k1 kl
  go_loopw [57] (fun i wr => ∃ (j : Nat) (Z : List Int) (X : World), j ≤ m1 ∧ i = .int .i64 j ∧ X = wr ∧ Hid ((CR W1 n a1 m1 c1 n X2.heap.size Z X ∧ Below X2.heap.size X2 X) ∧ CJ L f n j Z)) (fun i _ => m1 - (intOf i).toNat)
  case atStart => exact ⟨0, _, _, Nat.zero_le _, rfl, rfl, Lib.hid ⟨HC.out, CJ.start L f n⟩⟩
  case round =>
    clear HC
    obtain ⟨j, Z, X, hj, rfl, rfl, HX⟩ := hrel
    by_cases hlt : j < m1
    · have hltI : (j : Int) < (m1 : Int) := by omega
      have hjl : j < L.length := by rw [H1.out.2.1]; exact hlt
      have hA := okA_iff.1 ((netOk_iff.1 H0.out.2.2.1).2.2.2 (L.getD j default) (by rw [List.getD_eq_getElem?_getD, List.getElem?_eq_getElem hjl]; exact List.getElem_mem _))
      have hfb := okF_at HF.out.1.flw.ok hjl
      obtain ⟨b1, o1, rfl, hb1, c0, c1', c2⟩ := ars_at H1.out.1 j hjl
      obtain ⟨b2, o2, rfl, hb2, d0⟩ := ints_at HF.out.2.2.2 j (by rw [HF.out.2.2.1]; exact hlt)
      replace c0 := cell_call HX.out.1.1.bel hb1 c0
      replace c1' := cell_call HX.out.1.1.bel hb1 c1'
      replace c2 := cell_call HX.out.1.1.bel hb1 c2
      replace d0 := cell_call HX.out.1.2 hb2 d0
      have hbg : b2 ≠ X2.heap.size := by omega
      replace hb1 : b1 < X.heap.size := Nat.lt_of_lt_of_le hb1 HX.out.1.1.bel.size
      replace hb2 : b2 < X.heap.size := Nat.lt_of_lt_of_le hb2 HX.out.1.2.size
      obtain ⟨x, hx⟩ : ∃ x, L.getD j default = x := ⟨_, rfl⟩
      obtain ⟨y, hy⟩ : ∃ y, f.getD j default = y := ⟨_, rfl⟩
      rw [hx] at hA c0 c1' c2 hfb
      rw [show f.getD j 0 = f.getD j default from rfl, hy] at hfb
      rw [hy] at d0
      obtain ⟨xu, xv, xc⟩ := x
      simp only at hA c0 c1' c2 hfb
      obtain ⟨⟨u0, u1⟩, ⟨v0, v1⟩, huv, r0, r1⟩ := hA
      obtain ⟨u, rfl⟩ : ∃ u : Nat, xu = u := ⟨xu.toNat, by omega⟩
      obtain ⟨v, rfl⟩ : ∃ v : Nat, xv = v := ⟨xv.toNat, by omega⟩
      have hun : u < n := by omega
      have hvn : v < n := by omega
      have hunI : (u : Int) < (n : Int) := by omega
      have hvnI : (v : Int) < (n : Int) := by omega
      have huv2 : u ≠ v := by omega
      obtain ⟨hneg, hbig⟩ := hfb
      have hneg' : ¬ y < 0 := by omega
      have hbig' : ¬ xc < y := by omega
      have HK := Lib.hid (And.intro hx (And.intro hy (And.intro hjl huv2)))
      clear hx hy hjl huv huv2 u0 v0 u1 v1
      go_wp2_with fail
      go_quiet (fail)
      have hbY := below_drewN (below_alloc (below_self X) (.cells #[.int .i64 u, .int .i64 v, .int .i64 xc] 32)) nq
      have hab : ((X.alloc (.cells #[.int .i64 u, .int .i64 v, .int .i64 xc] 32)).drewN nq).heap[X.heap.size]? = some (.cells #[.int .i64 u, .int .i64 v, .int .i64 xc] 32 (0, 0)) := blk_new X _
      have d0' := cell_call hbY hb2 d0
      have HY := Lib.hid (And.intro (HX.out.1.1.later hbY) (And.intro hab (And.intro (below_trans HX.out.1.2 hbY) HX.out.2)))
      have hb2' := Nat.lt_of_lt_of_le hb2 hbY.size
      have hXg : X.heap.size ≠ X2.heap.size := by have := HX.out.1.1.lo.2; omega
      have HG := Lib.hid (And.intro hXg hbg)
      clear hbY hab hXg d0 c0 c1' c2 hb1 HX hb2 hbg
      generalize (X.alloc (.cells #[.int .i64 u, .int .i64 v, .int .i64 xc] 32)).drewN nq = Y at HY d0' hb2' ⊢
      generalize X.heap.size = m at HY HG ⊢
      have e0 : Y.cell? ⟨m, 0, none⟩ = some (.int .i64 u) := (blk_cell HY.out.2.1 0).trans rfl
      have lm := blk_lt HY.out.2.1
      have lg := HY.out.1.lo.2
      obtain ⟨qu, fu⟩ := HY.out.1.at' hun
      have hbu := HY.out.2.2.2.bound (fun x hx => by have := okA_iff.1 ((netOk_iff.1 H0.out.2.2.1).2.2.2 x hx); omega) (by have := HL40.out; omega) hun
      obtain ⟨zu, hzu⟩ : ∃ z, Z.getD u default = z := ⟨_, rfl⟩
      rw [hzu] at qu hbu
      have hwu : IntKind.i64.wrap (zu + y) = zu + y := IntWalk.i64_in _ (by omega)
      have HZU := Lib.hid (And.intro hzu hbu)
      clear hzu hbu
      go_wp2_with fail
      go_still_tail 11, (by kernel_rfl)
      have hbD := drew_below Y
      have HZ := Lib.hid (And.intro (HY.out.1.later hbD) (And.intro (blk_below HY.out.2.1 hbD) (And.intro (cell_call hbD hb2' d0') (below_trans HY.out.2.2.1 hbD))))
      have HCJ := Lib.hid HY.out.2.2.2
      have quD : Y.drew.cell? ⟨X2.heap.size, u, none⟩ = some (.int .i64 zu) := qu
      have fuD : Y.drew.frozen? ⟨X2.heap.size, u, none⟩ = false := fu
      have lgD : X2.heap.size < Y.drew.heap.size := lg
      have hb2D : b2 < Y.drew.heap.size := hb2'
      change wpList _ _ _ _ _ Y.drew
      clear hbD HY d0' e0 lm lg qu fu hb2'
      generalize Y.drew = V at HZ quD fuD lgD hb2D ⊢
      go_wp2_with fail
      have HZ1 := Lib.hid (show CR W1 n (some ⟨b1, o1, none⟩) m1 c1 n X2.heap.size (Z.set u (zu + y)) (V.setCell ⟨X2.heap.size, u, none⟩ (.int .i64 (zu + y))) ∧ (V.setCell ⟨X2.heap.size, u, none⟩ (.int .i64 (zu + y))).heap[m]? = some (.cells #[.int .i64 u, .int .i64 v, .int .i64 xc] 32 (0, 0)) ∧ (V.setCell ⟨X2.heap.size, u, none⟩ (.int .i64 (zu + y))).cell? ⟨b2, o2 + j, none⟩ = some (.int .i64 y) ∧ Below X2.heap.size X2 (V.setCell ⟨X2.heap.size, u, none⟩ (.int .i64 (zu + y))) from
        ⟨HZ.out.1.put u (zu + y), blk_set HZ.out.2.1 HG.out.1 _, cell_far (Ne.symm HG.out.2) HZ.out.2.2.1, HZ.out.2.2.2.setCell (Nat.le_refl _) _⟩)
      have hb2E : b2 < (V.setCell ⟨X2.heap.size, u, none⟩ (.int .i64 (zu + y))).heap.size := by simp [World.setCell]; exact hb2D
      clear HZ quD fuD lgD hb2D hwu
      generalize V.setCell ⟨X2.heap.size, u, none⟩ (.int .i64 (zu + y)) = Y at HZ1 hb2E ⊢
      have e1 : Y.cell? ⟨m, 1, none⟩ = some (.int .i64 v) := (blk_cell HZ1.out.2.1 1).trans rfl
      have lm := blk_lt HZ1.out.2.1
      have lg := HZ1.out.1.lo.2
      obtain ⟨qv, fv'⟩ := HZ1.out.1.at' hvn
      have hbv := HCJ.out.bound (fun x hx => by have := okA_iff.1 ((netOk_iff.1 H0.out.2.2.1).2.2.2 x hx); omega) (by have := HL40.out; omega) hvn
      have hgv : (Z.set u (zu + y)).getD v default = Z.getD v default := by rw [List.getD_eq_getElem?_getD, List.getElem?_set, if_neg HK.out.2.2.2, List.getD_eq_getElem?_getD]
      rw [hgv] at qv
      obtain ⟨zv, hzv⟩ : ∃ z, Z.getD v default = z := ⟨_, rfl⟩
      rw [hzv] at qv hbv
      have hwv : IntKind.i64.wrap (zv - y) = zv - y := IntWalk.i64_in _ (by omega)
      have HZV := Lib.hid hzv
      have d1' := HZ1.out.2.2.1
      clear hzv hbv hgv
      go_wp2_with fail
      go_still_tail 11, (by kernel_rfl)
      have hbD := drew_below Y
      have HZ := Lib.hid (And.intro (HZ1.out.1.later hbD) (below_trans HZ1.out.2.2.2 hbD))
      have qvD : Y.drew.cell? ⟨X2.heap.size, v, none⟩ = some (.int .i64 zv) := qv
      have fvD : Y.drew.frozen? ⟨X2.heap.size, v, none⟩ = false := fv'
      have lgD : X2.heap.size < Y.drew.heap.size := lg
      change wpList _ _ _ _ _ Y.drew
      clear hbD HZ1 d1' e1 lm lg qv fv' hb2E
      generalize Y.drew = V2 at HZ qvD fvD lgD ⊢
      have H9 := Lib.hid (And.intro (And.intro (HZ.out.1.put v (zv - y)) (HZ.out.2.setCell (p := ⟨X2.heap.size, v, none⟩) (Nat.le_refl _) (.int .i64 (zv - y)))) (HCJ.out.next HK.out.2.2.1 (by rw [H1.out.2.1, HF.out.2.2.1]) (by have := HZ.out.1.len; rw [List.length_set] at this; exact this) HK.out.1 HK.out.2.1 hun hvn HK.out.2.2.2 (by omega) (by omega) (by rw [HZU.out.1]) (by rw [HZV.out])))
      clear HZ HCJ HZU HZV HK HG
      go_wp2_with fail
      go_roundw
      case rel => exact ⟨j + 1, _, _, by omega, by go_num, rfl, H9⟩
      case measure => simp [intOf]; omega
    · have hltI : ¬ (j : Int) < (m1 : Int) := by omega
      obtain rfl : j = m1 := by omega
      have hval : ∀ x : Nat, x < n → Z.getD x default = net L f x := fun x hx => by
        have := HX.out.2.val x hx
        rw [List.take_of_length_le (by rw [H1.out.2.1]; exact Nat.le_refl _), List.take_of_length_le (by rw [HF.out.2.2.1]; exact Nat.le_refl _)] at this
        exact this
      have HV := Lib.hid hval
      have HX1 := Lib.hid HX.out.1
      clear hval HX
      go_wp2_with fail
      go_loopw [101] (fun i wr => ∃ q : Nat, q ≤ n ∧ i = .int .i64 q ∧ X = wr) (fun i _ => n - (intOf i).toNat)
      case atStart => exact ⟨0, Nat.zero_le _, rfl, rfl⟩
      case round =>
        obtain ⟨q, hq, rfl, rfl⟩ := hrel
        have lg := HX1.out.1.lo.2
        by_cases hqn : q < n
        · have hqI : (q : Int) < (n : Int) := by omega
          obtain ⟨qs, _⟩ := HX1.out.1.at' hqn
          rw [HV.out q hqn] at qs
          by_cases h1 : q = s
          · have h1b : ((q : Int) != (s : Int)) = false := by rw [h1]; simp
            clear h1
            go_wp2_with fail
            go_roundw
            case rel => exact ⟨q + 1, by omega, by go_num, trivial⟩
            case measure => simp [intOf]; omega
          · have h1b : ((q : Int) != (s : Int)) = true := bne_iff_ne.2 (by omega)
            by_cases h2 : q = t
            · have h2b : ((q : Int) != (t : Int)) = false := by rw [h2]; simp
              clear h1 h2
              go_wp2_with fail
              go_roundw
              case rel => exact ⟨q + 1, by omega, by go_num, trivial⟩
              case measure => simp [intOf]; omega
            · have h2b : ((q : Int) != (t : Int)) = true := bne_iff_ne.2 (by omega)
              have hz := HF.out.1.flw.con (q : Int) (by omega) (by omega) (by omega) (by omega)
              rw [hz] at qs
              clear h1 h2 hz
              go_wp2_with fail
              go_roundw
              case rel => exact ⟨q + 1, by omega, by go_num, trivial⟩
              case measure => simp [intOf]; omega
        · have hqI : ¬ (q : Int) < (n : Int) := by omega
          obtain rfl : q = n := by omega
          obtain ⟨qs, _⟩ := HX1.out.1.at' hsn
          obtain ⟨qt, _⟩ := HX1.out.1.at' htn
          rw [HV.out s hsn, ← HF.out.2.1] at qs
          rw [HV.out t htn, HF.out.1.flw.ends H0.out.2.1 (by omega) (by omega) (by omega) (by omega) (by have := H0.out.2.2.2; omega), ← HF.out.2.1] at qt
          have hrb : -12800000000 ≤ r ∧ r ≤ 12800000000 := by
            have h1 := net_bound L f (s : Int) HF.out.1.flw.ok (fun x hx => by have := okA_iff.1 ((netOk_iff.1 H0.out.2.2.1).2.2.2 x hx); omega)
            have h2 := HL40.out
            rw [HF.out.2.1]
            omega
          have hwr : IntKind.i64.wrap (-r) = -r := IntWalk.i64_in _ (by omega)
          have hsI : (s : Int) < (q : Int) := by omega
          have htI : (t : Int) < (q : Int) := by omega
          have hr1 : (r != r) = false := by simp
          have hr2 : ((-r) != (-r)) = false := by simp
          have hm40' : j ≤ 1000000 := by omega
          go_wp2_with fail
          refine (clone_ok af j cf f X HF.out.2.2.1 hm40' HNF.out (HF.out.2.2.2.later HX1.out.2)).mono ?_
          rintro e Y ⟨v, rfl, ho, hb⟩
          obtain ⟨ao, co, rfl, _⟩ := ho.rows
          have hY : OwnI X.heap.size Y (.slice ao j co) f := by have h := ho; rw [HF.out.2.2.1] at h; exact h
          rw [HF.out.2.2.1]
          have HY := Lib.hid (And.intro hb hY)
          clear ho hb hY qs qt hwr hr1 hr2 lg
          go_wp2_with fail
          go_loopw [139] (fun i wr => ∃ (p : Nat) (O : List Int) (V : World), p ≤ j ∧ i = .int .i64 p ∧ V = wr ∧ Hid (Below X.heap.size X V ∧ OwnI X.heap.size V (.slice ao j co) O ∧ O.length = j)) (fun i _ => j - (intOf i).toNat)
          case atStart => exact ⟨0, f, _, Nat.zero_le _, rfl, rfl, Lib.hid ⟨HY.out.1, HY.out.2, HF.out.2.2.1⟩⟩
          case round =>
            clear HY
            obtain ⟨p, O, V, hp, rfl, rfl, HV2⟩ := hrel
            by_cases hpj : p < j
            · have hpI : (p : Int) < (j : Int) := by omega
              obtain ⟨g, cg, he, hgX, hgl, cp, fp⟩ := HV2.out.2.1.at (e := p) (by rw [HV2.out.2.2]; exact hpj)
              injection he with e1 e2 e3
              subst e1 e3
              have HE2 := Lib.hid e2
              clear e2
              by_cases hpk : p < kb
              · have hpkI : (p : Int) < (kb : Int) := by omega
                obtain ⟨bz, oz, rfl, hbz, cz⟩ := bytes_at HB.out.2.1 p (by rw [HB.out.1]; exact hpk)
                have hzr := HB.out.2.2 (zs.getD p default) (getD_mem (by rw [HB.out.1]; exact hpk))
                obtain ⟨z, hz⟩ : ∃ z, zs.getD p default = z := ⟨_, rfl⟩
                rw [hz] at cz hzr
                clear hz
                have hbelV : Below w.heap.size w V := below_trans (below_trans H1.out.2.2 HX1.out.1.bel) HV2.out.1
                replace cz := cell_call hbelV hbz cz
                have hbzV := Nat.lt_of_lt_of_le hbz hbelV.size
                have hwz : IntKind.i64.wrap z = z := IntWalk.i64_in _ (by omega)
                have HN := Lib.hid (show Below X.heap.size X (V.setCell ⟨g, p, none⟩ (.int .i64 z)) ∧ OwnI X.heap.size (V.setCell ⟨g, p, none⟩ (.int .i64 z)) (.slice (some ⟨g, 0, none⟩) j co) (O.set p z) ∧ (O.set p z).length = j from
                  ⟨HV2.out.1.setCell hgX _, HV2.out.2.1.put p z, by rw [List.length_set]; exact HV2.out.2.2⟩)
                clear HV2 hbelV hbz
                go_wp2_with fail
                go_roundw
                case rel => exact ⟨p + 1, _, _, by omega, by go_num, rfl, HN⟩
                case measure => simp [intOf]; omega
              · have hpkI : ¬ (p : Int) < (kb : Int) := by omega
                have HN := Lib.hid HV2.out
                clear HV2
                go_wp2_with fail
                go_roundw
                case rel => exact ⟨p + 1, O, _, by omega, by go_num, rfl, HN⟩
                case measure => simp [intOf]; omega
            · have hpI : ¬ (p : Int) < (j : Int) := by omega
              have hbV := below_trans HX1.out.1.bel HV2.out.1
              have k0 : V.cell? ⟨W1.heap.size, 0, none⟩ = some (.int .i64 q) := (blk_cell (blk_below HX1.out.1.box HV2.out.1) 0).trans rfl
              have k1 : V.cell? ⟨W1.heap.size, 1, none⟩ = some (.slice a1 j c1) := (blk_cell (blk_below HX1.out.1.box HV2.out.1) 1).trans rfl
              have kl := blk_lt (blk_below HX1.out.1.box HV2.out.1)
              obtain ⟨_, _, he, hro⟩ := HV2.out.2.1.rows
              injection he with he1 he2 he3
              subst he1
              have HR := Lib.hid (And.intro hro (And.intro HV2.out.2.2 hbV))
              clear he2 he3 hro hbV HV2
              go_wp2_with fail
              refine (check_ok q a1 j c1 L s t ao j co O V H1.out.2.1 hm63 (H1.out.1.later HR.out.2.2) HR.out.2.1 hm63 HR.out.1).mono ?_
              rintro e V2 ⟨rfl, hb⟩
              have HW := Lib.hid (below_trans (below_trans H1.out.2.2 HR.out.2.2) hb)
              clear hb k0 k1 kl
              rcases chk_cases (g := O) H0.out.1 HF.out.1 H0.out.2.1 hsn with h13 | ⟨h00, hle⟩
              · rw [h13]
                clear h13
                generalize chkV q L s t O = z9
                go_wp2_with fail
                refine (works_ok V2).mono ?_
                rintro e V3 ⟨rfl, hb⟩
                have HW3 := Lib.hid (below_trans HW.out hb)
                clear hb
                go_wp2_with fail
                go_ret
                exact ⟨rfl, HW3.out⟩
              · rw [h00]
                rw [← HF.out.2.1] at hle
                generalize chkV q L s t O = z9 at hle ⊢
                clear h00
                go_wp2_with fail
                refine (works_ok V2).mono ?_
                rintro e V3 ⟨rfl, hb⟩
                have HW3 := Lib.hid (below_trans HW.out hb)
                clear hb
                go_wp2_with fail
                go_ret
                exact ⟨rfl, HW3.out⟩
end Go.Proofs.Ytgojjlnpbakfjaa
