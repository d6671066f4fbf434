/- Chapter 05: the reference's Check (written by wip/gen05chk.py). -/
import Derived.Test.YtgojjlnpbakfjaaChk
import Derived.Test.YtgojjlnpbakfjaaNetR
namespace Go.Proofs.Ytgojjlnpbakfjaa
open Go Go.RowKit
set_option linter.unusedSimpArgs false

set_option maxRecDepth 100000 in
set_option maxHeartbeats 8000000 in
theorem checkref_ok (N : Int) (a : Option Addr) (k c : Nat) (l : List Ar) (s t : Int) (af : Option Addr) (kf cf : Nat) (f : List Int) (w : World) (hn : l.length = k) (hl : k ≤ 9223372036854775807) (hm : RowsAt w.heap.size w a 3 (Ars l)) (hnf : f.length = kf) (hlf : kf ≤ 9223372036854775807) (hmf : RowsAt w.heap.size w af 1 (Ints f)) :
    Calls Try.prog 15 #[.agg #[.int .i64 N, .slice a k c], .int .i64 s, .int .i64 t, .slice af kf cf] w fun e W' => e = .returned (.tuple #[.int .i64 (chkV N l s t f), .int .i64 (chkE N l s t f)]) ∧ Below w.heap.size w W' := by
  have HM := Lib.hid (And.intro hn (And.intro hm (And.intro hnf hmf)))
  by_cases h0 : askF N l s t = 0
  · obtain ⟨hv, hs, ht, hst⟩ := askF_zero h0
    obtain ⟨h2, h64, h128, hA⟩ := netOk_iff.1 hv
    obtain ⟨n, rfl⟩ : ∃ n : Nat, N = n := ⟨N.toNat, by omega⟩
    obtain ⟨s, rfl⟩ : ∃ z : Nat, s = z := ⟨s.toNat, by omega⟩
    obtain ⟨t, rfl⟩ : ∃ z : Nat, t = z := ⟨t.toNat, by omega⟩
    have hk : k ≤ 128 := by omega
    have hsn : s < n := by omega
    have htn : t < n := by omega
    have hn64 : n ≤ 64 := by omega
    have hE : chkE n l s t f = if (okFb l f && conB n l s t f) = true then 0 else 13 := by unfold chkE; rw [if_pos h0, Int.toNat_natCast]
    have H0 := Lib.hid (And.intro h0 (And.intro hA (And.intro hE (show (s : Int) ≠ t from hst))))
    clear hn hm hnf hmf hv hs ht hst h2 h64 h128 hA h0 hE
    by_cases hlen : kf = k
    · subst hlen
      obtain ⟨R, hR⟩ : ∃ R, chkV n l s t f = R := ⟨_, rfl⟩
      obtain ⟨E, hE⟩ : ∃ E, chkE n l s t f = E := ⟨_, rfl⟩
      rw [hR, hE]
      have HE := Lib.hid (And.intro hR hE)
      have hbad : okFb l f = false → (0 : Int) = R ∧ (13 : Int) = E := by
        intro hb
        have h13 : chkE n l s t f = 13 := by rw [H0.out.2.2.1, hb]; rfl
        refine ⟨?_, by rw [← HE.out.2, h13]⟩
        rw [← HE.out.1]
        unfold chkV
        rw [h13]; rfl
      have HBad := Lib.hid hbad
      clear hR hE hbad
      go_enter Try.func15, Try.ntmps15
      go_wp2_with fail
      obtain ⟨A, hA⟩ : ∃ W' : World, (w.alloc (.cells #[.int .i64 n, .slice a kf c] 24)) = W' := ⟨_, rfl⟩
      have h : Has A [(w.heap.size, .cells #[.int .i64 n, .slice a kf c] 24 (0, 0))] := by rw [← hA]; simpa using ((Has.nil w).new _)
      have z : A.heap.size = w.heap.size + 1 := by rw [← hA]; simp
      have b : Below w.heap.size w A := by rw [← hA]; exact (below_alloc (below_self w) _)
      rw [hA]
      clear hA
      have HA := Lib.hid (And.intro h.hd b)
      clear h z b
      refine (askedref_ok n a kf c l s t A HM.out.1 hl (HM.out.2.1.later HA.out.2)).mono ?_
      rintro e B ⟨rfl, hb⟩
      rw [H0.out.1]
      have HB := Lib.hid (And.intro (blk_below HA.out.1 hb) (below_trans HA.out.2 hb))
      clear hb HA
      have c0 : B.cell? ⟨w.heap.size, 0, none⟩ = some (.int .i64 n) := (blk_cell HB.out.1 0).trans rfl
      have c1 : B.cell? ⟨w.heap.size, 1, none⟩ = some (.slice a kf c) := (blk_cell HB.out.1 1).trans rfl
      have lb := blk_lt HB.out.1
      obtain ⟨i0, hi, hz0, hz1, hz2⟩ := info_parts info3
      go_wp2_with (with_reducible refine wpList_make_row rfl 26 _ _ rfl 3 i0 _ 1 8 Try.underlying26 hi hz0 hz1 hz2 n _ rfl rfl ?a2 ?a3 ?a4 ?_)
      case a2 => rfl
      case a3 => omega
      case a4 => omega
      intro W4 h4 hb4 hs4
      have h4' : W4.heap[B.heap.size]? = some (.cells (intsV (List.replicate n 0)).toArray 3 (0, 0)) := by
        have hm : madeCells #[Value.int .i64 0] n = (intsV (List.replicate n 0)).toArray := by
          apply Array.toList_inj.1
          rw [toList_madeCells_one]
          simp [intsV]
        rw [← hm]
        simpa using h4.out
      have hC : CR w n a kf c n B.heap.size (List.replicate n 0) W4 := by
        refine ⟨below_trans HB.out.2 hb4, blk_below HB.out.1 hb4, ?_, by simp⟩
        unfold OwnI
        rw [List.length_replicate]
        exact owns_of_blk h4' lb (by simp [intsV]) (by unfold maxLen; omega)
      have HC := Lib.hid hC
      generalize B.heap.size = g at HC ⊢
      have c1 : W4.cell? ⟨w.heap.size, 1, none⟩ = some (.slice a kf c) := (blk_cell hC.box 1).trans rfl
      have lb := blk_lt hC.box
      clear c0 h4 hb4 hs4 h4' hC HB hi hz0 hz1 hz2
      go_wp2_with fail
      clear c1 lb
      go_loopw [34] (fun i wr => ∃ (j : Nat) (L : List Int) (X : World), j ≤ kf ∧ i = .int .i64 j ∧ X = wr ∧ Hid (CR w n a kf c n g L X ∧ CJ l f n j L)) (fun i _ => kf - (intOf i).toNat)
      case atStart => exact ⟨0, _, _, Nat.zero_le _, rfl, rfl, Lib.hid ⟨HC.out, CJ.start l f n⟩⟩
      case round =>
        clear HC
        obtain ⟨j, L, X, hj, rfl, rfl, HX⟩ := hrel
        by_cases hlt : j < kf
        · have hltI : (j : Int) < (kf : Int) := by omega
          have hjl : j < l.length := by rw [HM.out.1]; exact hlt
          have hA := okA_iff.1 (H0.out.2.1 (l.getD j default) (by rw [List.getD_eq_getElem?_getD, List.getElem?_eq_getElem hjl]; exact List.getElem_mem _))
          obtain ⟨b1, o1, rfl, hb1, c0, c1, c2⟩ := ars_at HM.out.2.1 j hjl
          obtain ⟨b2, o2, rfl, hb2, d0⟩ := ints_at HM.out.2.2.2 j (by rw [HM.out.2.2.1]; exact hlt)
          replace c0 := cell_call HX.out.1.bel hb1 c0
          replace c1 := cell_call HX.out.1.bel hb1 c1
          replace c2 := cell_call HX.out.1.bel hb1 c2
          replace d0 := cell_call HX.out.1.bel hb2 d0
          have hgw := HX.out.1.lo.1
          have hX2 : b2 < X.heap.size := Nat.lt_of_lt_of_le hb2 HX.out.1.bel.size
          replace hb1 : b1 < X.heap.size := Nat.lt_of_lt_of_le hb1 HX.out.1.bel.size
          have hbg : b2 ≠ g := by omega
          replace hb2 := hX2
          clear hX2 hgw
          obtain ⟨x, hx⟩ : ∃ x, l.getD j default = x := ⟨_, rfl⟩
          obtain ⟨y, hy⟩ : ∃ y, f.getD j default = y := ⟨_, rfl⟩
          rw [hx] at hA c0 c1 c2
          rw [hy] at d0
          obtain ⟨xu, xv, xc⟩ := x
          simp only at hA c0 c1 c2
          obtain ⟨⟨u0, u1⟩, ⟨v0, v1⟩, huv, r0, r1⟩ := hA
          obtain ⟨u, rfl⟩ : ∃ u : Nat, xu = u := ⟨xu.toNat, by omega⟩
          obtain ⟨v, rfl⟩ : ∃ v : Nat, xv = v := ⟨xv.toNat, by omega⟩
          have hun : u < n := by omega
          have hvn : v < n := by omega
          have hunI : (u : Int) < (n : Int) := by omega
          have hvnI : (v : Int) < (n : Int) := by omega
          have huv2 : u ≠ v := by omega
          have HK := Lib.hid (And.intro hx (And.intro hy (And.intro hjl huv2)))
          clear hx hy hjl huv huv2 u0 v0 u1 v1
          by_cases hneg : y < 0
          · have HN := Lib.hid (HBad.out (okFb_not HK.out.2.2.1 (by rw [HK.out.1, HK.out.2.1]; simp only; omega)))
            go_wp2_with fail
            go_quiet (fail)
            go_wp2_with fail
            go_ret2
            exact ⟨by rw [← HN.out.1, ← HN.out.2]; rfl, below_drewN (below_alloc HX.out.1.bel _) nq⟩
          · by_cases hbig : xc < y
            · have HN := Lib.hid (HBad.out (okFb_not HK.out.2.2.1 (by rw [HK.out.1, HK.out.2.1]; simp only; omega)))
              go_wp2_with fail
              go_quiet (fail)
              go_wp2_with fail
              go_ret2
              exact ⟨by rw [← HN.out.1, ← HN.out.2]; rfl, below_drewN (below_alloc HX.out.1.bel _) nq⟩
            · go_wp2_with fail
              go_quiet (fail)
              have hbY := below_drewN (below_alloc (below_self X) (.cells #[.int .i64 u, .int .i64 v, .int .i64 xc] 32)) nq
              have hab : ((X.alloc (.cells #[.int .i64 u, .int .i64 v, .int .i64 xc] 32)).drewN nq).heap[X.heap.size]? = some (.cells #[.int .i64 u, .int .i64 v, .int .i64 xc] 32 (0, 0)) := blk_new X _
              have d0' := cell_call hbY hb2 d0
              have HY := Lib.hid (And.intro (HX.out.1.later hbY) (And.intro hab (And.intro HX.out.1.lo.2 HX.out.2)))
              have hb2' := Nat.lt_of_lt_of_le hb2 hbY.size
              have hXg : X.heap.size ≠ g := by have := HX.out.1.lo.2; omega
              have HG := Lib.hid (And.intro hXg hbg)
              clear hbY hab hXg d0 c0 c1 c2 hb1 HX hb2
              generalize (X.alloc (.cells #[.int .i64 u, .int .i64 v, .int .i64 xc] 32)).drewN nq = Y at HY d0' hb2' ⊢
              generalize X.heap.size = m at HY HG ⊢
              have e0 : Y.cell? ⟨m, 0, none⟩ = some (.int .i64 u) := (blk_cell HY.out.2.1 0).trans rfl
              have lm := blk_lt HY.out.2.1
              have lg := HY.out.1.lo.2
              obtain ⟨qu, fu⟩ := HY.out.1.at' hun
              have hbu := HY.out.2.2.2.bound (fun x hx => by have := okA_iff.1 (H0.out.2.1 x hx); omega) (by rw [HM.out.1]; exact hk) hun
              obtain ⟨zu, hzu⟩ : ∃ z, L.getD u default = z := ⟨_, rfl⟩
              rw [hzu] at qu hbu
              have hwu : IntKind.i64.wrap (zu + y) = zu + y := IntWalk.i64_in _ (by omega)
              have HZU := Lib.hid (And.intro hzu hbu)
              clear hzu hbu
              go_wp2_with fail
              go_still_tail 11, (by kernel_rfl)
              have hbD := drew_below Y
              have HZ := Lib.hid (And.intro (HY.out.1.later hbD) (And.intro (blk_below HY.out.2.1 hbD) (cell_call hbD hb2' d0')))
              have HCJ := Lib.hid HY.out.2.2.2
              have quD : Y.drew.cell? ⟨g, u, none⟩ = some (.int .i64 zu) := qu
              have fuD : Y.drew.frozen? ⟨g, u, none⟩ = false := fu
              have lgD : g < Y.drew.heap.size := lg
              have hb2D : b2 < Y.drew.heap.size := hb2'
              change wpList _ _ _ _ _ Y.drew
              clear hbD HY d0' e0 lm lg qu fu hb2'
              generalize Y.drew = Z at HZ quD fuD lgD hb2D ⊢
              go_wp2_with fail
              have HZ1 := Lib.hid (show CR w n (some ⟨b1, o1, none⟩) kf c n g (L.set u (zu + y)) (Z.setCell ⟨g, u, none⟩ (.int .i64 (zu + y))) ∧ (Z.setCell ⟨g, u, none⟩ (.int .i64 (zu + y))).heap[m]? = some (.cells #[.int .i64 u, .int .i64 v, .int .i64 xc] 32 (0, 0)) ∧ (Z.setCell ⟨g, u, none⟩ (.int .i64 (zu + y))).cell? ⟨b2, o2 + j, none⟩ = some (.int .i64 y) from
                ⟨HZ.out.1.put u (zu + y), blk_set HZ.out.2.1 HG.out.1 _, cell_far (Ne.symm HG.out.2) HZ.out.2.2⟩)
              have hb2E : b2 < (Z.setCell ⟨g, u, none⟩ (.int .i64 (zu + y))).heap.size := by simp [World.setCell]; exact hb2D
              clear HZ quD fuD lgD hb2D hwu
              generalize Z.setCell ⟨g, u, none⟩ (.int .i64 (zu + y)) = Y at HZ1 hb2E ⊢
              have e1 : Y.cell? ⟨m, 1, none⟩ = some (.int .i64 v) := (blk_cell HZ1.out.2.1 1).trans rfl
              have lm := blk_lt HZ1.out.2.1
              have lg := HZ1.out.1.lo.2
              obtain ⟨qv, fv'⟩ := HZ1.out.1.at' hvn
              have hbv := HCJ.out.bound (fun x hx => by have := okA_iff.1 (H0.out.2.1 x hx); omega) (by rw [HM.out.1]; exact hk) hvn
              have hgv : (L.set u (zu + y)).getD v default = L.getD v default := by rw [List.getD_eq_getElem?_getD, List.getElem?_set, if_neg HK.out.2.2.2, List.getD_eq_getElem?_getD]
              rw [hgv] at qv
              obtain ⟨zv, hzv⟩ : ∃ z, L.getD v default = z := ⟨_, rfl⟩
              rw [hzv] at qv hbv
              have hwv : IntKind.i64.wrap (zv - y) = zv - y := IntWalk.i64_in _ (by omega)
              have HZV := Lib.hid hzv
              have d1' := HZ1.out.2.2
              clear hzv hbv hgv
              go_wp2_with fail
              go_still_tail 11, (by kernel_rfl)
              have hbD := drew_below Y
              have HZ := Lib.hid (HZ1.out.1.later hbD)
              have qvD : Y.drew.cell? ⟨g, v, none⟩ = some (.int .i64 zv) := qv
              have fvD : Y.drew.frozen? ⟨g, v, none⟩ = false := fv'
              have lgD : g < Y.drew.heap.size := lg
              change wpList _ _ _ _ _ Y.drew
              clear hbD HZ1 d1' e1 lm lg qv fv' hb2E
              generalize Y.drew = Z at HZ qvD fvD lgD ⊢
              have H9 := Lib.hid (And.intro (HZ.out.put v (zv - y)) (HCJ.out.next HK.out.2.2.1 (by rw [HM.out.1, HM.out.2.2.1]) (by have := HZ.out.len; rw [List.length_set] at this; exact this) HK.out.1 HK.out.2.1 hun hvn HK.out.2.2.2 (by omega) (by omega) (by rw [HZU.out.1]) (by rw [HZV.out])))
              clear HZ HCJ HZU HZV HK HG
              go_wp2_with fail
              go_roundw
              case rel => exact ⟨j + 1, _, _, by omega, by go_num, rfl, H9⟩
              case measure => simp [intOf]; omega
        · have hltI : ¬ (j : Int) < (kf : Int) := by omega
          obtain rfl : j = kf := by omega
          have hval : ∀ x : Nat, x < n → L.getD x default = net l f x := fun x hx => by
            have := HX.out.2.val x hx
            rw [List.take_of_length_le (by rw [HM.out.1]; exact Nat.le_refl _), List.take_of_length_le (by rw [HM.out.2.2.1]; exact Nat.le_refl _)] at this
            exact this
          have hok : okFb l f = true := by
            have := HX.out.2.ok
            rw [List.take_of_length_le (by rw [HM.out.1]; exact Nat.le_refl _), List.take_of_length_le (by rw [HM.out.2.2.1]; exact Nat.le_refl _)] at this
            exact okFb_iff.2 this
          have HV := Lib.hid (And.intro hval (show conB n l s t f = true → net l f s = R ∧ (0 : Int) = E by
            intro hc
            have h0 : chkE n l s t f = 0 := by rw [H0.out.2.2.1, hok, hc]; rfl
            refine ⟨?_, by rw [← HE.out.2, h0]⟩
            rw [← HE.out.1]
            unfold chkV
            rw [if_pos h0]))
          have HB2 := Lib.hid (show conB n l s t f = false → (0 : Int) = R ∧ (13 : Int) = E by
            intro hc
            have h0 : chkE n l s t f = 13 := by rw [H0.out.2.2.1, hok, hc]; rfl
            refine ⟨?_, by rw [← HE.out.2, h0]⟩
            rw [← HE.out.1]
            unfold chkV
            rw [if_neg (by omega)])
          clear hval hok
          have HX1 := Lib.hid HX.out.1
          clear HX
          go_wp2_with fail
          go_loopw [14] (fun i wr => ∃ q : Nat, q ≤ n ∧ i = .int .i64 q ∧ X = wr ∧ Hid (∀ x : Nat, x < q → (x : Int) = s ∨ (x : Int) = t ∨ net l f x = 0)) (fun i _ => n - (intOf i).toNat)
          case atStart => exact ⟨0, Nat.zero_le _, rfl, rfl, Lib.hid (fun x hx => by omega)⟩
          case round =>
            obtain ⟨q, hq, rfl, rfl, HQ⟩ := hrel
            have p0 : X.cell? ⟨w.heap.size, 0, none⟩ = some (.int .i64 n) := (blk_cell HX1.out.box 0).trans rfl
            have lp := blk_lt HX1.out.box
            by_cases hqn : q < n
            · have hqI : (q : Int) < (n : Int) := by omega
              obtain ⟨qs, _⟩ := HX1.out.at' hqn
              rw [HV.out.1 q hqn] at qs
              obtain ⟨zq, hzq⟩ : ∃ z, net l f q = z := ⟨_, rfl⟩
              rw [hzq] at qs
              have lg := HX1.out.lo.2
              have HZQ := Lib.hid hzq
              clear hzq
              by_cases h1 : (q : Int) = s
              · have HN := Lib.hid (show ∀ x : Nat, x < q + 1 → (x : Int) = s ∨ (x : Int) = t ∨ net l f x = 0 from fun x hx => by
                  by_cases e : x = q
                  · subst e; exact .inl h1
                  · exact HQ.out x (by omega))
                have h1b : ((q : Int) != (s : Int)) = false := by simpa using h1
                have h1c : q = s := by omega
                clear h1
                go_wp2_with fail
                go_roundw
                case rel => exact ⟨q + 1, by omega, by go_num, trivial, HN⟩
                case measure => simp [intOf]; omega
              · have h1b : ((q : Int) != (s : Int)) = true := by simpa using h1
                by_cases h2 : (q : Int) = t
                · have HN := Lib.hid (show ∀ x : Nat, x < q + 1 → (x : Int) = s ∨ (x : Int) = t ∨ net l f x = 0 from fun x hx => by
                    by_cases e : x = q
                    · subst e; exact .inr (.inl h2)
                    · exact HQ.out x (by omega))
                  have h2b : ((q : Int) != (t : Int)) = false := by simpa using h2
                  clear h2
                  go_wp2_with fail
                  go_roundw
                  case rel => exact ⟨q + 1, by omega, by go_num, trivial, HN⟩
                  case measure => simp [intOf]; omega
                · have h2b : ((q : Int) != (t : Int)) = true := by simpa using h2
                  by_cases h3 : zq = 0
                  · have HN := Lib.hid (show ∀ x : Nat, x < q + 1 → (x : Int) = s ∨ (x : Int) = t ∨ net l f x = 0 from fun x hx => by
                      by_cases e : x = q
                      · subst e; exact .inr (.inr (by rw [HZQ.out]; exact h3))
                      · exact HQ.out x (by omega))
                    have h3b : (zq != 0) = false := by simpa using h3
                    clear h3
                    go_wp2_with fail
                    go_roundw
                    case rel => exact ⟨q + 1, by omega, by go_num, trivial, HN⟩
                    case measure => simp [intOf]; omega
                  · have h3b : (zq != 0) = true := by simpa using h3
                    have HC := Lib.hid (HB2.out (by
                      cases hc : conB n l s t f
                      · rfl
                      · exact absurd (by have := conB_iff.1 hc q (by omega) (by omega) h1 h2; rw [HZQ.out] at this; exact this) h3))
                    clear h1 h2 h3
                    go_wp2_with fail
                    go_ret2
                    exact ⟨by rw [← HC.out.1, ← HC.out.2]; rfl, HX1.out.bel⟩
            · have hqI : ¬ (q : Int) < (n : Int) := by omega
              obtain rfl : q = n := by omega
              have hCV := HV.out.2 (conB_iff.2 fun x x0 x1 hs ht => by
                have := HQ.out x.toNat (by omega)
                rw [show ((x.toNat : Nat) : Int) = x by omega] at this
                rcases this with h | h | h
                · exact absurd h hs
                · exact absurd h ht
                · exact h)
              obtain ⟨qs, _⟩ := HX1.out.at' hsn
              rw [HV.out.1 s hsn] at qs
              have lg := HX1.out.lo.2
              have hsI : (s : Int) < (q : Int) := by omega
              obtain ⟨zq, hzq⟩ : ∃ z, net l f s = z := ⟨_, rfl⟩
              rw [hzq] at qs hCV
              have HC := Lib.hid hCV
              clear hzq hCV
              go_wp2_with fail
              go_ret2
              exact ⟨by rw [← HC.out.1, ← HC.out.2]; rfl, HX1.out.bel⟩
    · have hne2 : ¬ (kf : Int) = (k : Int) := by omega
      have hne3 : ((kf : Int) != (k : Int)) = true := bne_iff_ne.2 hne2
      have hb : okFb l f = false := by
        cases h : okFb l f
        · rfl
        · have := okF_len (okFb_iff.1 h)
          rw [HM.out.1, HM.out.2.2.1] at this
          exact absurd this hlen
      have h13 : chkE n l s t f = 13 := by rw [H0.out.2.2.1, hb]; rfl
      have hR : chkV n l s t f = 0 := by unfold chkV; rw [h13]; rfl
      rw [h13, hR]
      clear hlen hb h13 hR
      go_enter Try.func15, Try.ntmps15
      go_wp2_with fail
      obtain ⟨A, hA⟩ : ∃ W' : World, (w.alloc (.cells #[.int .i64 n, .slice a k c] 24)) = W' := ⟨_, rfl⟩
      have h : Has A [(w.heap.size, .cells #[.int .i64 n, .slice a k c] 24 (0, 0))] := by rw [← hA]; simpa using ((Has.nil w).new _)
      have z : A.heap.size = w.heap.size + 1 := by rw [← hA]; simp
      have b : Below w.heap.size w A := by rw [← hA]; exact (below_alloc (below_self w) _)
      rw [hA]
      clear hA
      have HA := Lib.hid (And.intro h.hd b)
      clear h z b
      refine (askedref_ok n a k c l s t A HM.out.1 hl (HM.out.2.1.later HA.out.2)).mono ?_
      rintro e B ⟨rfl, hb⟩
      rw [H0.out.1]
      have HB := Lib.hid (And.intro (blk_below HA.out.1 hb) (below_trans HA.out.2 hb))
      clear hb HA
      have c1 : B.cell? ⟨w.heap.size, 1, none⟩ = some (.slice a k c) := (blk_cell HB.out.1 1).trans rfl
      have lb := blk_lt HB.out.1
      go_wp2_with fail
      go_ret2
      exact ⟨rfl, HB.out.2⟩
  · have hE : chkE N l s t f = askF N l s t := by unfold chkE; rw [if_neg h0]
    have hR : chkV N l s t f = 0 := by unfold chkV; rw [hE, if_neg h0]
    rw [hE, hR]
    have h0b : (askF N l s t != 0) = true := by simpa using h0
    clear hn hm hE hR
    obtain ⟨E, hE⟩ : ∃ E, askF N l s t = E := ⟨_, rfl⟩
    rw [hE] at h0 h0b
    rw [hE]
    have HE := Lib.hid hE
    clear hE
    go_enter Try.func15, Try.ntmps15
    go_wp2_with fail
    obtain ⟨A, hA⟩ : ∃ W' : World, (w.alloc (.cells #[.int .i64 N, .slice a k c] 24)) = W' := ⟨_, rfl⟩
    have h : Has A [(w.heap.size, .cells #[.int .i64 N, .slice a k c] 24 (0, 0))] := by rw [← hA]; simpa using ((Has.nil w).new _)
    have z : A.heap.size = w.heap.size + 1 := by rw [← hA]; simp
    have b : Below w.heap.size w A := by rw [← hA]; exact (below_alloc (below_self w) _)
    rw [hA]
    clear hA
    have HA := Lib.hid (And.intro h.hd b)
    clear h z b
    refine (askedref_ok N a k c l s t A HM.out.1 hl (HM.out.2.1.later HA.out.2)).mono ?_
    rintro e B ⟨rfl, hb⟩
    rw [HE.out]
    have HB := Lib.hid (below_trans HA.out.2 hb)
    clear hb HA
    go_wp2_with fail
    go_ret2
    exact ⟨rfl, HB.out⟩
end Go.Proofs.Ytgojjlnpbakfjaa
