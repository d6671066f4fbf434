/- Chapter 05: the reference's Across (written by wip/gen05acr.py). -/
import Derived.Test.YtgojjlnpbakfjaaAcr
import Derived.Test.YtgojjlnpbakfjaaNetR
namespace Go.Proofs.Ytgojjlnpbakfjaa
open Go Go.RowKit
set_option linter.unusedSimpArgs false

set_option maxRecDepth 100000 in
set_option maxHeartbeats 8000000 in
theorem acrossref_ok (N : Int) (a : Option Addr) (k c : Nat) (l : List Ar) (af : Option Addr) (kf cf : Nat) (set : List Int) (w : World) (hn : l.length = k) (hl : k ≤ 9223372036854775807) (hm : RowsAt w.heap.size w a 3 (Ars l)) (hnf : set.length = kf) (hlf : kf ≤ 9223372036854775807) (hmf : RowsAt w.heap.size w af 1 (Ints set)) :
    Calls Try.prog 27 #[.agg #[.int .i64 N, .slice a k c], .slice af kf cf] w fun e W' => e = .returned (.tuple #[.int .i64 (acrV N l set), .int .i64 (acrE N l set)]) ∧ Below w.heap.size w W' := by
  have HM := Lib.hid (And.intro hn (And.intro hm (And.intro hnf hmf)))
  clear hn hm hnf hmf
  cases hv : netOk N l
  · have h1 : acrE N l set = 1 := by unfold acrE; rw [hv]; rfl
    have h0 : acrV N l set = 0 := by unfold acrV; rw [h1]; rfl
    rw [h0, h1]
    have HV := Lib.hid hv
    clear hv h0 h1
    go_enter Try.func27, Try.ntmps27
    go_wp2_with fail
    obtain ⟨A, hA⟩ : ∃ W' : World, (w.alloc (.cells #[.int .i64 N, .slice a k c] 24)) = W' := ⟨_, rfl⟩
    have h : Has A [(w.heap.size, .cells #[.int .i64 N, .slice a k c] 24 (0, 0))] := by rw [← hA]; simpa using ((Has.nil w).new _)
    have z : A.heap.size = w.heap.size + 1 := by rw [← hA]; simp
    have b : Below w.heap.size w A := by rw [← hA]; exact (below_alloc (below_self w) _)
    rw [hA]
    clear hA
    have HA := Lib.hid (And.intro h.hd b)
    clear h z b
    refine (validref_ok N a k c l A HM.out.1 hl (HM.out.2.1.later HA.out.2)).mono ?_
    rintro e B ⟨rfl, hb⟩
    have HB := Lib.hid (below_trans HA.out.2 hb)
    clear hb HA
    rw [HV.out]
    go_wp2_with fail
    go_ret2
    exact ⟨rfl, HB.out⟩
  · obtain ⟨h2, h64, h128, hA⟩ := netOk_iff.1 hv
    obtain ⟨n, rfl⟩ : ∃ n : Nat, N = n := ⟨N.toNat, by omega⟩
    have hn64 : n ≤ 64 := by omega
    have hk : k ≤ 128 := by have := HM.out.1; omega
    have hE : acrE n l set = if incB n (-1) set = true then 0 else 2 := by unfold acrE; rw [hv]; rfl
    obtain ⟨R, hR⟩ : ∃ R, acrV n l set = R := ⟨_, rfl⟩
    obtain ⟨E, hEE⟩ : ∃ E, acrE n l set = E := ⟨_, rfl⟩
    rw [hR, hEE]
    have hbad : incB n (-1) set = false → (0 : Int) = R ∧ (2 : Int) = E := by
      intro hb
      have h13 : acrE n l set = 2 := by rw [hE, hb]; rfl
      refine ⟨?_, by rw [← hEE, h13]⟩
      rw [← hR]
      unfold acrV
      rw [h13]; rfl
    have hgood : incB n (-1) set = true → capL l set = R ∧ (0 : Int) = E := by
      intro hb
      have h13 : acrE n l set = 0 := by rw [hE, hb]; rfl
      refine ⟨?_, by rw [← hEE, h13]⟩
      rw [← hR]
      unfold acrV
      rw [h13]; rfl
    have H0 := Lib.hid (And.intro hA (And.intro hbad hgood))
    have HV := Lib.hid hv
    clear hv h2 h64 h128 hA hE hR hEE hbad hgood
    go_enter Try.func27, Try.ntmps27
    go_wp2_with fail
    obtain ⟨A, hA⟩ : ∃ W' : World, (w.alloc (.cells #[.int .i64 n, .slice a k c] 24)) = W' := ⟨_, rfl⟩
    have h : Has A [(w.heap.size, .cells #[.int .i64 n, .slice a k c] 24 (0, 0))] := by rw [← hA]; simpa using ((Has.nil w).new _)
    have z : A.heap.size = w.heap.size + 1 := by rw [← hA]; simp
    have b : Below w.heap.size w A := by rw [← hA]; exact (below_alloc (below_self w) _)
    rw [hA]
    clear hA
    have HA := Lib.hid (And.intro h.hd b)
    clear h z b
    refine (validref_ok n a k c l A HM.out.1 hl (HM.out.2.1.later HA.out.2)).mono ?_
    rintro e B ⟨rfl, hb⟩
    rw [HV.out]
    have HB := Lib.hid (And.intro (blk_below HA.out.1 hb) (below_trans HA.out.2 hb))
    clear hb HA
    have c0 : B.cell? ⟨w.heap.size, 0, none⟩ = some (.int .i64 n) := (blk_cell HB.out.1 0).trans rfl
    have c1 : B.cell? ⟨w.heap.size, 1, none⟩ = some (.slice a k c) := (blk_cell HB.out.1 1).trans rfl
    have lb := blk_lt HB.out.1
    obtain ⟨i0, hi, hz0, hz1, hz2⟩ := info_parts infoB
    go_wp2_with (with_reducible refine wpList_make_row rfl 71 _ _ rfl 4 i0 _ 1 1 Try.underlying71 hi hz0 hz1 hz2 n _ rfl rfl ?a2 ?a3 ?a4 ?_)
    case a2 => rfl
    case a3 => omega
    case a4 => omega
    intro W4 h4 hb4 hs4
    have h4' : W4.heap[B.heap.size]? = some (.cells (bRow n (fun _ => false)) 4 (0, 0)) := by
      have hm : madeCells #[Value.bool false] n = bRow n (fun _ => false) := by
        apply Array.toList_inj.1
        rw [toList_madeCells_one]
        show List.replicate n _ = (List.range n).map (fun _ => Value.bool false)
        rw [List.map_const', List.length_range]
      rw [← hm]
      simpa using h4.out
    have hC : AR w n a k c n B.heap.size (fun _ => false) W4 := ⟨below_trans HB.out.2 hb4, blk_below HB.out.1 hb4, h4', lb⟩
    have HC := Lib.hid hC
    generalize B.heap.size = g at HC ⊢
    clear c0 c1 lb h4 hb4 hs4 h4' hC HB hi hz0 hz1 hz2
    go_wp2_with fail
    go_loopw [20] (fun i wr => ∃ (j : Nat) (p : Nat → Bool) (X : World), j ≤ kf ∧ i = .int .i64 j ∧ X = wr ∧ Hid (AR w n a k c n g p X ∧ InP n set j p ∧ incB n (-1) (set.take j) = true)) (fun i _ => kf - (intOf i).toNat)
    case atStart => exact ⟨0, _, _, Nat.zero_le _, rfl, rfl, Lib.hid ⟨HC.out, InP.start n set, rfl⟩⟩
    case round =>
      clear HC
      obtain ⟨j, p, X, hj, rfl, rfl, HX⟩ := hrel
      by_cases hlt : j < kf
      · have hltI : (j : Int) < (kf : Int) := by omega
        have hjl : j < set.length := by rw [HM.out.2.2.1]; exact hlt
        obtain ⟨b2, o2, rfl, hb2, d0⟩ := ints_at (HM.out.2.2.2.later HX.out.1.bel) j hjl
        have p0 : X.cell? ⟨w.heap.size, 0, none⟩ = some (.int .i64 n) := (blk_cell HX.out.1.box 0).trans rfl
        have lp := blk_lt HX.out.1.box
        have lg := blk_lt HX.out.1.row
        have hge := lastD_ge HX.out.2.2
        have hst := incB_stop (N := n) (d := -1) (l := set) hjl
        have hnx := incB_next HX.out.2.2 hjl
        obtain ⟨y, hy⟩ : ∃ y, set.getD j default = y := ⟨_, rfl⟩
        have hlt1 := lastD_take (d := -1) hjl
        rw [hy] at d0 hst hnx hlt1
        have HK := Lib.hid (And.intro hy (And.intro hjl (And.intro hst (And.intro hnx hlt1))))
        have hz0 : j = 0 → lastD (-1) (set.take j) = -1 := fun h => by subst h; rfl
        have hz1 : ∀ i, j = i + 1 → lastD (-1) (set.take j) = set.getD i default := fun i h => by subst h; exact lastD_take (by omega)
        obtain ⟨z, hz⟩ : ∃ z, lastD (-1) (set.take j) = z := ⟨_, rfl⟩
        rw [hz] at hst hnx hge hz0 hz1
        have HK := Lib.hid (And.intro hy (And.intro hjl (And.intro hst (And.intro hnx hlt1))))
        have HZ := Lib.hid hz1
        clear hz hz1
        clear hy hjl hst hnx hlt1
        by_cases g1 : y < 0
        · have HN := Lib.hid (H0.out.2.1 (HK.out.2.2.1 (by omega)))
          go_wp2_with fail
          go_ret2
          exact ⟨by rw [← HN.out.1, ← HN.out.2]; rfl, HX.out.1.bel⟩
        · skip
          by_cases g2 : (n : Int) ≤ y
          · have HN := Lib.hid (H0.out.2.1 (HK.out.2.2.1 (by omega)))
            go_wp2_with fail
            go_ret2
            exact ⟨by rw [← HN.out.1, ← HN.out.2]; rfl, HX.out.1.bel⟩
          · skip
            by_cases g3 : j = 0
            · have hzz := hz0 g3
              subst g3
              simp only [Nat.add_zero] at d0
              obtain ⟨v, rfl⟩ : ∃ v : Nat, y = v := ⟨y.toNat, by omega⟩
              have hvI : (v : Int) < (n : Int) := by omega
              obtain ⟨qv, fv'⟩ := HX.out.1.at' (x := v) (by omega)
              have HN := Lib.hid (And.intro (HX.out.1.put v) (And.intro (HX.out.2.1.next HK.out.2.1 HK.out.1) (HK.out.2.2.2.1 (by omega) (by omega))))
              have HT := Lib.hid HK.out.2.2.2.2
              clear HK HX 
              go_wp2_with fail
              go_roundw
              case rel => exact ⟨0 + 1, _, _, by omega, by go_num, rfl, HN⟩
              case measure => simp [intOf]; omega
            · obtain ⟨i, rfl⟩ : ∃ i, j = i + 1 := ⟨j - 1, by omega⟩
              have hzi := HZ.out i rfl
              have g4 : (0 : Int) < ((i + 1 : Nat) : Int) := by omega
              obtain ⟨b3, o3, he3, hb3, d1⟩ := ints_at (HM.out.2.2.2.later HX.out.1.bel) i (by rw [HM.out.2.2.1]; omega)
              cases he3
              rw [← hzi] at d1
              have hwi : IntKind.i64.wrap (((i + 1 : Nat) : Int) - 1) = i := by rw [IntWalk.i64_in _ (by omega)]; omega
              have hiI : (i : Int) < (kf : Int) := by omega
              have HZI := Lib.hid hzi
              clear hzi hz0
              by_cases g3' : y ≤ z
              · have HN := Lib.hid (H0.out.2.1 (HK.out.2.2.1 (by omega)))
                go_wp2_with fail
                go_ret2
                exact ⟨by rw [← HN.out.1, ← HN.out.2]; rfl, HX.out.1.bel⟩
              · skip
                obtain ⟨v, rfl⟩ : ∃ v : Nat, y = v := ⟨y.toNat, by omega⟩
                have hvI : (v : Int) < (n : Int) := by omega
                obtain ⟨qv, fv'⟩ := HX.out.1.at' (x := v) (by omega)
                have HN := Lib.hid (And.intro (HX.out.1.put v) (And.intro (HX.out.2.1.next HK.out.2.1 HK.out.1) (HK.out.2.2.2.1 (by omega) (by omega))))
                have HT := Lib.hid HK.out.2.2.2.2
                clear HK HX 
                go_wp2_with fail
                go_roundw
                case rel => exact ⟨i + 1 + 1, _, _, by omega, by go_num, rfl, HN⟩
                case measure => simp [intOf]; omega
      · have hltI : ¬ (j : Int) < (kf : Int) := by omega
        obtain rfl : j = kf := by omega
        have hinc : incB n (-1) set = true := by
          have := HX.out.2.2
          rw [List.take_of_length_le (by rw [HM.out.2.2.1]; exact Nat.le_refl _)] at this
          exact this
        have hin : InP n set set.length p := by rw [HM.out.2.2.1]; exact HX.out.2.1
        have HX1 := Lib.hid (And.intro HX.out.1 (And.intro hin (H0.out.2.2 hinc)))
        clear HX hinc hin
        have p1 : X.cell? ⟨w.heap.size, 1, none⟩ = some (.slice a k c) := (blk_cell HX1.out.1.box 1).trans rfl
        have lp := blk_lt HX1.out.1.box
        go_wp2_with fail
        clear p1 lp
        go_loopw [9, 53] (fun v i wr => ∃ (q : Nat) (Y : World), q ≤ k ∧ v = .int .i64 (capS (fun x => set.contains x) (l.take q)) ∧ i = .int .i64 q ∧ Y = wr ∧ Hid (AR w n a k c n g p Y)) (fun _ i _ => k - (intOf i).toNat)
        case atStart => exact ⟨0, _, Nat.zero_le _, rfl, rfl, rfl, Lib.hid HX1.out.1⟩
        case round =>
          obtain ⟨q, Y, hq, rfl, rfl, rfl, HY⟩ := hrel
          by_cases hqk : q < k
          · have hqI : (q : Int) < (k : Int) := by omega
            have hql : q < l.length := by rw [HM.out.1]; exact hqk
            have hA := okA_iff.1 (H0.out.1 (l.getD q default) (by rw [List.getD_eq_getElem?_getD, List.getElem?_eq_getElem hql]; exact List.getElem_mem _))
            obtain ⟨b1, o1, rfl, hb1, c0, c1, c2⟩ := ars_at (HM.out.2.1.later HY.out.bel) q hql
            have hsn := take_snocA3 hql
            have hbd := capS_bound (fun x => set.contains x) (l.take q) (fun x hx => by have := okA_iff.1 (H0.out.1 x (List.mem_of_mem_take hx)); omega)
            have hlq : (l.take q).length ≤ 128 := by rw [List.length_take]; omega
            obtain ⟨x, hx⟩ : ∃ x, l.getD q default = x := ⟨_, rfl⟩
            rw [hx] at hA c0 c1 c2 hsn
            obtain ⟨xu, xv, xc⟩ := x
            simp only at hA c0 c1 c2
            obtain ⟨⟨u0, u1⟩, ⟨v0, v1⟩, huv, r0, r1⟩ := hA
            obtain ⟨u, rfl⟩ : ∃ u : Nat, xu = u := ⟨xu.toNat, by omega⟩
            obtain ⟨v, rfl⟩ : ∃ v : Nat, xv = v := ⟨xv.toNat, by omega⟩
            have hunI : (u : Int) < (n : Int) := by omega
            have hvnI : (v : Int) < (n : Int) := by omega
            have hnext := capS_snoc (fun x => set.contains x) (l.take q) ⟨u, v, xc⟩
            rw [← hsn] at hnext
            have hpu := HX1.out.2.1.all (x := u) (by omega)
            have hpv := HX1.out.2.1.all (x := v) (by omega)
            simp only at hnext
            rw [hpu, hpv] at hnext
            obtain ⟨qu, _⟩ := HY.out.at' (x := u) (by omega)
            obtain ⟨qv, _⟩ := HY.out.at' (x := v) (by omega)
            have lg := blk_lt HY.out.row
            obtain ⟨T, hT⟩ : ∃ T, capS (fun x => set.contains x) (l.take q) = T := ⟨_, rfl⟩
            rw [hT] at hnext hbd ⊢
            have hw : IntKind.i64.wrap (T + xc) = T + xc := IntWalk.i64_in _ (by omega)
            have HYn := Lib.hid (fun X' (hb : Below Y.heap.size Y X') => HY.out.later hb)
            clear hsn hbd hlq hx hT huv hpu hpv hql
            cases hu : p u
            · rw [hu] at qu hnext
              rw [if_neg (by simp)] at hnext
              have HN := Lib.hid hnext
              clear hu hnext
              go_wp2_with fail
              go_roundw
              case rel => exact ⟨q + 1, _, by omega, by rw [HN.out, Int.add_zero], by go_num, rfl, Lib.hid (HYn.out _ (below_alloc (below_self Y) _))⟩
              case measure => simp [intOf]; omega
            · cases hv : p v
              · rw [hu] at qu hnext
                rw [hv] at qv hnext
                rw [if_pos (by simp)] at hnext
                have HN := Lib.hid hnext
                clear hu hv hnext
                go_wp2_with fail
                go_roundw
                case rel => exact ⟨q + 1, _, by omega, by rw [HN.out], by go_num, rfl, Lib.hid (HYn.out _ (below_alloc (below_self Y) _))⟩
                case measure => simp [intOf]; omega
              · rw [hu] at qu hnext
                rw [hv] at qv hnext
                rw [if_neg (by simp)] at hnext
                have HN := Lib.hid hnext
                clear hu hv hnext
                go_wp2_with fail
                go_roundw
                case rel => exact ⟨q + 1, _, by omega, by rw [HN.out, Int.add_zero], by go_num, rfl, Lib.hid (HYn.out _ (below_alloc (below_self Y) _))⟩
                case measure => simp [intOf]; omega
          · have hqI : ¬ (q : Int) < (k : Int) := by omega
            obtain ⟨T, hT⟩ : ∃ T, capS (fun x => set.contains x) (l.take q) = T := ⟨_, rfl⟩
            rw [hT]
            have HT := Lib.hid (show T = R by
              rw [← HX1.out.2.2.1, ← hT, List.take_of_length_le (by rw [HM.out.1]; omega)]
              rfl)
            clear hT
            go_wp2_with fail
            go_ret2
            exact ⟨by rw [← HX1.out.2.2.2, ← HT.out]; rfl, HY.out.bel⟩
end Go.Proofs.Ytgojjlnpbakfjaa
