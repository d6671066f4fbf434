/- Chapter 06: the law about Least: the walk. -/
import Derived.Test.YtnpcafhmkjdhaaaLinB
import Derived.BigQuiet
import Derived.Lib.Hide
namespace Go.Proofs.Ytnpcafhmkjdhaaa
open Go Go.RowKit

set_option maxRecDepth 100000 in
set_option maxHeartbeats 4000000 in
theorem least_walk (x : SmA) (limit : Int) (w : World) (hx : x.ok w) (hu : 0 ≤ limit ∧ limit ≤ 255) :
    Calls Try.prog 6 #[x.val, .int .u8 limit] w fun e W' => e = .returned (.bool true) ∧ Below w.heap.size w W' := by
  have hN := x.toSml.N_le
  have hs := hx.ok.start
  have hc := hx.ok.carry
  unfold u8 at hs hc
  obtain ⟨u0, u1⟩ := hu
  obtain ⟨s0, s1⟩ := hs
  have hask : ∀ c : Int, 0 ≤ c → c ≤ 100000000 → askedE c x.ps x.start x.ins x.N = 0 := fun c h0 h1 => Sml.asked hx.ok ⟨h0, h1⟩ ⟨by omega, by omega⟩ ⟨by omega, by omega⟩
  have harr : ∀ t : Nat, arr x.ps x.ins t ≤ 100000000 := fun t => by have := Sml.arr_le hx.ok t; omega
  have HA := Lib.hid (And.intro hask (And.intro harr (hask x.carry (by omega) (by omega))))
  have HX := Lib.hid hx
  have hw1 : IntKind.i64.wrap limit = limit := IntWalk.i64_in _ (by omega)
  have hw2 : IntKind.i64.wrap x.start = x.start := IntWalk.i64_in _ (by omega)
  clear hask harr hx hc
  go_enter Try.func6, Try.ntmps6
  go_wp2_with fail
  obtain ⟨A0, hA0⟩ : ∃ W' : World, (w.alloc (.cells x.cells.toArray 25)) = W' := ⟨_, rfl⟩
  have h0 : Has A0 [(w.heap.size, .cells x.cells.toArray 25 (0, 0))] := by rw [← hA0]; simpa using ((Has.nil w).new _)
  have z0 : A0.heap.size = w.heap.size + 1 := by rw [← hA0]; simp
  have b0 : Below w.heap.size w A0 := by rw [← hA0]; exact (below_alloc (below_self w) _)
  rw [hA0]
  clear hA0
  refine (made_ok x A0 (HX.out.later b0)).mono ?_
  rintro e W1 ⟨p, g0, g1, q1, q2, gi, rfl, hM⟩
  have hbox := blk_below h0.hd hM.bel
  have HM := Lib.hid (And.intro hM (And.intro b0 hbox))
  clear h0 z0 b0 hM hbox
  go_upto_region 2 with fail
  generalize hZ : (W1.alloc _) = Z
  have L0 := Lib.hid (HM.out.1.linb HM.out.2.1 x.carry hZ)
  have hbox : Z.heap[w.heap.size]? = some (.cells x.cells.toArray 25 (0, 0)) := by rw [← hZ]; exact blk_alloc HM.out.2.2 _
  have k1 := blk_cell hbox 1
  simp at k1
  clear hZ HM hbox
  go_quiet (fail)
  clear k1
  have L1 := Lib.hid (L0.out.later (below_drewN (below_self Z) nq))
  clear L0
  generalize Z.drewN nq = X1 at L1 ⊢
  have k0 := L1.out.c0
  have k1 := L1.out.c1
  have kl := L1.out.lt
  go_wp2_with fail
  refine (least_ok x.carry p.1 2 p.2.2 x.ps x.start (some ⟨gi, 0, none⟩) 2 2 [g0, g1] x.ins x.N limit _ rfl (by omega) L1.out.pr rfl (by omega) L1.out.ir).mono ?_
  rintro e X2 ⟨rfl, hb2⟩
  have L2 := Lib.hid (L1.out.later hb2)
  clear k0 k1 kl hb2 L1
  by_cases hle : x.start ≤ limit
  · obtain ⟨he, hsp⟩ := least_spec (limit := limit) HA.out.2.2 HA.out.2.1 s0 hle
    rw [he]
    generalize leastV x.carry x.ps x.ins x.start x.N limit = V at hsp ⊢
    have v0 := hsp.r.1
    have v1 := hsp.r.2
    have HS := Lib.hid hsp
    have hlt : ¬ limit < x.start := by omega
    clear hsp he hle
    have k0 := L2.out.c0
    have k1 := L2.out.c1
    have kl := L2.out.lt
    have kf := L2.out.f0
    go_wp2_with fail
    have L3 := Lib.hid (L2.out.set V)
    clear k0 k1 kl kf L2
    generalize X2.setCell _ _ = X3 at L3 ⊢
    have k0 := L3.out.c0
    have k1 := L3.out.c1
    have kl := L3.out.lt
    have hE := HA.out.1 V v0 v1
    have hF := first_none (limit := limit) hE HS.out.none'
    have hP := peak_fits (limit := limit) hE HS.out.none'
    go_wp2_with fail
    refine (first_ok V p.1 2 p.2.2 x.ps x.start (some ⟨gi, 0, none⟩) 2 2 [g0, g1] x.ins x.N limit _ rfl (by omega) L3.out.pr rfl (by omega) L3.out.ir).mono ?_
    rintro e X4 ⟨rfl, hb4⟩
    rw [hE, hF]
    have HE := Lib.hid (And.intro hE hP)
    have L4 := Lib.hid (L3.out.later hb4)
    clear k0 k1 kl hb4 L3 hE hF hP
    have k0 := L4.out.c0
    have k1 := L4.out.c1
    have kl := L4.out.lt
    go_wp2_with fail
    refine (peak_ok V p.1 2 p.2.2 x.ps x.start (some ⟨gi, 0, none⟩) 2 2 [g0, g1] x.ins x.N _ rfl (by omega) L4.out.pr rfl (by omega) L4.out.ir).mono ?_
    rintro e X5 ⟨rfl, hb5⟩
    rw [HE.out.1]
    have hP := HE.out.2
    generalize peakV V x.ps x.ins x.start x.N = P at hP ⊢
    generalize peakT V x.ps x.ins x.start x.N = PT
    have hPl : ¬ limit < P := by omega
    clear hP
    have L5 := Lib.hid (L4.out.later hb5)
    clear k0 k1 kl hb5 L4 HE
    have k0 := L5.out.c0
    have k1 := L5.out.c1
    have kl := L5.out.lt
    have kf := L5.out.f0
    by_cases hV : V = 0
    · clear v0 v1
      subst hV
      clear k0 k1 kl kf
      go_wp2_with fail
      refine (works_ok _).mono ?_
      rintro e X6 ⟨rfl, hb6⟩
      have B6 := Lib.hid (below_trans L5.out.bel hb6)
      clear hb6 L5
      go_wp2_with fail
      go_ret
      exact ⟨rfl, B6.out⟩
    · have hE := HA.out.1 (V - 1) (by omega) (by omega)
      obtain ⟨k, hk1, hk2, hk3, hk4⟩ := first_some (limit := limit) hE (HS.out.some' hV)
      have hw3 : IntKind.i64.wrap (V - 1) = V - 1 := IntWalk.i64_in _ (by omega)
      have HK := Lib.hid (And.intro hE (And.intro hk1 (And.intro hk3 hk4)))
      clear hE hk1 hk3 hk4 v0 v1
      go_wp2_with fail
      have L6 := Lib.hid (L5.out.set (V - 1))
      clear k0 k1 kl kf L5 hPl hw3
      generalize X5.setCell _ _ = X6 at L6 ⊢
      generalize V - 1 = U at L6 HK ⊢
      have k0 := L6.out.c0
      have k1 := L6.out.c1
      have kl := L6.out.lt
      go_wp2_with fail
      refine (first_ok U p.1 2 p.2.2 x.ps x.start (some ⟨gi, 0, none⟩) 2 2 [g0, g1] x.ins x.N limit _ rfl (by omega) L6.out.pr rfl (by omega) L6.out.ir).mono ?_
      rintro e X7 ⟨rfl, hb7⟩
      rw [HK.out.1, HK.out.2.1]
      have L7 := Lib.hid (L6.out.later hb7)
      clear k0 k1 kl hb7 L6
      have k0 := L7.out.c0
      have k1 := L7.out.c1
      have kl := L7.out.lt
      go_wp2_with fail
      refine (course_ok U p.1 2 p.2.2 x.ps x.start (some ⟨gi, 0, none⟩) 2 2 [g0, g1] x.ins x.N _ rfl (by omega) L7.out.pr rfl (by omega) L7.out.ir).mono ?_
      rintro e X8 ⟨v, rfl, ho, hb8⟩
      rw [HK.out.1]
      rw [courseV_eq HK.out.1] at ho
      obtain ⟨ac, cc, rfl, hr⟩ := ho.rows
      have hll := levs_len U x.ps x.ins x.start x.N
      have B8 := Lib.hid (L7.out.later hb8).bel
      obtain ⟨bb, ob, rfl, _, hcell⟩ := ints_at hr k (by rw [hll]; omega)
      rw [levs_get hk2] at hcell
      have hrows : Hid (∀ j, j < k → ∃ z, z ≤ limit ∧ X8.cell? ⟨bb, ob + j, none⟩ = some (.int .i64 z)) := Lib.hid fun j hj => by
        obtain ⟨b', o', e', _, hc'⟩ := ints_at hr j (by rw [hll]; omega)
        injection e' with e'
        injection e' with e1 e2 e3
        subst e1
        subst e2
        rw [levs_get (by omega)] at hc'
        exact ⟨_, HK.out.2.2.2 j hj, hc'⟩
      have hy : ¬ lev U x.ps x.ins x.start k ≤ limit := by have := HK.out.2.2.1; omega
      generalize lev U x.ps x.ins x.start k = y at hcell hy
      generalize (levs U x.ps x.ins x.start x.N).length = n8 at hll hcell ⊢
      have hk0 : ¬ (k : Int) < 0 := by omega
      have hkn : ¬ (n8 : Int) ≤ (k : Int) := by omega
      have hkl : (k : Int) < (n8 : Int) := by omega
      have hnn : n8 ≤ 41 := by omega
      clear k0 k1 kl L7 hb8 ho hr hll
      go_wp2_with fail
      clear hcell hy hk0 hkn
      go_loopw [19] (fun i wr => ∃ j : Nat, j ≤ k ∧ i = .int .i64 j ∧ wr = X8) (fun i _ => k - (intOf i).toNat)
      case atStart => exact ⟨0, Nat.zero_le _, rfl, rfl⟩
      case round =>
        obtain ⟨j, hj, rfl, rfl⟩ := hrel
        by_cases hlt : j < k
        · have hltI : (j : Int) < (k : Int) := by omega
          have hjn : (j : Int) < (n8 : Int) := by omega
          obtain ⟨z, hz, hc⟩ := hrows.out j hlt
          have hz2 : ¬ limit < z := by omega
          clear hz
          go_wp2_with fail
          go_roundw
          case rel => exact ⟨j + 1, by omega, by go_num, trivial⟩
          case measure => simp [intOf]; omega
        · have hltI : ¬ (j : Int) < (k : Int) := by omega
          go_wp2_with fail
          refine (works_ok _).mono ?_
          rintro e X9 ⟨rfl, hb9⟩
          have B9 := Lib.hid (below_trans B8.out hb9)
          clear hb9 B8
          go_wp2_with fail
          go_ret
          exact ⟨rfl, B9.out⟩
  · have he := least_beyond HA.out.2.2 (show limit < x.start by omega)
    rw [he]
    generalize leastV x.carry x.ps x.ins x.start x.N limit = V
    have hlt : limit < x.start := by omega
    clear he hle
    go_wp2_with fail
    refine (works_ok _).mono ?_
    rintro e X3 ⟨rfl, hb3⟩
    have B3 := Lib.hid (below_trans L2.out.bel hb3)
    clear hb3 L2
    go_wp2_with fail
    go_ret
    exact ⟨rfl, B3.out⟩
end Go.Proofs.Ytnpcafhmkjdhaaa
