/- Chapter 06: the law about the sums: the walk. -/
import Derived.Test.YtnpcafhmkjdhaaaLinB
import Derived.BigQuiet
import Derived.Lib.Hide
import Derived.Deep.RegionLaw
import Derived.Deep.DrawnRows
namespace Go.Proofs.Ytnpcafhmkjdhaaa
open Go Go.RowKit

/-- Sums with their bounds. -/
def SumsB (x : Sml) (t i : Nat) (best sum : Int) : Prop :=
  Sums (fun j => arr x.ps x.ins j) x.carry t i best sum ∧ (best ≤ 1530 * ((t : Int) - i) ∧ sum ≤ 1530 * ((t : Int) - i) ∧ -(255 * ((t : Int) - i)) ≤ sum)
theorem sumsB_start (x : Sml) (t : Nat) : SumsB x t t 0 0 := ⟨sums_start _ _ _, by omega, by omega, by omega⟩
theorem sumsB_step {x : Sml} (hx : x.ok) {t i : Nat} {best sum : Int} (h : SumsB x t (i + 1) best sum) : SumsB x t i (max best (sum + (arr x.ps x.ins i - x.carry))) (sum + (arr x.ps x.ins i - x.carry)) := by
  have ha := Sml.arr_le hx i
  have hc := hx.carry
  unfold u8 at hc
  obtain ⟨h1, h2, h3, h4⟩ := h
  exact ⟨sums_step h1, by omega, by omega, by omega⟩

set_option maxRecDepth 100000 in
set_option maxHeartbeats 4000000 in
theorem closed_walk (x : SmA) (w : World) (hx : x.ok w) :
    Calls Try.prog 3 #[x.val] w fun e W' => e = .returned (.bool true) ∧ Below w.heap.size w W' := by
  have hN := x.toSml.N_le
  have hs := hx.ok.start
  have hc := hx.ok.carry
  unfold u8 at hs hc
  obtain ⟨s0, s1⟩ := hs
  obtain ⟨c0, c1⟩ := hc
  have hE := Sml.asked hx.ok (carry := x.carry) (start := x.start) (n := x.N) ⟨by omega, by omega⟩ ⟨by omega, by omega⟩ ⟨by omega, by omega⟩
  have hA0 : ∀ k : Nat, k ≤ 40 → askedE x.carry x.ps 0 x.ins k = 0 := fun k hk => Sml.asked hx.ok ⟨by omega, by omega⟩ ⟨by omega, by omega⟩ ⟨by omega, by omega⟩
  have HE := Lib.hid (And.intro hE hA0)
  have HX := Lib.hid hx
  have hw2 : IntKind.i64.wrap x.start = x.start := IntWalk.i64_in _ (by omega)
  have hw3 : IntKind.i64.wrap ((x.N : Int) + 1) = (x.N : Int) + 1 := IntWalk.i64_in _ (by omega)
  clear hx hE hA0
  go_enter Try.func3, Try.ntmps3
  go_wp2_with fail
  obtain ⟨A0, hA0⟩ : ∃ W' : World, (w.alloc (.cells x.cells.toArray 25)) = W' := ⟨_, rfl⟩
  have h0 : Has A0 [(w.heap.size, .cells x.cells.toArray 25 (0, 0))] := by rw [← hA0]; simpa using ((Has.nil w).new _)
  have z0 : A0.heap.size = w.heap.size + 1 := by rw [← hA0]; simp
  have b0 : Below w.heap.size w A0 := by rw [← hA0]; exact (below_alloc (below_self w) _)
  rw [hA0]
  clear hA0
  refine (made_ok x A0 (HX.out.later b0)).mono ?_
  rintro e W1 ⟨p, g0, g1, q1, q2, gi, rfl, hM⟩
  have hbox := blk_below h0.hd hM.bel
  have HM := Lib.hid (And.intro hM (And.intro b0 hbox))
  clear h0 z0 b0 hM hbox
  go_upto_region 2 with fail
  generalize hZ : (W1.alloc _) = Z
  have L0 := Lib.hid (HM.out.1.linb HM.out.2.1 x.carry hZ)
  have hbox : Z.heap[w.heap.size]? = some (.cells x.cells.toArray 25 (0, 0)) := by rw [← hZ]; exact blk_alloc HM.out.2.2 _
  have k2 := blk_cell hbox 1
  simp at k2
  have HB0 := Lib.hid hbox
  clear hZ HM hbox
  have k0 := L0.out.c0
  have k1 := L0.out.c1
  have kl := L0.out.lt
  go_wp2_with fail
  refine (course_ok x.carry p.1 2 p.2.2 x.ps x.start (some ⟨gi, 0, none⟩) 2 2 [g0, g1] x.ins x.N _ rfl (by omega) L0.out.pr rfl (by omega) L0.out.ir).mono ?_
  rintro e X ⟨v, rfl, ho, hb1⟩
  rw [HE.out.1]
  rw [courseV_eq HE.out.1] at ho
  obtain ⟨ac, cc, rfl, hr⟩ := ho.rows
  have hll := levs_len x.carry x.ps x.ins x.start x.N
  have L1 := Lib.hid (And.intro (L0.out.later hb1) (And.intro (blk_below HB0.out hb1) (And.intro hr hll)))
  generalize (levs x.carry x.ps x.ins x.start x.N).length = n8 at hll ⊢
  have hl8 : (n8 : Int) = (x.N : Int) + 1 := by omega
  clear k0 k1 k2 kl hb1 hr ho L0 HB0
  go_wp2_with fail
  go_loopw [8, 9] (fun v i wr => ∃ (k : Nat) (Y : World) (av : Option Addr) (cv : Nat), k ≤ x.N ∧ v = .slice av k cv ∧ i = .int .i64 k ∧ Y = wr ∧ Hid (Below X.heap.size X Y ∧ Y.ownsRow X.heap.size 3 1 (.slice av k cv) k (intsV (comes x.ps x.ins k)))) (fun _ i _ => x.N - (intOf i).toNat)
  case atStart => exact ⟨0, _, _, _, Nat.zero_le _, rfl, rfl, rfl, Lib.hid ⟨below_self X, World.ownsRow_nil _ _ _ _⟩⟩
  case round =>
    obtain ⟨k, Y, av, cv, hk, rfl, rfl, rfl, HY⟩ := hrel
    by_cases hlt : k < x.N
    · have hltI : (k : Int) < (x.N : Int) := by omega
      have L2 := Lib.hid (L1.out.1.later HY.out.1)
      have k0 := L2.out.c0
      have k1 := L2.out.c1
      go_wp2_with fail
      refine (arrives_ok x.carry p.1 2 p.2.2 x.ps (some ⟨gi, 0, none⟩) 2 2 [g0, g1] x.ins k _ rfl (by omega) L2.out.pr rfl (by omega) L2.out.ir).mono ?_
      rintro e Y1 ⟨rfl, hb2⟩
      have e0 := HE.out.2 k (by omega)
      have e1 : arrV x.carry x.ps x.ins k = arr x.ps x.ins k := if_pos e0
      rw [e0, e1]
      have hsuc := comes_succ x.ps x.ins k
      generalize arr x.ps x.ins k = y at hsuc ⊢
      have HS := Lib.hid hsuc
      have HY1 := Lib.hid (And.intro (below_trans HY.out.1 hb2) (owns_later HY.out.2 hb2))
      clear e0 e1 hsuc hb2 k0 k1 L2 HY
      obtain ⟨i0, hi, hz0, hz1, hz2⟩ := info_parts info3
      go_wp2_with (at_builtin; go_must (refine wpList_append_any rfl _ _ 32 rfl X.heap.size 3 i0 _ 1 8 Try.underlying32 hi hz0 hz1 hz2 rfl (by decide) _ _ _ rfl (HY1.out.2.alloc _) _ _ _ [.int .i64 y] rfl ?c0 ?c1 ?c2 ?c3 ?c4 ?c5 ?c6 ?_))
      case c0 => intro h; cases h
      case c1 => rfl
      case c2 => exact fun _ => ⟨_, rfl, src_new _ _ _⟩
      case c3 => simp [Value.oneCell']
      case c4 => unfold maxLen; omega
      case c5 => omega
      case c6 => have := HY1.out.1.size; simp; omega
      intro a2 cap2 W3 hown3 hgrow3
      have hoA := HY1.out.2.alloc (.cells #[.int .i64 y] 3)
      have h3w : Below X.heap.size X W3 := grown_below (below_alloc HY1.out.1 _) hoA hgrow3.out (Nat.le_refl _) (by have := HY1.out.1.size; simp; omega)
      have H3 := Lib.hid (And.intro h3w (show W3.ownsRow X.heap.size 3 1 (.slice a2 (k + 1) cap2) (k + 1) (intsV (comes x.ps x.ins (k + 1))) by rw [HS.out, intsV_app]; exact hown3.out.1))
      clear h3w hgrow3 hown3 hoA HY1 hi hz0 hz1 hz2
      go_wp2_with fail
      go_roundw
      case rel => exact ⟨k + 1, _, _, _, by omega, rfl, by go_num, rfl, H3⟩
      case measure => simp [intOf]; omega
    · have hltI : ¬ (k : Int) < (x.N : Int) := by omega
      obtain rfl : k = x.N := by omega
      clear hk hlt hltI
      have hcr : RowsAt Y.heap.size Y av 1 (Ints (comes x.ps x.ins x.N)) := (own_rows (base := X.heap.size) (h := (av, x.N, cv)) (by unfold OwnI; rw [comes_len]; exact HY.out.2)).2
      obtain ⟨bc, oc, rfl, _, _⟩ := ints_at L1.out.2.2.1 0 (by rw [levs_len]; omega)
      have HW := Lib.hid (And.intro (L1.out.1.later HY.out.1) (And.intro (blk_below L1.out.2.1 HY.out.1) (And.intro (L1.out.2.2.1.later HY.out.1) hcr)))
      clear hcr HY L1
      go_wp2_with fail
      go_loopw [12] (fun tv wr => ∃ (t : Nat) (Z : World), t ≤ x.N + 1 ∧ tv = .int .i64 t ∧ Z = wr ∧ Hid (Below Y.heap.size Y Z)) (fun tv _ => x.N + 1 - (intOf tv).toNat)
      case atStart => exact ⟨0, _, Nat.zero_le _, rfl, rfl, Lib.hid (below_self Y)⟩
      case round =>
        obtain ⟨t, Z, ht, rfl, rfl, HZ⟩ := hrel
        by_cases htn : t ≤ x.N
        · have htI : (t : Int) ≤ (x.N : Int) := by omega
          have hw4 : IntKind.i64.wrap ((t : Int) - 1) = (t : Int) - 1 := IntWalk.i64_in _ (by omega)
          go_wp2_with fail
          go_loopw [13, 14, 15] (fun bv sv iv wr => ∃ (i : Nat) (best sum : Int) (Z2 : World), i ≤ t ∧ bv = .int .i64 best ∧ sv = .int .i64 sum ∧ iv = .int .i64 ((i : Int) - 1) ∧ Z2 = wr ∧ Hid (Below Y.heap.size Y Z2 ∧ SumsB x.toSml t i best sum)) (fun _ _ iv _ => (intOf iv + 1).toNat)
          case atStart => exact ⟨t, 0, 0, _, Nat.le_refl _, rfl, rfl, rfl, rfl, Lib.hid ⟨HZ.out, sumsB_start _ _⟩⟩
          case round =>
            obtain ⟨i, best, sum, Z2, hi, rfl, rfl, rfl, rfl, HS⟩ := hrel
            by_cases hi0 : 1 ≤ i
            · obtain ⟨j, rfl⟩ : ∃ j, i = j + 1 := ⟨i - 1, by omega⟩
              have e : (((j + 1 : Nat) : Int) - 1) = (j : Int) := by omega
              rw [e]
              clear e hi0
              have hj0 : (0 : Int) ≤ (j : Int) := by omega
              have hjN : (j : Int) < (x.N : Int) := by omega
              obtain ⟨b2, o2, rfl, _, hc⟩ := ints_at (HW.out.2.2.2.later HS.out.1) j (by rw [comes_len]; omega)
              rw [comes_get (by omega)] at hc
              have k0 := (HW.out.1.later HS.out.1).c0
              have hst := sumsB_step HX.out.ok HS.out.2
              have har := Sml.arr_le HX.out.ok j
              obtain ⟨_, w1, w2, w3⟩ := HS.out.2
              have hw5 : IntKind.i64.wrap (arr x.ps x.ins j - x.carry) = arr x.ps x.ins j - x.carry := IntWalk.i64_in _ (by omega)
              have hw6 : IntKind.i64.wrap (sum + (arr x.ps x.ins j - x.carry)) = sum + (arr x.ps x.ins j - x.carry) := IntWalk.i64_in _ (by omega)
              have hw7 : IntKind.i64.wrap ((j : Int) - 1) = (j : Int) - 1 := IntWalk.i64_in _ (by omega)
              generalize arr x.ps x.ins j = a at hc hst har hw5 hw6
              obtain ⟨s2, hs2⟩ : ∃ s2, sum + (a - x.carry) = s2 := ⟨_, rfl⟩
              rw [hs2] at hst
              replace hw6 : IntKind.i64.wrap (sum + (a - x.carry)) = s2 := by rw [hw6]; exact hs2
              have hmx : (if best < s2 then s2 else best) = max best s2 := by split <;> omega
              generalize max best s2 = m2 at hst hmx
              have HT := Lib.hid (And.intro hst HS.out.1)
              clear hst har w1 w2 w3 HS hs2
              go_wp2_with fail
              go_quiet (fail)
              clear hc k0
              have HU := Lib.hid (And.intro (below_trans HT.out.2 (below_drewN (below_self Z2) nq)) HT.out.1)
              generalize Z2.drewN nq = Z3 at HU ⊢
              clear HT
              go_wp2_with fail
              go_roundw
              case rel => exact ⟨j, m2, s2, _, by omega, rfl, rfl, by go_num, rfl, HU⟩
              case measure => simp [intOf]
            · obtain rfl : i = 0 := by omega
              clear hi0 hi
              obtain ⟨b3, o3, he3, _, hc⟩ := ints_at (HW.out.2.2.1.later HS.out.1) t (by rw [levs_len]; omega)
              injection he3 with he3
              injection he3 with e1 e2 e3
              subst e1
              subst e2
              rw [levs_get htn] at hc
              have k2 := blk_cell (blk_below HW.out.2.1 HS.out.1) 1
              simp at k2
              have hfin := sums_end (s := x.start) s0 HS.out.2.1
              obtain ⟨_, w1, w2, w3⟩ := HS.out.2
              have hw8 : IntKind.i64.wrap (x.start + sum) = x.start + sum := IntWalk.i64_in _ (by omega)
              generalize lev x.carry x.ps x.ins x.start t = y at hc hfin
              have hmx : (if best < x.start + sum then x.start + sum else best) = y := by rw [hfin]; split <;> omega
              have htl : (t : Int) < (x.N : Int) + 1 := by omega
              have HT := Lib.hid HS.out.1
              clear hfin w1 w2 w3 HS e3
              go_wp2_with fail
              go_region_law (fail)
              all_goals
                clear hc k2 hw8 hmx
                have HU := Lib.hid (below_trans HT.out (below_self Z2).drew)
                clear HT
                go_wp2_with fail
                go_roundw
                case rel => exact ⟨t + 1, _, by omega, by go_num, rfl, HU⟩
                case measure => simp [intOf]; omega
        · have htI : ¬ (t : Int) ≤ (x.N : Int) := by omega
          have B9 := Lib.hid (below_trans HW.out.1.bel HZ.out)
          clear HZ HW
          go_wp2_with fail
          refine (works_ok _).mono ?_
          rintro e X9 ⟨rfl, hb9⟩
          have B10 := Lib.hid (below_trans B9.out hb9)
          clear hb9 B9
          go_wp2_with fail
          go_ret
          exact ⟨rfl, B10.out⟩
end Go.Proofs.Ytnpcafhmkjdhaaa
