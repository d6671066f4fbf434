/- Chapter 06: LinearKnown: the walk. -/
import Derived.Test.YtnpcafhmkjdhaaaKnownA
import Derived.Test.YtnpcafhmkjdhaaaKnownB
import Derived.Test.YtnpcafhmkjdhaaaPlainB
import Derived.WideMake
import Derived.Test.YtnpcafhmkjdhaaaMade
namespace Go.Proofs.Ytnpcafhmkjdhaaa
open Go Go.RowKit

set_option maxRecDepth 100000 in
set_option maxHeartbeats 20000000 in
theorem known_walk (w : World) : Calls Try.prog 7 #[] w fun e W' => e = .returned (.bool true) ∧ Below w.heap.size w W' := by
  go_enter Try.func7, Try.ntmps7
  go_wp2_with fail
  refine (sample_ok _).mono ?_
  rintro e W1 ⟨g, rfl, hp, hb1⟩
  have B1 := Lib.hid (And.intro hp hb1)
  clear hb1 hp
  go_upto_region 3 with fail
  obtain ⟨A1, hA1⟩ : ∃ W' : World, ((W1.alloc (.cells #[.int .i64 10, .slice (some ⟨g, 0, none⟩) 2 2] 28)).alloc (.cells #[.int .i64 7, .int .i64 0, .int .i64 10, .int .i64 12, .int .i64 0] 3)) = W' := ⟨_, rfl⟩
  have H1 : Has A1 [(W1.heap.size + 1, .cells #[.int .i64 7, .int .i64 0, .int .i64 10, .int .i64 12, .int .i64 0] 3 (0, 0)), (W1.heap.size, .cells #[.int .i64 10, .slice (some ⟨g, 0, none⟩) 2 2] 28 (0, 0))] := by rw [← hA1]; simpa using (((Has.nil W1).new _).new _)
  have s1 : A1.heap.size = W1.heap.size + 1 + 1 := by rw [← hA1]; simp
  have b1 : Below W1.heap.size W1 A1 := by rw [← hA1]; exact (below_alloc (below_alloc (below_self W1) _) _)
  rw [hA1]
  clear hA1
  have hl : Lin w A1 W1.heap.size 10 (some ⟨g, 0, none⟩, 2, 2) (none, 0, 0) sampP [] [] := ⟨H1.tl.hd, B1.out.1.later b1, ins_nil A1, below_trans B1.out.2 b1⟩
  have HW := Lib.hid (And.intro hl H1.hd)
  generalize W1.heap.size + 1 = gw at HW ⊢
  generalize W1.heap.size = B at HW ⊢
  clear hl H1 s1 b1 B1
  go_loopw [48] (fun i wr => ∃ (k : Nat) (X : World), k ≤ 5 ∧ i = .int .i64 k ∧ X = wr ∧ Hid (Lin w X B 10 (some ⟨g, 0, none⟩, 2, 2) (none, 0, 0) sampP [] [] ∧ X.heap[gw]? = some (.cells #[.int .i64 7, .int .i64 0, .int .i64 10, .int .i64 12, .int .i64 0] 3 (0, 0)))) (fun i _ => 5 - (intOf i).toNat)
  case atStart => exact ⟨0, _, by omega, rfl, rfl, HW⟩
  case round =>
    obtain ⟨k, X, hk, rfl, rfl, HX⟩ := hrel
    by_cases hlt : k < 5
    · have hltI : (k : Int) < 5 := by omega
      obtain ⟨b', o', he, hbg, hc⟩ := ints_at (ints_blk (xs := wantL) HX.out.2) k hlt
      injection he with he
      injection he with e1 e2
      subst e1 e2
      rw [Nat.zero_add] at hc
      obtain ⟨ka, ke⟩ := kn1 k hlt
      generalize wantL.getD k default = y at hc ka
      have HK := Lib.hid (And.intro ka ke)
      have k0 := HX.out.1.c0
      have k1 := HX.out.1.c1
      have kl := HX.out.1.lt
      clear ka ke hbg
      go_wp2_with fail
      obtain ⟨A, hA⟩ : ∃ W' : World, (((X.alloc (.cells #[.int .i64 7] 3)).alloc (.cells #[.int .i64 5, .int .i64 6] 3)).alloc (.cells #[.slice (some ⟨X.heap.size, 0, none⟩) 1 1, .slice (some ⟨X.heap.size + 1, 0, none⟩) 2 2] 32)) = W' := ⟨_, rfl⟩
      have H : Has A [(X.heap.size + 1 + 1, .cells #[.slice (some ⟨X.heap.size, 0, none⟩) 1 1, .slice (some ⟨X.heap.size + 1, 0, none⟩) 2 2] 32 (0, 0)), (X.heap.size + 1, .cells #[.int .i64 5, .int .i64 6] 3 (0, 0)), (X.heap.size, .cells #[.int .i64 7] 3 (0, 0))] := by rw [← hA]; simpa using ((((Has.nil X).new _).new _).new _)
      have s : A.heap.size = X.heap.size + 1 + 1 + 1 := by rw [← hA]; simp
      have b : Below X.heap.size X A := by rw [← hA]; exact (below_alloc (below_alloc (below_alloc (below_self X) _) _) _)
      rw [hA]
      clear hA
      have hi2 : InsAt A.heap.size A (some ⟨X.heap.size + 1 + 1, 0, none⟩) [(some ⟨X.heap.size, 0, none⟩, 1, 1), (some ⟨X.heap.size + 1, 0, none⟩, 2, 2)] [[7], [5, 6]] :=
        ins_two (hds_blk (hs := [(some ⟨X.heap.size, 0, none⟩, 1, 1), (some ⟨X.heap.size + 1, 0, none⟩, 2, 2)]) H.hd) rfl rfl (show 1 ≤ 9223372036854775807 by omega) (show 2 ≤ 9223372036854775807 by omega) (ints_blk (xs := [7]) H.tl.tl.hd) (ints_blk (xs := [5, 6]) H.tl.hd)
      refine (arrives_ok 10 _ 2 2 sampP _ 2 2 _ [[7], [5, 6]] k _ rfl (by omega) (HX.out.1.pr.later b) rfl (by omega) hi2).mono ?_
      rintro e X2 ⟨rfl, hb2⟩
      rw [HK.out.1, HK.out.2]
      have HX2 := Lib.hid (And.intro (HX.out.1.later (below_trans b hb2)) (blk_below HX.out.2 (below_trans b hb2)))
      clear hi2 hb2 b s H k0 k1 kl hc HX HK
      go_wp2_with fail
      go_roundw
      case rel => exact ⟨k + 1, _, by omega, by go_num, rfl, HX2⟩
      case measure => simp [intOf]; omega
    · have hltI : ¬ (k : Int) < 5 := by omega
      have HL := Lib.hid HX.out.1
      clear HX hk hlt
      obtain ⟨i0, hi, hz0, hz1, hz2⟩ := info_parts infoP
      go_wp2_with (at_make; refine wpList_make_row rfl 26 _ _ rfl 43 i0 _ 3 24 Try.underlying26 hi hz0 hz1 hz2 17 _ rfl rfl ?a2 ?a3 ?a4 ?_)
      intro W4 h4 hb4 hs4
      have hrow : W4.heap[X.heap.size]? = some (.cells (flatP zero17).toArray 43 (0, 0)) := by rw [← made17]; exact h4.out
      have H4 := Lib.hid (And.intro (HL.out.later hb4) (prts_blk hrow))
      clear h4 hb4 hs4 hrow hi hz0 hz1 hz2 HL
      generalize X.heap.size = g17 at H4 ⊢
      go_upto_region 11 with fail
      obtain ⟨W5, hW5⟩ : ∃ W' : World, (((((((W4.alloc (.cells #[.int .i64 (-1), .int .i64 0, .int .i64 0] 43)).alloc (.cells #[.int .i64 16, .int .i64 0, .int .i64 0] 43)).alloc (.cells #[.int .i64 0, .int .i64 (-1), .int .i64 0] 43)).alloc (.cells #[.int .i64 0, .int .i64 1001, .int .i64 0] 43)).alloc (.cells #[.int .i64 0, .int .i64 0, .int .i64 (-1)] 43)).alloc (.cells #[.int .i64 0, .int .i64 0, .int .i64 1001] 43)).alloc (.cells #[.int .i64 (-1), .slice none 0 0, .int .i64 100000001, .slice none 0 0, .int .i64 0, .slice (some ⟨g17, 0, none⟩) 17 17, .int .i64 0, .slice (some ⟨W4.heap.size, 0, none⟩) 1 1, .int .i64 0, .slice (some ⟨W4.heap.size + 1, 0, none⟩) 1 1, .int .i64 0, .slice (some ⟨W4.heap.size + 1 + 1, 0, none⟩) 1 1, .int .i64 0, .slice (some ⟨W4.heap.size + 1 + 1 + 1, 0, none⟩) 1 1, .int .i64 0, .slice (some ⟨W4.heap.size + 1 + 1 + 1 + 1, 0, none⟩) 1 1, .int .i64 0, .slice (some ⟨W4.heap.size + 1 + 1 + 1 + 1 + 1, 0, none⟩) 1 1] 28)) = W' := ⟨_, rfl⟩
      have H5 : Has W5 [(W4.heap.size + 1 + 1 + 1 + 1 + 1 + 1, .cells #[.int .i64 (-1), .slice none 0 0, .int .i64 100000001, .slice none 0 0, .int .i64 0, .slice (some ⟨g17, 0, none⟩) 17 17, .int .i64 0, .slice (some ⟨W4.heap.size, 0, none⟩) 1 1, .int .i64 0, .slice (some ⟨W4.heap.size + 1, 0, none⟩) 1 1, .int .i64 0, .slice (some ⟨W4.heap.size + 1 + 1, 0, none⟩) 1 1, .int .i64 0, .slice (some ⟨W4.heap.size + 1 + 1 + 1, 0, none⟩) 1 1, .int .i64 0, .slice (some ⟨W4.heap.size + 1 + 1 + 1 + 1, 0, none⟩) 1 1, .int .i64 0, .slice (some ⟨W4.heap.size + 1 + 1 + 1 + 1 + 1, 0, none⟩) 1 1] 28 (0, 0)), (W4.heap.size + 1 + 1 + 1 + 1 + 1, .cells #[.int .i64 0, .int .i64 0, .int .i64 1001] 43 (0, 0)), (W4.heap.size + 1 + 1 + 1 + 1, .cells #[.int .i64 0, .int .i64 0, .int .i64 (-1)] 43 (0, 0)), (W4.heap.size + 1 + 1 + 1, .cells #[.int .i64 0, .int .i64 1001, .int .i64 0] 43 (0, 0)), (W4.heap.size + 1 + 1, .cells #[.int .i64 0, .int .i64 (-1), .int .i64 0] 43 (0, 0)), (W4.heap.size + 1, .cells #[.int .i64 16, .int .i64 0, .int .i64 0] 43 (0, 0)), (W4.heap.size, .cells #[.int .i64 (-1), .int .i64 0, .int .i64 0] 43 (0, 0))] := by rw [← hW5]; simpa using ((((((((Has.nil W4).new _).new _).new _).new _).new _).new _).new _)
      have s5 : W5.heap.size = W4.heap.size + 1 + 1 + 1 + 1 + 1 + 1 + 1 := by rw [← hW5]; simp
      have b5 : Below W4.heap.size W4 W5 := by rw [← hW5]; exact (below_alloc (below_alloc (below_alloc (below_alloc (below_alloc (below_alloc (below_alloc (below_self W4) _) _) _) _) _) _) _)
      rw [hW5]
      clear hW5
      have hOD : OD W5 (W4.heap.size + 1 + 1 + 1 + 1 + 1 + 1) := by
        intro k hk
        have hg := blk_lt H5.hd
        rcases (show k = 0 ∨ k = 1 ∨ k = 2 ∨ k = 3 ∨ k = 4 ∨ k = 5 ∨ k = 6 ∨ k = 7 ∨ k = 8 by omega) with rfl | rfl | rfl | rfl | rfl | rfl | rfl | rfl | rfl
        · exact ⟨(-1), (none, 0, 0), [], (blk_cell H5.hd _).trans rfl, (blk_cell H5.hd _).trans rfl, rfl, (show 0 ≤ 17 by omega), RowsAt.nil _ _ _ _, by decide, hg⟩
        · exact ⟨100000001, (none, 0, 0), [], (blk_cell H5.hd _).trans rfl, (blk_cell H5.hd _).trans rfl, rfl, (show 0 ≤ 17 by omega), RowsAt.nil _ _ _ _, by decide, hg⟩
        · exact ⟨0, (some ⟨g17, 0, none⟩, 17, 17), zero17, (blk_cell H5.hd _).trans rfl, (blk_cell H5.hd _).trans rfl, rfl, (show 17 ≤ 17 by omega), H4.out.2.later b5, by decide, hg⟩
        · exact ⟨0, (some ⟨W4.heap.size, 0, none⟩, 1, 1), [⟨-1, 0, 0⟩], (blk_cell H5.hd _).trans rfl, (blk_cell H5.hd _).trans rfl, rfl, (show 1 ≤ 17 by omega), rows_one (p := ⟨-1, 0, 0⟩) H5.tl.tl.tl.tl.tl.tl.hd, by decide, hg⟩
        · exact ⟨0, (some ⟨W4.heap.size + 1, 0, none⟩, 1, 1), [⟨16, 0, 0⟩], (blk_cell H5.hd _).trans rfl, (blk_cell H5.hd _).trans rfl, rfl, (show 1 ≤ 17 by omega), rows_one (p := ⟨16, 0, 0⟩) H5.tl.tl.tl.tl.tl.hd, by decide, hg⟩
        · exact ⟨0, (some ⟨W4.heap.size + 1 + 1, 0, none⟩, 1, 1), [⟨0, -1, 0⟩], (blk_cell H5.hd _).trans rfl, (blk_cell H5.hd _).trans rfl, rfl, (show 1 ≤ 17 by omega), rows_one (p := ⟨0, -1, 0⟩) H5.tl.tl.tl.tl.hd, by decide, hg⟩
        · exact ⟨0, (some ⟨W4.heap.size + 1 + 1 + 1, 0, none⟩, 1, 1), [⟨0, 1001, 0⟩], (blk_cell H5.hd _).trans rfl, (blk_cell H5.hd _).trans rfl, rfl, (show 1 ≤ 17 by omega), rows_one (p := ⟨0, 1001, 0⟩) H5.tl.tl.tl.hd, by decide, hg⟩
        · exact ⟨0, (some ⟨W4.heap.size + 1 + 1 + 1 + 1, 0, none⟩, 1, 1), [⟨0, 0, -1⟩], (blk_cell H5.hd _).trans rfl, (blk_cell H5.hd _).trans rfl, rfl, (show 1 ≤ 17 by omega), rows_one (p := ⟨0, 0, -1⟩) H5.tl.tl.hd, by decide, hg⟩
        · exact ⟨0, (some ⟨W4.heap.size + 1 + 1 + 1 + 1 + 1, 0, none⟩, 1, 1), [⟨0, 0, 1001⟩], (blk_cell H5.hd _).trans rfl, (blk_cell H5.hd _).trans rfl, rfl, (show 1 ≤ 17 by omega), rows_one (p := ⟨0, 0, 1001⟩) H5.tl.hd, by decide, hg⟩
      have H5' := Lib.hid (And.intro (H4.out.1.later b5) hOD)
      generalize W4.heap.size + 1 + 1 + 1 + 1 + 1 + 1 = g9 at H5' ⊢
      clear H4 H5 s5 b5 hOD
      go_loopw [95] (fun i wr => ∃ (k : Nat) (X : World), k ≤ 9 ∧ i = .int .i64 k ∧ X = wr ∧ Hid (Lin w X B 10 (some ⟨g, 0, none⟩, 2, 2) (none, 0, 0) sampP [] [] ∧ OD X g9)) (fun i _ => 9 - (intOf i).toNat)
      case atStart => exact ⟨0, _, by omega, rfl, rfl, H5'⟩
      case round =>
        obtain ⟨k2, Y, hk, rfl, rfl, HY⟩ := hrel
        by_cases hlt : k2 < 9
        · have hltI2 : (k2 : Int) < 9 := by omega
          obtain ⟨c, q, ps, d0, d1, d2, d3, d4, d5, d6⟩ := HY.out.2 k2 hlt
          have HO := Lib.hid (And.intro d2 (And.intro d4 d5))
          have dl : q.2.1 ≤ 9223372036854775807 := by omega
          clear d2 d4 d5 d6 d3
          go_upto_region 13 with fail
          generalize hZ : Y.alloc _ = Z
          have hbz : Z.heap[Y.heap.size]? = some (.cells #[.int .i64 c, .slice q.1 q.2.1 q.2.2] 28 (0, 0)) := by rw [← hZ]; exact blk_new Y _
          have hb1 : Below Y.heap.size Y Z := by rw [← hZ]; exact below_alloc (below_self Y) _
          obtain ⟨gy, hgy⟩ : ∃ gy, Y.heap.size = gy := ⟨_, rfl⟩
          have HZ := Lib.hid (And.intro (show Z.heap[gy]? = some (.cells #[.int .i64 c, .slice q.1 q.2.1 q.2.2] 28 (0, 0)) by rw [← hgy]; exact hbz) hb1)
          rw [hgy] at hbz ⊢
          clear hgy
          clear hZ hb1 d0 d1
          have m0 := blk_cell hbz 0
          have m1 := blk_cell hbz 1
          have ml := blk_lt hbz
          simp at m0 m1
          clear hbz
          go_wp2_with fail
          refine (course_ok c q.1 q.2.1 q.2.2 ps (-1) none 0 0 [] [] (-1) Z HO.out.1 dl (HO.out.2.1.later HZ.out.2) rfl (by omega) (ins_nil Z)).mono ?_
          rintro e Z1 ⟨v, rfl, ho, hb1⟩
          rw [asked_one HO.out.2.2]
          obtain ⟨a1, c1, rfl, _⟩ := ho.rows
          have HZ1 := Lib.hid (And.intro (blk_below HZ.out.1 hb1) (below_trans HZ.out.2 hb1))
          clear m0 m1 ml ho hb1 HZ
          generalize (courseV c ps [] (-1) (-1)).length = n1
          have m0 := blk_cell HZ1.out.1 0
          have m1 := blk_cell HZ1.out.1 1
          have ml := blk_lt HZ1.out.1
          simp at m0 m1
          go_wp2_with fail
          refine (arrives_ok c q.1 q.2.1 q.2.2 ps none 0 0 [] [] (-1) Z1 HO.out.1 dl (HO.out.2.1.later HZ1.out.2) rfl (by omega) (ins_nil Z1)).mono ?_
          rintro e Z2 ⟨rfl, hb1⟩
          rw [asked_one HO.out.2.2]
          have HZ2 := Lib.hid (And.intro (blk_below HZ1.out.1 hb1) (below_trans HZ1.out.2 hb1))
          clear m0 m1 ml hb1 HZ1
          generalize arrV c ps [] (-1) = n2
          have m0 := blk_cell HZ2.out.1 0
          have m1 := blk_cell HZ2.out.1 1
          have ml := blk_lt HZ2.out.1
          simp at m0 m1
          go_wp2_with fail
          refine (valid_ok c q.1 q.2.1 q.2.2 ps Z2 HO.out.1 dl (HO.out.2.1.later HZ2.out.2)).mono ?_
          rintro e Z3 ⟨rfl, hb1⟩
          rw [HO.out.2.2]
          have HY3 := Lib.hid (And.intro (HY.out.1.later (below_trans HZ2.out.2 hb1)) (HY.out.2.later (below_trans HZ2.out.2 hb1)))
          clear m0 m1 ml hb1 HZ2 HY HO dl
          go_wp2_with fail
          go_roundw
          case rel => exact ⟨k2 + 1, _, by omega, by go_num, rfl, HY3⟩
          case measure => simp [intOf]; omega
        · have hltI2 : ¬ (k2 : Int) < 9 := by omega
          have HL := Lib.hid HY.out.1
          clear HY hk hlt
          go_wp2_with fail
          refine wp_region_RI rfl 17 dst18 prop18 rfl (afterLess_spec (by kernel_rfl)) (fun i hi => by unfold dst18; show _ < 348; split <;> omega) inj18 stable18 ?_ ?_
          · intro a' w' i o K hi ho hafter hK
            have HK2 := Lib.hid hK
            clear HL
            rcases (show i = 0 ∨ i = 1 ∨ i = 2 ∨ i = 3 ∨ i = 4 ∨ i = 5 ∨ i = 6 ∨ i = 7 ∨ i = 8 ∨ i = 9 ∨ i = 10 ∨ i = 11 ∨ i = 12 ∨ i = 13 ∨ i = 14 ∨ i = 15 ∨ i = 16 by omega) with rfl | rfl | rfl | rfl | rfl | rfl | rfl | rfl | rfl | rfl | rfl | rfl | rfl | rfl | rfl | rfl | rfl
            · obtain rfl := Option.some.inj ho
              refine wpOp_step rfl (fun K' hK' => ?_)
              go_simp
              exact hK' _ _ (hK _ _ (below_self w') ⟨-1, 0, (none, 0, 0), [], [], rfl, rfl, by decide, ins_nil w', asked18.1⟩)
            · obtain rfl := Option.some.inj ho
              refine wpOp_step rfl (fun K' hK' => ?_)
              go_simp
              exact hK' _ _ (hK _ _ (below_self w') ⟨100000001, 0, (none, 0, 0), [], [], rfl, rfl, by decide, ins_nil w', asked18.2.1⟩)
            · obtain rfl := Option.some.inj ho
              refine wpOp_step rfl (fun K' hK' => ?_)
              go_simp
              exact hK' _ _ (hK _ _ (below_self w') ⟨0, -1, (none, 0, 0), [], [], rfl, rfl, by decide, ins_nil w', asked18.2.2.1⟩)
            · obtain rfl := Option.some.inj ho
              refine wpOp_step rfl (fun K' hK' => ?_)
              go_simp
              exact hK' _ _ (hK _ _ (below_self w') ⟨0, 1001, (none, 0, 0), [], [], rfl, rfl, by decide, ins_nil w', asked18.2.2.2.1⟩)
            · obtain rfl := Option.some.inj ho
              obtain ⟨i1, hi1, hz0, hz1, hz2⟩ := info_parts infoN
              refine wpOp_step rfl (fun K' hK' => ?_)
              refine want_pos (by rfl) ?_
              refine wp_make_row 29 _ _ rfl 32 i1 _ 1 24 Try.underlying29 hi1 hz0 hz1 hz2 17 17 rfl rfl rfl (by omega) (by omega) ?_
              intro w4 h4 hb4 hs4
              have hrow : w4.heap[w'.heap.size]? = some (.cells ((List.replicate 17 ((none, 0, 0) : Hd)).map Hd.val).toArray 32 (0, 0)) := by rw [← made17n]; exact h4.out
              exact hK' _ _ (hK _ _ hb4 ⟨(some ⟨w'.heap.size, 0, none⟩, 17, 17), List.replicate 17 (none, 0, 0), rfl, by simp, (show 17 ≤ 2000 by omega), ins_nils w4 _ 17 (hds_blk hrow)⟩)
            · obtain rfl := Option.some.inj ho
              have hp : prop18 4 (a'.tmps.getD (dst18 4) undef) w' := hafter ⟨4, .data⟩ (by simp) rfl
              obtain ⟨q, hs, e, l1, l2, hI⟩ := hp
              have e' : a'.tmps[124]?.getD undef = .slice q.1 q.2.1 q.2.2 := slot_of e
              refine wpOp_step rfl (fun K' hK' => ?_)
              clear hK hafter e
              go_simp
              exact hK' _ _ (HK2.out _ _ (below_self w') ⟨0, 0, q, hs, List.replicate 17 [], rfl, l1, l2, hI, asked18.2.2.2.2.1⟩)
            · obtain rfl := Option.some.inj ho
              obtain ⟨i1, hi1, hz0, hz1, hz2⟩ := info_parts info3
              refine wpOp_step rfl (fun K' hK' => ?_)
              refine want_pos (by rfl) ?_
              refine wp_make_row 32 _ _ rfl 3 i1 _ 1 8 Try.underlying32 hi1 hz0 hz1 hz2 1001 1001 rfl rfl rfl (by omega) (by omega) ?_
              intro w4 h4 hb4 hs4
              have hrow : w4.heap[w'.heap.size]? = some (.cells ((List.replicate 1001 (0 : Int)).map (Value.int .i64)).toArray 3 (0, 0)) := by rw [← made1001]; exact h4.out
              exact hK' _ _ (hK _ _ hb4 ⟨(some ⟨w'.heap.size, 0, none⟩, 1001, 1001), rfl, List.length_replicate, (show 1001 ≤ 2000 by omega), ints_blk hrow⟩)
            · obtain rfl := Option.some.inj ho
              have hp : prop18 6 (a'.tmps.getD (dst18 6) undef) w' := hafter ⟨6, .data⟩ (by simp) rfl
              obtain ⟨q, e, l1, l2, hI⟩ := hp
              have e' : a'.tmps[126]?.getD undef = .slice q.1 q.2.1 q.2.2 := slot_of e
              refine wpOp_step rfl (fun K' hK' => ?_)
              clear hK hafter e
              go_simp
              exact hK' _ _ (HK2.out _ _ (below_alloc (below_self w') _) ⟨(some ⟨w'.heap.size, 0, none⟩, 1, 1), [q], rfl, rfl, (show 1 ≤ 2000 by omega), ins_one (hds_blk (hs := [q]) (blk_new w' _)) l1 (by omega) (hI.later (below_alloc (below_self w') _))⟩)
            · obtain rfl := Option.some.inj ho
              have hp : prop18 7 (a'.tmps.getD (dst18 7) undef) w' := hafter ⟨7, .data⟩ (by simp) rfl
              obtain ⟨q, hs, e, l1, l2, hI⟩ := hp
              have e' : a'.tmps[127]?.getD undef = .slice q.1 q.2.1 q.2.2 := slot_of e
              refine wpOp_step rfl (fun K' hK' => ?_)
              clear hK hafter e
              go_simp
              exact hK' _ _ (HK2.out _ _ (below_self w') ⟨0, 0, q, hs, [List.replicate 1001 0], rfl, l1, l2, hI, asked18b⟩)
            · obtain rfl := Option.some.inj ho
              refine wpOp_step rfl (fun K' hK' => ?_)
              go_simp
              exact hK' _ _ (hK _ _ (below_alloc (below_self w') _) ⟨(some ⟨w'.heap.size, 0, none⟩, 1, 1), rfl, rfl, (show 1 ≤ 2000 by omega), ints_blk (xs := [-1]) (blk_new w' _)⟩)
            · obtain rfl := Option.some.inj ho
              have hp : prop18 9 (a'.tmps.getD (dst18 9) undef) w' := hafter ⟨9, .data⟩ (by simp) rfl
              obtain ⟨q, e, l1, l2, hI⟩ := hp
              have e' : a'.tmps[129]?.getD undef = .slice q.1 q.2.1 q.2.2 := slot_of e
              refine wpOp_step rfl (fun K' hK' => ?_)
              clear hK hafter e
              go_simp
              exact hK' _ _ (HK2.out _ _ (below_alloc (below_self w') _) ⟨(some ⟨w'.heap.size, 0, none⟩, 2, 2), [(none, 0, 0), q], rfl, rfl, (show 2 ≤ 2000 by omega), ins_two (hds_blk (hs := [(none, 0, 0), q]) (blk_new w' _)) rfl l1 (Nat.zero_le _) (by omega) (RowsAt.nil _ _ _ _) (hI.later (below_alloc (below_self w') _))⟩)
            · obtain rfl := Option.some.inj ho
              have hp : prop18 10 (a'.tmps.getD (dst18 10) undef) w' := hafter ⟨10, .data⟩ (by simp) rfl
              obtain ⟨q, hs, e, l1, l2, hI⟩ := hp
              have e' : a'.tmps[130]?.getD undef = .slice q.1 q.2.1 q.2.2 := slot_of e
              refine wpOp_step rfl (fun K' hK' => ?_)
              clear hK hafter e
              go_simp
              exact hK' _ _ (HK2.out _ _ (below_self w') ⟨0, 0, q, hs, [[], [-1]], rfl, l1, l2, hI, asked18.2.2.2.2.2.1⟩)
            · obtain rfl := Option.some.inj ho
              refine wpOp_step rfl (fun K' hK' => ?_)
              go_simp
              exact hK' _ _ (hK _ _ (below_alloc (below_self w') _) ⟨(some ⟨w'.heap.size, 0, none⟩, 1, 1), rfl, rfl, (show 1 ≤ 2000 by omega), ints_blk (xs := [100000001]) (blk_new w' _)⟩)
            · obtain rfl := Option.some.inj ho
              have hp : prop18 12 (a'.tmps.getD (dst18 12) undef) w' := hafter ⟨12, .data⟩ (by simp) rfl
              obtain ⟨q, e, l1, l2, hI⟩ := hp
              have e' : a'.tmps[132]?.getD undef = .slice q.1 q.2.1 q.2.2 := slot_of e
              refine wpOp_step rfl (fun K' hK' => ?_)
              clear hK hafter e
              go_simp
              exact hK' _ _ (HK2.out _ _ (below_alloc (below_self w') _) ⟨(some ⟨w'.heap.size, 0, none⟩, 1, 1), [q], rfl, rfl, (show 1 ≤ 2000 by omega), ins_one (hds_blk (hs := [q]) (blk_new w' _)) l1 (by omega) (hI.later (below_alloc (below_self w') _))⟩)
            · obtain rfl := Option.some.inj ho
              have hp : prop18 13 (a'.tmps.getD (dst18 13) undef) w' := hafter ⟨13, .data⟩ (by simp) rfl
              obtain ⟨q, hs, e, l1, l2, hI⟩ := hp
              have e' : a'.tmps[133]?.getD undef = .slice q.1 q.2.1 q.2.2 := slot_of e
              refine wpOp_step rfl (fun K' hK' => ?_)
              clear hK hafter e
              go_simp
              exact hK' _ _ (HK2.out _ _ (below_self w') ⟨0, 0, q, hs, [[100000001]], rfl, l1, l2, hI, asked18.2.2.2.2.2.2⟩)
            · obtain rfl := Option.some.inj ho
              have p0 : prop18 0 (a'.tmps.getD (dst18 0) undef) w' := hafter ⟨0, .data⟩ (by simp) rfl
              have P0 : WP _ w' := p0
              obtain ⟨s0, n0, q0, h0, y0, e0, _⟩ := p0
              have x0 : a'.tmps[120]?.getD undef = .agg #[.int .i64 0, .slice none 0 0, .int .i64 s0, .slice q0.1 q0.2.1 q0.2.2, .int .i64 n0, .int .i64 0, .int .i64 0] := slot_of e0
              rw [e0] at P0
              have p1 : prop18 1 (a'.tmps.getD (dst18 1) undef) w' := hafter ⟨1, .data⟩ (by simp) rfl
              have P1 : WP _ w' := p1
              obtain ⟨s1, n1, q1, h1, y1, e1, _⟩ := p1
              have x1 : a'.tmps[121]?.getD undef = .agg #[.int .i64 0, .slice none 0 0, .int .i64 s1, .slice q1.1 q1.2.1 q1.2.2, .int .i64 n1, .int .i64 0, .int .i64 0] := slot_of e1
              rw [e1] at P1
              have p2 : prop18 2 (a'.tmps.getD (dst18 2) undef) w' := hafter ⟨2, .data⟩ (by simp) rfl
              have P2 : WP _ w' := p2
              obtain ⟨s2, n2, q2, h2, y2, e2, _⟩ := p2
              have x2 : a'.tmps[122]?.getD undef = .agg #[.int .i64 0, .slice none 0 0, .int .i64 s2, .slice q2.1 q2.2.1 q2.2.2, .int .i64 n2, .int .i64 0, .int .i64 0] := slot_of e2
              rw [e2] at P2
              have p3 : prop18 3 (a'.tmps.getD (dst18 3) undef) w' := hafter ⟨3, .data⟩ (by simp) rfl
              have P3 : WP _ w' := p3
              obtain ⟨s3, n3, q3, h3, y3, e3, _⟩ := p3
              have x3 : a'.tmps[123]?.getD undef = .agg #[.int .i64 0, .slice none 0 0, .int .i64 s3, .slice q3.1 q3.2.1 q3.2.2, .int .i64 n3, .int .i64 0, .int .i64 0] := slot_of e3
              rw [e3] at P3
              have p5 : prop18 5 (a'.tmps.getD (dst18 5) undef) w' := hafter ⟨5, .data⟩ (by simp) rfl
              have P5 : WP _ w' := p5
              obtain ⟨s5, n5, q5, h5, y5, e5, _⟩ := p5
              have x5 : a'.tmps[125]?.getD undef = .agg #[.int .i64 0, .slice none 0 0, .int .i64 s5, .slice q5.1 q5.2.1 q5.2.2, .int .i64 n5, .int .i64 0, .int .i64 0] := slot_of e5
              rw [e5] at P5
              have p8 : prop18 8 (a'.tmps.getD (dst18 8) undef) w' := hafter ⟨8, .data⟩ (by simp) rfl
              have P8 : WP _ w' := p8
              obtain ⟨s8, n8, q8, h8, y8, e8, _⟩ := p8
              have x8 : a'.tmps[128]?.getD undef = .agg #[.int .i64 0, .slice none 0 0, .int .i64 s8, .slice q8.1 q8.2.1 q8.2.2, .int .i64 n8, .int .i64 0, .int .i64 0] := slot_of e8
              rw [e8] at P8
              have p11 : prop18 11 (a'.tmps.getD (dst18 11) undef) w' := hafter ⟨11, .data⟩ (by simp) rfl
              have P11 : WP _ w' := p11
              obtain ⟨s11, n11, q11, h11, y11, e11, _⟩ := p11
              have x11 : a'.tmps[131]?.getD undef = .agg #[.int .i64 0, .slice none 0 0, .int .i64 s11, .slice q11.1 q11.2.1 q11.2.2, .int .i64 n11, .int .i64 0, .int .i64 0] := slot_of e11
              rw [e11] at P11
              have p14 : prop18 14 (a'.tmps.getD (dst18 14) undef) w' := hafter ⟨14, .data⟩ (by simp) rfl
              have P14 : WP _ w' := p14
              obtain ⟨s14, n14, q14, h14, y14, e14, _⟩ := p14
              have x14 : a'.tmps[134]?.getD undef = .agg #[.int .i64 0, .slice none 0 0, .int .i64 s14, .slice q14.1 q14.2.1 q14.2.2, .int .i64 n14, .int .i64 0, .int .i64 0] := slot_of e14
              rw [e14] at P14
              refine wpOp_step rfl (fun K' hK' => ?_)
              clear hK hafter e0 e1 e2 e3 e5 e8 e11 e14
              have HP := Lib.hid (And.intro P0 ( And.intro P1 ( And.intro P2 ( And.intro P3 ( And.intro P5 ( And.intro P8 ( And.intro P11 (P14))))))))
              clear P0 P1 P2 P3 P5 P8 P11 P14
              go_simp
              have hfp : FP (.slice (some ⟨w'.heap.size, 0, none⟩) 8 8) (w'.alloc (.cells #[.int .i64 0, .slice none 0 0, .int .i64 s0, .slice q0.1 q0.2.1 q0.2.2, .int .i64 n0, .int .i64 0, .int .i64 0, .int .i64 0, .slice none 0 0, .int .i64 s1, .slice q1.1 q1.2.1 q1.2.2, .int .i64 n1, .int .i64 0, .int .i64 0, .int .i64 0, .slice none 0 0, .int .i64 s2, .slice q2.1 q2.2.1 q2.2.2, .int .i64 n2, .int .i64 0, .int .i64 0, .int .i64 0, .slice none 0 0, .int .i64 s3, .slice q3.1 q3.2.1 q3.2.2, .int .i64 n3, .int .i64 0, .int .i64 0, .int .i64 0, .slice none 0 0, .int .i64 s5, .slice q5.1 q5.2.1 q5.2.2, .int .i64 n5, .int .i64 0, .int .i64 0, .int .i64 0, .slice none 0 0, .int .i64 s8, .slice q8.1 q8.2.1 q8.2.2, .int .i64 n8, .int .i64 0, .int .i64 0, .int .i64 0, .slice none 0 0, .int .i64 s11, .slice q11.1 q11.2.1 q11.2.2, .int .i64 n11, .int .i64 0, .int .i64 0, .int .i64 0, .slice none 0 0, .int .i64 s14, .slice q14.1 q14.2.1 q14.2.2, .int .i64 n14, .int .i64 0, .int .i64 0] 52)) := by
                refine ⟨_, rfl, [.agg #[.int .i64 0, .slice none 0 0, .int .i64 s0, .slice q0.1 q0.2.1 q0.2.2, .int .i64 n0, .int .i64 0, .int .i64 0], .agg #[.int .i64 0, .slice none 0 0, .int .i64 s1, .slice q1.1 q1.2.1 q1.2.2, .int .i64 n1, .int .i64 0, .int .i64 0], .agg #[.int .i64 0, .slice none 0 0, .int .i64 s2, .slice q2.1 q2.2.1 q2.2.2, .int .i64 n2, .int .i64 0, .int .i64 0], .agg #[.int .i64 0, .slice none 0 0, .int .i64 s3, .slice q3.1 q3.2.1 q3.2.2, .int .i64 n3, .int .i64 0, .int .i64 0], .agg #[.int .i64 0, .slice none 0 0, .int .i64 s5, .slice q5.1 q5.2.1 q5.2.2, .int .i64 n5, .int .i64 0, .int .i64 0], .agg #[.int .i64 0, .slice none 0 0, .int .i64 s8, .slice q8.1 q8.2.1 q8.2.2, .int .i64 n8, .int .i64 0, .int .i64 0], .agg #[.int .i64 0, .slice none 0 0, .int .i64 s11, .slice q11.1 q11.2.1 q11.2.2, .int .i64 n11, .int .i64 0, .int .i64 0], .agg #[.int .i64 0, .slice none 0 0, .int .i64 s14, .slice q14.1 q14.2.1 q14.2.2, .int .i64 n14, .int .i64 0, .int .i64 0]], rfl, ?_, ?_⟩
                rotate_left
                · have := blk_new w' (.cells #[.int .i64 0, .slice none 0 0, .int .i64 s0, .slice q0.1 q0.2.1 q0.2.2, .int .i64 n0, .int .i64 0, .int .i64 0, .int .i64 0, .slice none 0 0, .int .i64 s1, .slice q1.1 q1.2.1 q1.2.2, .int .i64 n1, .int .i64 0, .int .i64 0, .int .i64 0, .slice none 0 0, .int .i64 s2, .slice q2.1 q2.2.1 q2.2.2, .int .i64 n2, .int .i64 0, .int .i64 0, .int .i64 0, .slice none 0 0, .int .i64 s3, .slice q3.1 q3.2.1 q3.2.2, .int .i64 n3, .int .i64 0, .int .i64 0, .int .i64 0, .slice none 0 0, .int .i64 s5, .slice q5.1 q5.2.1 q5.2.2, .int .i64 n5, .int .i64 0, .int .i64 0, .int .i64 0, .slice none 0 0, .int .i64 s8, .slice q8.1 q8.2.1 q8.2.2, .int .i64 n8, .int .i64 0, .int .i64 0, .int .i64 0, .slice none 0 0, .int .i64 s11, .slice q11.1 q11.2.1 q11.2.2, .int .i64 n11, .int .i64 0, .int .i64 0, .int .i64 0, .slice none 0 0, .int .i64 s14, .slice q14.1 q14.2.1 q14.2.2, .int .i64 n14, .int .i64 0, .int .i64 0] 52)
                  simpa [Value.cells] using this
                intro k hk
                rcases (show k = 0 ∨ k = 1 ∨ k = 2 ∨ k = 3 ∨ k = 4 ∨ k = 5 ∨ k = 6 ∨ k = 7 by omega) with rfl | rfl | rfl | rfl | rfl | rfl | rfl | rfl
                · exact WP.later HP.out.1 (below_alloc (below_self w') _)
                · exact WP.later HP.out.2.1 (below_alloc (below_self w') _)
                · exact WP.later HP.out.2.2.1 (below_alloc (below_self w') _)
                · exact WP.later HP.out.2.2.2.1 (below_alloc (below_self w') _)
                · exact WP.later HP.out.2.2.2.2.1 (below_alloc (below_self w') _)
                · exact WP.later HP.out.2.2.2.2.2.1 (below_alloc (below_self w') _)
                · exact WP.later HP.out.2.2.2.2.2.2.1 (below_alloc (below_self w') _)
                · exact WP.later HP.out.2.2.2.2.2.2.2 (below_alloc (below_self w') _)
              exact hK' _ _ (HK2.out _ _ (below_alloc (below_self w') _) hfp)
            · obtain rfl := Option.some.inj ho
              have hp : prop18 15 (a'.tmps.getD (dst18 15) undef) w' := hafter ⟨15, .data⟩ (by simp) rfl
              have hp2 := hp
              obtain ⟨g', e, _⟩ := hp
              have e' : a'.tmps[135]?.getD undef = .slice (some ⟨g', 0, none⟩) 8 8 := slot_of e
              have hp3 : prop18 16 (a'.tmps[135]?.getD undef) w' := by rw [← Array.getD_eq_getD_getElem?]; exact hp2
              refine wpOp_step rfl (fun K' hK' => ?_)
              clear hK hafter e e'
              go_simp
              exact hK' _ _ (HK2.out _ _ (below_self w') hp3)
          · intro gv w6 hp hb6
            obtain ⟨gA, eA, hA⟩ := hp 16 (by omega)
            have HL6 := Lib.hid (And.intro (HL.out.later hb6) (show FP (.slice (some ⟨gA, 0, none⟩) 8 8) w6 from ⟨gA, rfl, hA⟩))
            have eA' : gv 13 = .slice (some ⟨gA, 0, none⟩) 8 8 := eA
            rw [puts18, eA']
            clear hp hb6 eA eA' hA HL
            simp only [List.setIfInBounds_toArray, List.set_cons_zero, List.set_cons_succ]
            go_upto_region 20 with fail
            go_loopw [138] (fun i wr => ∃ (k : Nat) (X : World), k ≤ 8 ∧ i = .int .i64 k ∧ X = wr ∧ Hid (Lin w X B 10 (some ⟨g, 0, none⟩, 2, 2) (none, 0, 0) sampP [] [] ∧ FP (.slice (some ⟨gA, 0, none⟩) 8 8) X)) (fun i _ => 8 - (intOf i).toNat)
            case atStart => exact ⟨0, _, by omega, rfl, rfl, HL6⟩
            case round =>
              obtain ⟨k3, Y, hk, rfl, rfl, HY⟩ := hrel
              by_cases hlt : k3 < 8
              · have hltI3 : (k3 : Int) < 8 := by omega
                obtain ⟨st, nn, q, hs, ins, d0, d1, d2, d3, d4, d5, d6, p1, p2, p3, p4⟩ := FP.row HY.out.2 hlt
                have HO := Lib.hid (And.intro p1 (And.intro p3 (And.intro p4 True.intro)))
                have dl : q.2.1 ≤ 9223372036854775807 := by omega
                clear p1 p2 p3 p4
                go_upto_region 22 with fail
                generalize hZ : Y.alloc _ = Z
                have hbz : Z.heap[Y.heap.size]? = some (.cells #[.int .i64 0, .slice none 0 0, .int .i64 st, .slice q.1 q.2.1 q.2.2, .int .i64 nn, .int .i64 0, .int .i64 0] 52 (0, 0)) := by rw [← hZ]; exact blk_new Y _
                have hb1 : Below Y.heap.size Y Z := by rw [← hZ]; exact below_alloc (below_self Y) _
                obtain ⟨gy, hgy⟩ : ∃ gy, Y.heap.size = gy := ⟨_, rfl⟩
                have HZ := Lib.hid (And.intro (show Z.heap[gy]? = some (.cells #[.int .i64 0, .slice none 0 0, .int .i64 st, .slice q.1 q.2.1 q.2.2, .int .i64 nn, .int .i64 0, .int .i64 0] 52 (0, 0)) by rw [← hgy]; exact hbz) (And.intro (HY.out.1.later hb1) hb1))
                rw [hgy]
                clear hgy hZ hb1 d0 d1 d2 d3 d4 d5 d6 hbz
                have m2 : _ = some (Value.int .i64 st) := (blk_cell HZ.out.1 2).trans rfl
                have m3 : _ = some (Value.slice q.1 q.2.1 q.2.2) := (blk_cell HZ.out.1 3).trans rfl
                have m4 : _ = some (Value.int .i64 nn) := (blk_cell HZ.out.1 4).trans rfl
                have ml := blk_lt HZ.out.1
                have k0 := HZ.out.2.1.c0
                have k1 := HZ.out.2.1.c1
                have kl := HZ.out.2.1.lt
                go_wp2_with fail
                refine (course_ok 10 _ 2 2 sampP st q.1 q.2.1 q.2.2 hs ins nn _ rfl (by omega) HZ.out.2.1.pr HO.out.1 dl (HO.out.2.1.later HZ.out.2.2)).mono ?_
                rintro e Z0 ⟨v, rfl, ho, hb1⟩
                rw [HO.out.2.2.1]
                obtain ⟨a1, c1, rfl, _⟩ := ho.rows
                clear ho
                generalize (courseV 10 sampP ins st nn).length = n1
                have HZ0 := Lib.hid (And.intro (blk_below HZ.out.1 hb1) (And.intro (HZ.out.2.1.later hb1) (below_trans HZ.out.2.2 hb1)))
                clear m2 m3 m4 ml k0 k1 kl hb1 HZ
                have m2 : _ = some (Value.int .i64 st) := (blk_cell HZ0.out.1 2).trans rfl
                have m3 : _ = some (Value.slice q.1 q.2.1 q.2.2) := (blk_cell HZ0.out.1 3).trans rfl
                have m4 : _ = some (Value.int .i64 nn) := (blk_cell HZ0.out.1 4).trans rfl
                have ml := blk_lt HZ0.out.1
                have k0 := HZ0.out.2.1.c0
                have k1 := HZ0.out.2.1.c1
                have kl := HZ0.out.2.1.lt
                go_wp2_with fail
                refine (peak_ok 10 _ 2 2 sampP st q.1 q.2.1 q.2.2 hs ins nn _ rfl (by omega) HZ0.out.2.1.pr HO.out.1 dl (HO.out.2.1.later HZ0.out.2.2)).mono ?_
                rintro e Z1 ⟨rfl, hb1⟩
                rw [HO.out.2.2.1]
                generalize peakT 10 sampP ins st nn = r1
                generalize peakV 10 sampP ins st nn = r2
                have HZ1 := Lib.hid (And.intro (blk_below HZ0.out.1 hb1) (And.intro (HZ0.out.2.1.later hb1) (below_trans HZ0.out.2.2 hb1)))
                clear m2 m3 m4 ml k0 k1 kl hb1 HZ0
                have m2 : _ = some (Value.int .i64 st) := (blk_cell HZ1.out.1 2).trans rfl
                have m3 : _ = some (Value.slice q.1 q.2.1 q.2.2) := (blk_cell HZ1.out.1 3).trans rfl
                have m4 : _ = some (Value.int .i64 nn) := (blk_cell HZ1.out.1 4).trans rfl
                have ml := blk_lt HZ1.out.1
                have k0 := HZ1.out.2.1.c0
                have k1 := HZ1.out.2.1.c1
                have kl := HZ1.out.2.1.lt
                go_wp2_with fail
                refine (first_ok 10 _ 2 2 sampP st q.1 q.2.1 q.2.2 hs ins nn 0 _ rfl (by omega) HZ1.out.2.1.pr HO.out.1 dl (HO.out.2.1.later HZ1.out.2.2)).mono ?_
                rintro e Z2 ⟨rfl, hb1⟩
                rw [HO.out.2.2.1]
                generalize firstV 10 sampP ins st nn 0 = r3
                have HZ2 := Lib.hid (And.intro (blk_below HZ1.out.1 hb1) (And.intro (HZ1.out.2.1.later hb1) (below_trans HZ1.out.2.2 hb1)))
                clear m2 m3 m4 ml k0 k1 kl hb1 HZ1
                have m2 : _ = some (Value.int .i64 st) := (blk_cell HZ2.out.1 2).trans rfl
                have m3 : _ = some (Value.slice q.1 q.2.1 q.2.2) := (blk_cell HZ2.out.1 3).trans rfl
                have m4 : _ = some (Value.int .i64 nn) := (blk_cell HZ2.out.1 4).trans rfl
                have ml := blk_lt HZ2.out.1
                have k0 := HZ2.out.2.1.c0
                have k1 := HZ2.out.2.1.c1
                have kl := HZ2.out.2.1.lt
                go_wp2_with fail
                refine (least_ok 10 _ 2 2 sampP st q.1 q.2.1 q.2.2 hs ins nn (-1) _ rfl (by omega) HZ2.out.2.1.pr HO.out.1 dl (HO.out.2.1.later HZ2.out.2.2)).mono ?_
                rintro e Z3 ⟨rfl, hb1⟩
                rw [leastE_two HO.out.2.2.1]
                generalize leastV 10 sampP ins st nn (-1) = r4
                have HZ3 := Lib.hid (And.intro (blk_below HZ2.out.1 hb1) (And.intro (HZ2.out.2.1.later hb1) (below_trans HZ2.out.2.2 hb1)))
                clear m2 m3 m4 ml k0 k1 kl hb1 HZ2
                have HY3 := Lib.hid (And.intro HZ3.out.2.1 (HY.out.2.later HZ3.out.2.2))
                clear HZ3 HY HO dl
                go_wp2_with fail
                go_roundw
                case rel => exact ⟨k3 + 1, _, by omega, by go_num, rfl, HY3⟩
                case measure => simp [intOf]; omega
              · have hltI3 : ¬ (k3 : Int) < 8 := by omega
                have HL7 := Lib.hid HY.out.1
                clear HY hk hlt
                obtain ⟨i3, hi3, hz0, hz1, hz2⟩ := info_parts infoP
                go_wp2_with (at_make; refine wpList_make_row rfl 26 _ _ rfl 43 i3 _ 3 24 Try.underlying26 hi3 hz0 hz1 hz2 16 _ rfl rfl rfl (by omega) (by omega) ?_)
                intro W8 h8 hb8 hs8
                have hpr : W8.heap[Y.heap.size]? = some (.cells (flatP (bigTo 0)).toArray 43 (0, 0)) := by rw [← made16p]; exact h8.out
                have hgY : g < Y.heap.size := by
                  obtain ⟨b, off, e, hb, _⟩ := HL7.out.pr 0 _ rfl
                  injection e with e
                  injection e with e1
                  omega
                have hBY : B < Y.heap.size := HL7.out.lt
                have hwY : w.heap.size ≤ Y.heap.size := HL7.out.bel.size
                have HL8 := HL7.out.later hb8
                generalize Y.heap.size = gp at hpr hgY hBY hwY hs8 ⊢
                have H8 := Lib.hid (And.intro HL8 (And.intro hpr (And.intro hgY (And.intro hBY (And.intro hwY hs8)))))
                clear h8 hb8 hpr hgY hBY hwY HL8 HL7 hi3 hz0 hz1 hz2 hs8
                go_upto_region 31 with fail
                generalize hW9 : W8.alloc _ = W9
                have hB9 := Lib.hid (show BS w W9 B g gp W8.heap.size 0 by
                  rw [← hW9]
                  exact ⟨H8.out.1.later (below_alloc (below_self W8) _), blk_alloc H8.out.2.1 _, blk_new W8 _, H8.out.2.2.1, H8.out.2.2.2.1, by have := H8.out.2.2.2.2.2; omega, H8.out.2.2.2.2.1⟩)
                generalize W8.heap.size = gb at hB9 ⊢
                clear hW9 H8
                go_loopw [207] (fun i wr => ∃ (k : Nat) (X : World), k ≤ 16 ∧ i = .int .i64 k ∧ X = wr ∧ Hid (BS w X B g gp gb k)) (fun i _ => 16 - (intOf i).toNat)
                case atStart => exact ⟨0, _, by omega, rfl, rfl, hB9⟩
                case round =>
                  obtain ⟨k4, X4, hk, rfl, rfl, HX4⟩ := hrel
                  by_cases hlt : k4 < 16
                  · have hltI4 : (k4 : Int) < 16 := by omega
                    have y1 := blk_cell HX4.out.bx 1
                    have yl := blk_lt HX4.out.bx
                    simp at y1
                    obtain ⟨b', o', e', _, d0, d1, d2⟩ := prts_at (prts_blk HX4.out.pr) k4 (by simp [bigTo]; exact hlt)
                    injection e' with e'
                    injection e' with e1 e2
                    subst e1 e2
                    simp only [Nat.zero_add] at d0 d1 d2
                    have f0 := blk_frozen HX4.out.pr (k4 * 3)
                    have f1 := blk_frozen HX4.out.pr (k4 * 3 + 1)
                    have f2 := blk_frozen HX4.out.pr (k4 * 3 + 2)
                    have HS4 := Lib.hid (HX4.out.step hlt)
                    clear HX4
                    go_wp2_with fail
                    clear y1 yl d0 d1 d2 f0 f1 f2
                    go_roundw
                    case rel => exact ⟨k4 + 1, _, by omega, by go_num, rfl, HS4⟩
                    case measure => simp [intOf]; omega
                  · have hltI4 : ¬ (k4 : Int) < 16 := by omega
                    have hk16 : k4 = 16 := by omega
                    have HB := Lib.hid (show BS w X4 B g gp gb 16 from hk16 ▸ HX4.out)
                    clear HX4 hk16 hk hlt
                    obtain ⟨i4, hi4, hz0, hz1, hz2⟩ := info_parts infoN
                    go_wp2_with (at_make; refine wpList_make_row rfl 29 _ _ rfl 32 i4 _ 1 24 Try.underlying29 hi4 hz0 hz1 hz2 16 _ rfl rfl rfl (by omega) (by omega) ?_)
                    intro W10 h10 hb10 hs10
                    have hgi : W10.heap[X4.heap.size]? = some (.cells ((List.replicate 16 ((none, 0, 0) : Hd)).map Hd.val).toArray 32 (0, 0)) := by rw [← made16n]; exact h10.out
                    have hC := Lib.hid (show CS w W10 B g gp gb X4.heap.size 0 W10.heap.size (List.replicate 16 (none, 0, 0)) from ⟨HB.out.later hb10, hgi, List.length_replicate, fun j hj => by omega, blk_lt HB.out.bx, by omega⟩)
                    generalize X4.heap.size = gi at hC ⊢
                    clear h10 hb10 hs10 hgi HB hi4 hz0 hz1 hz2
                    go_upto_region 37 with fail
                    go_loopw [220] (fun i wr => ∃ (k : Nat) (X : World) (hs : List Hd) (N : Nat), k ≤ 16 ∧ i = .int .i64 k ∧ X = wr ∧ N ≤ X.heap.size ∧ Hid (CS w X B g gp gb gi k N hs)) (fun i _ => 16 - (intOf i).toNat)
                    case atStart => exact ⟨0, _, _, _, by omega, rfl, rfl, Nat.le_refl _, hC⟩
                    case round =>
                      obtain ⟨k5, X5, hs5, N5, hk, rfl, rfl, hN5, HC⟩ := hrel
                      by_cases hlt : k5 < 16
                      · have hltI5 : (k5 : Int) < 16 := by omega
                        obtain ⟨i5, hi5, hz0, hz1, hz2⟩ := info_parts info3
                        go_wp2_with (at_make; refine wpList_make_row rfl 32 _ _ rfl 3 i5 _ 1 8 Try.underlying32 hi5 hz0 hz1 hz2 1000 _ rfl rfl rfl (by omega) (by omega) ?_)
                        intro W11 h11 hb11 hs11
                        have hgN : W11.heap[X5.heap.size]? = some (.cells ((fillTo 0).map (Value.int .i64)).toArray 3 (0, 0)) := by rw [← made1000']; exact h11.out
                        have hC11 := HC.out.later hb11
                        obtain ⟨gN, hgNe⟩ : ∃ gN, X5.heap.size = gN := ⟨_, rfl⟩
                        rw [hgNe] at hgN hN5 ⊢
                        have d0 := hC11.cell hlt (q := hs5.getD k5 default) rfl
                        have f0 := blk_frozen hC11.gr k5
                        have dl := blk_lt hC11.gr
                        have H11 := Lib.hid (And.intro hC11 hgN)
                        clear h11 hb11 hs11 hgN hC11 HC hi5 hz0 hz1 hz2 hgNe
                        generalize hs5.getD k5 default = q5 at d0
                        go_upto_region 40 with fail
                        have hP := Lib.hid (And.intro (H11.out.1.put (i := k5) (some ⟨gN, 0, none⟩, 1000, 1000)) (show (W11.setCell ⟨gi, k5, none⟩ (.slice (some ⟨gN, 0, none⟩) 1000 1000)).heap[gN]? = some (.cells ((fillTo 0).map (Value.int .i64)).toArray 3 (0, 0)) from blk_set H11.out.2 (by have := H11.out.1.ord; show gN ≠ gi; omega) _))
                        have hq5 : (hs5.set k5 (some ⟨gN, 0, none⟩, 1000, 1000)).getD k5 default = (some ⟨gN, 0, none⟩, 1000, 1000) := by
                          rw [List.getD_eq_getElem?_getD, List.getElem?_set, if_pos rfl, if_pos (by rw [H11.out.1.hl]; exact hlt)]
                          rfl
                        have HQ := Lib.hid hq5
                        clear d0 f0 dl H11 hq5
                        replace hP : Hid (CS w (W11.setCell ⟨gi, k5, none⟩ (.slice (some ⟨gN, 0, none⟩) 1000 1000)) B g gp gb gi k5 N5 (hs5.set k5 (some ⟨gN, 0, none⟩, 1000, 1000)) ∧ (W11.setCell ⟨gi, k5, none⟩ (.slice (some ⟨gN, 0, none⟩) 1000 1000)).heap[gN]? = some (.cells ((fillTo 0).map (Value.int .i64)).toArray 3 (0, 0))) := hP
                        generalize W11.setCell _ _ = X12 at hP ⊢
                        generalize hs5.set k5 _ = hs6 at hP HQ
                        have d0 := hP.out.1.cell hlt HQ.out
                        simp only at d0
                        go_wp2_with fail
                        clear d0
                        go_loopw [232] (fun i wr => ∃ (t : Nat) (Z : World), t ≤ 1000 ∧ i = .int .i64 t ∧ Z = wr ∧ Hid (CS w Z B g gp gb gi k5 N5 hs6 ∧ Z.heap[gN]? = some (.cells ((fillTo t).map (Value.int .i64)).toArray 3 (0, 0)))) (fun i _ => 1000 - (intOf i).toNat)
                        case atStart => exact ⟨0, _, by omega, rfl, rfl, hP⟩
                        case round =>
                          obtain ⟨t6, Z6, ht, rfl, rfl, HZ⟩ := hrel
                          by_cases ht6 : t6 < 1000
                          · have htI6 : (t6 : Int) < 1000 := by omega
                            have d0 := HZ.out.1.cell hlt HQ.out
                            simp only at d0
                            obtain ⟨b', o', e', _, d1⟩ := ints_at (ints_blk HZ.out.2) t6 (by rw [fill_len t6 ht]; exact ht6)
                            injection e' with e'
                            injection e' with e1 e2
                            subst e1 e2
                            rw [Nat.zero_add] at d1
                            have f1 := blk_frozen HZ.out.2 t6
                            have HN := Lib.hid (show CS w (Z6.setCell ⟨gN, t6, none⟩ (.int .i64 100000000)) B g gp gb gi k5 N5 hs6 ∧ (Z6.setCell ⟨gN, t6, none⟩ (.int .i64 100000000)).heap[gN]? = some (.cells ((fillTo (t6 + 1)).map (Value.int .i64)).toArray 3 (0, 0)) from ⟨HZ.out.1.far hN5 _, by rw [← fill_set t6 ht6]; exact blk_setcell HZ.out.2⟩)
                            clear HZ
                            go_wp2_with fail
                            clear d0 d1 f1
                            go_roundw
                            case rel => exact ⟨t6 + 1, _, by omega, by go_num, rfl, HN⟩
                            case measure => simp [intOf]; omega
                          · have htI6 : ¬ (t6 : Int) < 1000 := by omega
                            have ht1000 : t6 = 1000 := by omega
                            have hlZ := blk_lt HZ.out.2
                            have HN := Lib.hid (HZ.out.1.next HQ.out hN5 (ht1000 ▸ HZ.out.2))
                            clear HZ ht1000 ht ht6
                            go_wp2_with fail
                            go_roundw
                            case rel => exact ⟨k5 + 1, _, _, _, by omega, by go_num, rfl, hlZ, HN⟩
                            case measure => simp [intOf]; omega
                      · have hltI5 : ¬ (k5 : Int) < 16 := by omega
                        have hk16 : k5 = 16 := by omega
                        have HI := Lib.hid (show CS w X5 B g gp gb gi 16 N5 hs5 from hk16 ▸ HC.out)
                        clear HC hk16 hk hlt hN5
                        have y0 := blk_cell HI.out.bs.bx 0
                        have y1 := blk_cell HI.out.bs.bx 1
                        have yl := blk_lt HI.out.bs.bx
                        simp at y0 y1
                        go_wp2_with fail
                        refine (course_ok 0 _ 16 16 bigP 100000000 _ 16 16 hs5 bigI 1000 X5 bigP_len (by omega) (prts_blk HI.out.bs.pr) bigI_len (by omega) HI.out.ins).mono ?_
                        rintro e X13 ⟨v, rfl, ho, hb13⟩
                        rw [asked_big]
                        rw [course_big] at ho
                        obtain ⟨ac, cc, rfl, hr⟩ := ho.rows
                        have hlen : (levs 0 bigP bigI 100000000 1000).length = 1001 := levs_len _ _ _ _ _
                        obtain ⟨bc, oc, rfl, hbc, hcell⟩ := ints_at hr 1000 (by rw [hlen]; omega)
                        rw [levs_get (Nat.le_refl _), lev_big 1000 (Nat.le_refl _)] at hcell
                        rw [hlen]
                        have hcell' : X13.cell? ⟨bc, oc + 1000, none⟩ = some (.int .i64 1600000100000000) := hcell
                        have HI13 := Lib.hid (And.intro (HI.out.later hb13) (And.intro hcell' hbc))
                        clear y0 y1 yl hr ho hlen hcell hcell' hbc hb13 HI
                        have y0 := blk_cell HI13.out.1.bs.bx 0
                        have y1 := blk_cell HI13.out.1.bs.bx 1
                        have yl := blk_lt HI13.out.1.bs.bx
                        simp at y0 y1
                        go_wp2_with fail
                        refine (least_ok 0 _ 16 16 bigP 100000000 _ 16 16 hs5 bigI 1000 100000000 X13 bigP_len (by omega) (prts_blk HI13.out.1.bs.pr) bigI_len (by omega) HI13.out.1.ins).mono ?_
                        rintro e X14 ⟨rfl, hb14⟩
                        rw [least_big]
                        generalize leastV 0 bigP bigI 100000000 1000 100000000 = vB
                        have hcell := cell_call hb14 (a := ⟨bc, oc + 1000, none⟩) HI13.out.2.2 HI13.out.2.1
                        have L0 := Lib.hid (HI13.out.1.bs.lin.later hb14)
                        clear y0 y1 yl hb14 HI13
                        have k0 := L0.out.c0
                        have k1 := L0.out.c1
                        have kl := L0.out.lt
                        go_wp2_with fail
                        clear hcell
                        refine (first_ok 10 _ 2 2 sampP 5 none 0 0 [] [] 3 (-1) _ rfl (by omega) L0.out.pr rfl (by omega) (ins_nil _)).mono ?_
                        rintro e V0 ⟨rfl, hb⟩
                        rw [small1.1, small1.2.1]
                        have L1 := Lib.hid (L0.out.later hb)
                        clear k0 k1 kl hb L0
                        have k0 := L1.out.c0
                        have k1 := L1.out.c1
                        have kl := L1.out.lt
                        go_wp2_with fail
                        refine (first_ok 10 _ 2 2 sampP 0 none 0 0 [] [] 3 0 _ rfl (by omega) L1.out.pr rfl (by omega) (ins_nil _)).mono ?_
                        rintro e V1 ⟨rfl, hb⟩
                        rw [small1.2.2.1, small1.2.2.2.1]
                        have L2 := Lib.hid (L1.out.later hb)
                        clear k0 k1 kl hb L1
                        have k0 := L2.out.c0
                        have k1 := L2.out.c1
                        have kl := L2.out.lt
                        go_wp2_with fail
                        refine (peak_ok 10 _ 2 2 sampP 0 none 0 0 [] [] 0 _ rfl (by omega) L2.out.pr rfl (by omega) (ins_nil _)).mono ?_
                        rintro e V2 ⟨rfl, hb⟩
                        rw [small1.2.2.2.2.1, small1.2.2.2.2.2.1, small1.2.2.2.2.2.2.1]
                        have L3 := Lib.hid (L2.out.later hb)
                        clear k0 k1 kl hb L2
                        have k0 := L3.out.c0
                        have k1 := L3.out.c1
                        have kl := L3.out.lt
                        go_wp2_with fail
                        refine (least_ok 10 _ 2 2 sampP 5 none 0 0 [] [] 4 4 _ rfl (by omega) L3.out.pr rfl (by omega) (ins_nil _)).mono ?_
                        rintro e V3 ⟨rfl, hb⟩
                        rw [small2.1]
                        generalize leastV 10 sampP [] 5 4 4 = vC
                        have L4 := Lib.hid (L3.out.later hb)
                        clear k0 k1 kl hb L3
                        have k0 := L4.out.c0
                        have k1 := L4.out.c1
                        have kl := L4.out.lt
                        go_wp2_with fail
                        refine (least_ok 10 _ 2 2 sampP 5 none 0 0 [] [] 4 5 _ rfl (by omega) L4.out.pr rfl (by omega) (ins_nil _)).mono ?_
                        rintro e V4 ⟨rfl, hb⟩
                        rw [small2.2.1, small2.2.2.1]
                        have L5 := Lib.hid (L4.out.later hb)
                        clear k0 k1 kl hb L4
                        have k0 := L5.out.c0
                        have k1 := L5.out.c1
                        have kl := L5.out.lt
                        go_wp2_with fail
                        refine (least_ok 10 _ 2 2 sampP 0 none 0 0 [] [] 0 (-1) _ rfl (by omega) L5.out.pr rfl (by omega) (ins_nil _)).mono ?_
                        rintro e V5 ⟨rfl, hb⟩
                        rw [small2.2.2.2]
                        generalize leastV 10 sampP [] 0 0 (-1) = vD
                        have L6 := Lib.hid (L5.out.later hb)
                        clear k0 k1 kl hb L5
                        go_wp2_with fail
                        refine (works_ok _).mono ?_
                        rintro e X9 ⟨rfl, hb9⟩
                        have B9 := Lib.hid (below_trans L6.out.bel hb9)
                        clear hb9 L6
                        go_wp2_with fail
                        go_ret
                        exact ⟨rfl, B9.out⟩
end Go.Proofs.Ytnpcafhmkjdhaaa
