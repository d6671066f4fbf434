/- Chapter 06: the law that First and Least are the reference's: the walk. -/
import Derived.Test.YtnpcafhmkjdhaaaLa
import Derived.Test.YtnpcafhmkjdhaaaRefE
import Derived.Test.YtnpcafhmkjdhaaaRefG
namespace Go.Proofs.Ytnpcafhmkjdhaaa
open Go Go.RowKit

set_option maxRecDepth 100000 in
set_option maxHeartbeats 4000000 in
theorem seeks_walk (x : Arg) (w : World) (hx : x.ok w) :
    Calls Try.prog 9 #[x.val] w fun e W' => e = .returned (.bool true) ∧ Below w.heap.size w W' := by
  have HX := Lib.hid hx
  clear hx
  go_enter Try.func9, Try.ntmps9
  go_wp2_with fail
  obtain ⟨A0, hA0⟩ : ∃ W' : World, (w.alloc (.cells x.cells.toArray 52)) = W' := ⟨_, rfl⟩
  have h0 : Has A0 [(w.heap.size, .cells x.cells.toArray 52 (0, 0))] := by rw [← hA0]; simpa using ((Has.nil w).new _)
  have z0 : A0.heap.size = w.heap.size + 1 := by rw [← hA0]; simp
  have b0 : Below w.heap.size w A0 := by rw [← hA0]; exact (below_alloc (below_self w) _)
  rw [hA0]
  clear hA0
  refine (own_ok x A0 (HX.out.later b0)).mono ?_
  rintro e W1 ⟨p', i', hs', rfl, hY⟩
  generalize ownArg x p' i' hs' = y at hY ⊢
  have hb1 := blk_below h0.hd hY.bel
  have HY := Lib.hid (And.intro (hY.base b0) (And.intro hb1 (show w.heap.size < A0.heap.size + 2 by omega)))
  have m0 := blk_cell hb1 0
  have m1 := blk_cell hb1 1
  have m2 := blk_cell hb1 2
  have m3 := blk_cell hb1 3
  have m4 := blk_cell hb1 4
  have m5 := blk_cell hb1 5
  have m6 := blk_cell hb1 6
  have f0 := blk_frozen hb1 0
  have f1 := blk_frozen hb1 1
  have f2 := blk_frozen hb1 2
  have f3 := blk_frozen hb1 3
  have f4 := blk_frozen hb1 4
  have f5 := blk_frozen hb1 5
  have f6 := blk_frozen hb1 6
  simp at m0 m1 m2 m3 m4 m5 m6
  clear h0 z0 b0 hY hb1
  go_upto_region 2 with fail
  have HL := Lib.hid (show LA w (((((((W1.setCell ⟨w.heap.size, 0, none⟩ (.int .i64 y.carry)).setCell ⟨w.heap.size, 1, none⟩ (.slice y.p.1 y.p.2.1 y.p.2.2)).setCell ⟨w.heap.size, 2, none⟩ (.int .i64 y.start)).setCell ⟨w.heap.size, 3, none⟩ (.slice y.i.1 y.i.2.1 y.i.2.2)).setCell ⟨w.heap.size, 4, none⟩ (.int .i64 y.n)).setCell ⟨w.heap.size, 5, none⟩ (.int .i64 y.tick)).setCell ⟨w.heap.size, 6, none⟩ (.int .i64 y.limit)) w.heap.size y from ⟨blk_put7 HY.out.2.1 _ _ _ _ _ _ _, (HY.out.1.put7 HY.out.2.2 (Nat.le_refl _) _ _ _ _ _ _ _).ok, (HY.out.1.put7 HY.out.2.2 (Nat.le_refl _) _ _ _ _ _ _ _).bel⟩)
  have HO := Lib.hid (HY.out.1.put7 HY.out.2.2 (Nat.le_refl _) (.int .i64 y.carry) (.slice y.p.1 y.p.2.1 y.p.2.2) (.int .i64 y.start) (.slice y.i.1 y.i.2.1 y.i.2.2) (.int .i64 y.n) (.int .i64 y.tick) (.int .i64 y.limit))
  have HB := Lib.hid HY.out.2.2
  clear m0 m1 m2 m3 m4 m5 m6 f0 f1 f2 f3 f4 f5 f6 HY
  generalize ((((((W1.setCell _ _).setCell _ _).setCell _ _).setCell _ _).setCell _ _).setCell _ _).setCell _ _ = X0 at HL HO ⊢
  have m4 := HL.out.c4
  have f4 := blk_frozen HL.out.box 4
  have ml := HL.out.lt
  by_cases hn : y.n = 1000
  · have hnb : (y.n == 1000) = true := by rw [hn]; rfl
    go_upto_region 4 with fail
    have HL2 := Lib.hid (show LA w (X0.setCell ⟨w.heap.size, 4, none⟩ (.int .i64 100)) w.heap.size ⟨y.carry, y.p, y.ps, y.start, y.i, y.hs, y.ins, 100, y.tick, y.limit⟩ from by
      have hs := HO.out.set HB.out (Nat.le_refl _) (o := 4) (.int .i64 100)
      exact ⟨by simpa using blk_setcell (i := 4) (u := .int .i64 100) HL.out.box, ⟨hs.ok.pl, hs.ok.pg, hs.ok.pr, hs.ok.il, hs.ok.ig, hs.ok.ir, hs.ok.hg⟩, hs.bel⟩)
    clear m4 f4 ml hn hnb HL HO HB
    generalize X0.setCell _ _ = X1 at HL2 ⊢
    generalize (⟨y.carry, y.p, y.ps, y.start, y.i, y.hs, y.ins, 100, y.tick, y.limit⟩ : Arg) = z at HL2
    obtain ⟨F, hF⟩ : ∃ F, firstV z.carry z.ps z.ins z.start z.n z.limit = F := ⟨_, rfl⟩
    obtain ⟨E, hE⟩ : ∃ E, askedE z.carry z.ps z.start z.ins z.n = E := ⟨_, rfl⟩
    obtain ⟨V, hV⟩ : ∃ V, leastV z.carry z.ps z.ins z.start z.n z.limit = V := ⟨_, rfl⟩
    obtain ⟨G, hG⟩ : ∃ G, leastE z.carry z.ps z.ins z.start z.n z.limit = G := ⟨_, rfl⟩
    have HR := Lib.hid (And.intro hF (And.intro hE (And.intro hV hG)))
    clear hF hE hV hG
    have k0 := HL2.out.c0
    have k1 := HL2.out.c1
    have k2 := HL2.out.c2
    have k3 := HL2.out.c3
    have k4 := HL2.out.c4
    have k6 := HL2.out.c6
    have kl := HL2.out.lt
    go_wp2_with fail
    refine (first_ok z.carry z.p.1 z.p.2.1 z.p.2.2 z.ps z.start z.i.1 z.i.2.1 z.i.2.2 z.hs z.ins z.n z.limit _ HL2.out.ok.pl HL2.out.pl HL2.out.ok.pr HL2.out.ok.il HL2.out.il HL2.out.ok.ir).mono ?_
    rintro e V0 ⟨rfl, hb⟩
    rw [HR.out.1, HR.out.2.1]
    have M0 := Lib.hid (HL2.out.later hb)
    clear k0 k1 k2 k3 k4 k6 kl hb HL2
    have k0 := M0.out.c0
    have k1 := M0.out.c1
    have k2 := M0.out.c2
    have k3 := M0.out.c3
    have k4 := M0.out.c4
    have k6 := M0.out.c6
    have kl := M0.out.lt
    go_wp2_with fail
    refine (first_ref z.carry z.p.1 z.p.2.1 z.p.2.2 z.ps z.start z.i.1 z.i.2.1 z.i.2.2 z.hs z.ins z.n z.limit _ M0.out.ok.pl M0.out.pl M0.out.ok.pr M0.out.ok.il M0.out.il M0.out.ok.ir).mono ?_
    rintro e V1 ⟨rfl, hb⟩
    rw [HR.out.1, HR.out.2.1]
    have M1 := Lib.hid (M0.out.later hb)
    clear k0 k1 k2 k3 k4 k6 kl hb M0
    have k0 := M1.out.c0
    have k1 := M1.out.c1
    have k2 := M1.out.c2
    have k3 := M1.out.c3
    have k4 := M1.out.c4
    have k6 := M1.out.c6
    have kl := M1.out.lt
    go_wp2_with fail
    refine (least_ok z.carry z.p.1 z.p.2.1 z.p.2.2 z.ps z.start z.i.1 z.i.2.1 z.i.2.2 z.hs z.ins z.n z.limit _ M1.out.ok.pl M1.out.pl M1.out.ok.pr M1.out.ok.il M1.out.il M1.out.ok.ir).mono ?_
    rintro e V2 ⟨rfl, hb⟩
    rw [HR.out.2.2.1, HR.out.2.2.2]
    have M2 := Lib.hid (M1.out.later hb)
    clear k0 k1 k2 k3 k4 k6 kl hb M1
    have k0 := M2.out.c0
    have k1 := M2.out.c1
    have k2 := M2.out.c2
    have k3 := M2.out.c3
    have k4 := M2.out.c4
    have k6 := M2.out.c6
    have kl := M2.out.lt
    go_wp2_with fail
    refine (leastref_ok z.carry z.p.1 z.p.2.1 z.p.2.2 z.ps z.start z.i.1 z.i.2.1 z.i.2.2 z.hs z.ins z.n z.limit _ M2.out.ok.pl M2.out.pl M2.out.ok.pr M2.out.ok.il M2.out.il M2.out.ok.ir).mono ?_
    rintro e V3 ⟨rfl, hb⟩
    rw [HR.out.2.2.1, HR.out.2.2.2]
    have M3 := Lib.hid (M2.out.later hb)
    clear k0 k1 k2 k3 k4 k6 kl hb M2
    go_wp2_with fail
    refine (works_ok _).mono ?_
    rintro e X9 ⟨rfl, hb9⟩
    have B9 := Lib.hid (below_trans M3.out.bel hb9)
    clear hb9 M3
    go_wp2_with fail
    go_ret
    exact ⟨rfl, B9.out⟩
  · have hnb : (y.n == 1000) = false := by simpa using hn
    go_upto_region 4 with fail
    clear m4 f4 ml hn hnb HO HB
    obtain ⟨F, hF⟩ : ∃ F, firstV y.carry y.ps y.ins y.start y.n y.limit = F := ⟨_, rfl⟩
    obtain ⟨E, hE⟩ : ∃ E, askedE y.carry y.ps y.start y.ins y.n = E := ⟨_, rfl⟩
    obtain ⟨V, hV⟩ : ∃ V, leastV y.carry y.ps y.ins y.start y.n y.limit = V := ⟨_, rfl⟩
    obtain ⟨G, hG⟩ : ∃ G, leastE y.carry y.ps y.ins y.start y.n y.limit = G := ⟨_, rfl⟩
    have HR := Lib.hid (And.intro hF (And.intro hE (And.intro hV hG)))
    clear hF hE hV hG
    have k0 := HL.out.c0
    have k1 := HL.out.c1
    have k2 := HL.out.c2
    have k3 := HL.out.c3
    have k4 := HL.out.c4
    have k6 := HL.out.c6
    have kl := HL.out.lt
    go_wp2_with fail
    refine (first_ok y.carry y.p.1 y.p.2.1 y.p.2.2 y.ps y.start y.i.1 y.i.2.1 y.i.2.2 y.hs y.ins y.n y.limit _ HL.out.ok.pl HL.out.pl HL.out.ok.pr HL.out.ok.il HL.out.il HL.out.ok.ir).mono ?_
    rintro e V0 ⟨rfl, hb⟩
    rw [HR.out.1, HR.out.2.1]
    have M0 := Lib.hid (HL.out.later hb)
    clear k0 k1 k2 k3 k4 k6 kl hb HL
    have k0 := M0.out.c0
    have k1 := M0.out.c1
    have k2 := M0.out.c2
    have k3 := M0.out.c3
    have k4 := M0.out.c4
    have k6 := M0.out.c6
    have kl := M0.out.lt
    go_wp2_with fail
    refine (first_ref y.carry y.p.1 y.p.2.1 y.p.2.2 y.ps y.start y.i.1 y.i.2.1 y.i.2.2 y.hs y.ins y.n y.limit _ M0.out.ok.pl M0.out.pl M0.out.ok.pr M0.out.ok.il M0.out.il M0.out.ok.ir).mono ?_
    rintro e V1 ⟨rfl, hb⟩
    rw [HR.out.1, HR.out.2.1]
    have M1 := Lib.hid (M0.out.later hb)
    clear k0 k1 k2 k3 k4 k6 kl hb M0
    have k0 := M1.out.c0
    have k1 := M1.out.c1
    have k2 := M1.out.c2
    have k3 := M1.out.c3
    have k4 := M1.out.c4
    have k6 := M1.out.c6
    have kl := M1.out.lt
    go_wp2_with fail
    refine (least_ok y.carry y.p.1 y.p.2.1 y.p.2.2 y.ps y.start y.i.1 y.i.2.1 y.i.2.2 y.hs y.ins y.n y.limit _ M1.out.ok.pl M1.out.pl M1.out.ok.pr M1.out.ok.il M1.out.il M1.out.ok.ir).mono ?_
    rintro e V2 ⟨rfl, hb⟩
    rw [HR.out.2.2.1, HR.out.2.2.2]
    have M2 := Lib.hid (M1.out.later hb)
    clear k0 k1 k2 k3 k4 k6 kl hb M1
    have k0 := M2.out.c0
    have k1 := M2.out.c1
    have k2 := M2.out.c2
    have k3 := M2.out.c3
    have k4 := M2.out.c4
    have k6 := M2.out.c6
    have kl := M2.out.lt
    go_wp2_with fail
    refine (leastref_ok y.carry y.p.1 y.p.2.1 y.p.2.2 y.ps y.start y.i.1 y.i.2.1 y.i.2.2 y.hs y.ins y.n y.limit _ M2.out.ok.pl M2.out.pl M2.out.ok.pr M2.out.ok.il M2.out.il M2.out.ok.ir).mono ?_
    rintro e V3 ⟨rfl, hb⟩
    rw [HR.out.2.2.1, HR.out.2.2.2]
    have M3 := Lib.hid (M2.out.later hb)
    clear k0 k1 k2 k3 k4 k6 kl hb M2
    go_wp2_with fail
    refine (works_ok _).mono ?_
    rintro e X9 ⟨rfl, hb9⟩
    have B9 := Lib.hid (below_trans M3.out.bel hb9)
    clear hb9 M3
    go_wp2_with fail
    go_ret
    exact ⟨rfl, B9.out⟩
end Go.Proofs.Ytnpcafhmkjdhaaa
