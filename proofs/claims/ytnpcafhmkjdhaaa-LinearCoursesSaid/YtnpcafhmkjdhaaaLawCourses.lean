/- Chapter 06: the law that Valid, Arrives, Course and Peak are the reference's: the walk. -/
import Derived.Test.YtnpcafhmkjdhaaaLa
import Derived.Test.YtnpcafhmkjdhaaaRefE
import Derived.Test.YtnpcafhmkjdhaaaEqualP
import Derived.Deep.RegionHeld3
namespace Go.Proofs.Ytnpcafhmkjdhaaa
open Go Go.RowKit

/-- What own gives does not change by own. -/
structure Stable (y : Arg) : Prop where
  ps : y.ps.take 18 = y.ps
  ins : (y.ins.take 18).map cutI = y.ins
  n : cutN y.n = y.n
theorem cutI_cutI (l : List Int) : cutI (cutI l) = cutI l := by
  unfold cutI
  by_cases h : 1000 < l.length
  · rw [if_pos h]
    have h2 : 1000 < (l.take 1001).length := by rw [List.length_take]; omega
    rw [if_pos h2, List.take_take, Nat.min_self]
  · rw [if_neg h]
    have h2 : ¬ 1000 < (l.take 60).length := by rw [List.length_take]; omega
    rw [if_neg h2, List.take_take, Nat.min_self]
theorem stable_own (x : Arg) (p i : Hd) (hs : List Hd) : Stable (ownArg x p i hs) := by
  refine ⟨?_, ?_, ?_⟩
  · show (x.ps.take 18).take 18 = x.ps.take 18
    rw [List.take_take, Nat.min_self]
  · show (((x.ins.take 18).map cutI).take 18).map cutI = (x.ins.take 18).map cutI
    rw [← List.map_take, List.take_take, Nat.min_self, List.map_map]
    congr 1
    funext l
    exact cutI_cutI l
  · show cutN (cutN x.n) = cutN x.n
    unfold cutN
    by_cases h : 100 < x.n ∧ x.n < 1000
    · rw [if_pos h, if_neg (by omega)]
    · rw [if_neg h, if_neg h]
/-- Other arguments with the same lists. -/
def twin (y : Arg) (p i : Hd) (hs : List Hd) : Arg := ⟨y.carry, p, y.ps, y.start, i, hs, y.ins, y.n, y.tick, y.limit⟩
theorem own_twin {y : Arg} (h : Stable y) (p i : Hd) (hs : List Hd) : ownArg y p i hs = twin y p i hs := by
  unfold ownArg twin
  rw [h.ps, h.ins, h.n]
/-- Both arguments in their boxes. -/
structure LB (w X : World) (B C : Nat) (y : Arg) (p i : Hd) (hs : List Hd) : Prop where
  a : LA w X B y
  b : LA w X C (twin y p i hs)
theorem LB.later {w X X' : World} {B C : Nat} {y : Arg} {p i : Hd} {hs : List Hd} (h : LB w X B C y p i hs) (hb : Below X.heap.size X X') : LB w X' B C y p i hs := ⟨h.a.later hb, h.b.later hb⟩
section
variable {w X : World} {B C : Nat} {y : Arg} {p i : Hd} {hs : List Hd} (h : LB w X B C y p i hs)
include h
theorem LB.d0 : X.cell? ⟨C, 0, none⟩ = some (.int .i64 y.carry) := h.b.c0
theorem LB.d1 : X.cell? ⟨C, 1, none⟩ = some (.slice p.1 p.2.1 p.2.2) := h.b.c1
theorem LB.d2 : X.cell? ⟨C, 2, none⟩ = some (.int .i64 y.start) := h.b.c2
theorem LB.d3 : X.cell? ⟨C, 3, none⟩ = some (.slice i.1 i.2.1 i.2.2) := h.b.c3
theorem LB.d4 : X.cell? ⟨C, 4, none⟩ = some (.int .i64 y.n) := h.b.c4
theorem LB.d5 : X.cell? ⟨C, 5, none⟩ = some (.int .i64 y.tick) := h.b.c5
theorem LB.pr : RowsAt X.heap.size X p.1 3 (Prts y.ps) := h.b.ok.pr
theorem LB.ir : InsAt X.heap.size X i.1 hs y.ins := h.b.ok.ir
theorem LB.pl : y.ps.length = p.2.1 := h.b.ok.pl
theorem LB.il : y.ins.length = i.2.1 := h.b.ok.il
theorem LB.pm : p.2.1 ≤ 9223372036854775807 := h.b.pl
theorem LB.im : i.2.1 ≤ 9223372036854775807 := h.b.il
end

set_option maxRecDepth 100000 in
set_option maxHeartbeats 4000000 in
theorem courses_walk (x : Arg) (w : World) (hx : x.ok w) :
    Calls Try.prog 8 #[x.val] w fun e W' => e = .returned (.bool true) ∧ Below w.heap.size w W' := by
  have HX := Lib.hid hx
  clear hx
  go_enter Try.func8, Try.ntmps8
  go_wp2_with fail
  obtain ⟨A0, hA0⟩ : ∃ W' : World, (w.alloc (.cells x.cells.toArray 52)) = W' := ⟨_, rfl⟩
  have h0 : Has A0 [(w.heap.size, .cells x.cells.toArray 52 (0, 0))] := by rw [← hA0]; simpa using ((Has.nil w).new _)
  have z0 : A0.heap.size = w.heap.size + 1 := by rw [← hA0]; simp
  have b0 : Below w.heap.size w A0 := by rw [← hA0]; exact (below_alloc (below_self w) _)
  rw [hA0]
  clear hA0
  refine (own_ok x A0 (HX.out.later b0)).mono ?_
  rintro e W1 ⟨p', i', hs', rfl, hY⟩
  have HSt := Lib.hid (stable_own x p' i' hs')
  generalize ownArg x p' i' hs' = y at hY HSt ⊢
  have hb1 := blk_below h0.hd hY.bel
  have HY := Lib.hid (And.intro (hY.base b0) (And.intro hb1 (show w.heap.size < A0.heap.size + 2 by omega)))
  have m0 := blk_cell hb1 0
  have m1 := blk_cell hb1 1
  have m2 := blk_cell hb1 2
  have m3 := blk_cell hb1 3
  have m4 := blk_cell hb1 4
  have m5 := blk_cell hb1 5
  have m6 := blk_cell hb1 6
  have f0 := blk_frozen hb1 0
  have f1 := blk_frozen hb1 1
  have f2 := blk_frozen hb1 2
  have f3 := blk_frozen hb1 3
  have f4 := blk_frozen hb1 4
  have f5 := blk_frozen hb1 5
  have f6 := blk_frozen hb1 6
  simp at m0 m1 m2 m3 m4 m5 m6
  clear h0 z0 b0 hY hb1
  go_upto_region 2 with fail
  have HL := Lib.hid (show LA w (((((((W1.setCell ⟨w.heap.size, 0, none⟩ (.int .i64 y.carry)).setCell ⟨w.heap.size, 1, none⟩ (.slice y.p.1 y.p.2.1 y.p.2.2)).setCell ⟨w.heap.size, 2, none⟩ (.int .i64 y.start)).setCell ⟨w.heap.size, 3, none⟩ (.slice y.i.1 y.i.2.1 y.i.2.2)).setCell ⟨w.heap.size, 4, none⟩ (.int .i64 y.n)).setCell ⟨w.heap.size, 5, none⟩ (.int .i64 y.tick)).setCell ⟨w.heap.size, 6, none⟩ (.int .i64 y.limit)) w.heap.size y from ⟨blk_put7 HY.out.2.1 _ _ _ _ _ _ _, (HY.out.1.put7 HY.out.2.2 (Nat.le_refl _) _ _ _ _ _ _ _).ok, (HY.out.1.put7 HY.out.2.2 (Nat.le_refl _) _ _ _ _ _ _ _).bel⟩)
  clear m0 m1 m2 m3 m4 m5 m6 f0 f1 f2 f3 f4 f5 f6 HY
  generalize ((((((W1.setCell _ _).setCell _ _).setCell _ _).setCell _ _).setCell _ _).setCell _ _).setCell _ _ = X0 at HL ⊢
  have k0 := HL.out.c0
  have k1 := HL.out.c1
  have k2 := HL.out.c2
  have k3 := HL.out.c3
  have k4 := HL.out.c4
  have k5 := HL.out.c5
  have k6 := HL.out.c6
  have kl := HL.out.lt
  go_wp2_with fail
  refine (own_ok y X0 HL.out.ok).mono ?_
  rintro e X1 ⟨p, i, hs, rfl, hY⟩
  rw [own_twin HSt.out] at hY ⊢
  have HL1 := Lib.hid (And.intro (HL.out.later hY.bel) hY.ok)
  clear k0 k1 k2 k3 k4 k5 k6 kl hY HL HSt HX
  unfold twin
  go_upto_region 3 with fail
  have HB0 := Lib.hid (show LB w (X1.alloc (.cells #[.int .i64 y.carry, .slice p.1 p.2.1 p.2.2, .int .i64 y.start, .slice i.1 i.2.1 i.2.2, .int .i64 y.n, .int .i64 y.tick, .int .i64 y.limit] 52)) w.heap.size X1.heap.size y p i hs from
    ⟨HL1.out.1.later (below_alloc (below_self X1) _), blk_new X1 _, HL1.out.2.later (below_alloc (below_self X1) _), below_alloc HL1.out.1.bel _⟩)
  generalize X1.alloc _ = Y0 at HB0 ⊢
  generalize X1.heap.size = C at HB0 ⊢
  clear HL1
  obtain ⟨F, hF⟩ : ∃ F, arrV y.carry y.ps y.ins y.tick = F := ⟨_, rfl⟩
  obtain ⟨G, hG⟩ : ∃ G, askedE y.carry y.ps 0 y.ins y.tick = G := ⟨_, rfl⟩
  obtain ⟨E, hE⟩ : ∃ E, askedE y.carry y.ps y.start y.ins y.n = E := ⟨_, rfl⟩
  obtain ⟨T, hT⟩ : ∃ T, peakT y.carry y.ps y.ins y.start y.n = T := ⟨_, rfl⟩
  obtain ⟨P, hP⟩ : ∃ P, peakV y.carry y.ps y.ins y.start y.n = P := ⟨_, rfl⟩
  have hF2 : (if askedE y.carry y.ps 0 y.ins y.tick = 0 then arr y.ps y.ins y.tick else 0) = F := hF
  have HR := Lib.hid (And.intro hF (And.intro hG (And.intro hE (And.intro hT (And.intro hP hF2)))))
  clear hF hG hE hT hP hF2
  have k0 := HB0.out.a.c0
  have k1 := HB0.out.a.c1
  have k3 := HB0.out.a.c3
  have k5 := HB0.out.a.c5
  have kl := HB0.out.a.lt
  have dl := HB0.out.b.lt
  go_wp2_with fail
  refine (arrives_ok y.carry y.p.1 y.p.2.1 y.p.2.2 y.ps y.i.1 y.i.2.1 y.i.2.2 y.hs y.ins y.tick _ HB0.out.a.ok.pl HB0.out.a.pl HB0.out.a.ok.pr HB0.out.a.ok.il HB0.out.a.il HB0.out.a.ok.ir).mono ?_
  rintro e Y1 ⟨rfl, hb⟩
  rw [HR.out.1, HR.out.2.1]
  have HB1 := Lib.hid (HB0.out.later hb)
  clear k0 k1 k3 k5 kl dl hb HB0
  have d0 := HB1.out.d0
  have d1 := HB1.out.d1
  have d3 := HB1.out.d3
  have d5 := HB1.out.d5
  have kl := HB1.out.a.lt
  have dl := HB1.out.b.lt
  go_wp2_with fail
  refine (arrives_ref y.carry p.1 p.2.1 p.2.2 y.ps i.1 i.2.1 i.2.2 hs y.ins y.tick _ HB1.out.pl HB1.out.pm HB1.out.pr HB1.out.il HB1.out.im HB1.out.ir).mono ?_
  rintro e Y2 ⟨rfl, hb⟩
  rw [HR.out.2.2.2.2.2, HR.out.2.1]
  have HB2 := Lib.hid (HB1.out.later hb)
  clear d0 d1 d3 d5 kl dl hb HB1
  have k0 := HB2.out.a.c0
  have k1 := HB2.out.a.c1
  have k2 := HB2.out.a.c2
  have k3 := HB2.out.a.c3
  have k4 := HB2.out.a.c4
  have kl := HB2.out.a.lt
  have dl := HB2.out.b.lt
  go_wp2_with fail
  refine (course_ok y.carry y.p.1 y.p.2.1 y.p.2.2 y.ps y.start y.i.1 y.i.2.1 y.i.2.2 y.hs y.ins y.n _ HB2.out.a.ok.pl HB2.out.a.pl HB2.out.a.ok.pr HB2.out.a.ok.il HB2.out.a.il HB2.out.a.ok.ir).mono ?_
  rintro e Y3 ⟨v, rfl, ho, hb⟩
  rw [HR.out.2.2.1]
  obtain ⟨a1, c1, rfl, hr1⟩ := ho.rows
  have HC1 := Lib.hid hr1
  clear hr1 ho
  have HB3 := Lib.hid (HB2.out.later hb)
  clear k0 k1 k2 k3 k4 kl dl hb HB2
  have d0 := HB3.out.d0
  have d1 := HB3.out.d1
  have d2 := HB3.out.d2
  have d3 := HB3.out.d3
  have d4 := HB3.out.d4
  have kl := HB3.out.a.lt
  have dl := HB3.out.b.lt
  go_wp2_with fail
  refine (courseref_ok y.carry p.1 p.2.1 p.2.2 y.ps y.start i.1 i.2.1 i.2.2 hs y.ins y.n _ HB3.out.pl HB3.out.pm HB3.out.pr HB3.out.il HB3.out.im HB3.out.ir).mono ?_
  rintro e Y4 ⟨v, rfl, ho, hb⟩
  rw [HR.out.2.2.1]
  obtain ⟨a2, c2, rfl, hr2⟩ := ho.rows
  have HC2 := Lib.hid (And.intro (HC1.out.later hb) hr2)
  clear hr2 ho HC1
  have HB4 := Lib.hid (HB3.out.later hb)
  clear d0 d1 d2 d3 d4 kl dl hb HB3
  obtain ⟨q, hq⟩ : ∃ q, (courseV y.carry y.ps y.ins y.start y.n).length = q := ⟨_, rfl⟩
  have hq63 : q ≤ 9223372036854775807 := by
    by_cases he : askedE y.carry y.ps y.start y.ins y.n = 0
    · have := (courseV_len he).2; omega
    · have : courseV y.carry y.ps y.ins y.start y.n = [] := if_neg he
      rw [← hq, this]; simp
  have HQ := Lib.hid (And.intro hq hq63)
  rw [hq]
  clear hq hq63
  have HD := Lib.hid (HB4.out.later (below_self Y4).drew)
  have hkk : ∀ W, LB w W w.heap.size C y p i hs → W.cell? ⟨w.heap.size, 0, none⟩ = some (.int .i64 y.carry) ∧ W.cell? ⟨w.heap.size, 1, none⟩ = some (.slice y.p.1 y.p.2.1 y.p.2.2) ∧ W.cell? ⟨C, 0, none⟩ = some (.int .i64 y.carry) ∧ W.cell? ⟨C, 1, none⟩ = some (.slice p.1 p.2.1 p.2.2) := fun W h => ⟨h.a.c0, h.a.c1, h.d0, h.d1⟩
  have HK := Lib.hid hkk
  clear hkk
  have heq : ∀ l : List Int, decide (l = l) = true := fun l => decide_eq_true rfl
  have HEQ := Lib.hid heq
  clear heq
  obtain ⟨ok, hok⟩ : ∃ ok, okL y.carry y.ps = ok := ⟨_, rfl⟩
  have HOK := Lib.hid hok
  clear hok
  go_wp2_with fail
  go_region_held3 (fun w' => w'.cell? ⟨w.heap.size, 0, none⟩ = some (.int .i64 y.carry) ∧ w'.cell? ⟨w.heap.size, 1, none⟩ = some (.slice y.p.1 y.p.2.1 y.p.2.2) ∧ w'.cell? ⟨C, 0, none⟩ = some (.int .i64 y.carry) ∧ w'.cell? ⟨C, 1, none⟩ = some (.slice p.1 p.2.1 p.2.2))
    ((first | (with_reducible exact HK.out _ HD.out) | (with_reducible exact kX1) | (with_reducible exact kX2) | (with_reducible exact kX3)))
    (first
      | (go_at_call 23; (with_reducible refine (equalI_ok a1 a2 q c1 q c2 _ _ Y4.drew HQ.out.1 HQ.out.1 HQ.out.2 (HC2.out.1.later (below_self Y4).drew) (HC2.out.2.later (below_self Y4).drew)).mono ?_); rintro e Z1 ⟨rfl, hb⟩; rw [decide_eq_true (Eq.refl _)]; have N1 := Lib.hid (HD.out.later hb); have kX1 := HK.out _ N1.out; clear hb)
      | (go_at_call 19; (with_reducible refine (valid_ok y.carry y.p.1 y.p.2.1 y.p.2.2 y.ps Z1 N1.out.a.ok.pl N1.out.a.pl N1.out.a.ok.pr).mono ?_); rintro e Z2 ⟨rfl, hb⟩; rw [HOK.out]; have N2 := Lib.hid (N1.out.later hb); have kX2 := HK.out _ N2.out; clear hb)
      | (go_at_call 24; (with_reducible refine (valid_ref y.carry p.1 p.2.1 p.2.2 y.ps Z2 N2.out.pl N2.out.pm N2.out.pr).mono ?_); rintro e Z3 ⟨rfl, hb⟩; rw [HOK.out]; have N3 := Lib.hid (N2.out.later hb); have kX3 := HK.out _ N3.out; clear hb))
  clear HD HK HEQ HOK HQ HC2 HB4 kX1 kX2 kX3 N1 N2
  have k0 := N3.out.a.c0
  have k1 := N3.out.a.c1
  have k2 := N3.out.a.c2
  have k3 := N3.out.a.c3
  have k4 := N3.out.a.c4
  have kl := N3.out.a.lt
  have dl := N3.out.b.lt
  go_wp2_with fail
  refine (peak_ok y.carry y.p.1 y.p.2.1 y.p.2.2 y.ps y.start y.i.1 y.i.2.1 y.i.2.2 y.hs y.ins y.n _ N3.out.a.ok.pl N3.out.a.pl N3.out.a.ok.pr N3.out.a.ok.il N3.out.a.il N3.out.a.ok.ir).mono ?_
  rintro e Y5 ⟨rfl, hb⟩
  rw [HR.out.2.2.2.1, HR.out.2.2.2.2.1, HR.out.2.2.1]
  have HB5 := Lib.hid (N3.out.later hb)
  clear k0 k1 k2 k3 k4 kl dl hb N3
  have d0 := HB5.out.d0
  have d1 := HB5.out.d1
  have d2 := HB5.out.d2
  have d3 := HB5.out.d3
  have d4 := HB5.out.d4
  have kl := HB5.out.a.lt
  have dl := HB5.out.b.lt
  go_wp2_with fail
  refine (peak_ref y.carry p.1 p.2.1 p.2.2 y.ps y.start i.1 i.2.1 i.2.2 hs y.ins y.n _ HB5.out.pl HB5.out.pm HB5.out.pr HB5.out.il HB5.out.im HB5.out.ir).mono ?_
  rintro e Y6 ⟨rfl, hb⟩
  rw [HR.out.2.2.2.1, HR.out.2.2.2.2.1, HR.out.2.2.1]
  have HB6 := Lib.hid (HB5.out.later hb)
  clear d0 d1 d2 d3 d4 kl dl hb HB5
  have heqp : ∀ l : List Prt, decide (l = l) = true := fun l => decide_eq_true rfl
  have HEP := Lib.hid heqp
  clear heqp
  have k1 := HB6.out.a.c1
  have d1 := HB6.out.d1
  go_wp2_with fail
  refine (equalP_ok y.p.1 p.1 y.p.2.1 y.p.2.2 p.2.1 p.2.2 y.ps y.ps _ HB6.out.a.ok.pl HB6.out.pl HB6.out.a.pl HB6.out.a.ok.pr HB6.out.pr).mono ?_
  rintro e Y7 ⟨rfl, hb⟩
  rw [decide_eq_true (Eq.refl _)]
  have HB7 := Lib.hid (HB6.out.later hb)
  clear HEP k1 d1 hb HB6 HR
  have k3 := HB7.out.a.c3
  go_wp2_with fail
  clear k3
  go_loopw [145] (fun iv wr => ∃ (k : Nat) (Z : World), k ≤ y.i.2.1 ∧ iv = .int .i64 k ∧ Z = wr ∧ Hid (LB w Z w.heap.size C y p i hs)) (fun iv _ => y.i.2.1 - (intOf iv).toNat)
  case atStart => exact ⟨0, _, Nat.zero_le _, rfl, rfl, HB7⟩
  case round =>
    obtain ⟨k, Z, hk, rfl, rfl, HZ⟩ := hrel
    have hil := HZ.out.a.il
    by_cases hlt : k < y.i.2.1
    · have hltI : (k : Int) < (y.i.2.1 : Int) := by omega
      have hli : y.i.2.1 = i.2.1 := by rw [← HZ.out.a.ok.il, ← HZ.out.il]
      have hltJ : (k : Int) < (i.2.1 : Int) := by omega
      have hkl : k < y.ins.length := by rw [HZ.out.a.ok.il]; exact hlt
      obtain ⟨b1, o1, e1, hb1, hc1⟩ := hds_at HZ.out.a.ok.ir.rows k (by rw [HZ.out.a.ok.ir.len]; exact hkl)
      obtain ⟨b2, o2, e2, hb2, hc2⟩ := hds_at HZ.out.ir.rows k (by rw [HZ.out.ir.len]; exact hkl)
      obtain ⟨q1, q2, q3⟩ := HZ.out.a.ok.ir.at' k hkl
      obtain ⟨r1, r2, r3⟩ := HZ.out.ir.at' k hkl
      generalize y.hs.getD k default = h1 at hc1 q1 q2 q3
      generalize hs.getD k default = h2 at hc2 r1 r2 r3
      obtain ⟨s1, n1, m1⟩ := h1
      obtain ⟨s2, n2, m2⟩ := h2
      replace hc1 : Z.cell? ⟨b1, o1 + k, none⟩ = some (.slice s1 n1 m1) := hc1
      replace hc2 : Z.cell? ⟨b2, o2 + k, none⟩ = some (.slice s2 n2 m2) := hc2
      have hkk : ∀ W, Below Z.heap.size Z W → W.cell? ⟨w.heap.size, 3, none⟩ = some (.slice (some ⟨b1, o1, none⟩) y.i.2.1 y.i.2.2) ∧ W.cell? ⟨b1, o1 + k, none⟩ = some (.slice s1 n1 m1) ∧ W.cell? ⟨C, 3, none⟩ = some (.slice (some ⟨b2, o2, none⟩) i.2.1 i.2.2) ∧ W.cell? ⟨b2, o2 + k, none⟩ = some (.slice s2 n2 m2) := fun W hb => by
        have h3 := (HZ.out.later hb).a.c3
        have h4 := (HZ.out.later hb).d3
        rw [e1] at h3
        rw [e2] at h4
        exact ⟨h3, cell_call hb (a := ⟨b1, o1 + k, none⟩) hb1 hc1, h4, cell_call hb (a := ⟨b2, o2 + k, none⟩) hb2 hc2⟩
      have HK := Lib.hid hkk
      have HRW := Lib.hid (And.intro q1 (And.intro r1 (And.intro q2 (And.intro (q3.later (below_self Z).drew) (r3.later (below_self Z).drew)))))
      have hD := Lib.hid (below_self Z).drew
      generalize y.ins.getD k default = l at HRW q1 r1 q3 r3
      have heq : ∀ l : List Int, decide (l = l) = true := fun l => decide_eq_true rfl
      have HEQ := Lib.hid heq
      clear heq
      clear hkk hli hkl hc1 hc2 q1 q2 q3 r1 r2 r3 hb1 hb2 e1 e2
      go_wp2_with fail
      go_region_held3 (fun w' => w'.cell? ⟨w.heap.size, 3, none⟩ = some (.slice (some ⟨b1, o1, none⟩) y.i.2.1 y.i.2.2) ∧ w'.cell? ⟨b1, o1 + k, none⟩ = some (.slice s1 n1 m1) ∧ w'.cell? ⟨C, 3, none⟩ = some (.slice (some ⟨b2, o2, none⟩) i.2.1 i.2.2) ∧ w'.cell? ⟨b2, o2 + k, none⟩ = some (.slice s2 n2 m2))
        ((first | (with_reducible exact HK.out _ hD.out) | (with_reducible exact kX1)))
        (first
          | (go_at_call 23; (with_reducible refine (equalI_ok s1 s2 n1 m1 n2 m2 l l Z.drew HRW.out.1 HRW.out.2.1 HRW.out.2.2.1 HRW.out.2.2.2.1 HRW.out.2.2.2.2).mono ?_); rintro e Z1 ⟨rfl, hb⟩; rw [decide_eq_true (Eq.refl _)]; have N1 := Lib.hid (below_trans hD.out hb); have kX1 := HK.out _ N1.out; clear hb))
      have HZ1 := Lib.hid (HZ.out.later N1.out)
      clear HZ HK HRW hD HEQ kX1 N1
      go_wp2_with fail
      go_roundw
      case rel => exact ⟨k + 1, _, by omega, by go_num, rfl, HZ1⟩
      case measure => simp [intOf]; omega
    · have hltI : ¬ (k : Int) < (y.i.2.1 : Int) := by omega
      go_wp2_with fail
      refine (works_ok _).mono ?_
      rintro e X9 ⟨rfl, hb9⟩
      have B9 := Lib.hid (below_trans HZ.out.a.bel hb9)
      clear hb9 HZ
      go_wp2_with fail
      go_ret
      exact ⟨rfl, B9.out⟩
end Go.Proofs.Ytnpcafhmkjdhaaa
