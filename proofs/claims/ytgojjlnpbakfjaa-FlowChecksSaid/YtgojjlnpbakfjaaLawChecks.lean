/- Chapter 05: the law that Valid, Check and Across are the reference's: the walk. -/
import Derived.Test.YtgojjlnpbakfjaaLawMaxes
import Derived.Test.YtgojjlnpbakfjaaAcrR
import Derived.Deep.RegionHeld3
namespace Go.Proofs.Ytgojjlnpbakfjaa
open Go Go.RowKit
set_option linter.unusedSimpArgs false

/-- A list of numbers as an argument. -/
def IntsV (W : World) (a : Option Addr) (n c : Nat) (zs : List Int) : Prop := zs.length = n ∧ n ≤ c ∧ c ≤ maxLen ∧ (a = none → n = 0 ∧ c = 0) ∧ RowsAt W.heap.size W a 1 (zs.map fun z => [.int .i64 z])
/-- .. cut. -/
structure IntsC (W : World) (a : Option Addr) (n c : Nat) (f : List Int) : Prop where
  len : f.length = n
  l130 : n ≤ 130
  nil : a = none → n = 0 ∧ c = 0
  rows : RowsAt W.heap.size W a 1 (Ints f)
theorem IntsC.later {W W' : World} {a : Option Addr} {n c : Nat} {f : List Int} (h : IntsC W a n c f) (hb : Below W.heap.size W W') : IntsC W' a n c f := ⟨h.len, h.l130, h.nil, h.rows.later hb⟩
theorem IntsV.cut {W : World} {a : Option Addr} {n c : Nat} {zs : List Int} (h : IntsV W a n c zs) {m : Nat} (hm : m = min n 130) : IntsC W a m c (zs.take 130) :=
  ⟨by rw [List.length_take, h.1, hm, Nat.min_comm], by omega, fun e => by have := h.2.2.2.1 e; omega, ints_take h.2.2.2.2 130⟩

set_option maxRecDepth 100000 in
set_option maxHeartbeats 16000000 in
theorem checks_walk (x : NetV) (s t : Int) (a3 : Option Addr) (n3 c3 : Nat) (z3 : List Int) (a4 : Option Addr) (n4 c4 : Nat) (z4 : List Int) (w : World) (hx : x.ok w) (h3 : IntsV w a3 n3 c3 z3) (h4 : IntsV w a4 n4 c4 z4) :
    Calls Try.prog 6 #[x.val, .int .i64 s, .int .i64 t, .slice a3 n3 c3, .slice a4 n4 c4] w fun e W' => e = .returned (.bool true) ∧ Below w.heap.size w W' := by
  obtain ⟨N, a, k, c, l⟩ := x
  have HX := Lib.hid hx
  obtain ⟨p, hp⟩ : ∃ p, p = min n3 130 := ⟨_, rfl⟩
  obtain ⟨q, hq⟩ : ∃ q, q = min n4 130 := ⟨_, rfl⟩
  have HF := Lib.hid (h3.cut hp)
  have HG := Lib.hid (h4.cut hq)
  have hpc := h3.2.1
  have hqc := h4.2.1
  have hpI : (if (130 : Int) < (n3 : Int) then (130 : Int) else (n3 : Int)) = (p : Int) := by split <;> omega
  have hqI : (if (130 : Int) < (n4 : Int) then (130 : Int) else (n4 : Int)) = (q : Int) := by split <;> omega
  have hpI2 : (p : Int) ≤ (c3 : Int) := by omega
  have hqI2 : (q : Int) ≤ (c4 : Int) := by omega
  have hp0 : (0 : Int) ≤ (p : Int) := by omega
  have hq0 : (0 : Int) ≤ (q : Int) := by omega
  obtain ⟨f, hf⟩ : ∃ f, z3.take 130 = f := ⟨_, rfl⟩
  obtain ⟨g, hg⟩ : ∃ g, z4.take 130 = g := ⟨_, rfl⟩
  rw [hf] at HF
  rw [hg] at HG
  clear hx h3 h4 hp hq hpc hqc hf hg
  go_enter Try.func6, Try.ntmps6
  go_wp2_with fail
  obtain ⟨A, hA⟩ : ∃ W' : World, (w.alloc (.cells #[.int .i64 N, .slice a k c] 24)) = W' := ⟨_, rfl⟩
  have h : Has A [(w.heap.size, .cells #[.int .i64 N, .slice a k c] 24 (0, 0))] := by rw [← hA]; simpa using ((Has.nil w).new _)
  have z : A.heap.size = w.heap.size + 1 := by rw [← hA]; simp
  have b : Below w.heap.size w A := by rw [← hA]; exact (below_alloc (below_self w) _)
  rw [hA]
  clear hA
  have HA := Lib.hid (And.intro h.hd b)
  clear h z b
  refine (own_ok N a k c l A HX.out.len HX.out.cap HX.out.nil (HX.out.rows.later HA.out.2)).mono ?_
  rintro e W1 ⟨a1, m1, c1, rfl, ho, hb⟩
  have H1 := Lib.hid (NX.put (N := N) HA.out.1 HA.out.2 ho hb)
  have hB := blk_below HA.out.1 hb
  have m0 : W1.cell? ⟨w.heap.size, 0, none⟩ = some (.int .i64 N) := (blk_cell hB 0).trans rfl
  have m1' : W1.cell? ⟨w.heap.size, 1, none⟩ = some (.slice a k c) := (blk_cell hB 1).trans rfl
  have f0 := blk_frozen hB 0
  have f1 := blk_frozen hB 1
  have lb := blk_lt hB
  obtain ⟨l', hl'⟩ : ∃ l', l.take 130 = l' := ⟨_, rfl⟩
  have hl63 : l'.length ≤ 130 := by rw [← hl', List.length_take]; omega
  rw [hl'] at H1
  have hm63 : m1 ≤ 9223372036854775807 := by have := H1.out.len; omega
  clear ho hb hB hl' hl63 HA HX
  go_upto_region 2 with fail
  generalize (W1.setCell ⟨w.heap.size, 0, none⟩ (.int .i64 N)).setCell ⟨w.heap.size, 1, none⟩ (.slice a1 m1 c1) = X1 at H1 ⊢
  clear m0 m1' f0 f1 lb
  go_quiet (fail)
  have H2 := Lib.hid (H1.out.later (below_drewN (below_self X1) nq))
  generalize X1.drewN nq = X2 at H2 ⊢
  clear H1
  obtain ⟨R1, hR1⟩ : ∃ R, chkV N l' s t f = R := ⟨_, rfl⟩
  obtain ⟨E1, hE1⟩ : ∃ R, chkE N l' s t f = R := ⟨_, rfl⟩
  obtain ⟨R2, hR2⟩ : ∃ R, acrV N l' g = R := ⟨_, rfl⟩
  obtain ⟨E2, hE2⟩ : ∃ R, acrE N l' g = R := ⟨_, rfl⟩
  obtain ⟨V, hV⟩ : ∃ V, netOk N l' = V := ⟨_, rfl⟩
  have HR := Lib.hid (And.intro hR1 (And.intro hE1 (And.intro hR2 (And.intro hE2 hV))))
  clear hR1 hE1 hR2 hE2 hV hpI hqI hpI2 hqI2
  go_upto_region 3 with fail
  have HS := Lib.hid (show ∀ X W : World, NX w X N a1 m1 c1 l' → Below X.heap.size X W → W.cell? ⟨w.heap.size, 0, none⟩ = some (.int .i64 N) ∧ W.cell? ⟨w.heap.size, 1, none⟩ = some (.slice a1 m1 c1) from fun X W h hb => ⟨(h.later hb).c0, (h.later hb).c1⟩)
  have bX := (below_self X2).drew
  go_region_held3 (fun W => W.cell? ⟨w.heap.size, 0, none⟩ = some (.int .i64 N) ∧ W.cell? ⟨w.heap.size, 1, none⟩ = some (.slice a1 m1 c1))
    (exact HS.out _ _ H2.out (by assumption))
    (first
      | (go_at_call 25; (with_reducible refine (check_ok N a1 m1 c1 l' s t av p cv f _ H2.out.len hm63 (H2.out.rows.later bC) HF.out.len (Nat.le_trans HF.out.l130 (by decide)) HC.out).mono ?_); rintro e Z ⟨rfl, b9⟩; rw [HR.out.1, HR.out.2.1]; have bZ := below_trans bC b9)
      | (go_at_call 26; (with_reducible refine (clone_ok a3 p c3 f _ HF.out.len (Nat.le_trans HF.out.l130 (by decide)) HF.out.nil (HF.out.rows.later (below_trans H2.out.bel bX))).mono ?_); rintro e Y ⟨v, rfl, ho, b1⟩; have bC := below_trans bX b1; (obtain ⟨av, cv, rfl, hr⟩ := ho.rows); rw [HF.out.len]; have HC := Lib.hid hr; clear ho hr)
      | fail)
  have H3 := Lib.hid (H2.out.later bZ)
  clear bX bC bZ b1 b9 HC H2
  have k0 := H3.out.c0
  have k1 := H3.out.c1
  have kl := H3.out.lt
  go_wp2_with fail
  refine (checkref_ok N a1 m1 c1 l' s t a3 p c3 f Z H3.out.len hm63 H3.out.rows HF.out.len (Nat.le_trans HF.out.l130 (by decide)) (HF.out.rows.later H3.out.bel)).mono ?_
  rintro e Z2 ⟨rfl, hb⟩
  rw [HR.out.1, HR.out.2.1]
  have H4 := Lib.hid (H3.out.later hb)
  clear hb k0 k1 kl H3
  go_upto_region 5 with fail
  have bX := (below_self Z2).drew
  go_region_held3 (fun W => W.cell? ⟨w.heap.size, 0, none⟩ = some (.int .i64 N) ∧ W.cell? ⟨w.heap.size, 1, none⟩ = some (.slice a1 m1 c1))
    (exact HS.out _ _ H4.out (by assumption))
    (first
      | (go_at_call 23; (with_reducible refine (across_ok N a1 m1 c1 l' av2 q cv2 g _ H4.out.len hm63 (H4.out.rows.later bC) HG.out.len (Nat.le_trans HG.out.l130 (by decide)) HC.out).mono ?_); rintro e Z3 ⟨rfl, b9⟩; rw [HR.out.2.2.1, HR.out.2.2.2.1]; have bZ := below_trans bC b9)
      | (go_at_call 26; (with_reducible refine (clone_ok a4 q c4 g _ HG.out.len (Nat.le_trans HG.out.l130 (by decide)) HG.out.nil (HG.out.rows.later (below_trans H4.out.bel bX))).mono ?_); rintro e Y2 ⟨v, rfl, ho, b1⟩; have bC := below_trans bX b1; (obtain ⟨av2, cv2, rfl, hr⟩ := ho.rows); rw [HG.out.len]; have HC := Lib.hid hr; clear ho hr)
      | fail)
  have H5 := Lib.hid (H4.out.later bZ)
  clear bX bC bZ b1 b9 HC H4
  have k0 := H5.out.c0
  have k1 := H5.out.c1
  have kl := H5.out.lt
  go_wp2_with fail
  refine (acrossref_ok N a1 m1 c1 l' a4 q c4 g Z3 H5.out.len hm63 H5.out.rows HG.out.len (Nat.le_trans HG.out.l130 (by decide)) (HG.out.rows.later H5.out.bel)).mono ?_
  rintro e Z4 ⟨rfl, hb⟩
  rw [HR.out.2.2.1, HR.out.2.2.2.1]
  have H6 := Lib.hid (H5.out.later hb)
  clear hb k0 k1 kl H5
  go_upto_region 7 with fail
  have bX := (below_self Z4).drew
  have g1 : (V == V) = true := by simp
  have g2 : (R1 == R1) = true := by simp
  have g3 : (E1 == E1) = true := by simp
  have g4 : (R2 == R2) = true := by simp
  have g5 : (E2 == E2) = true := by simp
  go_region_held3 (fun W => W.cell? ⟨w.heap.size, 0, none⟩ = some (.int .i64 N) ∧ W.cell? ⟨w.heap.size, 1, none⟩ = some (.slice a1 m1 c1))
    (exact HS.out _ _ H6.out (by assumption))
    (first
      | (go_at_call 14; (with_reducible refine (works_ok _).mono ?_); rintro e Y5 ⟨rfl, b5⟩; have bW := below_trans bR b5)
      | (go_at_call 19; (with_reducible refine (validref_ok N a1 m1 c1 l' _ H6.out.len hm63 (H6.out.rows.later bV)).mono ?_); rintro e Y4 ⟨rfl, b4⟩; rw [HR.out.2.2.2.2]; have bR := below_trans bV b4)
      | (go_at_call 24; (with_reducible refine (valid_ok N a1 m1 c1 l' _ H6.out.len hm63 (H6.out.rows.later bX)).mono ?_); rintro e Y3 ⟨rfl, b3⟩; rw [HR.out.2.2.2.2]; have bV := below_trans bX b3)
      | fail)
  have H7 := Lib.hid (below_trans H6.out.bel bW)
  clear bX bV bR bW b3 b4 b5 H6
  go_wp2_with fail
  go_ret
  exact ⟨rfl, H7.out⟩
end Go.Proofs.Ytgojjlnpbakfjaa
