/- Chapter 05: the law that Cut and Critical are the reference's: the walk (written by wip/gen05cuts.py). -/
import Derived.Test.YtgojjlnpbakfjaaLawMaxes
import Derived.Test.YtgojjlnpbakfjaaCutR
import Derived.Test.YtgojjlnpbakfjaaCritR
namespace Go.Proofs.Ytgojjlnpbakfjaa
open Go Go.RowKit
set_option linter.unusedSimpArgs false

theorem cut_same {N : Int} {l : List Ar} {s t : Int} {c d : List Int} (h : CutIs N l s t c) (k : CutIs N l s t d) : c = d := by
  by_cases h0 : askF N l s t = 0
  · obtain ⟨hv, hs, ht, hst⟩ := askF_zero h0
    have hA := (netOk_iff.1 hv).2.2.2
    exact (h.1 h0).same (k.1 h0) (fun a ha => by have := okA_iff.1 (hA a ha); omega) (by omega) (by omega)
  · rw [h.2 h0, k.2 h0]
theorem crit_same {N : Int} {l : List Ar} {s t : Int} {c d : List Int} (h : CritIs N l s t c) (k : CritIs N l s t d) : c = d := by
  by_cases h0 : askF N l s t = 0
  · exact (h.1 h0).same (k.1 h0)
  · rw [h.2 h0, k.2 h0]

theorem own_len {base : Nat} {W : World} {v : Value} {xs : List Int} (h : OwnI base W v xs) : xs.length ≤ 9223372036854775807 := by
  obtain ⟨a, c, _, h1, h2⟩ := owns_shape h
  exact Nat.le_trans h1 h2

set_option maxRecDepth 100000 in
set_option maxHeartbeats 8000000 in
theorem cuts_walk (x : NetV) (s t : Int) (w : World) (hx : x.ok w) :
    Calls Try.prog 4 #[x.val, .int .i64 s, .int .i64 t] w fun e W' => e = .returned (.bool true) ∧ Below w.heap.size w W' := by
  obtain ⟨N, a, k, c, l⟩ := x
  have HX := Lib.hid hx
  clear hx
  go_enter Try.func4, Try.ntmps4
  go_wp2_with fail
  obtain ⟨A, hA⟩ : ∃ W' : World, (w.alloc (.cells #[.int .i64 N, .slice a k c] 24)) = W' := ⟨_, rfl⟩
  have h : Has A [(w.heap.size, .cells #[.int .i64 N, .slice a k c] 24 (0, 0))] := by rw [← hA]; simpa using ((Has.nil w).new _)
  have z : A.heap.size = w.heap.size + 1 := by rw [← hA]; simp
  have b : Below w.heap.size w A := by rw [← hA]; exact (below_alloc (below_self w) _)
  rw [hA]
  clear hA
  have HA := Lib.hid (And.intro h.hd b)
  clear h z b
  refine (own_ok N a k c l A HX.out.len HX.out.cap HX.out.nil (HX.out.rows.later HA.out.2)).mono ?_
  rintro e W1 ⟨a1, m1, c1, rfl, ho, hb⟩
  have H1 := Lib.hid (NX.put (N := N) HA.out.1 HA.out.2 ho hb)
  have hB := blk_below HA.out.1 hb
  have m0 : W1.cell? ⟨w.heap.size, 0, none⟩ = some (.int .i64 N) := (blk_cell hB 0).trans rfl
  have m1' : W1.cell? ⟨w.heap.size, 1, none⟩ = some (.slice a k c) := (blk_cell hB 1).trans rfl
  have f0 := blk_frozen hB 0
  have f1 := blk_frozen hB 1
  have lb := blk_lt hB
  obtain ⟨l', hl'⟩ : ∃ l', l.take 130 = l' := ⟨_, rfl⟩
  have hl63 : l'.length ≤ 130 := by rw [← hl', List.length_take]; omega
  rw [hl'] at H1
  have hm63 : m1 ≤ 9223372036854775807 := by have := H1.out.len; omega
  clear ho hb hB hl' hl63 HA HX
  go_upto_region 2 with fail
  generalize (W1.setCell ⟨w.heap.size, 0, none⟩ (.int .i64 N)).setCell ⟨w.heap.size, 1, none⟩ (.slice a1 m1 c1) = X1 at H1 ⊢
  clear m0 m1' f0 f1 lb
  obtain ⟨E, hE⟩ : ∃ E, askF N l' s t = E := ⟨_, rfl⟩
  have HE := Lib.hid hE
  have hEE : (E != E) = false := by simp
  have hEQ : (E == E) = true := by simp
  clear hE
  have k0 := H1.out.c0
  have k1 := H1.out.c1
  have kl := H1.out.lt
  go_wp2_with fail
  refine (cut_ok N a1 m1 c1 l' s t X1 H1.out.len hm63 H1.out.rows).mono ?_
  rintro e X2 ⟨v, rfl, f, ho, hc, hb⟩
  rw [HE.out]
  obtain ⟨av, cv, rfl, hr⟩ := ho.rows
  have H2 := Lib.hid (And.intro (H1.out.later hb) (And.intro hc hr))
  clear ho hc hb hr k0 k1 kl H1
  have k0 := H2.out.1.c0
  have k1 := H2.out.1.c1
  have kl := H2.out.1.lt
  go_wp2_with fail
  refine (cutref_ok N a1 m1 c1 l' s t X2 H2.out.1.len hm63 H2.out.1.rows).mono ?_
  rintro e X3 ⟨v, rfl, f2, ho, hc, hb⟩
  rw [HE.out]
  obtain rfl := cut_same H2.out.2.1 hc
  obtain ⟨av2, cv2, rfl, hr⟩ := ho.rows
  have H3 := Lib.hid (And.intro (H2.out.1.later hb) (And.intro (H2.out.2.2.later hb) (And.intro hr (own_len ho))))
  clear ho hc hb hr k0 k1 kl H2
  go_wp2_with fail
  refine (equalI_ok av av2 f.length cv f.length cv2 f f X3 rfl rfl H3.out.2.2.2 H3.out.2.1 H3.out.2.2.1).mono ?_
  rintro e X4 ⟨rfl, hb⟩
  rw [decide_eq_true (rfl : f = f)]
  have H4 := Lib.hid (H3.out.1.later hb)
  clear hb H3
  have k0 := H4.out.c0
  have k1 := H4.out.c1
  have kl := H4.out.lt
  go_wp2_with fail
  refine (validref_ok N a1 m1 c1 l' X4 H4.out.len hm63 H4.out.rows).mono ?_
  rintro e X5 ⟨rfl, hb⟩
  have H5 := Lib.hid (H4.out.later hb)
  clear k0 k1 kl hb H4
  have k0 := H5.out.c0
  have k1 := H5.out.c1
  have kl := H5.out.lt
  cases hv : netOk N l'
  · go_wp2_with fail
    refine (crit_ok N a1 m1 c1 l' s t X5 H5.out.len hm63 H5.out.rows).mono ?_
    rintro e X6 ⟨v, rfl, g, ho, hc, hb⟩
    rw [HE.out]
    obtain ⟨aw, cw, rfl, hr⟩ := ho.rows
    have H6 := Lib.hid (And.intro (H5.out.later hb) (And.intro hc hr))
    clear ho hc hb hr k0 k1 kl H5
    have k0 := H6.out.1.c0
    have k1 := H6.out.1.c1
    have kl := H6.out.1.lt
    go_wp2_with fail
    refine (critref_ok N a1 m1 c1 l' s t X6 H6.out.1.len H6.out.1.cap H6.out.1.nil hm63 H6.out.1.rows).mono ?_
    rintro e X7 ⟨v, rfl, g2, ho, hc, hb⟩
    rw [HE.out]
    obtain rfl := crit_same H6.out.2.1 hc
    obtain ⟨aw2, cw2, rfl, hr⟩ := ho.rows
    have H7 := Lib.hid (And.intro (below_trans H6.out.1.bel hb) (And.intro (H6.out.2.2.later hb) (And.intro hr (show g.length ≤ 9223372036854775807 from own_len ho))))
    clear ho hc hb hr k0 k1 kl H6
    go_wp2_with fail
    refine (equalI_ok aw aw2 g.length cw g.length cw2 g g X7 rfl rfl H7.out.2.2.2 H7.out.2.1 H7.out.2.2.1).mono ?_
    rintro e X8 ⟨rfl, hb⟩
    rw [decide_eq_true (rfl : g = g)]
    have H8 := Lib.hid (below_trans H7.out.1 hb)
    clear hb H7
    go_wp2_with fail
    refine (works_ok X8).mono ?_
    rintro e X9 ⟨rfl, hb⟩
    have H9 := Lib.hid (below_trans H8.out hb)
    clear hb H8
    go_wp2_with fail
    go_ret
    exact ⟨rfl, H9.out⟩
  · by_cases h30 : 30 < m1
    · have h30I : (30 : Int) < (m1 : Int) := by omega
      go_wp2_with fail
      refine (works_ok X5).mono ?_
      rintro e X9 ⟨rfl, hb⟩
      have H9 := Lib.hid (below_trans H5.out.bel hb)
      clear hb H5
      go_wp2_with fail
      go_ret
      exact ⟨rfl, H9.out⟩
    · have h30I : ¬ (30 : Int) < (m1 : Int) := by omega
      by_cases h12 : 12 < N
      · skip
        go_wp2_with fail
        refine (works_ok X5).mono ?_
        rintro e X9 ⟨rfl, hb⟩
        have H9 := Lib.hid (below_trans H5.out.bel hb)
        clear hb H5
        go_wp2_with fail
        go_ret
        exact ⟨rfl, H9.out⟩
      · skip
        go_wp2_with fail
        refine (crit_ok N a1 m1 c1 l' s t X5 H5.out.len hm63 H5.out.rows).mono ?_
        rintro e X6 ⟨v, rfl, g, ho, hc, hb⟩
        rw [HE.out]
        obtain ⟨aw, cw, rfl, hr⟩ := ho.rows
        have H6 := Lib.hid (And.intro (H5.out.later hb) (And.intro hc hr))
        clear ho hc hb hr k0 k1 kl H5
        have k0 := H6.out.1.c0
        have k1 := H6.out.1.c1
        have kl := H6.out.1.lt
        go_wp2_with fail
        refine (critref_ok N a1 m1 c1 l' s t X6 H6.out.1.len H6.out.1.cap H6.out.1.nil hm63 H6.out.1.rows).mono ?_
        rintro e X7 ⟨v, rfl, g2, ho, hc, hb⟩
        rw [HE.out]
        obtain rfl := crit_same H6.out.2.1 hc
        obtain ⟨aw2, cw2, rfl, hr⟩ := ho.rows
        have H7 := Lib.hid (And.intro (below_trans H6.out.1.bel hb) (And.intro (H6.out.2.2.later hb) (And.intro hr (show g.length ≤ 9223372036854775807 from own_len ho))))
        clear ho hc hb hr k0 k1 kl H6
        go_wp2_with fail
        refine (equalI_ok aw aw2 g.length cw g.length cw2 g g X7 rfl rfl H7.out.2.2.2 H7.out.2.1 H7.out.2.2.1).mono ?_
        rintro e X8 ⟨rfl, hb⟩
        rw [decide_eq_true (rfl : g = g)]
        have H8 := Lib.hid (below_trans H7.out.1 hb)
        clear hb H7
        go_wp2_with fail
        refine (works_ok X8).mono ?_
        rintro e X9 ⟨rfl, hb⟩
        have H9 := Lib.hid (below_trans H8.out hb)
        clear hb H8
        go_wp2_with fail
        go_ret
        exact ⟨rfl, H9.out⟩
end Go.Proofs.Ytgojjlnpbakfjaa
