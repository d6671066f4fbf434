/- Chapter 05: the reference's Valid and asked (written by wip/gen05netr.py). -/
import Derived.Test.YtgojjlnpbakfjaaNet
namespace Go.Proofs.Ytgojjlnpbakfjaa
open Go Go.RowKit
set_option linter.unusedSimpArgs false

theorem netOk_bad {N : Int} {l : List Ar} {k : Nat} (hk : k < l.length) (h : okA N (l.getD k default) = false) : netOk N l = false := by
  cases hb : netOk N l
  · rfl
  · have := (netOk_iff.1 hb).2.2.2 (l.getD k default) (by rw [List.getD_eq_getElem?_getD, List.getElem?_eq_getElem hk]; exact List.getElem_mem _)
    rw [h] at this
    cases this
theorem okA_bad {N : Int} {x : Ar} (h : ¬ ((0 ≤ x.u ∧ x.u < N) ∧ (0 ≤ x.v ∧ x.v < N) ∧ x.u ≠ x.v ∧ 0 ≤ x.c ∧ x.c ≤ 100000000)) : okA N x = false := by
  cases hb : okA N x
  · rfl
  · exact absurd (okA_iff.1 hb) h
theorem all_succ {l : List Ar} {p : Ar → Bool} {j : Nat} (h : ∀ x ∈ l.take j, p x = true) (hj : j < l.length) (hp : p (l.getD j default) = true) : ∀ x ∈ l.take (j + 1), p x = true := by
  intro x hx
  rw [List.take_succ_eq_append_getElem hj, List.mem_append] at hx
  rcases hx with hx | hx
  · exact h x hx
  · rw [List.getD_eq_getElem?_getD, List.getElem?_eq_getElem hj, Option.getD_some] at hp
    simp only [List.mem_cons, List.not_mem_nil, or_false] at hx
    rw [hx]; exact hp

set_option maxHeartbeats 4000000 in
theorem validref_ok (N : Int) (a : Option Addr) (k c : Nat) (l : List Ar) (w : World) (hn : l.length = k) (hl : k ≤ 9223372036854775807) (hm : RowsAt w.heap.size w a 3 (Ars l)) :
    Calls Try.prog 19 #[.agg #[.int .i64 N, .slice a k c]] w fun e W' => e = .returned (.bool (netOk N l)) ∧ Below w.heap.size w W' := by
  have Hn := Lib.hid hn; clear hn
  have Hm := Lib.hid hm; clear hm
  by_cases h1 : N < 2
  · have HE := Lib.hid (show netOk N l = false by unfold netOk; rw [decide_eq_false (show ¬ 2 ≤ N by omega)]; rfl)
    rw [HE.out]
    go_enter Try.func19, Try.ntmps19
    go_wp2_with fail
    go_ret
    exact ⟨rfl, below_alloc (below_self w) _⟩
  · by_cases h2 : 64 < N
    · have HE := Lib.hid (show netOk N l = false by unfold netOk; rw [decide_eq_false (show ¬ N ≤ 64 by omega)]; simp)
      rw [HE.out]
      go_enter Try.func19, Try.ntmps19
      go_wp2_with fail
      go_ret
      exact ⟨rfl, below_alloc (below_self w) _⟩
    · by_cases h3 : 128 < k
      · have h3I : (128 : Int) < (k : Int) := by omega
        have HE := Lib.hid (show netOk N l = false by unfold netOk; rw [decide_eq_false (show ¬ l.length ≤ 128 by rw [Hn.out]; omega)]; simp)
        rw [HE.out]
        go_enter Try.func19, Try.ntmps19
        go_wp2_with fail
        go_ret
        exact ⟨rfl, below_alloc (below_self w) _⟩
      · have h3I : ¬ (128 : Int) < (k : Int) := by omega
        obtain ⟨R, hR⟩ : ∃ R, netOk N l = R := ⟨_, rfl⟩
        rw [hR]
        have HR := Lib.hid hR
        have HL := Lib.hid (show 2 ≤ N ∧ N ≤ 64 ∧ k ≤ 128 by omega)
        clear hR
        go_enter Try.func19, Try.ntmps19
        go_wp2_with fail
        obtain ⟨A, hA⟩ : ∃ W' : World, (w.alloc (.cells #[.int .i64 N, .slice a k c] 24)) = W' := ⟨_, rfl⟩
        have h : Has A [(w.heap.size, .cells #[.int .i64 N, .slice a k c] 24 (0, 0))] := by rw [← hA]; simpa using ((Has.nil w).new _)
        have z : A.heap.size = w.heap.size + 1 := by rw [← hA]; simp
        have b : Below w.heap.size w A := by rw [← hA]; exact (below_alloc (below_self w) _)
        rw [hA]
        clear hA
        have HA := Lib.hid (And.intro h.hd b)
        clear h z b h1 h2 h3 h3I
        go_loopw [22] (fun i wr => ∃ (j : Nat) (X : World), j ≤ k ∧ i = .int .i64 j ∧ X = wr ∧ Hid (Below w.heap.size w X ∧ X.heap[w.heap.size]? = some (.cells #[.int .i64 N, .slice a k c] 24 (0, 0)) ∧ ∀ x ∈ l.take j, okA N x = true)) (fun i _ => k - (intOf i).toNat)
        case atStart => exact ⟨0, _, Nat.zero_le _, rfl, rfl, Lib.hid ⟨HA.out.2, HA.out.1, fun x hx => by simp at hx⟩⟩
        case round =>
          clear HA
          obtain ⟨j, X, hj, rfl, rfl, HX⟩ := hrel
          by_cases hlt : j < k
          · have hltI : (j : Int) < (k : Int) := by omega
            have hjl : j < l.length := by rw [Hn.out]; exact hlt
            obtain ⟨b1, o1, rfl, hb1, c0, c1, c2⟩ := ars_at (Hm.out.later HX.out.1) j hjl
            obtain ⟨x, hx⟩ : ∃ x, l.getD j default = x := ⟨_, rfl⟩
            rw [hx] at c0 c1 c2
            have HK := Lib.hid (And.intro hx (And.intro hjl fun hb => (netOk_bad hjl hb).symm.trans HR.out))
            obtain ⟨xu, xv, xc⟩ := x
            simp only at c0 c1 c2
            have p0 : X.cell? ⟨w.heap.size, 0, none⟩ = some (.int .i64 N) := (blk_cell HX.out.2.1 0).trans rfl
            have lp := blk_lt HX.out.2.1
            clear hx hjl
            by_cases g1 : xu < 0
            · have HN := Lib.hid (HK.out.2.2 (by rw [HK.out.1]; exact okA_bad (by simp only; omega)))
              go_wp2_with fail
              go_ret
              exact ⟨by rw [← HN.out]; rfl, below_alloc HX.out.1 _⟩
            · skip
              by_cases g2 : N ≤ xu
              · have HN := Lib.hid (HK.out.2.2 (by rw [HK.out.1]; exact okA_bad (by simp only; omega)))
                go_wp2_with fail
                go_ret
                exact ⟨by rw [← HN.out]; rfl, below_alloc HX.out.1 _⟩
              · skip
                by_cases g3 : xv < 0
                · have HN := Lib.hid (HK.out.2.2 (by rw [HK.out.1]; exact okA_bad (by simp only; omega)))
                  go_wp2_with fail
                  go_ret
                  exact ⟨by rw [← HN.out]; rfl, below_alloc HX.out.1 _⟩
                · skip
                  by_cases g4 : N ≤ xv
                  · have HN := Lib.hid (HK.out.2.2 (by rw [HK.out.1]; exact okA_bad (by simp only; omega)))
                    go_wp2_with fail
                    go_ret
                    exact ⟨by rw [← HN.out]; rfl, below_alloc HX.out.1 _⟩
                  · skip
                    by_cases g5 : xu = xv
                    · have HN := Lib.hid (HK.out.2.2 (by rw [HK.out.1]; exact okA_bad (by simp only; omega)))
                      have q5 : (xu == xv) = true := beq_iff_eq.2 g5
                      go_wp2_with fail
                      go_ret
                      exact ⟨by rw [← HN.out]; rfl, below_alloc HX.out.1 _⟩
                    · skip
                      have q5 : (xu == xv) = false := beq_eq_false_iff_ne.2 g5
                      by_cases g6 : xc < 0
                      · have HN := Lib.hid (HK.out.2.2 (by rw [HK.out.1]; exact okA_bad (by simp only; omega)))
                        go_wp2_with fail
                        go_ret
                        exact ⟨by rw [← HN.out]; rfl, below_alloc HX.out.1 _⟩
                      · skip
                        by_cases g7 : 100000000 < xc
                        · have HN := Lib.hid (HK.out.2.2 (by rw [HK.out.1]; exact okA_bad (by simp only; omega)))
                          go_wp2_with fail
                          go_ret
                          exact ⟨by rw [← HN.out]; rfl, below_alloc HX.out.1 _⟩
                        · skip
                          have HN := Lib.hid (all_succ HX.out.2.2 HK.out.2.1 (by rw [HK.out.1]; exact okA_iff.2 (by simp only; omega)))
                          have HB := Lib.hid (And.intro HX.out.1 HX.out.2.1)
                          clear HK
                          go_wp2_with fail
                          go_roundw
                          case rel => exact ⟨j + 1, _, by omega, by go_num, rfl, Lib.hid ⟨below_alloc HB.out.1 _, blk_alloc HB.out.2 _, HN.out⟩⟩
                          case measure => simp [intOf]; omega
          · have hltI : ¬ (j : Int) < (k : Int) := by omega
            have HT := Lib.hid (show true = R by
              rw [← HR.out]
              have := HX.out.2.2
              rw [List.take_of_length_le (by rw [Hn.out]; omega)] at this
              exact (netOk_iff.2 ⟨HL.out.1, HL.out.2.1, by rw [Hn.out]; exact HL.out.2.2, this⟩).symm)
            go_wp2_with fail
            go_ret
            exact ⟨by rw [← HT.out]; rfl, HX.out.1⟩


set_option maxHeartbeats 1000000 in
theorem askedref_ok (N : Int) (a : Option Addr) (k c : Nat) (l : List Ar) (s t : Int) (w : World) (hn : l.length = k) (hl : k ≤ 9223372036854775807) (hm : RowsAt w.heap.size w a 3 (Ars l)) :
    Calls Try.prog 34 #[.agg #[.int .i64 N, .slice a k c], .int .i64 s, .int .i64 t] w fun e W' => e = .returned (.int .i64 (askF N l s t)) ∧ Below w.heap.size w W' := by
  have Hn := Lib.hid hn; clear hn
  have Hm := Lib.hid hm; clear hm
  cases hv : netOk N l
  · have HE := Lib.hid (show askF N l s t = 1 by unfold askF; rw [hv]; rfl)
    rw [HE.out]
    have HV := Lib.hid hv
    clear hv
    go_enter Try.func34, Try.ntmps34
    go_wp2_with fail
    obtain ⟨A, hA⟩ : ∃ W' : World, (w.alloc (.cells #[.int .i64 N, .slice a k c] 24)) = W' := ⟨_, rfl⟩
    have h : Has A [(w.heap.size, .cells #[.int .i64 N, .slice a k c] 24 (0, 0))] := by rw [← hA]; simpa using ((Has.nil w).new _)
    have z : A.heap.size = w.heap.size + 1 := by rw [← hA]; simp
    have b : Below w.heap.size w A := by rw [← hA]; exact (below_alloc (below_self w) _)
    rw [hA]
    clear hA
    have HA := Lib.hid (And.intro h.hd b)
    clear h z b
    refine (validref_ok N a k c l A Hn.out hl (Hm.out.later HA.out.2)).mono ?_
    rintro e B ⟨rfl, hb⟩
    have HB := Lib.hid (And.intro (blk_below HA.out.1 hb) (below_trans HA.out.2 hb))
    clear hb HA
    rw [HV.out]
    go_wp2_with fail
    go_ret
    exact ⟨rfl, HB.out.2⟩
  · have HV := Lib.hid hv
    have hA : askF N l s t = (if inR s 0 (N - 1) = true ∧ inR t 0 (N - 1) = true ∧ s ≠ t then 0 else 2) := by unfold askF; rw [hv]; rfl
    obtain ⟨E, hE⟩ : ∃ E, askF N l s t = E := ⟨_, rfl⟩
    rw [hE]
    rw [hE] at hA
    have HE := Lib.hid (And.intro (show ¬ ((0 ≤ s ∧ s < N) ∧ (0 ≤ t ∧ t < N) ∧ s ≠ t) → 2 = E from fun h => by rw [hA, if_neg]; rintro ⟨h1, h2, h3⟩; have h1 := inR_iff.1 h1; have h2 := inR_iff.1 h2; exact h ⟨by omega, by omega, h3⟩) (show (0 ≤ s ∧ s < N) ∧ (0 ≤ t ∧ t < N) ∧ s ≠ t → 0 = E from fun h => by rw [hA, if_pos]; exact ⟨inR_iff.2 (by omega), inR_iff.2 (by omega), h.2.2⟩))
    clear hv hA hE
    go_enter Try.func34, Try.ntmps34
    go_wp2_with fail
    obtain ⟨A, hA⟩ : ∃ W' : World, (w.alloc (.cells #[.int .i64 N, .slice a k c] 24)) = W' := ⟨_, rfl⟩
    have h : Has A [(w.heap.size, .cells #[.int .i64 N, .slice a k c] 24 (0, 0))] := by rw [← hA]; simpa using ((Has.nil w).new _)
    have z : A.heap.size = w.heap.size + 1 := by rw [← hA]; simp
    have b : Below w.heap.size w A := by rw [← hA]; exact (below_alloc (below_self w) _)
    rw [hA]
    clear hA
    have HA := Lib.hid (And.intro h.hd b)
    clear h z b
    refine (validref_ok N a k c l A Hn.out hl (Hm.out.later HA.out.2)).mono ?_
    rintro e B ⟨rfl, hb⟩
    have HB := Lib.hid (And.intro (blk_below HA.out.1 hb) (below_trans HA.out.2 hb))
    clear hb HA
    rw [HV.out]
    have c0 : B.cell? ⟨w.heap.size, 0, none⟩ = some (.int .i64 N) := (blk_cell HB.out.1 0).trans rfl
    have lb := blk_lt HB.out.1
    by_cases g1 : s < 0
    · have HN := Lib.hid (HE.out.1 (by omega))
      go_wp2_with fail
      go_ret
      exact ⟨by rw [← HN.out]; rfl, HB.out.2⟩
    · skip
      by_cases g2 : N ≤ s
      · have HN := Lib.hid (HE.out.1 (by omega))
        go_wp2_with fail
        go_ret
        exact ⟨by rw [← HN.out]; rfl, HB.out.2⟩
      · skip
        by_cases g3 : t < 0
        · have HN := Lib.hid (HE.out.1 (by omega))
          go_wp2_with fail
          go_ret
          exact ⟨by rw [← HN.out]; rfl, HB.out.2⟩
        · skip
          by_cases g4 : N ≤ t
          · have HN := Lib.hid (HE.out.1 (by omega))
            go_wp2_with fail
            go_ret
            exact ⟨by rw [← HN.out]; rfl, HB.out.2⟩
          · skip
            by_cases g5 : s = t
            · have HN := Lib.hid (HE.out.1 (by omega))
              have q5 : (s == t) = true := beq_iff_eq.2 g5
              go_wp2_with fail
              go_ret
              exact ⟨by rw [← HN.out]; rfl, HB.out.2⟩
            · skip
              have q5 : (s == t) = false := beq_eq_false_iff_ne.2 g5
              have HN := Lib.hid (HE.out.2 ⟨by omega, by omega, g5⟩)
              go_wp2_with fail
              go_ret
              exact ⟨by rw [← HN.out]; rfl, HB.out.2⟩
end Go.Proofs.Ytgojjlnpbakfjaa
