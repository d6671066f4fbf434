/- Chapter 06: the reference's Valid and asked (printed by gen06ref.py). -/
import Derived.Test.YtmghcinbdfeeoaaGreatArr
namespace Go.Proofs.YtmghcinbdfeeoaaGreat
open Go Go.RowKit

theorem okL_iff {carry : Int} {ps : List Prt} : okL carry ps = true ↔ (0 ≤ carry ∧ carry ≤ 100000000) ∧ ps.length ≤ 16 ∧ ∀ j, j < ps.length → okP (ps.getD j default) = true := by
  unfold okL
  rw [Bool.and_eq_true, Bool.and_eq_true, inR_iff, decide_eq_true_eq, List.all_eq_true]
  constructor
  · rintro ⟨⟨h1, h2⟩, h3⟩
    exact ⟨h1, h2, fun j hj => h3 _ (by rw [List.getD_eq_getElem?_getD, List.getElem?_eq_getElem hj]; exact List.getElem_mem _)⟩
  · rintro ⟨h1, h2, h3⟩
    refine ⟨⟨h1, h2⟩, fun x hx => ?_⟩
    obtain ⟨j, hj, rfl⟩ := List.getElem_of_mem hx
    have := h3 j hj
    rwa [List.getD_eq_getElem?_getD, List.getElem?_eq_getElem hj] at this
theorem okL_no {carry : Int} {ps : List Prt} (h : ¬ ((0 ≤ carry ∧ carry ≤ 100000000) ∧ ps.length ≤ 16 ∧ ∀ j, j < ps.length → okP (ps.getD j default) = true)) : okL carry ps = false := by
  rw [← Bool.not_eq_true, okL_iff]; exact h
theorem okP_iff {x : Prt} : okP x = true ↔ (0 ≤ x.src ∧ x.src ≤ 15) ∧ (0 ≤ x.times ∧ x.times ≤ 1000) ∧ 0 ≤ x.delay ∧ x.delay ≤ 1000 := by
  unfold okP
  rw [Bool.and_eq_true, Bool.and_eq_true, inR_iff, inR_iff, inR_iff, and_assoc]

set_option maxHeartbeats 2000000 in
theorem valid_ref (carry : Int) (a : Option Addr) (n cap : Nat) (ps : List Prt) (w : World) (hn : ps.length = n) (hl : n ≤ 9223372036854775807) (hm : RowsAt w.heap.size w a 3 (Prts ps)) :
    Calls Tryz.prog 84 #[.agg #[.int .i64 carry, .slice a n cap]] w fun e W' => e = .returned (.bool (okL carry ps)) ∧ Below w.heap.size w W' := by
  have Hn := Lib.hid hn; clear hn
  have Hm := Lib.hid hm; clear hm
  by_cases c0 : 0 ≤ carry
  · skip
    by_cases c1 : carry ≤ 100000000
    · skip
      by_cases c2 : n ≤ 16
      · skip
        go_enter Tryz.func84, Tryz.ntmps84
        go_wp2_with fail
        go_loopw [22] (fun i wr => ∃ (k : Nat) (X : World), k ≤ n ∧ i = .int .i64 k ∧ X = wr ∧ Hid (Below w.heap.size w X) ∧ Hid (∀ j, j < k → okP (ps.getD j default) = true)) (fun i _ => n - (intOf i).toNat)
        case atStart => exact ⟨0, _, Nat.zero_le _, rfl, rfl, Lib.hid (below_alloc (below_self w) _), Lib.hid (fun j hj => by omega)⟩
        case round =>
          obtain ⟨k, X, hk, rfl, rfl, HB, HI⟩ := hrel
          by_cases hlt : k < n
          · obtain ⟨b, off, rfl, hb, hc0, hc1, hc2⟩ := prts_at (Hm.out.below HB.out) k (by rw [Hn.out]; exact hlt)
            have hF : okP (ps.getD k default) = false → okL carry ps = false := fun h => okL_no (fun h2 => by rw [h2.2.2 k (by rw [Hn.out]; exact hlt)] at h; cases h)
            have hT : okP (ps.getD k default) = true → ∀ j, j < k + 1 → okP (ps.getD j default) = true := by
              intro h j hj
              by_cases e : j = k
              · rw [e]; exact h
              · exact HI.out j (by omega)
            generalize ps.getD k default = p at hc0 hc1 hc2 hF hT
            obtain ⟨sr, tm, dl⟩ := p
            simp only at hc0 hc1 hc2
            by_cases d0 : 0 ≤ sr
            · skip
              by_cases d1 : sr < 16
              · skip
                by_cases d2 : 0 ≤ tm
                · skip
                  by_cases d3 : tm ≤ 1000
                  · skip
                    by_cases d4 : 0 ≤ dl
                    · skip
                      by_cases d5 : dl ≤ 1000
                      · skip
                        have HT := Lib.hid (hT (okP_iff.2 ⟨⟨d0, by simp only; omega⟩, ⟨d2, d3⟩, d4, d5⟩))
                        clear hF hT
                        go_wp2_with fail
                        go_roundw
                        case rel => exact ⟨k + 1, _, by omega, by go_num, rfl, Lib.hid (below_alloc HB.out _), HT⟩
                        case measure => simp [intOf]; omega
                      · skip
                        have HF := Lib.hid (hF (by rw [← Bool.not_eq_true, okP_iff]; simp only; omega))
                        clear hF hT
                        go_wp2_with fail
                        go_ret
                        exact ⟨by rw [HF.out]; rfl, below_alloc HB.out _⟩
                    · skip
                      have HF := Lib.hid (hF (by rw [← Bool.not_eq_true, okP_iff]; simp only; omega))
                      clear hF hT
                      go_wp2_with fail
                      go_ret
                      exact ⟨by rw [HF.out]; rfl, below_alloc HB.out _⟩
                  · skip
                    have HF := Lib.hid (hF (by rw [← Bool.not_eq_true, okP_iff]; simp only; omega))
                    clear hF hT
                    go_wp2_with fail
                    go_ret
                    exact ⟨by rw [HF.out]; rfl, below_alloc HB.out _⟩
                · skip
                  have HF := Lib.hid (hF (by rw [← Bool.not_eq_true, okP_iff]; simp only; omega))
                  clear hF hT
                  go_wp2_with fail
                  go_ret
                  exact ⟨by rw [HF.out]; rfl, below_alloc HB.out _⟩
              · skip
                have HF := Lib.hid (hF (by rw [← Bool.not_eq_true, okP_iff]; simp only; omega))
                clear hF hT
                go_wp2_with fail
                go_ret
                exact ⟨by rw [HF.out]; rfl, below_alloc HB.out _⟩
            · skip
              have HF := Lib.hid (hF (by rw [← Bool.not_eq_true, okP_iff]; simp only; omega))
              clear hF hT
              go_wp2_with fail
              go_ret
              exact ⟨by rw [HF.out]; rfl, below_alloc HB.out _⟩
          · have HT := Lib.hid (okL_iff.2 ⟨⟨c0, c1⟩, by rw [Hn.out]; exact c2, fun j hj => HI.out j (by rw [Hn.out] at hj; omega)⟩)
            go_wp2_with fail
            go_ret
            exact ⟨by rw [HT.out]; rfl, HB.out⟩
      · skip
        rw [okL_no (fun h => c2 (by rw [← Hn.out]; exact h.2.1))]
        go_enter Tryz.func84, Tryz.ntmps84
        go_wp2_with fail
        go_ret
        exact ⟨rfl, below_alloc (below_self w) _⟩
    · skip
      rw [okL_no (fun h => c1 (by omega))]
      go_enter Tryz.func84, Tryz.ntmps84
      go_wp2_with fail
      go_ret
      exact ⟨rfl, below_alloc (below_self w) _⟩
  · skip
    rw [okL_no (fun h => c0 (by omega))]
    go_enter Tryz.func84, Tryz.ntmps84
    go_wp2_with fail
    go_ret
    exact ⟨rfl, below_alloc (below_self w) _⟩
end Go.Proofs.YtmghcinbdfeeoaaGreat
