/- Chapter 06: the reference's asked (printed by gen06ref.py). -/
import Derived.Test.YtmghcinbdfeeoaaGreatRefA
namespace Go.Proofs.YtmghcinbdfeeoaaGreat
open Go Go.RowKit

theorem askedE_one {carry : Int} {ps : List Prt} {start : Int} {ins : List (List Int)} {t : Int} (h : okL carry ps = false) : askedE carry ps start ins t = 1 := by
  unfold askedE; rw [if_neg (by rw [h]; simp)]
theorem askedE_zero {carry : Int} {ps : List Prt} {start : Int} {ins : List (List Int)} {t : Int} (h : okL carry ps = true) (h1 : 0 ≤ start) (h2 : start ≤ 100000000) (h3 : 0 ≤ t) (h4 : t ≤ 1000) (h5 : ins.length ≤ 16) (h6 : ∀ j, j < ins.length → badList (ins.getD j default) = false) : askedE carry ps start ins t = 0 := by
  unfold askedE
  rw [if_pos h, if_pos]
  refine ⟨inR_iff.2 ⟨h1, h2⟩, inR_iff.2 ⟨h3, h4⟩, h5, ?_⟩
  rw [List.any_eq_false]
  intro l hl
  obtain ⟨j, hj, rfl⟩ := List.getElem_of_mem hl
  have := h6 j hj
  rw [List.getD_eq_getElem?_getD, List.getElem?_eq_getElem hj] at this
  simpa using this
theorem askedE_two {carry : Int} {ps : List Prt} {start : Int} {ins : List (List Int)} {t : Int} (h : okL carry ps = true) (hn : ¬ (0 ≤ start ∧ start ≤ 100000000 ∧ 0 ≤ t ∧ t ≤ 1000 ∧ ins.length ≤ 16)) : askedE carry ps start ins t = 2 := by
  unfold askedE
  rw [if_pos h, if_neg]
  rintro ⟨h1, h2, h3, _⟩
  exact hn ⟨(inR_iff.1 h1).1, (inR_iff.1 h1).2, (inR_iff.1 h2).1, (inR_iff.1 h2).2, h3⟩
theorem askedE_bad {carry : Int} {ps : List Prt} {start : Int} {ins : List (List Int)} {t : Int} (h : okL carry ps = true) {j : Nat} (hj : j < ins.length) (hb : badList (ins.getD j default) = true) : askedE carry ps start ins t = 2 := by
  unfold askedE
  rw [if_pos h, if_neg]
  rintro ⟨_, _, _, h4⟩
  rw [List.any_eq_false] at h4
  exact h4 (ins.getD j default) (by rw [List.getD_eq_getElem?_getD, List.getElem?_eq_getElem hj]; exact List.getElem_mem _) hb
theorem badList_long {l : List Int} (h : 1000 < l.length) : badList l = true := by unfold badList; rw [decide_eq_true h]; rfl
theorem badList_bad {l : List Int} {j : Nat} (hj : j < l.length) (h : okX (l.getD j default) = false) : badList l = true := by
  unfold badList
  rw [Bool.or_eq_true]
  exact .inr (List.any_eq_true.2 ⟨_, getD_mem hj, by rw [h]; rfl⟩)
theorem badList_ok {l : List Int} (hn : ¬ 1000 < l.length) (h : ∀ j, j < l.length → okX (l.getD j default) = true) : badList l = false := by
  unfold badList
  rw [decide_eq_false hn, Bool.false_or, List.any_eq_false]
  intro x hx
  obtain ⟨j, hj, rfl⟩ := List.getElem_of_mem hx
  have := h j hj
  rw [List.getD_eq_getElem?_getD, List.getElem?_eq_getElem hj] at this
  simpa using this

set_option maxHeartbeats 4000000 in
theorem asked_ref (carry : Int) (a : Option Addr) (n cap : Nat) (ps : List Prt) (start : Int) (ai : Option Addr) (ni ci : Nat) (hs : List Hd) (ins : List (List Int)) (t : Int) (w : World) (hn : ps.length = n) (hl : n ≤ 9223372036854775807) (hm : RowsAt w.heap.size w a 3 (Prts ps))
    (hni : ins.length = ni) (hli : ni ≤ 9223372036854775807) (hmi : InsAt w.heap.size w ai hs ins) :
    Calls Tryz.prog 50 #[.agg #[.int .i64 carry, .slice a n cap], .int .i64 start, .slice ai ni ci, .int .i64 t] w fun e W' => e = .returned (.int .i64 (askedE carry ps start ins t)) ∧ Below w.heap.size w W' := by
  have Hm := Lib.hid hm; clear hm
  have Hmi := Lib.hid hmi; clear hmi
  have Hni := Lib.hid hni; clear hni
  cases hv : okL carry ps
  · rw [askedE_one hv]
    have HV := Lib.hid hv; clear hv
    go_enter Tryz.func50, Tryz.ntmps50
    go_wp2_with fail
    obtain ⟨W1, hW1⟩ : ∃ W' : World, (w.alloc (.cells #[.int .i64 carry, .slice a n cap] 80)) = W' := ⟨_, rfl⟩
    have h1 : Has W1 [(w.heap.size, .cells #[.int .i64 carry, .slice a n cap] 80 (0, 0))] := by rw [← hW1]; simpa using ((Has.nil w).new _)
    have s1 : W1.heap.size = w.heap.size + 1 := by rw [← hW1]; simp
    have b1 : Below w.heap.size w W1 := by rw [← hW1]; exact (below_alloc (below_self w) _)
    rw [hW1]
    clear hW1
    refine (valid_ref carry a n cap ps _ hn hl (Hm.out.later b1)).mono ?_
    rintro e W2 ⟨rfl, hb2⟩
    rw [HV.out]
    have w2 := Lib.hid (below_trans b1 hb2)
    clear hb2 b1 h1 s1
    go_wp2_with fail
    go_ret
    exact ⟨rfl, w2.out⟩
  · skip
    by_cases e0 : 0 ≤ start
    · skip
      by_cases e1 : start ≤ 100000000
      · skip
        by_cases e2 : 0 ≤ t
        · skip
          by_cases e3 : t ≤ 1000
          · skip
            by_cases e4 : ni ≤ 16
            · skip
              have hbad := fun (j : Nat) (hj : j < ins.length) (hb : badList (ins.getD j default) = true) => askedE_bad (start := start) (t := t) hv hj hb
              have hz := fun (h6 : ∀ j, j < ins.length → badList (ins.getD j default) = false) => askedE_zero hv e0 e1 e2 e3 (by rw [Hni.out]; exact e4) h6
              generalize askedE carry ps start ins t = E at hbad hz ⊢
              have HE := Lib.hid (And.intro hbad hz)
              clear hbad hz
              have HV := Lib.hid hv; clear hv
              go_enter Tryz.func50, Tryz.ntmps50
              go_wp2_with fail
              obtain ⟨W1, hW1⟩ : ∃ W' : World, (w.alloc (.cells #[.int .i64 carry, .slice a n cap] 80)) = W' := ⟨_, rfl⟩
              have h1 : Has W1 [(w.heap.size, .cells #[.int .i64 carry, .slice a n cap] 80 (0, 0))] := by rw [← hW1]; simpa using ((Has.nil w).new _)
              have s1 : W1.heap.size = w.heap.size + 1 := by rw [← hW1]; simp
              have b1 : Below w.heap.size w W1 := by rw [← hW1]; exact (below_alloc (below_self w) _)
              rw [hW1]
              clear hW1
              refine (valid_ref carry a n cap ps _ hn hl (Hm.out.later b1)).mono ?_
              rintro e W2 ⟨rfl, hb2⟩
              rw [HV.out]
              have w2 := Lib.hid (below_trans b1 hb2)
              clear hb2 b1 h1 s1
              go_wp2_with fail
              go_loopw [37] (fun i wr => ∃ k : Nat, k ≤ ni ∧ i = .int .i64 k ∧ W2 = wr ∧ Hid (∀ j, j < k → badList (ins.getD j default) = false)) (fun i _ => ni - (intOf i).toNat)
              case atStart => exact ⟨0, Nat.zero_le _, rfl, rfl, Lib.hid (fun j hj => by omega)⟩
              case round =>
                obtain ⟨k, hk, rfl, rfl, HI⟩ := hrel
                by_cases hlt : k < ni
                · obtain ⟨bh, oh, rfl, hbh, hch⟩ := hds_at (Hmi.out.rows.below w2.out) k (by rw [Hmi.out.len, Hni.out]; exact hlt)
                  obtain ⟨q1, q2, q3⟩ := (Hmi.out.below w2.out).at' k (by rw [Hni.out]; exact hlt)
                  have hB : badList (ins.getD k default) = true → E = 2 := HE.out.1 k (by rw [Hni.out]; exact hlt)
                  have hT : badList (ins.getD k default) = false → ∀ j, j < k + 1 → badList (ins.getD j default) = false := by
                    intro h j hj
                    by_cases e : j = k
                    · rw [e]; exact h
                    · exact HI.out j (by omega)
                  generalize hs.getD k default = hd at hch q1 q2 q3
                  generalize ins.getD k default = l at hB hT q1 q3
                  obtain ⟨x, m, c⟩ := hd
                  simp only at hch q1 q2 q3
                  replace hch : W2.cell? ⟨bh, oh + k, none⟩ = some (.slice x m c) := hch
                  have HQ := Lib.hid (And.intro q1 (And.intro q3 (And.intro hB hT)))
                  clear q1 q3 hB hT
                  by_cases hbig : 1000 < m
                  · have h2 := HQ.out.2.2.1 (badList_long (by rw [HQ.out.1]; exact hbig))
                    have H2 := Lib.hid h2
                    clear h2
                    go_wp2_with fail
                    go_ret
                    exact ⟨by rw [H2.out]; rfl, w2.out⟩
                  · have Hbig := Lib.hid hbig
                    go_wp2_with fail
                    clear hch
                    go_loopw [46] (fun i wr => ∃ q : Nat, q ≤ m ∧ i = .int .i64 q ∧ W2 = wr ∧ Hid (∀ j, j < q → okX (l.getD j default) = true)) (fun i _ => m - (intOf i).toNat)
                    case atStart => exact ⟨0, Nat.zero_le _, rfl, rfl, Lib.hid (fun j hj => by omega)⟩
                    case round =>
                      obtain ⟨q, hq, rfl, rfl, HJ⟩ := hrel
                      by_cases hql : q < m
                      · obtain ⟨bx, ox, rfl, hbx, hcx⟩ := ints_at HQ.out.2.1 q (by rw [HQ.out.1]; exact hql)
                        have hF : okX (l.getD q default) = false → E = 2 := fun h => HQ.out.2.2.1 (badList_bad (by rw [HQ.out.1]; exact hql) h)
                        have hT : okX (l.getD q default) = true → ∀ j, j < q + 1 → okX (l.getD j default) = true := by
                          intro h j hj
                          by_cases e : j = q
                          · rw [e]; exact h
                          · exact HJ.out j (by omega)
                        generalize l.getD q default = z at hcx hF hT
                        by_cases f0 : 0 ≤ z
                        · skip
                          by_cases f1 : z ≤ 100000000
                          · skip
                            have HT := Lib.hid (hT (inR_iff.2 ⟨f0, f1⟩))
                            clear hF hT
                            go_wp2_with fail
                            go_roundw
                            case rel => exact ⟨q + 1, by omega, by go_num, trivial, HT⟩
                            case measure => simp [intOf]; omega
                          · skip
                            have HF := Lib.hid (hF (inR_not.2 (by omega)))
                            clear hF hT
                            go_wp2_with fail
                            go_ret
                            exact ⟨by rw [HF.out]; rfl, w2.out⟩
                        · skip
                          have HF := Lib.hid (hF (inR_not.2 (by omega)))
                          clear hF hT
                          go_wp2_with fail
                          go_ret
                          exact ⟨by rw [HF.out]; rfl, w2.out⟩
                      · have HT := Lib.hid (HQ.out.2.2.2 (badList_ok (by rw [HQ.out.1]; exact Hbig.out) (fun j hj => HJ.out j (by rw [HQ.out.1] at hj; omega))))
                        go_wp2_with fail
                        go_roundw
                        case rel => exact ⟨k + 1, by omega, by go_num, trivial, HT⟩
                        case measure => simp [intOf]; omega
                · have HZ := Lib.hid (HE.out.2 (fun j hj => HI.out j (by rw [Hni.out] at hj; omega)))
                  go_wp2_with fail
                  go_ret
                  exact ⟨by rw [HZ.out]; rfl, w2.out⟩
            · skip
              rw [askedE_two hv (fun h => e4 (by rw [← Hni.out]; exact h.2.2.2.2))]
              have HV := Lib.hid hv; clear hv
              go_enter Tryz.func50, Tryz.ntmps50
              go_wp2_with fail
              obtain ⟨W1, hW1⟩ : ∃ W' : World, (w.alloc (.cells #[.int .i64 carry, .slice a n cap] 80)) = W' := ⟨_, rfl⟩
              have h1 : Has W1 [(w.heap.size, .cells #[.int .i64 carry, .slice a n cap] 80 (0, 0))] := by rw [← hW1]; simpa using ((Has.nil w).new _)
              have s1 : W1.heap.size = w.heap.size + 1 := by rw [← hW1]; simp
              have b1 : Below w.heap.size w W1 := by rw [← hW1]; exact (below_alloc (below_self w) _)
              rw [hW1]
              clear hW1
              refine (valid_ref carry a n cap ps _ hn hl (Hm.out.later b1)).mono ?_
              rintro e W2 ⟨rfl, hb2⟩
              rw [HV.out]
              have w2 := Lib.hid (below_trans b1 hb2)
              clear hb2 b1 h1 s1
              go_wp2_with fail
              go_ret
              exact ⟨rfl, w2.out⟩
          · skip
            rw [askedE_two hv (fun h => e3 (by omega))]
            have HV := Lib.hid hv; clear hv
            go_enter Tryz.func50, Tryz.ntmps50
            go_wp2_with fail
            obtain ⟨W1, hW1⟩ : ∃ W' : World, (w.alloc (.cells #[.int .i64 carry, .slice a n cap] 80)) = W' := ⟨_, rfl⟩
            have h1 : Has W1 [(w.heap.size, .cells #[.int .i64 carry, .slice a n cap] 80 (0, 0))] := by rw [← hW1]; simpa using ((Has.nil w).new _)
            have s1 : W1.heap.size = w.heap.size + 1 := by rw [← hW1]; simp
            have b1 : Below w.heap.size w W1 := by rw [← hW1]; exact (below_alloc (below_self w) _)
            rw [hW1]
            clear hW1
            refine (valid_ref carry a n cap ps _ hn hl (Hm.out.later b1)).mono ?_
            rintro e W2 ⟨rfl, hb2⟩
            rw [HV.out]
            have w2 := Lib.hid (below_trans b1 hb2)
            clear hb2 b1 h1 s1
            go_wp2_with fail
            go_ret
            exact ⟨rfl, w2.out⟩
        · skip
          rw [askedE_two hv (fun h => e2 (by omega))]
          have HV := Lib.hid hv; clear hv
          go_enter Tryz.func50, Tryz.ntmps50
          go_wp2_with fail
          obtain ⟨W1, hW1⟩ : ∃ W' : World, (w.alloc (.cells #[.int .i64 carry, .slice a n cap] 80)) = W' := ⟨_, rfl⟩
          have h1 : Has W1 [(w.heap.size, .cells #[.int .i64 carry, .slice a n cap] 80 (0, 0))] := by rw [← hW1]; simpa using ((Has.nil w).new _)
          have s1 : W1.heap.size = w.heap.size + 1 := by rw [← hW1]; simp
          have b1 : Below w.heap.size w W1 := by rw [← hW1]; exact (below_alloc (below_self w) _)
          rw [hW1]
          clear hW1
          refine (valid_ref carry a n cap ps _ hn hl (Hm.out.later b1)).mono ?_
          rintro e W2 ⟨rfl, hb2⟩
          rw [HV.out]
          have w2 := Lib.hid (below_trans b1 hb2)
          clear hb2 b1 h1 s1
          go_wp2_with fail
          go_ret
          exact ⟨rfl, w2.out⟩
      · skip
        rw [askedE_two hv (fun h => e1 (by omega))]
        have HV := Lib.hid hv; clear hv
        go_enter Tryz.func50, Tryz.ntmps50
        go_wp2_with fail
        obtain ⟨W1, hW1⟩ : ∃ W' : World, (w.alloc (.cells #[.int .i64 carry, .slice a n cap] 80)) = W' := ⟨_, rfl⟩
        have h1 : Has W1 [(w.heap.size, .cells #[.int .i64 carry, .slice a n cap] 80 (0, 0))] := by rw [← hW1]; simpa using ((Has.nil w).new _)
        have s1 : W1.heap.size = w.heap.size + 1 := by rw [← hW1]; simp
        have b1 : Below w.heap.size w W1 := by rw [← hW1]; exact (below_alloc (below_self w) _)
        rw [hW1]
        clear hW1
        refine (valid_ref carry a n cap ps _ hn hl (Hm.out.later b1)).mono ?_
        rintro e W2 ⟨rfl, hb2⟩
        rw [HV.out]
        have w2 := Lib.hid (below_trans b1 hb2)
        clear hb2 b1 h1 s1
        go_wp2_with fail
        go_ret
        exact ⟨rfl, w2.out⟩
    · skip
      rw [askedE_two hv (fun h => e0 (by omega))]
      have HV := Lib.hid hv; clear hv
      go_enter Tryz.func50, Tryz.ntmps50
      go_wp2_with fail
      obtain ⟨W1, hW1⟩ : ∃ W' : World, (w.alloc (.cells #[.int .i64 carry, .slice a n cap] 80)) = W' := ⟨_, rfl⟩
      have h1 : Has W1 [(w.heap.size, .cells #[.int .i64 carry, .slice a n cap] 80 (0, 0))] := by rw [← hW1]; simpa using ((Has.nil w).new _)
      have s1 : W1.heap.size = w.heap.size + 1 := by rw [← hW1]; simp
      have b1 : Below w.heap.size w W1 := by rw [← hW1]; exact (below_alloc (below_self w) _)
      rw [hW1]
      clear hW1
      refine (valid_ref carry a n cap ps _ hn hl (Hm.out.later b1)).mono ?_
      rintro e W2 ⟨rfl, hb2⟩
      rw [HV.out]
      have w2 := Lib.hid (below_trans b1 hb2)
      clear hb2 b1 h1 s1
      go_wp2_with fail
      go_ret
      exact ⟨rfl, w2.out⟩
end Go.Proofs.YtmghcinbdfeeoaaGreat
