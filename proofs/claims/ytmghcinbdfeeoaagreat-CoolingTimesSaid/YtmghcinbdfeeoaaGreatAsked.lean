/- Chapter 06: the program's asked. -/
import Derived.Test.YtmghcinbdfeeoaaGreatLnSmall
import Derived.Laws.EntriesVeiled
namespace Go.Proofs.YtmghcinbdfeeoaaGreat
open Go Go.RowKit

abbrev badF : Value := .func (.func 98) #[] #[]
theorem badlist_ok (h : Hd) (l : List Int) (g : Nat) (W : World) (hg : W.cell? ⟨g, 0, none⟩ = some badF) (hn : l.length = h.2.1) (hl : h.2.1 ≤ 9223372036854775807) (hm : RowsAt W.heap.size W h.1 1 (Ints l)) :
    Calls Tryz.prog 102 #[h.val, .pointer (some ⟨g, 0, none⟩)] W fun e W' => e = .returned (.bool (badList l)) ∧ Below W.heap.size W W' := by
  obtain ⟨a, n, cap⟩ := h
  simp only at hn hl hm
  have Hn := Lib.hid hn
  have Hm := Lib.hid hm
  clear hm
  by_cases hb : 1000 < n
  · have e : badList l = true := by unfold badList; rw [hn, decide_eq_true hb]; rfl
    rw [e]
    clear e hn
    go_enter Tryz.func102, Tryz.ntmps102
    go_wp2_with fail
    go_ret
    exact ⟨rfl, below_self W⟩
  · have e : badList l = l.any (fun x => !okX x) := by unfold badList; rw [hn, decide_eq_false hb]; rfl
    rw [e]
    have hbD : decide (1000 < (n : Int)) = false := decide_eq_false (by omega)
    clear e hn
    go_enter Tryz.func102, Tryz.ntmps102
    go_wp2_with fail
    refine (containsI_ok 98 #[] (fun x => !okX x) a n cap l W Hn.out hl Hm.out
      (fun W x _ => (bad_ok x W).mono (by rintro e W' ⟨rfl, rfl⟩; exact ⟨rfl, below_self _⟩)) (enters_of Tryz.func98 (by kernel_rfl) rfl)).mono ?_
    rintro e W2 ⟨rfl, hb2⟩
    have HB := Lib.hid hb2
    clear hb2
    go_wp2_with fail
    go_ret
    exact ⟨rfl, HB.out⟩

set_option maxHeartbeats 2000000 in
theorem asked_ok (carry : Int) (a : Option Addr) (n cap : Nat) (ps : List Prt) (start : Int) (ai : Option Addr) (ni ci : Nat) (hs : List Hd) (ins : List (List Int)) (t : Int) (w : World) (hn : ps.length = n) (hl : n ≤ 9223372036854775807) (hm : RowsAt w.heap.size w a 3 (Prts ps))
    (hni : ins.length = ni) (hli : ni ≤ 9223372036854775807) (hmi : InsAt w.heap.size w ai hs ins) :
    Calls Tryz.prog 80 #[.agg #[.int .i64 carry, .slice a n cap], .int .i64 start, .slice ai ni ci, .int .i64 t] w fun e W' => e = .returned (.int .i64 (askedE carry ps start ins t)) ∧ Below w.heap.size w W' := by
  have Hm := Lib.hid hm; clear hm
  have Hn := Lib.hid hn; clear hn
  have Hmi := Lib.hid hmi; clear hmi
  have Hni := Lib.hid hni
  cases hv : okL carry ps
  · have e : askedE carry ps start ins t = 1 := by unfold askedE; rw [hv]; rfl
    rw [e]
    have HV := Lib.hid hv
    clear hv e hni
    go_enter Tryz.func80, Tryz.ntmps80
    go_wp2_with fail
    obtain ⟨A, hA⟩ : ∃ W' : World, ((w.alloc (.cells #[.int .i64 carry, .slice a n cap] 80)).alloc (.cells #[badF] 53)) = W' := ⟨_, rfl⟩
    have h1 : Has A [(w.heap.size + 1, .cells #[badF] 53 (0, 0)), (w.heap.size, .cells #[.int .i64 carry, .slice a n cap] 80 (0, 0))] := by rw [← hA]; simpa using (((Has.nil w).new _).new _)
    have s1 : A.heap.size = w.heap.size + 1 + 1 := by rw [← hA]; simp
    have b1 : Below w.heap.size w A := by rw [← hA]; exact (below_alloc (below_alloc (below_self w) _) _)
    rw [hA]
    clear hA
    refine (valid_ok carry a n cap ps _ Hn.out hl (Hm.out.later b1)).mono ?_
    rintro e W2 ⟨rfl, hb2⟩
    rw [HV.out]
    have h2 := h1.below hb2
    have H2 := Lib.hid (And.intro h2 (below_trans b1 hb2))
    have c0 := blk_cell h2.hd 0
    simp at c0
    have l1 : w.heap.size + 1 < W2.heap.size := blk_lt h2.hd
    clear h1 s1 b1 hb2 h2
    go_wp2_with fail
    go_ret
    exact ⟨rfl, H2.out.2⟩
  · have HV := Lib.hid hv
    cases h1 : inR start 0 100000000
    · have e : askedE carry ps start ins t = 2 := by unfold askedE; rw [if_pos hv, h1]; simp
      rw [e]
      have HS := Lib.hid h1
      clear hv h1 e hni
      go_enter Tryz.func80, Tryz.ntmps80
      go_wp2_with fail
      obtain ⟨A, hA⟩ : ∃ W' : World, ((w.alloc (.cells #[.int .i64 carry, .slice a n cap] 80)).alloc (.cells #[badF] 53)) = W' := ⟨_, rfl⟩
      have h1 : Has A [(w.heap.size + 1, .cells #[badF] 53 (0, 0)), (w.heap.size, .cells #[.int .i64 carry, .slice a n cap] 80 (0, 0))] := by rw [← hA]; simpa using (((Has.nil w).new _).new _)
      have s1 : A.heap.size = w.heap.size + 1 + 1 := by rw [← hA]; simp
      have b1 : Below w.heap.size w A := by rw [← hA]; exact (below_alloc (below_alloc (below_self w) _) _)
      rw [hA]
      clear hA
      refine (valid_ok carry a n cap ps _ Hn.out hl (Hm.out.later b1)).mono ?_
      rintro e W2 ⟨rfl, hb2⟩
      rw [HV.out]
      have h2 := h1.below hb2
      have H2 := Lib.hid (And.intro h2 (below_trans b1 hb2))
      have c0 := blk_cell h2.hd 0
      simp at c0
      have l1 : w.heap.size + 1 < W2.heap.size := blk_lt h2.hd
      clear h1 s1 b1 hb2 h2
      go_wp2_with fail
      refine (bad_ok _ _).mono ?_
      rintro e W' ⟨rfl, rfl⟩
      have hx : okX start = false := HS.out
      rw [hx]
      clear hx
      go_wp2_with fail
      go_ret
      exact ⟨rfl, H2.out.2⟩
    · have HS := Lib.hid h1
      cases h2 : inR t 0 1000
      · have e : askedE carry ps start ins t = 2 := by unfold askedE; rw [if_pos hv, h1, h2]; simp
        rw [e]
        have HT := Lib.hid h2
        clear hv h1 h2 e hni
        go_enter Tryz.func80, Tryz.ntmps80
        go_wp2_with fail
        obtain ⟨A, hA⟩ : ∃ W' : World, ((w.alloc (.cells #[.int .i64 carry, .slice a n cap] 80)).alloc (.cells #[badF] 53)) = W' := ⟨_, rfl⟩
        have h1 : Has A [(w.heap.size + 1, .cells #[badF] 53 (0, 0)), (w.heap.size, .cells #[.int .i64 carry, .slice a n cap] 80 (0, 0))] := by rw [← hA]; simpa using (((Has.nil w).new _).new _)
        have s1 : A.heap.size = w.heap.size + 1 + 1 := by rw [← hA]; simp
        have b1 : Below w.heap.size w A := by rw [← hA]; exact (below_alloc (below_alloc (below_self w) _) _)
        rw [hA]
        clear hA
        refine (valid_ok carry a n cap ps _ Hn.out hl (Hm.out.later b1)).mono ?_
        rintro e W2 ⟨rfl, hb2⟩
        rw [HV.out]
        have h2 := h1.below hb2
        have H2 := Lib.hid (And.intro h2 (below_trans b1 hb2))
        have c0 := blk_cell h2.hd 0
        simp at c0
        have l1 : w.heap.size + 1 < W2.heap.size := blk_lt h2.hd
        clear h1 s1 b1 hb2 h2
        go_wp2_with fail
        refine (bad_ok _ _).mono ?_
        rintro e W' ⟨rfl, rfl⟩
        have hx : okX start = true := HS.out
        rw [hx]
        clear hx
        go_wp2_with fail
        refine (to_ok _ _ _).mono ?_
        rintro e W' ⟨rfl, rfl⟩
        rw [HT.out]
        go_wp2_with fail
        go_ret
        exact ⟨rfl, H2.out.2⟩
      · have HT := Lib.hid h2
        by_cases h3 : ni ≤ 16
        · cases h4 : ins.any badList
          · have e : askedE carry ps start ins t = 0 := by unfold askedE; rw [if_pos hv, if_pos ⟨h1, h2, by omega, h4⟩]
            rw [e]
            have HA := Lib.hid h4
            clear hv h1 h2 h4 e hni
            go_enter Tryz.func80, Tryz.ntmps80
            go_wp2_with fail
            obtain ⟨A, hA⟩ : ∃ W' : World, ((w.alloc (.cells #[.int .i64 carry, .slice a n cap] 80)).alloc (.cells #[badF] 53)) = W' := ⟨_, rfl⟩
            have h1 : Has A [(w.heap.size + 1, .cells #[badF] 53 (0, 0)), (w.heap.size, .cells #[.int .i64 carry, .slice a n cap] 80 (0, 0))] := by rw [← hA]; simpa using (((Has.nil w).new _).new _)
            have s1 : A.heap.size = w.heap.size + 1 + 1 := by rw [← hA]; simp
            have b1 : Below w.heap.size w A := by rw [← hA]; exact (below_alloc (below_alloc (below_self w) _) _)
            rw [hA]
            clear hA
            refine (valid_ok carry a n cap ps _ Hn.out hl (Hm.out.later b1)).mono ?_
            rintro e W2 ⟨rfl, hb2⟩
            rw [HV.out]
            have h2 := h1.below hb2
            have H2 := Lib.hid (And.intro h2 (below_trans b1 hb2))
            have c0 := blk_cell h2.hd 0
            simp at c0
            have l1 : w.heap.size + 1 < W2.heap.size := blk_lt h2.hd
            clear h1 s1 b1 hb2 h2
            go_wp2_with fail
            refine (bad_ok _ _).mono ?_
            rintro e W' ⟨rfl, rfl⟩
            have hx : okX start = true := HS.out
            rw [hx]
            clear hx
            go_wp2_with fail
            refine (to_ok _ _ _).mono ?_
            rintro e W' ⟨rfl, rfl⟩
            rw [HT.out]
            go_wp2_with fail
            refine (containsL_ok 102 #[.pointer (some ⟨w.heap.size + 1, 0, none⟩)] badList ai ni ci hs ins _ Hni.out hli (Hmi.out.later H2.out.2)
              (fun W i hi hb => badlist_ok (hs.getD i default) (ins.getD i default) (w.heap.size + 1) W (cell_call hb l1 c0) ((Hmi.out.later H2.out.2).at' i hi).1 ((Hmi.out.later H2.out.2).at' i hi).2.1 (((Hmi.out.later H2.out.2).at' i hi).2.2.later hb)) (enters_of Tryz.func102 (by kernel_rfl) rfl)).mono ?_
            rintro e W3 ⟨rfl, hb3⟩
            rw [HA.out]
            have H3 := Lib.hid (below_trans H2.out.2 hb3)
            clear hb3 H2 c0
            go_wp2_with fail
            go_ret
            exact ⟨rfl, H3.out⟩
          · have e : askedE carry ps start ins t = 2 := by unfold askedE; rw [if_pos hv, h4]; simp
            rw [e]
            have HA := Lib.hid h4
            clear hv h1 h2 h4 e hni
            go_enter Tryz.func80, Tryz.ntmps80
            go_wp2_with fail
            obtain ⟨A, hA⟩ : ∃ W' : World, ((w.alloc (.cells #[.int .i64 carry, .slice a n cap] 80)).alloc (.cells #[badF] 53)) = W' := ⟨_, rfl⟩
            have h1 : Has A [(w.heap.size + 1, .cells #[badF] 53 (0, 0)), (w.heap.size, .cells #[.int .i64 carry, .slice a n cap] 80 (0, 0))] := by rw [← hA]; simpa using (((Has.nil w).new _).new _)
            have s1 : A.heap.size = w.heap.size + 1 + 1 := by rw [← hA]; simp
            have b1 : Below w.heap.size w A := by rw [← hA]; exact (below_alloc (below_alloc (below_self w) _) _)
            rw [hA]
            clear hA
            refine (valid_ok carry a n cap ps _ Hn.out hl (Hm.out.later b1)).mono ?_
            rintro e W2 ⟨rfl, hb2⟩
            rw [HV.out]
            have h2 := h1.below hb2
            have H2 := Lib.hid (And.intro h2 (below_trans b1 hb2))
            have c0 := blk_cell h2.hd 0
            simp at c0
            have l1 : w.heap.size + 1 < W2.heap.size := blk_lt h2.hd
            clear h1 s1 b1 hb2 h2
            go_wp2_with fail
            refine (bad_ok _ _).mono ?_
            rintro e W' ⟨rfl, rfl⟩
            have hx : okX start = true := HS.out
            rw [hx]
            clear hx
            go_wp2_with fail
            refine (to_ok _ _ _).mono ?_
            rintro e W' ⟨rfl, rfl⟩
            rw [HT.out]
            go_wp2_with fail
            refine (containsL_ok 102 #[.pointer (some ⟨w.heap.size + 1, 0, none⟩)] badList ai ni ci hs ins _ Hni.out hli (Hmi.out.later H2.out.2)
              (fun W i hi hb => badlist_ok (hs.getD i default) (ins.getD i default) (w.heap.size + 1) W (cell_call hb l1 c0) ((Hmi.out.later H2.out.2).at' i hi).1 ((Hmi.out.later H2.out.2).at' i hi).2.1 (((Hmi.out.later H2.out.2).at' i hi).2.2.later hb)) (enters_of Tryz.func102 (by kernel_rfl) rfl)).mono ?_
            rintro e W3 ⟨rfl, hb3⟩
            rw [HA.out]
            have H3 := Lib.hid (below_trans H2.out.2 hb3)
            clear hb3 H2 c0
            go_wp2_with fail
            go_ret
            exact ⟨rfl, H3.out⟩
        · have e : askedE carry ps start ins t = 2 := by unfold askedE; rw [if_pos hv]; exact if_neg (fun h => h3 (by have := h.2.2.1; omega))
          rw [e]
          clear hv h1 h2 e hni
          go_enter Tryz.func80, Tryz.ntmps80
          go_wp2_with fail
          obtain ⟨A, hA⟩ : ∃ W' : World, ((w.alloc (.cells #[.int .i64 carry, .slice a n cap] 80)).alloc (.cells #[badF] 53)) = W' := ⟨_, rfl⟩
          have h1 : Has A [(w.heap.size + 1, .cells #[badF] 53 (0, 0)), (w.heap.size, .cells #[.int .i64 carry, .slice a n cap] 80 (0, 0))] := by rw [← hA]; simpa using (((Has.nil w).new _).new _)
          have s1 : A.heap.size = w.heap.size + 1 + 1 := by rw [← hA]; simp
          have b1 : Below w.heap.size w A := by rw [← hA]; exact (below_alloc (below_alloc (below_self w) _) _)
          rw [hA]
          clear hA
          refine (valid_ok carry a n cap ps _ Hn.out hl (Hm.out.later b1)).mono ?_
          rintro e W2 ⟨rfl, hb2⟩
          rw [HV.out]
          have h2 := h1.below hb2
          have H2 := Lib.hid (And.intro h2 (below_trans b1 hb2))
          have c0 := blk_cell h2.hd 0
          simp at c0
          have l1 : w.heap.size + 1 < W2.heap.size := blk_lt h2.hd
          clear h1 s1 b1 hb2 h2
          go_wp2_with fail
          refine (bad_ok _ _).mono ?_
          rintro e W' ⟨rfl, rfl⟩
          have hx : okX start = true := HS.out
          rw [hx]
          clear hx
          go_wp2_with fail
          refine (to_ok _ _ _).mono ?_
          rintro e W' ⟨rfl, rfl⟩
          rw [HT.out]
          go_wp2_with fail
          go_ret
          exact ⟨rfl, H2.out.2⟩
end Go.Proofs.YtmghcinbdfeeoaaGreat
