/- Chapter 06: the reference's Peak, First, above. -/
import Derived.Test.YtnpcafhmkjdhaaaRefD
import Derived.Test.YtnpcafhmkjdhaaaPeak
import Derived.BigQuiet
namespace Go.Proofs.Ytnpcafhmkjdhaaa
open Go Go.RowKit

/-- The reference's at behind k rounds. -/
def topAt (l : List Int) : Nat → Nat
  | 0 => 0
  | k + 1 => if l.getD (topAt l k) default < l.getD k default then k else topAt l k
theorem topAt_lt (l : List Int) : ∀ k, topAt l k ≤ k - 1
  | 0 => Nat.le_refl _
  | k + 1 => by
    have := topAt_lt l k
    simp only [topAt]
    split <;> omega
theorem topAt_first (l : List Int) : ∀ k, l.getD (topAt l (k + 1)) default = topTo l k ∧ (∀ j, j ≤ k → l.getD j default ≤ topTo l k) ∧ ∀ j, j < topAt l (k + 1) → l.getD j default < topTo l k
  | 0 => by
    have e : topAt l 1 = 0 := by unfold topAt; split <;> rfl
    rw [e]
    refine ⟨rfl, fun j hj => ?_, fun j hj => by omega⟩
    obtain rfl : j = 0 := by omega
    exact Int.le_refl _
  | k + 1 => by
    obtain ⟨h1, h2, h3⟩ := topAt_first l k
    have h4 := topAt_lt l (k + 1)
    have e : topAt l (k + 1 + 1) = if l.getD (topAt l (k + 1)) default < l.getD (k + 1) default then k + 1 else topAt l (k + 1) := rfl
    have e2 : topTo l (k + 1) = max (topTo l k) (l.getD (k + 1) default) := rfl
    rw [e, e2, h1]
    split
    · rename_i hlt
      refine ⟨by omega, fun j hj => ?_, fun j hj => ?_⟩
      · by_cases ej : j = k + 1
        · rw [ej]; omega
        · have := h2 j (by omega); omega
      · have := h2 j (by omega); omega
    · refine ⟨by omega, fun j hj => ?_, fun j hj => ?_⟩
      · by_cases ej : j = k + 1
        · rw [ej]; omega
        · have := h2 j (by omega); omega
      · have := h3 j hj; omega
theorem topAt_idx {l : List Int} {n : Nat} (h : l.length = n + 1) : idxI (fun x => decide (topI l = x)) l = (topAt l (n + 1) : Nat) ∧ l.getD (topAt l (n + 1)) default = topI l := by
  obtain ⟨h1, _, h3⟩ := topAt_first l n
  have h4 := topAt_lt l (n + 1)
  have e : topI l = topTo l n := by unfold topI; rw [h]; rfl
  rw [e]
  refine ⟨?_, h1⟩
  refine idxI_found (by omega) (decide_eq_true h1.symm) (fun j hj => decide_eq_false ?_)
  have := h3 j hj
  omega

set_option maxHeartbeats 1000000 in
theorem peak_ref (carry : Int) (a : Option Addr) (n cap : Nat) (ps : List Prt) (start : Int) (ai : Option Addr) (ni ci : Nat) (hs : List Hd) (ins : List (List Int)) (t : Int) (w : World) (hn : ps.length = n) (hl : n ≤ 9223372036854775807) (hm : RowsAt w.heap.size w a 3 (Prts ps))
    (hni : ins.length = ni) (hli : ni ≤ 9223372036854775807) (hmi : InsAt w.heap.size w ai hs ins) :
    Calls Try.prog 25 #[.agg #[.int .i64 carry, .slice a n cap], .int .i64 start, .slice ai ni ci, .int .i64 t] w fun e W' => e = .returned (.tuple #[.int .i64 (peakT carry ps ins start t), .int .i64 (peakV carry ps ins start t), .int .i64 (askedE carry ps start ins t)]) ∧ Below w.heap.size w W' := by
  have Hm := Lib.hid hm; clear hm
  have Hmi := Lib.hid hmi; clear hmi
  by_cases he : askedE carry ps start ins t = 0
  · have e1 : peakT carry ps ins start t = idxI (fun x => decide (peakV carry ps ins start t = x)) (courseV carry ps ins start t) := if_pos he
    have e2 : peakV carry ps ins start t = topI (courseV carry ps ins start t) := if_pos he
    obtain ⟨_, _, _, _, ht0, ht1⟩ := asked_zero he
    have hlen : (courseV carry ps ins start t).length = t.toNat + 1 := by unfold courseV; rw [if_pos he, levs_len]
    obtain ⟨T, rfl⟩ : ∃ T : Nat, t = T := ⟨t.toNat, by omega⟩
    simp only [Int.toNat_natCast] at hlen
    obtain ⟨e3, e4⟩ := topAt_idx hlen
    rw [e1, e2, e3, ← e4, he]
    generalize hL : courseV carry ps ins start T = L at hlen ⊢
    have HE := Lib.hid (And.intro he (And.intro hlen hL))
    clear he e1 e2 e3 e4 hlen hL
    go_enter Try.func25, Try.ntmps25
    go_wp2_with fail
    obtain ⟨W1, hW1⟩ : ∃ W' : World, (w.alloc (.cells #[.int .i64 carry, .slice a n cap] 28)) = W' := ⟨_, rfl⟩
    have h1 : Has W1 [(w.heap.size, .cells #[.int .i64 carry, .slice a n cap] 28 (0, 0))] := by rw [← hW1]; simpa using ((Has.nil w).new _)
    have s1 : W1.heap.size = w.heap.size + 1 := by rw [← hW1]; simp
    have b1 : Below w.heap.size w W1 := by rw [← hW1]; exact (below_alloc (below_self w) _)
    rw [hW1]
    clear hW1
    refine (courseref_ok carry a n cap ps start ai ni ci hs ins T _ hn hl (Hm.out.later b1) hni hli (Hmi.out.later b1)).mono ?_
    rintro e W2 ⟨v, rfl, ho, hb2⟩
    rw [HE.out.1]
    rw [HE.out.2.2] at ho
    have w2 := Lib.hid (below_trans b1 hb2)
    obtain ⟨g, cg, rfl, hrows⟩ := ho.rows
    have HR := Lib.hid hrows
    clear hb2 b1 h1 s1 ho hrows
    go_wp2_with fail
    go_loopw [13, 14] (fun p i wr => ∃ k q : Nat, k ≤ T + 1 ∧ p = .int .i64 (topAt L k) ∧ i = .int .i64 k ∧ W2.drewN q = wr) (fun _ i _ => T + 1 - (intOf i).toNat)
    case atStart => exact ⟨0, 0, Nat.zero_le _, rfl, rfl, rfl⟩
    case round =>
      obtain ⟨k, q, hk, rfl, rfl, rfl⟩ := hrel
      have hlen := HE.out.2.1
      have hat := topAt_lt L k
      by_cases hlt : k < T + 1
      · have hlI : (k : Int) ≤ (T : Int) := by omega
        obtain ⟨b, off, rfl, _, hx⟩ := ints_at HR.out k (by omega)
        obtain ⟨b', off', he', _, hy⟩ := ints_at HR.out (topAt L k) (by omega)
        cases he'
        have hnx : topAt L (k + 1) = if L.getD (topAt L k) default < L.getD k default then k else topAt L k := rfl
        generalize L.getD (topAt L k) default = y at hy hnx
        generalize L.getD k default = x at hx hnx
        have hb1 : (k : Int) < (L.length : Int) := by omega
        have hb2 : ((topAt L k : Nat) : Int) < (L.length : Int) := by omega
        have HN := Lib.hid hnx
        clear hnx
        generalize topAt L k = p at hy hb2 HN hat ⊢
        clear hlen
        generalize L.length = m at hb1 hb2 ⊢
        by_cases hgt : y < x
        · have HN' := Lib.hid (HN.out.trans (if_pos hgt))
          go_wp2_with fail
          go_quiet (fail)
          clear hx hy
          go_wp2_with fail
          go_roundw
          case rel => exact ⟨k + 1, q + nq, by omega, by rw [HN'.out], by go_num, rfl⟩
          case measure => simp [intOf]; omega
        · have HN' := Lib.hid (HN.out.trans (if_neg hgt))
          go_wp2_with fail
          go_quiet (fail)
          clear hx hy
          go_wp2_with fail
          go_roundw
          case rel => exact ⟨k + 1, q + nq, by omega, by rw [HN'.out], by go_num, rfl⟩
          case measure => simp [intOf]; omega
      · have hk2 : k = T + 1 := by omega
        subst hk2
        obtain ⟨b', off', rfl, _, hy⟩ := ints_at HR.out (topAt L (T + 1)) (by omega)
        have hlI : ¬ (T : Int) + 1 ≤ (T : Int) := by omega
        have hb2 : ((topAt L (T + 1) : Nat) : Int) < (L.length : Int) := by omega
        generalize hy0 : L.getD (topAt L (T + 1)) default = y at hy
        generalize hp0 : topAt L (T + 1) = p at hy hb2 ⊢
        have HP := Lib.hid (And.intro hy0 hp0)
        clear hy0 hp0 hlen hat
        generalize hm0 : L.length = m at hb2 ⊢
        clear hm0
        go_wp2_with fail
        go_quiet (fail)
        clear hy
        go_wp2_with fail
        go_ret3
        exact ⟨by rw [← HP.out.1, ← HP.out.2]; rfl, below_drewN (below_drewN w2.out _) _⟩
  · have e1 : peakT carry ps ins start t = 0 := if_neg he
    have e3 : peakV carry ps ins start t = 0 := if_neg he
    have e2 : courseV carry ps ins start t = [] := if_neg he
    rw [e1, e3]
    have hD : decide (askedE carry ps start ins t = 0) = false := decide_eq_false he
    have HE := Lib.hid e2
    clear e1 e2 e3
    go_enter Try.func25, Try.ntmps25
    go_wp2_with fail
    obtain ⟨W1, hW1⟩ : ∃ W' : World, (w.alloc (.cells #[.int .i64 carry, .slice a n cap] 28)) = W' := ⟨_, rfl⟩
    have h1 : Has W1 [(w.heap.size, .cells #[.int .i64 carry, .slice a n cap] 28 (0, 0))] := by rw [← hW1]; simpa using ((Has.nil w).new _)
    have s1 : W1.heap.size = w.heap.size + 1 := by rw [← hW1]; simp
    have b1 : Below w.heap.size w W1 := by rw [← hW1]; exact (below_alloc (below_self w) _)
    rw [hW1]
    clear hW1
    refine (courseref_ok carry a n cap ps start ai ni ci hs ins t _ hn hl (Hm.out.later b1) hni hli (Hmi.out.later b1)).mono ?_
    rintro e W2 ⟨v, rfl, ho, hb2⟩
    rw [HE.out] at ho
    have w2 := Lib.hid (below_trans b1 hb2)
    obtain ⟨g, cg, rfl, hrows⟩ := ho.rows
    clear hb2 b1 h1 s1 ho hrows
    generalize hE : askedE carry ps start ins t = E at he hD ⊢
    have HF := Lib.hid hE
    clear hE
    go_wp2_with fail
    go_ret3
    exact ⟨by rw [HF.out]; rfl, w2.out⟩

set_option maxHeartbeats 1000000 in
theorem first_ref (carry : Int) (a : Option Addr) (n cap : Nat) (ps : List Prt) (start : Int) (ai : Option Addr) (ni ci : Nat) (hs : List Hd) (ins : List (List Int)) (t limit : Int) (w : World) (hn : ps.length = n) (hl : n ≤ 9223372036854775807) (hm : RowsAt w.heap.size w a 3 (Prts ps))
    (hni : ins.length = ni) (hli : ni ≤ 9223372036854775807) (hmi : InsAt w.heap.size w ai hs ins) :
    Calls Try.prog 27 #[.agg #[.int .i64 carry, .slice a n cap], .int .i64 start, .slice ai ni ci, .int .i64 t, .int .i64 limit] w fun e W' => e = .returned (.tuple #[.int .i64 (firstV carry ps ins start t limit), .int .i64 (askedE carry ps start ins t)]) ∧ Below w.heap.size w W' := by
  have Hm := Lib.hid hm; clear hm
  have Hmi := Lib.hid hmi; clear hmi
  by_cases he : askedE carry ps start ins t = 0
  · have e1 : firstV carry ps ins start t limit = idxI (fun x => decide (limit < x)) (courseV carry ps ins start t) := if_pos he
    obtain ⟨_, _, _, _, ht0, ht1⟩ := asked_zero he
    have hlen : (courseV carry ps ins start t).length = t.toNat + 1 := by unfold courseV; rw [if_pos he, levs_len]
    obtain ⟨T, rfl⟩ : ∃ T : Nat, t = T := ⟨t.toNat, by omega⟩
    simp only [Int.toNat_natCast] at hlen
    rw [e1, he]
    generalize hL : courseV carry ps ins start T = L at hlen ⊢
    generalize hV : idxI (fun x => decide (limit < x)) L = V
    have HE := Lib.hid (And.intro he (And.intro hlen (And.intro hL hV)))
    clear he e1 hlen hL hV
    go_enter Try.func27, Try.ntmps27
    go_wp2_with fail
    obtain ⟨W1, hW1⟩ : ∃ W' : World, (w.alloc (.cells #[.int .i64 carry, .slice a n cap] 28)) = W' := ⟨_, rfl⟩
    have h1 : Has W1 [(w.heap.size, .cells #[.int .i64 carry, .slice a n cap] 28 (0, 0))] := by rw [← hW1]; simpa using ((Has.nil w).new _)
    have s1 : W1.heap.size = w.heap.size + 1 := by rw [← hW1]; simp
    have b1 : Below w.heap.size w W1 := by rw [← hW1]; exact (below_alloc (below_self w) _)
    rw [hW1]
    clear hW1
    refine (courseref_ok carry a n cap ps start ai ni ci hs ins T _ hn hl (Hm.out.later b1) hni hli (Hmi.out.later b1)).mono ?_
    rintro e W2 ⟨v, rfl, ho, hb2⟩
    rw [HE.out.1]
    rw [HE.out.2.2.1] at ho
    have w2 := Lib.hid (below_trans b1 hb2)
    obtain ⟨g, cg, rfl, hrows⟩ := ho.rows
    have HR := Lib.hid hrows
    clear hb2 b1 h1 s1 ho hrows
    go_wp2_with fail
    go_loopw [14] (fun i wr => ∃ k : Nat, k ≤ T + 1 ∧ i = .int .i64 k ∧ W2 = wr ∧ Hid (∀ j, j < k → decide (limit < L.getD j default) = false)) (fun i _ => T + 1 - (intOf i).toNat)
    case atStart => exact ⟨0, Nat.zero_le _, rfl, rfl, Lib.hid (fun j hj => by omega)⟩
    case round =>
      obtain ⟨k, hk, rfl, rfl, Hno⟩ := hrel
      have hlen := HE.out.2.1
      by_cases hlt : k < T + 1
      · have hlI : (k : Int) ≤ (T : Int) := by omega
        obtain ⟨b, off, rfl, _, hx⟩ := ints_at HR.out k (by omega)
        have hb1 : (k : Int) < (L.length : Int) := by omega
        have hF : decide (limit < L.getD k default) = true → V = k := fun h => HE.out.2.2.2.symm.trans (idxI_found (p := fun x => decide (limit < x)) (by omega) h Hno.out)
        have hN : decide (limit < L.getD k default) = false → ∀ j, j < k + 1 → decide (limit < L.getD j default) = false := fun h => no_succ (p := fun x => decide (limit < x)) Hno.out h
        generalize L.getD k default = x at hx hF hN
        generalize L.length = m at hb1 hlen ⊢
        by_cases hgt : limit < x
        · have HF := Lib.hid (hF (decide_eq_true hgt))
          clear hF hN hlen
          go_wp2_with fail
          go_ret2
          exact ⟨by rw [HF.out]; rfl, w2.out⟩
        · have HN := Lib.hid (hN (decide_eq_false hgt))
          clear hF hN hlen
          go_wp2_with fail
          go_roundw
          case rel => exact ⟨k + 1, by omega, by go_num, trivial, HN⟩
          case measure => simp [intOf]; omega
      · have hk2 : k = T + 1 := by omega
        subst hk2
        have hlI : ¬ (T : Int) + 1 ≤ (T : Int) := by omega
        have HF := Lib.hid (HE.out.2.2.2.symm.trans (idxI_none (p := fun x => decide (limit < x)) (fun j hj => Hno.out j (by omega))))
        clear hlen
        go_wp2_with fail
        go_ret2
        exact ⟨by rw [HF.out]; rfl, w2.out⟩
  · have e1 : firstV carry ps ins start t limit = 0 := if_neg he
    have e2 : courseV carry ps ins start t = [] := if_neg he
    rw [e1]
    have hD : decide (askedE carry ps start ins t = 0) = false := decide_eq_false he
    have HE := Lib.hid e2
    clear e1 e2
    go_enter Try.func27, Try.ntmps27
    go_wp2_with fail
    obtain ⟨W1, hW1⟩ : ∃ W' : World, (w.alloc (.cells #[.int .i64 carry, .slice a n cap] 28)) = W' := ⟨_, rfl⟩
    have h1 : Has W1 [(w.heap.size, .cells #[.int .i64 carry, .slice a n cap] 28 (0, 0))] := by rw [← hW1]; simpa using ((Has.nil w).new _)
    have s1 : W1.heap.size = w.heap.size + 1 := by rw [← hW1]; simp
    have b1 : Below w.heap.size w W1 := by rw [← hW1]; exact (below_alloc (below_self w) _)
    rw [hW1]
    clear hW1
    refine (courseref_ok carry a n cap ps start ai ni ci hs ins t _ hn hl (Hm.out.later b1) hni hli (Hmi.out.later b1)).mono ?_
    rintro e W2 ⟨v, rfl, ho, hb2⟩
    rw [HE.out] at ho
    have w2 := Lib.hid (below_trans b1 hb2)
    obtain ⟨g, cg, rfl, hrows⟩ := ho.rows
    clear hb2 b1 h1 s1 ho hrows
    generalize hE : askedE carry ps start ins t = E at he hD ⊢
    have HF := Lib.hid hE
    clear hE
    go_wp2_with fail
    go_ret2
    exact ⟨by rw [HF.out]; rfl, w2.out⟩
end Go.Proofs.Ytnpcafhmkjdhaaa
