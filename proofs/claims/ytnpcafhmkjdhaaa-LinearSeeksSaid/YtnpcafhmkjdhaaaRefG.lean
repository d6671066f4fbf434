/- Chapter 06: the reference's Least. -/
import Derived.Test.YtnpcafhmkjdhaaaRefF
import Derived.Test.YtnpcafhmkjdhaaaLeast
namespace Go.Proofs.Ytnpcafhmkjdhaaa
open Go Go.RowKit

abbrev arrF (ps : List Prt) (ins : List (List Int)) : Nat → Int := fun j => arr ps ins j
theorem lvl_lvF {c s : Int} {ps : List Prt} {ins : List (List Int)} {T : Nat} : ∀ k, k ≤ T → lvl c s (comes ps ins T) k = lvF (arrF ps ins) c s k
  | 0, _ => rfl
  | k + 1, hk => by
    have ih := lvl_lvF (c := c) (s := s) (ps := ps) (ins := ins) (T := T) k (by omega)
    simp only [lvl, lvF]
    rw [ih, comes_get (by omega)]
def Inv (c : Int) (Q : Int → Prop) : Prop := 0 ≤ c ∧ c ≤ 4000000000000000 ∧ ∀ c', 0 ≤ c' → (c ≤ c' ↔ Q c')
def QOut (f : Nat → Int) (start limit : Int) (T k : Nat) (c : Int) : Prop := ∀ i t, i < k → i ≤ t → t < T → Con f start limit i t c
def QIn (f : Nat → Int) (start limit : Int) (T k q : Nat) (c : Int) : Prop := QOut f start limit T k c ∧ ∀ t, k ≤ t → t < q → Con f start limit k t c
theorem inv_zero (f : Nat → Int) (start limit : Int) (T : Nat) : Inv 0 (QOut f start limit T 0) :=
  ⟨by omega, by omega, fun c' h => ⟨fun _ i t hi => by omega, fun _ => h⟩⟩
theorem inv_in {f : Nat → Int} {start limit c : Int} {T k : Nat} (h : Inv c (QOut f start limit T k)) : Inv c (QIn f start limit T k k) :=
  ⟨h.1, h.2.1, fun c' hc => (h.2.2 c' hc).trans ⟨fun h => ⟨h, fun t h1 h2 => by omega⟩, fun h => h.1⟩⟩
theorem inv_out {f : Nat → Int} {start limit c : Int} {T k : Nat} (h : Inv c (QIn f start limit T k T)) : Inv c (QOut f start limit T (k + 1)) := by
  refine ⟨h.1, h.2.1, fun c' hc => (h.2.2 c' hc).trans ⟨fun h => ?_, fun h => ⟨fun i t hi => h i t (by omega), fun t h1 h2 => h k t (by omega) h1 h2⟩⟩⟩
  intro i t hi h1 h2
  by_cases e : i = k
  · subst e; exact h.2 t h1 h2
  · exact h.1 i t (by omega) h1 h2
theorem inv_step {f : Nat → Int} {start limit c a1 a2 : Int} {T k q m : Nat} (h : Inv c (QIn f start limit T k q)) (hq : q = k + m)
    (h1 : ∀ c', 0 ≤ c' → (a1 ≤ c' ↔ sumF f k (m + 1) - ((m : Int) + 1) * c' ≤ limit)) (h2 : k = 0 → ∀ c', 0 ≤ c' → (a2 ≤ c' ↔ start + sumF f 0 (q + 1) - ((q : Int) + 1) * c' ≤ limit))
    (b1 : a1 ≤ 4000000000000000) (b2 : a2 ≤ 4000000000000000) {c2 : Int} (e1 : k = 0 → c2 = max (max c a1) a2) (e2 : ¬ k = 0 → c2 = max c a1) : Inv c2 (QIn f start limit T k (q + 1)) := by
  have hm : q + 1 - k = m + 1 := by omega
  obtain ⟨i0, i1, i2⟩ := h
  refine ⟨by by_cases hk : k = 0; { rw [e1 hk]; omega }; rw [e2 hk]; omega, by by_cases hk : k = 0; { rw [e1 hk]; omega }; rw [e2 hk]; omega, fun c' hc => ?_⟩
  have hc1 : c2 ≤ c' ↔ c ≤ c' ∧ a1 ≤ c' ∧ (k = 0 → a2 ≤ c') := by
    by_cases hk : k = 0
    · rw [e1 hk]
      constructor
      · intro h; exact ⟨by omega, by omega, fun _ => by omega⟩
      · intro h; have := h.2.2 hk; omega
    · rw [e2 hk]
      constructor
      · intro h; exact ⟨by omega, by omega, fun h => absurd h hk⟩
      · intro h; omega
  rw [hc1, i2 c' hc, h1 c' hc]
  have hcon : Con f start limit k q c' ↔ sumF f k (m + 1) - ((m : Int) + 1) * c' ≤ limit ∧ (k = 0 → a2 ≤ c') := by
    unfold Con
    rw [hm, show ((m + 1 : Nat) : Int) = (m : Int) + 1 from rfl, show ((q + 1 : Nat) : Int) = (q : Int) + 1 from rfl]
    constructor
    · rintro ⟨a, b⟩
      exact ⟨a, fun hk => (h2 hk c' hc).2 (b hk)⟩
    · rintro ⟨a, b⟩
      exact ⟨a, fun hk => (h2 hk c' hc).1 (b hk)⟩
  rw [← hcon]
  constructor
  · rintro ⟨⟨a, b⟩, d⟩
    refine ⟨a, fun t h3 h4 => ?_⟩
    by_cases e : t = q
    · rw [e]; exact d
    · exact b t h3 (by omega)
  · rintro ⟨a, b⟩
    exact ⟨⟨a, fun t h3 h4 => b t h3 (by omega)⟩, b q (by omega) (by omega)⟩
theorem least_of {ps : List Prt} {ins : List (List Int)} {start limit c : Int} {T : Nat} (hs0 : 0 ≤ start) (hs : start ≤ limit) (hl : 0 ≤ limit) (h : Inv c (QOut (arrF ps ins) start limit T T)) :
    leastN ps ins start T limit = min c.toNat 100000001 := by
  obtain ⟨i0, i1, i2⟩ := h
  have hf : ∀ c', 0 ≤ c' → (c ≤ c' ↔ fits c' start (comes ps ins T) limit = true) := by
    intro c' hc
    rw [i2 c' hc, fits_iff, comes_len]
    have : (∀ k, k ≤ T → lvl c' start (comes ps ins T) k ≤ limit) ↔ ∀ k, k ≤ T → lvF (arrF ps ins) c' start k ≤ limit := by
      constructor
      · intro h k hk; rw [← lvl_lvF k hk]; exact h k hk
      · intro h k hk; rw [lvl_lvF k hk]; exact h k hk
    rw [this, lvF_fits hs0 hs hl]
    constructor
    · intro h i t h1 h2; exact h i t (by omega) h1 h2
    · intro h i t _ h1 h2; exact h i t h1 h2
  unfold leastN
  refine leastOf_eq (fun c c' h1 h2 => fits_mono h1 h2) (Nat.min_le_right _ _) (fun t ht => ?_) (fun hlt => ?_)
  · cases hx : fits (t : Int) start (comes ps ins T) limit
    · rfl
    · have := (hf t (by omega)).2 hx
      omega
  · exact (hf _ (by omega)).1 (by omega)
theorem least_none {ps : List Prt} {ins : List (List Int)} {start limit : Int} {T : Nat} (h : limit < start) : leastN ps ins start T limit = 100000001 := by
  unfold leastN
  refine leastOf_eq (fun c c' h1 h2 => fits_mono h1 h2) (Nat.le_refl _) (fun t _ => ?_) (fun hlt => by omega)
  exact fits_not (k := 0) (Nat.zero_le _) h

set_option maxHeartbeats 4000000 in
theorem leastref_zero (carry : Int) (a : Option Addr) (n cap : Nat) (ps : List Prt) (start : Int) (ai : Option Addr) (ni ci : Nat) (hs : List Hd) (ins : List (List Int)) (T : Nat) (limit : Int) (w : World) (hn : ps.length = n) (hl : n ≤ 9223372036854775807) (hm : RowsAt w.heap.size w a 3 (Prts ps))
    (hni : ins.length = ni) (hli : ni ≤ 9223372036854775807) (hmi : InsAt w.heap.size w ai hs ins) (he : askedE carry ps start ins T = 0) (V E : Int)
    (hVE : Hid (∀ x : Int, 0 ≤ x → leastN ps ins start T limit = min x.toNat 100000001 → V = (if (100000000 : Int) < x then 0 else x) ∧ E = if (100000000 : Int) < x then 7 else 0)) :
    Calls Try.prog 28 #[.agg #[.int .i64 carry, .slice a n cap], .int .i64 start, .slice ai ni ci, .int .i64 T, .int .i64 limit] w fun e W' => e = .returned (.tuple #[.int .i64 V, .int .i64 E]) ∧ Below w.heap.size w W' := by
  have Hm := Lib.hid hm; clear hm
  have Hmi := Lib.hid hmi; clear hmi
  have Hn := Lib.hid hn; clear hn
  have Hni := Lib.hid hni; clear hni
  obtain ⟨hP, hC, hI, hS, ht0, ht1⟩ := asked_zero he
  have hfB : ∀ j : Nat, 0 ≤ arrF ps ins j ∧ arrF ps ins j ≤ 1600000000000 := fun j => arr_all hP hI j
  have HPI := Lib.hid (And.intro hP (And.intro hI hfB))
  clear hP hI hC hfB
  have hT : T ≤ 1000 := by omega
  clear ht0 ht1
  obtain ⟨s0, s1⟩ := hS
  have HE := Lib.hid he
  clear he
  by_cases hb : start ≤ limit ∧ 0 ≤ limit
  · obtain ⟨hb1, hb2⟩ := hb
    have hb3 : decide (limit < 0) = false := decide_eq_false (by omega)
    have hb4 : ¬ limit < start := by omega
    have hVE' : ∀ c, Inv c (QOut (arrF ps ins) start limit T T) → V = (if (100000000 : Int) < c then 0 else c) ∧ E = if (100000000 : Int) < c then 7 else 0 := fun c h => hVE.out c h.1 (least_of s0 hb1 hb2 h)
    have HVE := Lib.hid hVE'
    clear hVE hVE'
    go_enter Try.func28, Try.ntmps28
    go_wp2_with fail
    obtain ⟨W1, hW1⟩ : ∃ W' : World, (w.alloc (.cells #[.int .i64 carry, .slice a n cap] 28)) = W' := ⟨_, rfl⟩
    have h1 : Has W1 [(w.heap.size, .cells #[.int .i64 carry, .slice a n cap] 28 (0, 0))] := by rw [← hW1]; simpa using ((Has.nil w).new _)
    have s1' : W1.heap.size = w.heap.size + 1 := by rw [← hW1]; simp
    have b1 : Below w.heap.size w W1 := by rw [← hW1]; exact (below_alloc (below_self w) _)
    rw [hW1]
    clear hW1
    refine (asked_ref carry a n cap ps start ai ni ci hs ins T _ Hn.out hl (Hm.out.later b1) Hni.out hli (Hmi.out.later b1)).mono ?_
    rintro e W2 ⟨rfl, hb2'⟩
    rw [HE.out]
    have h2 := h1.below hb2'
    have w2 := Lib.hid (And.intro (below_trans b1 hb2') h2.hd)
    clear hb2' b1 h1 s1' h2
    go_wp2_with fail
    go_loopw [13, 14] (fun cv iv wr => ∃ (c : Int) (k : Nat) (X : World), k ≤ T ∧ cv = .int .i64 c ∧ iv = .int .i64 k ∧ X = wr ∧ Hid (Below w.heap.size w X ∧ X.heap[w.heap.size]? = some (.cells #[.int .i64 carry, .slice a n cap] 28 (0, 0)) ∧ Inv c (QOut (arrF ps ins) start limit T k))) (fun _ iv _ => T - (intOf iv).toNat)
    case atStart => exact ⟨0, 0, _, Nat.zero_le _, rfl, rfl, rfl, Lib.hid ⟨w2.out.1, w2.out.2, inv_zero _ _ _ _⟩⟩
    case round =>
      obtain ⟨c, k, X, hk, rfl, rfl, rfl, HX⟩ := hrel
      by_cases hlt : k < T
      · have hltT : (k : Int) < (T : Int) := by omega
        go_wp2_with fail
        go_loopw [13, 15, 16] (fun cv sv tv wr => ∃ (c s : Int) (q m : Nat) (Y : World), q ≤ T ∧ cv = .int .i64 c ∧ sv = .int .i64 s ∧ tv = .int .i64 q ∧ Y = wr ∧ Hid (q = k + m ∧ s = sumF (arrF ps ins) k m ∧ Below w.heap.size w Y ∧ Y.heap[w.heap.size]? = some (.cells #[.int .i64 carry, .slice a n cap] 28 (0, 0)) ∧ Inv c (QIn (arrF ps ins) start limit T k q))) (fun _ _ tv _ => T - (intOf tv).toNat)
        case atStart => exact ⟨c, 0, k, 0, _, by omega, rfl, rfl, rfl, rfl, Lib.hid ⟨rfl, rfl, HX.out.1, HX.out.2.1, inv_in HX.out.2.2⟩⟩
        case round =>
          obtain ⟨c, s, q, m, Y, hq, rfl, rfl, rfl, rfl, HY⟩ := hrel
          by_cases hqT : q < T
          · have hqTI : (q : Int) < (T : Int) := by omega
            have c0 := blk_cell HY.out.2.2.2.1 0
            have c1 := blk_cell HY.out.2.2.2.1 1
            simp at c0 c1
            go_wp2_with fail
            refine (arr_ref (q : Int) carry a n cap ps ai ni ci hs ins Y Hn.out (Hm.out.later HY.out.2.2.1) Hni.out (Hmi.out.later HY.out.2.2.1) HPI.out.1 HPI.out.2.1 (by omega)).mono ?_
            rintro e Y1 ⟨rfl, hy1⟩
            obtain ⟨q1, q2⟩ := sumF_le HPI.out.2.2 k (m + 1)
            obtain ⟨q3, q4⟩ := sumF_le HPI.out.2.2 k m
            obtain ⟨q5, q6⟩ := sumF_le HPI.out.2.2 0 (q + 1)
            have hmq := HY.out.1
            have hsv : s + arr ps ins q = sumF (arrF ps ins) k (m + 1) := by rw [HY.out.2.1, HY.out.1]; rfl
            rw [← HY.out.2.1] at q3 q4
            have hm1 : ((m + 1 : Nat) : Int) * 1600000000000 ≤ 1601 * 1600000000000 := Int.mul_le_mul_of_nonneg_right (by omega) (by omega)
            have hm2 : ((q + 1 : Nat) : Int) * 1600000000000 ≤ 1001 * 1600000000000 := Int.mul_le_mul_of_nonneg_right (by omega) (by omega)
            have hk0 : k = 0 → sumF (arrF ps ins) k (m + 1) = sumF (arrF ps ins) 0 (q + 1) := by
              intro h
              rw [h, show m + 1 = q + 1 by omega]
            have hy := HY.out
            have HY1 := Lib.hid (And.intro (below_trans hy.2.2.1 hy1) (And.intro (blk_below hy.2.2.2.1 hy1) hy.2.2.2.2))
            generalize arr ps ins q = v at hsv
            have hw1 : IntKind.i64.wrap (s + v) = sumF (arrF ps ins) k (m + 1) := by rw [hsv]; exact IntWalk.i64_in _ (by omega)
            generalize hx : sumF (arrF ps ins) k (m + 1) = x at q1 q2 hk0 hw1
            have hx1 : x ≤ 3000000000000000 := by omega
            have hw2 : IntKind.i64.wrap ((q : Int) + 1) = (q : Int) + 1 := IntWalk.i64_in _ (by omega)
            have hw3 : IntKind.i64.wrap ((q : Int) + 1 - (k : Int)) = (m : Int) + 1 := by rw [IntWalk.i64_in _ (by omega)]; omega
            have hw4 : IntKind.i64.wrap (start + x) = start + x := IntWalk.i64_in _ (by omega)
            have hmm : m ≤ 1000 := by omega
            have HK := Lib.hid (And.intro hk0 (And.intro hx (And.intro hmq (And.intro hsv (And.intro q5 q6)))))
            clear q5 q6 hk0 hx hsv hy1 hy c0 c1 q2 q3 q4 hm1 HY hmq hm2
            go_wp2_with fail
            with_reducible refine (above_ref x ((m : Int) + 1) limit _ (by omega) (by omega) hb2).mono ?_
            rintro e Y2 ⟨rfl, rfl⟩
            obtain ⟨p0, p1⟩ := aboveV_le (sum := x) (ticks := (m : Int) + 1) (limit := limit) (by omega) q1 hb2
            have ha1 := fun (c' : Int) (h : 0 ≤ c') => aboveV_iff (sum := x) (ticks := (m : Int) + 1) (limit := limit) (by omega) h
            generalize aboveV x ((m : Int) + 1) limit = a1 at p0 p1 ha1 ⊢
            have hmx : (if c < a1 then a1 else c) = max c a1 := by split <;> omega
            generalize hc1 : max c a1 = c1 at hmx
            have HA := Lib.hid (And.intro ha1 (And.intro p1 hc1))
            clear ha1 p1 hc1 p0
            by_cases hk00 : k = 0
            · have HK0 := Lib.hid hk00
              have hsx : sumF (arrF ps ins) 0 (q + 1) = x := by rw [← HK.out.1 hk00]
              obtain ⟨r0, r1⟩ := aboveV_le (sum := start + x) (ticks := (q : Int) + 1) (limit := limit) (by omega) (by omega) hb2
              have ha2 := fun (c' : Int) (h : 0 ≤ c') => aboveV_iff (sum := start + x) (ticks := (q : Int) + 1) (limit := limit) (by omega) h
              have HR := Lib.hid (And.intro ha2 (And.intro r0 (And.intro r1 hsx)))
              clear hk00 hsx r0 r1 ha2
              go_wp2_with fail
              · with_reducible refine (above_ref (start + x) ((q : Int) + 1) limit _ (by omega) (by omega) hb2).mono ?_
                rintro e Y3 ⟨rfl, rfl⟩
                have ha2 := HR.out.1
                have r1 := HR.out.2.2.1
                generalize aboveV (start + x) ((q : Int) + 1) limit = a2 at ha2 r1 ⊢
                have hmx2 : (if c1 < a2 then a2 else c1) = max c1 a2 := by split <;> omega
                have hinv := inv_step (a1 := a1) (a2 := a2) (c2 := max c1 a2) HY1.out.2.2 HK.out.2.2.1 (by rw [HK.out.2.1]; exact HA.out.1) (fun _ => by rw [HR.out.2.2.2]; exact ha2) (by have := HA.out.2.1; omega) (by omega) (fun _ => by rw [HA.out.2.2]) (fun h => absurd HK0.out h)
                generalize max c1 a2 = c2 at hmx2 hinv
                have HI := Lib.hid hinv
                clear hinv ha2 r1
                go_wp2_with fail
                go_roundw
                case rel => exact ⟨c2, x, q + 1, m + 1, _, by omega, rfl, rfl, by go_num, rfl, Lib.hid ⟨by have := HK.out.2.2.1; omega, HK.out.2.1.symm, HY1.out.1, HY1.out.2.1, HI.out⟩⟩
                case measure => simp [intOf]; omega
              · rename_i hq0
                have hz := HK0.out
                simp [hz] at hq0
            · have HK0 := Lib.hid hk00
              have hdI : ¬ (k : Int) = 0 := by omega
              have hinv := inv_step (a1 := a1) (a2 := 0) (c2 := c1) HY1.out.2.2 HK.out.2.2.1 (by rw [HK.out.2.1]; exact HA.out.1) (fun h => absurd h HK0.out) (by have := HA.out.2.1; omega) (by omega) (fun h => absurd h HK0.out) (fun _ => HA.out.2.2.symm)
              have HI := Lib.hid hinv
              clear hinv
              go_wp2_with fail
              go_roundw
              case rel => exact ⟨c1, x, q + 1, m + 1, _, by omega, rfl, rfl, by go_num, rfl, Lib.hid ⟨by have := HK.out.2.2.1; omega, HK.out.2.1.symm, HY1.out.1, HY1.out.2.1, HI.out⟩⟩
              case measure => simp [intOf]; omega
          · have hqe : q = T := by omega
            have h5 : Inv c (QIn (arrF ps ins) start limit T k T) := by have h := HY.out.2.2.2.2; rw [hqe] at h; exact h
            have HE2 := Lib.hid (And.intro HY.out.2.2.1 (And.intro HY.out.2.2.2.1 (inv_out h5)))
            clear h5
            have hqI : ¬ (q : Int) < (T : Int) := by omega
            clear hqe HY
            go_wp2_with fail
            go_roundw
            case rel => exact ⟨c, k + 1, _, by omega, rfl, by go_num, rfl, HE2⟩
            case measure => simp [intOf]; omega
      · have hke : k = T := by omega
        have HZ := Lib.hid (HVE.out c (by have h := HX.out.2.2; rw [hke] at h; exact h))
        have HB := Lib.hid HX.out.1
        have hkI : ¬ (k : Int) < (T : Int) := by omega
        clear hke HX HVE
        by_cases hc : 100000000 < c
        · have HV := Lib.hid (And.intro (HZ.out.1.trans (if_pos hc)) (HZ.out.2.trans (if_pos hc)))
          clear HZ
          go_wp2_with fail
          go_ret2
          exact ⟨by rw [HV.out.1, HV.out.2]; rfl, HB.out⟩
        · have HV := Lib.hid (And.intro (HZ.out.1.trans (if_neg hc)) (HZ.out.2.trans (if_neg hc)))
          clear HZ
          go_wp2_with fail
          go_ret2
          exact ⟨by rw [HV.out.1, HV.out.2]; rfl, HB.out⟩
  · have hnone : limit < start := by omega
    have HZ := Lib.hid (hVE.out 100000001 (by omega) (by rw [least_none hnone]; rfl))
    clear hVE hb
    go_enter Try.func28, Try.ntmps28
    go_wp2_with fail
    obtain ⟨W1, hW1⟩ : ∃ W' : World, (w.alloc (.cells #[.int .i64 carry, .slice a n cap] 28)) = W' := ⟨_, rfl⟩
    have h1 : Has W1 [(w.heap.size, .cells #[.int .i64 carry, .slice a n cap] 28 (0, 0))] := by rw [← hW1]; simpa using ((Has.nil w).new _)
    have s1' : W1.heap.size = w.heap.size + 1 := by rw [← hW1]; simp
    have b1 : Below w.heap.size w W1 := by rw [← hW1]; exact (below_alloc (below_self w) _)
    rw [hW1]
    clear hW1
    refine (asked_ref carry a n cap ps start ai ni ci hs ins T _ Hn.out hl (Hm.out.later b1) Hni.out hli (Hmi.out.later b1)).mono ?_
    rintro e W2 ⟨rfl, hb2'⟩
    rw [HE.out]
    have w2 := Lib.hid (below_trans b1 hb2')
    clear hb2' b1 h1 s1'
    go_wp2_with fail
    go_ret2
    exact ⟨by rw [HZ.out.1, HZ.out.2]; rfl, w2.out⟩

theorem leastref_ok (carry : Int) (a : Option Addr) (n cap : Nat) (ps : List Prt) (start : Int) (ai : Option Addr) (ni ci : Nat) (hs : List Hd) (ins : List (List Int)) (t limit : Int) (w : World) (hn : ps.length = n) (hl : n ≤ 9223372036854775807) (hm : RowsAt w.heap.size w a 3 (Prts ps))
    (hni : ins.length = ni) (hli : ni ≤ 9223372036854775807) (hmi : InsAt w.heap.size w ai hs ins) :
    Calls Try.prog 28 #[.agg #[.int .i64 carry, .slice a n cap], .int .i64 start, .slice ai ni ci, .int .i64 t, .int .i64 limit] w fun e W' => e = .returned (.tuple #[.int .i64 (leastV carry ps ins start t limit), .int .i64 (leastE carry ps ins start t limit)]) ∧ Below w.heap.size w W' := by
  by_cases he : askedE carry ps start ins t = 0
  · obtain ⟨_, _, _, _, ht0, _⟩ := asked_zero he
    obtain ⟨T, rfl⟩ : ∃ T : Nat, t = T := ⟨t.toNat, by omega⟩
    unfold leastV leastE
    rw [if_pos he, if_pos he]
    refine leastref_zero carry a n cap ps start ai ni ci hs ins T limit w hn hl hm hni hli hmi he _ _ (Lib.hid fun x hx h => ?_)
    have hT : ((T : Int)).toNat = T := by omega
    rw [hT, h]
    constructor <;> split <;> split <;> omega
  · unfold leastV leastE
    rw [if_neg he, if_neg he]
    have Hm := Lib.hid hm; clear hm
    have Hmi := Lib.hid hmi; clear hmi
    have hD : decide (askedE carry ps start ins t = 0) = false := decide_eq_false he
    go_enter Try.func28, Try.ntmps28
    go_wp2_with fail
    obtain ⟨W1, hW1⟩ : ∃ W' : World, (w.alloc (.cells #[.int .i64 carry, .slice a n cap] 28)) = W' := ⟨_, rfl⟩
    have h1 : Has W1 [(w.heap.size, .cells #[.int .i64 carry, .slice a n cap] 28 (0, 0))] := by rw [← hW1]; simpa using ((Has.nil w).new _)
    have s1 : W1.heap.size = w.heap.size + 1 := by rw [← hW1]; simp
    have b1 : Below w.heap.size w W1 := by rw [← hW1]; exact (below_alloc (below_self w) _)
    rw [hW1]
    clear hW1
    refine (asked_ref carry a n cap ps start ai ni ci hs ins t _ hn hl (Hm.out.later b1) hni hli (Hmi.out.later b1)).mono ?_
    rintro e W2 ⟨rfl, hb2⟩
    have w2 := Lib.hid (below_trans b1 hb2)
    clear hb2 b1 h1 s1
    generalize hE : askedE carry ps start ins t = E at he hD ⊢
    have HE := Lib.hid hE
    clear hE
    go_wp2_with fail
    go_ret2
    exact ⟨by rw [HE.out]; rfl, w2.out⟩
end Go.Proofs.Ytnpcafhmkjdhaaa
