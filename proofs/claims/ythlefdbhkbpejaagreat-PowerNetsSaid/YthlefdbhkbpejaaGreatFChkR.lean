/- Chapter 05: the reference's Check (written by wip/gen05chk.py). -/
import Derived.Test.YthlefdbhkbpejaaGreatFNet
import Derived.Test.YthlefdbhkbpejaaGreatFMst
import Derived.Test.YthlefdbhkbpejaaGreatFRst
import Derived.StillTailTactics
import Derived.WalkMore
namespace Go.Proofs.YthlefdbhkbpejaaGreat.F5
open Go Go.RowKit
set_option linter.unusedSimpArgs false

theorem netOk_bad {N : Int} {l : List Ar} {k : Nat} (hk : k < l.length) (h : okA N (l.getD k default) = false) : netOk N l = false := by
  cases hb : netOk N l
  · rfl
  · have := (netOk_iff.1 hb).2.2.2 (l.getD k default) (by rw [List.getD_eq_getElem?_getD, List.getElem?_eq_getElem hk]; exact List.getElem_mem _)
    rw [h] at this
    cases this
theorem okA_bad {N : Int} {x : Ar} (h : ¬ ((0 ≤ x.u ∧ x.u < N) ∧ (0 ≤ x.v ∧ x.v < N) ∧ x.u ≠ x.v ∧ 0 ≤ x.c ∧ x.c ≤ 100000000)) : okA N x = false := by
  cases hb : okA N x
  · rfl
  · exact absurd (okA_iff.1 hb) h
theorem all_succ {l : List Ar} {p : Ar → Bool} {j : Nat} (h : ∀ x ∈ l.take j, p x = true) (hj : j < l.length) (hp : p (l.getD j default) = true) : ∀ x ∈ l.take (j + 1), p x = true := by
  intro x hx
  rw [List.take_succ_eq_append_getElem hj, List.mem_append] at hx
  rcases hx with hx | hx
  · exact h x hx
  · rw [List.getD_eq_getElem?_getD, List.getElem?_eq_getElem hj, Option.getD_some] at hp
    simp only [List.mem_cons, List.not_mem_nil, or_false] at hx
    rw [hx]; exact hp

set_option maxHeartbeats 4000000 in
theorem validref_ok (N : Int) (a : Option Addr) (k c : Nat) (l : List Ar) (w : World) (hn : l.length = k) (hl : k ≤ 9223372036854775807) (hm : RowsAt w.heap.size w a 3 (Ars l)) :
    Calls Tryz.prog 95 #[.agg #[.int .i64 N, .slice a k c]] w fun e W' => e = .returned (.bool (netOk N l)) ∧ Below w.heap.size w W' := by
  have Hn := Lib.hid hn; clear hn
  have Hm := Lib.hid hm; clear hm
  by_cases h1 : N < 2
  · have HE := Lib.hid (show netOk N l = false by unfold netOk; rw [decide_eq_false (show ¬ 2 ≤ N by omega)]; rfl)
    rw [HE.out]
    go_enter Tryz.func95, Tryz.ntmps95
    go_wp2_with fail
    go_ret
    exact ⟨rfl, below_alloc (below_self w) _⟩
  · by_cases h2 : 64 < N
    · have HE := Lib.hid (show netOk N l = false by unfold netOk; rw [decide_eq_false (show ¬ N ≤ 64 by omega)]; simp)
      rw [HE.out]
      go_enter Tryz.func95, Tryz.ntmps95
      go_wp2_with fail
      go_ret
      exact ⟨rfl, below_alloc (below_self w) _⟩
    · by_cases h3 : 128 < k
      · have h3I : (128 : Int) < (k : Int) := by omega
        have HE := Lib.hid (show netOk N l = false by unfold netOk; rw [decide_eq_false (show ¬ l.length ≤ 128 by rw [Hn.out]; omega)]; simp)
        rw [HE.out]
        go_enter Tryz.func95, Tryz.ntmps95
        go_wp2_with fail
        go_ret
        exact ⟨rfl, below_alloc (below_self w) _⟩
      · have h3I : ¬ (128 : Int) < (k : Int) := by omega
        obtain ⟨R, hR⟩ : ∃ R, netOk N l = R := ⟨_, rfl⟩
        rw [hR]
        have HR := Lib.hid hR
        have HL := Lib.hid (show 2 ≤ N ∧ N ≤ 64 ∧ k ≤ 128 by omega)
        clear hR
        go_enter Tryz.func95, Tryz.ntmps95
        go_wp2_with fail
        obtain ⟨A, hA⟩ : ∃ W' : World, (w.alloc (.cells #[.int .i64 N, .slice a k c] 44)) = W' := ⟨_, rfl⟩
        have h : Has A [(w.heap.size, .cells #[.int .i64 N, .slice a k c] 44 (0, 0))] := by rw [← hA]; simpa using ((Has.nil w).new _)
        have z : A.heap.size = w.heap.size + 1 := by rw [← hA]; simp
        have b : Below w.heap.size w A := by rw [← hA]; exact (below_alloc (below_self w) _)
        rw [hA]
        clear hA
        have HA := Lib.hid (And.intro h.hd b)
        clear h z b h1 h2 h3 h3I
        go_loopw [22] (fun i wr => ∃ (j : Nat) (X : World), j ≤ k ∧ i = .int .i64 j ∧ X = wr ∧ Hid (Below w.heap.size w X ∧ X.heap[w.heap.size]? = some (.cells #[.int .i64 N, .slice a k c] 44 (0, 0)) ∧ ∀ x ∈ l.take j, okA N x = true)) (fun i _ => k - (intOf i).toNat)
        case atStart => exact ⟨0, _, Nat.zero_le _, rfl, rfl, Lib.hid ⟨HA.out.2, HA.out.1, fun x hx => by simp at hx⟩⟩
        case round =>
          clear HA
          obtain ⟨j, X, hj, rfl, rfl, HX⟩ := hrel
          by_cases hlt : j < k
          · have hltI : (j : Int) < (k : Int) := by omega
            have hjl : j < l.length := by rw [Hn.out]; exact hlt
            obtain ⟨b1, o1, rfl, hb1, c0, c1, c2⟩ := ars_at (Hm.out.later HX.out.1) j hjl
            obtain ⟨x, hx⟩ : ∃ x, l.getD j default = x := ⟨_, rfl⟩
            rw [hx] at c0 c1 c2
            have HK := Lib.hid (And.intro hx (And.intro hjl fun hb => (netOk_bad hjl hb).symm.trans HR.out))
            obtain ⟨xu, xv, xc⟩ := x
            simp only at c0 c1 c2
            have p0 : X.cell? ⟨w.heap.size, 0, none⟩ = some (.int .i64 N) := (blk_cell HX.out.2.1 0).trans rfl
            have lp := blk_lt HX.out.2.1
            clear hx hjl
            by_cases g1 : xu < 0
            · have HN := Lib.hid (HK.out.2.2 (by rw [HK.out.1]; exact okA_bad (by simp only; omega)))
              go_wp2_with fail
              go_ret
              exact ⟨by rw [← HN.out]; rfl, below_alloc HX.out.1 _⟩
            · skip
              by_cases g2 : N ≤ xu
              · have HN := Lib.hid (HK.out.2.2 (by rw [HK.out.1]; exact okA_bad (by simp only; omega)))
                go_wp2_with fail
                go_ret
                exact ⟨by rw [← HN.out]; rfl, below_alloc HX.out.1 _⟩
              · skip
                by_cases g3 : xv < 0
                · have HN := Lib.hid (HK.out.2.2 (by rw [HK.out.1]; exact okA_bad (by simp only; omega)))
                  go_wp2_with fail
                  go_ret
                  exact ⟨by rw [← HN.out]; rfl, below_alloc HX.out.1 _⟩
                · skip
                  by_cases g4 : N ≤ xv
                  · have HN := Lib.hid (HK.out.2.2 (by rw [HK.out.1]; exact okA_bad (by simp only; omega)))
                    go_wp2_with fail
                    go_ret
                    exact ⟨by rw [← HN.out]; rfl, below_alloc HX.out.1 _⟩
                  · skip
                    by_cases g5 : xu = xv
                    · have HN := Lib.hid (HK.out.2.2 (by rw [HK.out.1]; exact okA_bad (by simp only; omega)))
                      have q5 : (xu == xv) = true := beq_iff_eq.2 g5
                      go_wp2_with fail
                      go_ret
                      exact ⟨by rw [← HN.out]; rfl, below_alloc HX.out.1 _⟩
                    · skip
                      have q5 : (xu == xv) = false := beq_eq_false_iff_ne.2 g5
                      by_cases g6 : xc < 0
                      · have HN := Lib.hid (HK.out.2.2 (by rw [HK.out.1]; exact okA_bad (by simp only; omega)))
                        go_wp2_with fail
                        go_ret
                        exact ⟨by rw [← HN.out]; rfl, below_alloc HX.out.1 _⟩
                      · skip
                        by_cases g7 : 100000000 < xc
                        · have HN := Lib.hid (HK.out.2.2 (by rw [HK.out.1]; exact okA_bad (by simp only; omega)))
                          go_wp2_with fail
                          go_ret
                          exact ⟨by rw [← HN.out]; rfl, below_alloc HX.out.1 _⟩
                        · skip
                          have HN := Lib.hid (all_succ HX.out.2.2 HK.out.2.1 (by rw [HK.out.1]; exact okA_iff.2 (by simp only; omega)))
                          have HB := Lib.hid (And.intro HX.out.1 HX.out.2.1)
                          clear HK
                          go_wp2_with fail
                          go_roundw
                          case rel => exact ⟨j + 1, _, by omega, by go_num, rfl, Lib.hid ⟨below_alloc HB.out.1 _, blk_alloc HB.out.2 _, HN.out⟩⟩
                          case measure => simp [intOf]; omega
          · have hltI : ¬ (j : Int) < (k : Int) := by omega
            have HT := Lib.hid (show true = R by
              rw [← HR.out]
              have := HX.out.2.2
              rw [List.take_of_length_le (by rw [Hn.out]; omega)] at this
              exact (netOk_iff.2 ⟨HL.out.1, HL.out.2.1, by rw [Hn.out]; exact HL.out.2.2, this⟩).symm)
            go_wp2_with fail
            go_ret
            exact ⟨by rw [← HT.out]; rfl, HX.out.1⟩


set_option maxHeartbeats 1000000 in
theorem askedref_ok (N : Int) (a : Option Addr) (k c : Nat) (l : List Ar) (s t : Int) (w : World) (hn : l.length = k) (hl : k ≤ 9223372036854775807) (hm : RowsAt w.heap.size w a 3 (Ars l)) :
    Calls Tryz.prog 53 #[.agg #[.int .i64 N, .slice a k c], .int .i64 s, .int .i64 t] w fun e W' => e = .returned (.int .i64 (askF N l s t)) ∧ Below w.heap.size w W' := by
  have Hn := Lib.hid hn; clear hn
  have Hm := Lib.hid hm; clear hm
  cases hv : netOk N l
  · have HE := Lib.hid (show askF N l s t = 1 by unfold askF; rw [hv]; rfl)
    rw [HE.out]
    have HV := Lib.hid hv
    clear hv
    go_enter Tryz.func53, Tryz.ntmps53
    go_wp2_with fail
    obtain ⟨A, hA⟩ : ∃ W' : World, (w.alloc (.cells #[.int .i64 N, .slice a k c] 44)) = W' := ⟨_, rfl⟩
    have h : Has A [(w.heap.size, .cells #[.int .i64 N, .slice a k c] 44 (0, 0))] := by rw [← hA]; simpa using ((Has.nil w).new _)
    have z : A.heap.size = w.heap.size + 1 := by rw [← hA]; simp
    have b : Below w.heap.size w A := by rw [← hA]; exact (below_alloc (below_self w) _)
    rw [hA]
    clear hA
    have HA := Lib.hid (And.intro h.hd b)
    clear h z b
    refine (validref_ok N a k c l A Hn.out hl (Hm.out.later HA.out.2)).mono ?_
    rintro e B ⟨rfl, hb⟩
    have HB := Lib.hid (And.intro (blk_below HA.out.1 hb) (below_trans HA.out.2 hb))
    clear hb HA
    rw [HV.out]
    go_wp2_with fail
    go_ret
    exact ⟨rfl, HB.out.2⟩
  · have HV := Lib.hid hv
    have hA : askF N l s t = (if inR s 0 (N - 1) = true ∧ inR t 0 (N - 1) = true ∧ s ≠ t then 0 else 2) := by unfold askF; rw [hv]; rfl
    obtain ⟨E, hE⟩ : ∃ E, askF N l s t = E := ⟨_, rfl⟩
    rw [hE]
    rw [hE] at hA
    have HE := Lib.hid (And.intro (show ¬ ((0 ≤ s ∧ s < N) ∧ (0 ≤ t ∧ t < N) ∧ s ≠ t) → 2 = E from fun h => by rw [hA, if_neg]; rintro ⟨h1, h2, h3⟩; have h1 := inR_iff.1 h1; have h2 := inR_iff.1 h2; exact h ⟨by omega, by omega, h3⟩) (show (0 ≤ s ∧ s < N) ∧ (0 ≤ t ∧ t < N) ∧ s ≠ t → 0 = E from fun h => by rw [hA, if_pos]; exact ⟨inR_iff.2 (by omega), inR_iff.2 (by omega), h.2.2⟩))
    clear hv hA hE
    go_enter Tryz.func53, Tryz.ntmps53
    go_wp2_with fail
    obtain ⟨A, hA⟩ : ∃ W' : World, (w.alloc (.cells #[.int .i64 N, .slice a k c] 44)) = W' := ⟨_, rfl⟩
    have h : Has A [(w.heap.size, .cells #[.int .i64 N, .slice a k c] 44 (0, 0))] := by rw [← hA]; simpa using ((Has.nil w).new _)
    have z : A.heap.size = w.heap.size + 1 := by rw [← hA]; simp
    have b : Below w.heap.size w A := by rw [← hA]; exact (below_alloc (below_self w) _)
    rw [hA]
    clear hA
    have HA := Lib.hid (And.intro h.hd b)
    clear h z b
    refine (validref_ok N a k c l A Hn.out hl (Hm.out.later HA.out.2)).mono ?_
    rintro e B ⟨rfl, hb⟩
    have HB := Lib.hid (And.intro (blk_below HA.out.1 hb) (below_trans HA.out.2 hb))
    clear hb HA
    rw [HV.out]
    have c0 : B.cell? ⟨w.heap.size, 0, none⟩ = some (.int .i64 N) := (blk_cell HB.out.1 0).trans rfl
    have lb := blk_lt HB.out.1
    by_cases g1 : s < 0
    · have HN := Lib.hid (HE.out.1 (by omega))
      go_wp2_with fail
      go_ret
      exact ⟨by rw [← HN.out]; rfl, HB.out.2⟩
    · skip
      by_cases g2 : N ≤ s
      · have HN := Lib.hid (HE.out.1 (by omega))
        go_wp2_with fail
        go_ret
        exact ⟨by rw [← HN.out]; rfl, HB.out.2⟩
      · skip
        by_cases g3 : t < 0
        · have HN := Lib.hid (HE.out.1 (by omega))
          go_wp2_with fail
          go_ret
          exact ⟨by rw [← HN.out]; rfl, HB.out.2⟩
        · skip
          by_cases g4 : N ≤ t
          · have HN := Lib.hid (HE.out.1 (by omega))
            go_wp2_with fail
            go_ret
            exact ⟨by rw [← HN.out]; rfl, HB.out.2⟩
          · skip
            by_cases g5 : s = t
            · have HN := Lib.hid (HE.out.1 (by omega))
              have q5 : (s == t) = true := beq_iff_eq.2 g5
              go_wp2_with fail
              go_ret
              exact ⟨by rw [← HN.out]; rfl, HB.out.2⟩
            · skip
              have q5 : (s == t) = false := beq_eq_false_iff_ne.2 g5
              have HN := Lib.hid (HE.out.2 ⟨by omega, by omega, g5⟩)
              go_wp2_with fail
              go_ret
              exact ⟨by rw [← HN.out]; rfl, HB.out.2⟩
end Go.Proofs.YthlefdbhkbpejaaGreat.F5

namespace Go.Proofs.YthlefdbhkbpejaaGreat.F5

/-- Each arc carries between 0 and its capacity, by a test. -/
def okFb : List Ar → List Int → Bool
  | a :: l, f :: fs => (decide (0 ≤ f) && decide (f ≤ a.c)) && okFb l fs
  | [], [] => true
  | _, _ => false
theorem okFb_iff : ∀ {l : List Ar} {f : List Int}, okFb l f = true ↔ okF l f
  | a :: l, f :: fs => by simp [okFb, okF, okFb_iff (l := l) (f := fs)]
  | [], [] => by simp [okFb, okF]
  | [], _ :: _ => by simp [okFb, okF]
  | _ :: _, [] => by simp [okFb, okF]
theorem okFb_not {l : List Ar} {f : List Int} {k : Nat} (hk : k < l.length) (h : ¬ (0 ≤ f.getD k default ∧ f.getD k default ≤ (l.getD k default).c)) : okFb l f = false := by
  cases hb : okFb l f
  · rfl
  · have := okF_at (okFb_iff.1 hb) hk
    exact absurd this h
/-- All nodes but s and t send on what they get. -/
def conB (n : Nat) (l : List Ar) (s t : Int) (f : List Int) : Bool := (List.range n).all fun x => decide ((x : Int) = s) || decide ((x : Int) = t) || decide (net l f x = 0)
theorem conB_iff {n : Nat} {l : List Ar} {s t : Int} {f : List Int} : conB n l s t f = true ↔ ∀ x : Int, 0 ≤ x → x < n → x ≠ s → x ≠ t → net l f x = 0 := by
  unfold conB
  rw [List.all_eq_true]
  constructor
  · intro h x h0 h1 h2 h3
    have := h x.toNat (by simp; omega)
    rw [show ((x.toNat : Nat) : Int) = x by omega] at this
    simpa [h2, h3] using this
  · intro h x hx
    simp only [List.mem_range] at hx
    have := h x (by omega) (by omega)
    by_cases h2 : (x : Int) = s
    · simp [h2]
    · by_cases h3 : (x : Int) = t
      · simp [h3]
      · simp [this h2 h3]
theorem flw_iff {n : Nat} {l : List Ar} {s t : Int} {f : List Int} : (okFb l f && conB n l s t f) = true ↔ Flw n l s t f := by
  rw [Bool.and_eq_true, okFb_iff, conB_iff]
  exact ⟨fun h => ⟨h.1, h.2⟩, fun h => ⟨h.ok, h.con⟩⟩
/-- What Check returns: the value and the error. -/
def chkE (N : Int) (l : List Ar) (s t : Int) (f : List Int) : Int := if askF N l s t = 0 then (if (okFb l f && conB N.toNat l s t f) = true then 0 else 13) else askF N l s t
def chkV (N : Int) (l : List Ar) (s t : Int) (f : List Int) : Int := if chkE N l s t f = 0 then net l f s else 0

/-- Numbers that rise, above last and below N. -/
def incB (N : Int) : Int → List Int → Bool
  | _, [] => true
  | last, v :: r => (decide (last < v) && decide (v < N)) && incB N v r
/-- The capacity of a list of nodes. -/
def capL (l : List Ar) (set : List Int) : Int := capS (fun x => set.contains x) l
def acrE (N : Int) (l : List Ar) (set : List Int) : Int := if netOk N l = true then (if incB N (-1) set = true then 0 else 2) else 1
def acrV (N : Int) (l : List Ar) (set : List Int) : Int := if acrE N l set = 0 then capL l set else 0

/-- The last one of a list; d: of the empty one. -/
def lastD (d : Int) : List Int → Int
  | [] => d
  | v :: r => lastD v r
theorem lastD_snoc (d v : Int) : ∀ l : List Int, lastD d (l ++ [v]) = v
  | [] => rfl
  | x :: l => by simp [lastD, lastD_snoc x v l]
theorem incB_snoc (N v : Int) : ∀ (d : Int) (l : List Int), incB N d (l ++ [v]) = (incB N d l && (decide (lastD d l < v) && decide (v < N)))
  | d, [] => by simp [incB, lastD] <;> rfl
  | d, x :: l => by simp [incB, lastD, incB_snoc N v x l, Bool.and_assoc] <;> rfl
theorem incB_append (N : Int) : ∀ (d : Int) (l r : List Int), incB N d (l ++ r) = (incB N d l && incB N (lastD d l) r)
  | d, [], r => by simp [incB, lastD]
  | d, x :: l, r => by simp [incB, lastD, incB_append N x l r, Bool.and_assoc]
theorem incB_in {N : Int} : ∀ {d : Int} {l : List Int}, incB N d l = true → ∀ x ∈ l, d < x ∧ x < N
  | d, [], _, x, hx => by simp at hx
  | d, y :: l, h, x, hx => by
    simp only [incB, Bool.and_eq_true, decide_eq_true_eq] at h
    rcases List.mem_cons.1 hx with rfl | hx
    · exact h.1
    · have := incB_in h.2 x hx
      omega
/-- At the number k the test fails. -/
theorem incB_stop {N : Int} {d : Int} {l : List Int} {k : Nat} (hk : k < l.length) (h : ¬ (lastD d (l.take k) < l.getD k default ∧ l.getD k default < N)) : incB N d l = false := by
  have e : l = l.take k ++ (l.getD k default :: l.drop (k + 1)) := by
    rw [List.getD_eq_getElem?_getD, List.getElem?_eq_getElem hk, Option.getD_some, ← List.drop_eq_getElem_cons hk, List.take_append_drop]
  rw [e, incB_append]
  simp only [incB]
  have : (decide (lastD d (l.take k) < l.getD k default) && decide (l.getD k default < N)) = false := by
    rw [Bool.and_eq_false_iff, decide_eq_false_iff_not, decide_eq_false_iff_not]
    omega
  rw [this]
  simp
theorem net_snoc : ∀ (l : List Ar) (f : List Int) (a : Ar) (y x : Int), f.length = l.length → net (l ++ [a]) (f ++ [y]) x = net l f x + (if a.u = x then y else 0) - (if a.v = x then y else 0)
  | [], [], a, y, x, _ => by simp [net]
  | b :: l, z :: f, a, y, x, h => by
    simp only [List.cons_append, net, net_snoc l f a y x (by simpa using h)]
    omega
  | [], _ :: _, _, _, _, h => by simp at h
  | _ :: _, [], _, _, _, h => by simp at h
theorem capS_snoc (S : Int → Bool) : ∀ (l : List Ar) (a : Ar), capS S (l ++ [a]) = capS S l + (if S a.u = true ∧ S a.v = false then a.c else 0)
  | [], a => by simp [capS]
  | b :: l, a => by simp only [List.cons_append, capS, capS_snoc S l a]; omega
theorem net_bound : ∀ (l : List Ar) (f : List Int) (x : Int), okF l f → (∀ a ∈ l, 0 ≤ a.c ∧ a.c ≤ 100000000) → -(100000000 * (l.length : Int)) ≤ net l f x ∧ net l f x ≤ 100000000 * l.length
  | [], [], x, _, _ => by simp [net]
  | a :: l, y :: f, x, h, hc => by
    have h1 := h.1
    have h2 := hc a (by simp)
    have ih := net_bound l f x h.2 (fun b hb => hc b (by simp [hb]))
    simp only [net, List.length_cons]
    split <;> split <;> omega
  | [], _ :: _, _, h, _ => by simp [okF] at h
  | _ :: _, [], _, h, _ => by simp [okF] at h
theorem okF_snoc : ∀ {l : List Ar} {f : List Int} {a : Ar} {y : Int}, okF l f → 0 ≤ y → y ≤ a.c → okF (l ++ [a]) (f ++ [y])
  | [], [], _, _, _, h0, h1 => ⟨⟨h0, h1⟩, trivial⟩
  | _ :: _, _ :: _, _, _, h, h0, h1 => ⟨h.1, okF_snoc h.2 h0 h1⟩
  | [], _ :: _, _, _, h, _, _ => by simp [okF] at h
  | _ :: _, [], _, _, h, _, _ => by simp [okF] at h
end Go.Proofs.YthlefdbhkbpejaaGreat.F5

namespace Go.Proofs.YthlefdbhkbpejaaGreat.F5
open Go Go.RowKit
set_option linter.unusedSimpArgs false

theorem drew_below (X : World) : Below X.heap.size X X.drew := (below_self X).drew
/-- The net in its box, a row of balances. -/
structure CR (w : World) (N : Int) (a : Option Addr) (k c n g : Nat) (L : List Int) (X : World) : Prop where
  bel : Below w.heap.size w X
  box : X.heap[w.heap.size]? = some (.cells #[.int .i64 N, .slice a k c] 44 (0, 0))
  row : OwnI (w.heap.size + 1) X (.slice (some ⟨g, 0, none⟩) n n) L
  len : L.length = n
section
variable {w : World} {N : Int} {a : Option Addr} {k c n g : Nat} {L : List Int} {X X' : World}
theorem CR.later (h : CR w N a k c n g L X) (hb : Below X.heap.size X X') : CR w N a k c n g L X' := ⟨below_trans h.bel hb, blk_below h.box hb, h.row.later hb, h.len⟩
theorem CR.lo (h : CR w N a k c n g L X) : w.heap.size + 1 ≤ g ∧ g < X.heap.size := h.row.lt g rfl
theorem CR.put (h : CR w N a k c n g L X) (e : Nat) (y : Int) : CR w N a k c n g (L.set e y) (X.setCell ⟨g, e, none⟩ (.int .i64 y)) := by
  have hg := h.lo
  exact ⟨h.bel.setCell (by simp only; omega) _, blk_set h.box (by simp only; omega) _, h.row.put e y, by rw [List.length_set]; exact h.len⟩
theorem CR.at' (h : CR w N a k c n g L X) {e : Nat} (he : e < n) : X.cell? ⟨g, e, none⟩ = some (.int .i64 (L.getD e default)) ∧ X.frozen? ⟨g, e, none⟩ = false := by
  obtain ⟨g', c', hv, _, _, h1, h2⟩ := h.row.at (e := e) (by rw [h.len]; exact he)
  cases hv
  exact ⟨h1, h2⟩
end
/-- The balances of the first j arcs. -/
structure CJ (l : List Ar) (f : List Int) (n j : Nat) (L : List Int) : Prop where
  val : ∀ x : Nat, x < n → L.getD x default = net (l.take j) (f.take j) x
  ok : okF (l.take j) (f.take j)
theorem take_snocA2 {l : List Ar} {k : Nat} (hk : k < l.length) : l.take (k + 1) = l.take k ++ [l.getD k default] := by
  rw [List.take_succ_eq_append_getElem hk]
  simp [List.getD, List.getElem?_eq_getElem hk]
theorem CJ.start (l : List Ar) (f : List Int) (n : Nat) : CJ l f n 0 (List.replicate n 0) := by
  refine ⟨fun x hx => ?_, by simp [okF]⟩
  rw [List.getD_eq_getElem?_getD, List.getElem?_replicate, if_pos hx]
  simp [net]
theorem CJ.next {l : List Ar} {f : List Int} {n j : Nat} {L : List Int} (h : CJ l f n j L) (hj : j < l.length) (hl : f.length = l.length) (hL : L.length = n) {u v : Nat} {cc y : Int} (hx : l.getD j default = ⟨u, v, cc⟩) (hy : f.getD j default = y) (hu : u < n) (hv : v < n) (huv : u ≠ v) (h0 : 0 ≤ y) (h1 : y ≤ cc)
    {z z2 : Int} (hz : z = L.getD u default + y) (hz2 : z2 = L.getD v default - y) : CJ l f n (j + 1) ((L.set u z).set v z2) := by
  subst hz hz2
  have e1 := take_snocA2 hj
  have e2 := take_snocI (xs := f) (k := j) (by omega)
  rw [hx] at e1
  rw [hy] at e2
  refine ⟨fun x hxn => ?_, by rw [e1, e2]; exact okF_snoc h.ok h0 h1⟩
  rw [e1, e2, net_snoc _ _ _ _ _ (by rw [List.length_take, List.length_take, hl]), ← h.val x hxn, List.getD_eq_getElem?_getD, List.getElem?_set, List.length_set]
  simp only
  by_cases hxv : v = x
  · subst hxv
    rw [if_pos rfl, if_pos (by omega), if_neg (by omega), if_pos rfl, Option.getD_some]
    omega
  · rw [if_neg hxv, if_neg (show ¬ (v : Int) = (x : Int) by omega), List.getElem?_set]
    by_cases hxu : u = x
    · subst hxu
      rw [if_pos rfl, if_pos (by omega), if_pos rfl, Option.getD_some]
      omega
    · rw [if_neg hxu, if_neg (show ¬ (u : Int) = (x : Int) by omega), ← List.getD_eq_getElem?_getD]
      omega
theorem CJ.bound {l : List Ar} {f : List Int} {n j : Nat} {L : List Int} (h : CJ l f n j L) (hc : ∀ a ∈ l, 0 ≤ a.c ∧ a.c ≤ 100000000) (hl : l.length ≤ 128) {x : Nat} (hx : x < n) : -12800000000 ≤ L.getD x default ∧ L.getD x default ≤ 12800000000 := by
  rw [h.val x hx]
  have := net_bound _ _ (x : Int) h.ok (fun a ha => hc a (List.mem_of_mem_take ha))
  have h2 : (l.take j).length ≤ l.length := by rw [List.length_take]; omega
  omega

theorem getD_set {L : List Int} {i : Nat} (y : Int) (hi : i < L.length) (x : Nat) : (L.set i y).getD x default = if x = i then y else L.getD x default := by
  rw [List.getD_eq_getElem?_getD, List.getElem?_set]
  by_cases h : i = x
  · rw [if_pos h, if_pos h.symm, if_pos hi]; rfl
  · rw [if_neg h, if_neg (fun e => h e.symm), List.getD_eq_getElem?_getD]
theorem con_any {n : Nat} {l : List Ar} {f L : List Int} {s t : Nat} (hlen : L.length = n) (hval : ∀ x : Nat, x < n → L.getD x default = net l f x) (hs : s < n) (ht : t < n) : ((L.set s 0).set t 0).any (fun x => x != 0) = !conB n l s t f := by
  have hg : ∀ x : Nat, x < n → ((L.set s 0).set t 0).getD x default = if x = t then 0 else if x = s then 0 else net l f x := fun x hx => by
    rw [getD_set 0 (by rw [List.length_set]; omega), getD_set 0 (by omega), hval x hx]
  cases hc : conB n l s t f
  · unfold conB at hc
    rw [List.all_eq_false] at hc
    obtain ⟨x, hx, hb⟩ := hc
    simp only [List.mem_range] at hx
    simp only [Bool.or_eq_true, decide_eq_true_eq, not_or] at hb
    obtain ⟨⟨h1, h2⟩, h3⟩ := hb
    show _ = true
    rw [List.any_eq_true]
    have h4 := hg x hx
    rw [if_neg (by omega), if_neg (by omega)] at h4
    have hxl : x < ((L.set s 0).set t 0).length := by rw [List.length_set, List.length_set]; omega
    rw [List.getD_eq_getElem?_getD, List.getElem?_eq_getElem hxl, Option.getD_some] at h4
    exact ⟨_, List.getElem_mem hxl, by rw [h4]; simpa using h3⟩
  · have hc2 := conB_iff.1 hc
    show _ = false
    rw [List.any_eq_false]
    intro y hy
    obtain ⟨x, hx, rfl⟩ := List.getElem_of_mem hy
    have hxn : x < n := by rw [List.length_set, List.length_set] at hx; omega
    have h4 := hg x hxn
    rw [List.getD_eq_getElem?_getD, List.getElem?_eq_getElem hx, Option.getD_some] at h4
    rw [h4]
    split
    · simp
    · split
      · simp
      · rename_i h1 h2
        simpa using hc2 x (by omega) (by omega) (by omega) (by omega)
end Go.Proofs.YthlefdbhkbpejaaGreat.F5

namespace Go.Proofs.YthlefdbhkbpejaaGreat.F5
open Go Go.RowKit
set_option linter.unusedSimpArgs false

set_option maxRecDepth 100000 in
set_option maxHeartbeats 8000000 in
theorem checkref_ok (N : Int) (a : Option Addr) (k c : Nat) (l : List Ar) (s t : Int) (af : Option Addr) (kf cf : Nat) (f : List Int) (w : World) (hn : l.length = k) (hl : k ≤ 9223372036854775807) (hm : RowsAt w.heap.size w a 3 (Ars l)) (hnf : f.length = kf) (hlf : kf ≤ 9223372036854775807) (hmf : RowsAt w.heap.size w af 1 (Ints f)) :
    Calls Tryz.prog 55 #[.agg #[.int .i64 N, .slice a k c], .int .i64 s, .int .i64 t, .slice af kf cf] w fun e W' => e = .returned (.tuple #[.int .i64 (chkV N l s t f), .int .i64 (chkE N l s t f)]) ∧ Below w.heap.size w W' := by
  have HM := Lib.hid (And.intro hn (And.intro hm (And.intro hnf hmf)))
  by_cases h0 : askF N l s t = 0
  · obtain ⟨hv, hs, ht, hst⟩ := askF_zero h0
    obtain ⟨h2, h64, h128, hA⟩ := netOk_iff.1 hv
    obtain ⟨n, rfl⟩ : ∃ n : Nat, N = n := ⟨N.toNat, by omega⟩
    obtain ⟨s, rfl⟩ : ∃ z : Nat, s = z := ⟨s.toNat, by omega⟩
    obtain ⟨t, rfl⟩ : ∃ z : Nat, t = z := ⟨t.toNat, by omega⟩
    have hk : k ≤ 128 := by omega
    have hsn : s < n := by omega
    have htn : t < n := by omega
    have hn64 : n ≤ 64 := by omega
    have hE : chkE n l s t f = if (okFb l f && conB n l s t f) = true then 0 else 13 := by unfold chkE; rw [if_pos h0, Int.toNat_natCast]
    have H0 := Lib.hid (And.intro h0 (And.intro hA (And.intro hE (show (s : Int) ≠ t from hst))))
    clear hn hm hnf hmf hv hs ht hst h2 h64 h128 hA h0 hE
    by_cases hlen : kf = k
    · subst hlen
      obtain ⟨R, hR⟩ : ∃ R, chkV n l s t f = R := ⟨_, rfl⟩
      obtain ⟨E, hE⟩ : ∃ E, chkE n l s t f = E := ⟨_, rfl⟩
      rw [hR, hE]
      have HE := Lib.hid (And.intro hR hE)
      have hbad : okFb l f = false → (0 : Int) = R ∧ (13 : Int) = E := by
        intro hb
        have h13 : chkE n l s t f = 13 := by rw [H0.out.2.2.1, hb]; rfl
        refine ⟨?_, by rw [← HE.out.2, h13]⟩
        rw [← HE.out.1]
        unfold chkV
        rw [h13]; rfl
      have HBad := Lib.hid hbad
      clear hR hE hbad
      go_enter Tryz.func55, Tryz.ntmps55
      go_wp2_with fail
      obtain ⟨A, hA⟩ : ∃ W' : World, (w.alloc (.cells #[.int .i64 n, .slice a kf c] 44)) = W' := ⟨_, rfl⟩
      have h : Has A [(w.heap.size, .cells #[.int .i64 n, .slice a kf c] 44 (0, 0))] := by rw [← hA]; simpa using ((Has.nil w).new _)
      have z : A.heap.size = w.heap.size + 1 := by rw [← hA]; simp
      have b : Below w.heap.size w A := by rw [← hA]; exact (below_alloc (below_self w) _)
      rw [hA]
      clear hA
      have HA := Lib.hid (And.intro h.hd b)
      clear h z b
      refine (askedref_ok n a kf c l s t A HM.out.1 hl (HM.out.2.1.later HA.out.2)).mono ?_
      rintro e B ⟨rfl, hb⟩
      rw [H0.out.1]
      have HB := Lib.hid (And.intro (blk_below HA.out.1 hb) (below_trans HA.out.2 hb))
      clear hb HA
      have c0 : B.cell? ⟨w.heap.size, 0, none⟩ = some (.int .i64 n) := (blk_cell HB.out.1 0).trans rfl
      have c1 : B.cell? ⟨w.heap.size, 1, none⟩ = some (.slice a kf c) := (blk_cell HB.out.1 1).trans rfl
      have lb := blk_lt HB.out.1
      obtain ⟨i0, hi, hz0, hz1, hz2⟩ := info_parts info3
      go_wp2_with (with_reducible refine wpList_make_row rfl 68 _ _ rfl 3 i0 _ 1 8 Tryz.underlying68 hi hz0 hz1 hz2 n _ rfl rfl ?a2 ?a3 ?a4 ?_)
      case a2 => rfl
      case a3 => omega
      case a4 => omega
      intro W4 h4 hb4 hs4
      have h4' : W4.heap[B.heap.size]? = some (.cells (intsV (List.replicate n 0)).toArray 3 (0, 0)) := by
        have hm : madeCells #[Value.int .i64 0] n = (intsV (List.replicate n 0)).toArray := by
          apply Array.toList_inj.1
          rw [toList_madeCells_one]
          simp [intsV]
        rw [← hm]
        simpa using h4.out
      have hC : CR w n a kf c n B.heap.size (List.replicate n 0) W4 := by
        refine ⟨below_trans HB.out.2 hb4, blk_below HB.out.1 hb4, ?_, by simp⟩
        unfold OwnI
        rw [List.length_replicate]
        exact owns_of_blk h4' lb (by simp [intsV]) (by unfold maxLen; omega)
      have HC := Lib.hid hC
      generalize B.heap.size = g at HC ⊢
      have c1 : W4.cell? ⟨w.heap.size, 1, none⟩ = some (.slice a kf c) := (blk_cell hC.box 1).trans rfl
      have lb := blk_lt hC.box
      clear c0 h4 hb4 hs4 h4' hC HB hi hz0 hz1 hz2
      go_wp2_with fail
      clear c1 lb
      go_loopw [34] (fun i wr => ∃ (j : Nat) (L : List Int) (X : World), j ≤ kf ∧ i = .int .i64 j ∧ X = wr ∧ Hid (CR w n a kf c n g L X ∧ CJ l f n j L)) (fun i _ => kf - (intOf i).toNat)
      case atStart => exact ⟨0, _, _, Nat.zero_le _, rfl, rfl, Lib.hid ⟨HC.out, CJ.start l f n⟩⟩
      case round =>
        clear HC
        obtain ⟨j, L, X, hj, rfl, rfl, HX⟩ := hrel
        by_cases hlt : j < kf
        · have hltI : (j : Int) < (kf : Int) := by omega
          have hjl : j < l.length := by rw [HM.out.1]; exact hlt
          have hA := okA_iff.1 (H0.out.2.1 (l.getD j default) (by rw [List.getD_eq_getElem?_getD, List.getElem?_eq_getElem hjl]; exact List.getElem_mem _))
          obtain ⟨b1, o1, rfl, hb1, c0, c1, c2⟩ := ars_at HM.out.2.1 j hjl
          obtain ⟨b2, o2, rfl, hb2, d0⟩ := ints_at HM.out.2.2.2 j (by rw [HM.out.2.2.1]; exact hlt)
          replace c0 := cell_call HX.out.1.bel hb1 c0
          replace c1 := cell_call HX.out.1.bel hb1 c1
          replace c2 := cell_call HX.out.1.bel hb1 c2
          replace d0 := cell_call HX.out.1.bel hb2 d0
          have hgw := HX.out.1.lo.1
          have hX2 : b2 < X.heap.size := Nat.lt_of_lt_of_le hb2 HX.out.1.bel.size
          replace hb1 : b1 < X.heap.size := Nat.lt_of_lt_of_le hb1 HX.out.1.bel.size
          have hbg : b2 ≠ g := by omega
          replace hb2 := hX2
          clear hX2 hgw
          obtain ⟨x, hx⟩ : ∃ x, l.getD j default = x := ⟨_, rfl⟩
          obtain ⟨y, hy⟩ : ∃ y, f.getD j default = y := ⟨_, rfl⟩
          rw [hx] at hA c0 c1 c2
          rw [hy] at d0
          obtain ⟨xu, xv, xc⟩ := x
          simp only at hA c0 c1 c2
          obtain ⟨⟨u0, u1⟩, ⟨v0, v1⟩, huv, r0, r1⟩ := hA
          obtain ⟨u, rfl⟩ : ∃ u : Nat, xu = u := ⟨xu.toNat, by omega⟩
          obtain ⟨v, rfl⟩ : ∃ v : Nat, xv = v := ⟨xv.toNat, by omega⟩
          have hun : u < n := by omega
          have hvn : v < n := by omega
          have hunI : (u : Int) < (n : Int) := by omega
          have hvnI : (v : Int) < (n : Int) := by omega
          have huv2 : u ≠ v := by omega
          have HK := Lib.hid (And.intro hx (And.intro hy (And.intro hjl huv2)))
          clear hx hy hjl huv huv2 u0 v0 u1 v1
          by_cases hneg : y < 0
          · have HN := Lib.hid (HBad.out (okFb_not HK.out.2.2.1 (by rw [HK.out.1, HK.out.2.1]; simp only; omega)))
            go_wp2_with fail
            go_quiet (fail)
            go_wp2_with fail
            go_ret2
            exact ⟨by rw [← HN.out.1, ← HN.out.2]; rfl, below_drewN (below_alloc HX.out.1.bel _) nq⟩
          · by_cases hbig : xc < y
            · have HN := Lib.hid (HBad.out (okFb_not HK.out.2.2.1 (by rw [HK.out.1, HK.out.2.1]; simp only; omega)))
              go_wp2_with fail
              go_quiet (fail)
              go_wp2_with fail
              go_ret2
              exact ⟨by rw [← HN.out.1, ← HN.out.2]; rfl, below_drewN (below_alloc HX.out.1.bel _) nq⟩
            · go_wp2_with fail
              go_quiet (fail)
              have hbY := below_drewN (below_alloc (below_self X) (.cells #[.int .i64 u, .int .i64 v, .int .i64 xc] 63)) nq
              have hab : ((X.alloc (.cells #[.int .i64 u, .int .i64 v, .int .i64 xc] 63)).drewN nq).heap[X.heap.size]? = some (.cells #[.int .i64 u, .int .i64 v, .int .i64 xc] 63 (0, 0)) := blk_new X _
              have d0' := cell_call hbY hb2 d0
              have HY := Lib.hid (And.intro (HX.out.1.later hbY) (And.intro hab (And.intro HX.out.1.lo.2 HX.out.2)))
              have hb2' := Nat.lt_of_lt_of_le hb2 hbY.size
              have hXg : X.heap.size ≠ g := by have := HX.out.1.lo.2; omega
              have HG := Lib.hid (And.intro hXg hbg)
              clear hbY hab hXg d0 c0 c1 c2 hb1 HX hb2
              generalize (X.alloc (.cells #[.int .i64 u, .int .i64 v, .int .i64 xc] 63)).drewN nq = Y at HY d0' hb2' ⊢
              generalize X.heap.size = m at HY HG ⊢
              have e0 : Y.cell? ⟨m, 0, none⟩ = some (.int .i64 u) := (blk_cell HY.out.2.1 0).trans rfl
              have lm := blk_lt HY.out.2.1
              have lg := HY.out.1.lo.2
              obtain ⟨qu, fu⟩ := HY.out.1.at' hun
              have hbu := HY.out.2.2.2.bound (fun x hx => by have := okA_iff.1 (H0.out.2.1 x hx); omega) (by rw [HM.out.1]; exact hk) hun
              obtain ⟨zu, hzu⟩ : ∃ z, L.getD u default = z := ⟨_, rfl⟩
              rw [hzu] at qu hbu
              have hwu : IntKind.i64.wrap (zu + y) = zu + y := IntWalk.i64_in _ (by omega)
              have HZU := Lib.hid (And.intro hzu hbu)
              clear hzu hbu
              go_wp2_with fail
              go_still_tail 11, (by kernel_rfl)
              have hbD := drew_below Y
              have HZ := Lib.hid (And.intro (HY.out.1.later hbD) (And.intro (blk_below HY.out.2.1 hbD) (cell_call hbD hb2' d0')))
              have HCJ := Lib.hid HY.out.2.2.2
              have quD : Y.drew.cell? ⟨g, u, none⟩ = some (.int .i64 zu) := qu
              have fuD : Y.drew.frozen? ⟨g, u, none⟩ = false := fu
              have lgD : g < Y.drew.heap.size := lg
              have hb2D : b2 < Y.drew.heap.size := hb2'
              change wpList _ _ _ _ _ Y.drew
              clear hbD HY d0' e0 lm lg qu fu hb2'
              generalize Y.drew = Z at HZ quD fuD lgD hb2D ⊢
              go_wp2_with fail
              have HZ1 := Lib.hid (show CR w n (some ⟨b1, o1, none⟩) kf c n g (L.set u (zu + y)) (Z.setCell ⟨g, u, none⟩ (.int .i64 (zu + y))) ∧ (Z.setCell ⟨g, u, none⟩ (.int .i64 (zu + y))).heap[m]? = some (.cells #[.int .i64 u, .int .i64 v, .int .i64 xc] 63 (0, 0)) ∧ (Z.setCell ⟨g, u, none⟩ (.int .i64 (zu + y))).cell? ⟨b2, o2 + j, none⟩ = some (.int .i64 y) from
                ⟨HZ.out.1.put u (zu + y), blk_set HZ.out.2.1 HG.out.1 _, cell_far (Ne.symm HG.out.2) HZ.out.2.2⟩)
              have hb2E : b2 < (Z.setCell ⟨g, u, none⟩ (.int .i64 (zu + y))).heap.size := by simp [World.setCell]; exact hb2D
              clear HZ quD fuD lgD hb2D hwu
              generalize Z.setCell ⟨g, u, none⟩ (.int .i64 (zu + y)) = Y at HZ1 hb2E ⊢
              have e1 : Y.cell? ⟨m, 1, none⟩ = some (.int .i64 v) := (blk_cell HZ1.out.2.1 1).trans rfl
              have lm := blk_lt HZ1.out.2.1
              have lg := HZ1.out.1.lo.2
              obtain ⟨qv, fv'⟩ := HZ1.out.1.at' hvn
              have hbv := HCJ.out.bound (fun x hx => by have := okA_iff.1 (H0.out.2.1 x hx); omega) (by rw [HM.out.1]; exact hk) hvn
              have hgv : (L.set u (zu + y)).getD v default = L.getD v default := by rw [List.getD_eq_getElem?_getD, List.getElem?_set, if_neg HK.out.2.2.2, List.getD_eq_getElem?_getD]
              rw [hgv] at qv
              obtain ⟨zv, hzv⟩ : ∃ z, L.getD v default = z := ⟨_, rfl⟩
              rw [hzv] at qv hbv
              have hwv : IntKind.i64.wrap (zv - y) = zv - y := IntWalk.i64_in _ (by omega)
              have HZV := Lib.hid hzv
              have d1' := HZ1.out.2.2
              clear hzv hbv hgv
              go_wp2_with fail
              go_still_tail 11, (by kernel_rfl)
              have hbD := drew_below Y
              have HZ := Lib.hid (HZ1.out.1.later hbD)
              have qvD : Y.drew.cell? ⟨g, v, none⟩ = some (.int .i64 zv) := qv
              have fvD : Y.drew.frozen? ⟨g, v, none⟩ = false := fv'
              have lgD : g < Y.drew.heap.size := lg
              change wpList _ _ _ _ _ Y.drew
              clear hbD HZ1 d1' e1 lm lg qv fv' hb2E
              generalize Y.drew = Z at HZ qvD fvD lgD ⊢
              have H9 := Lib.hid (And.intro (HZ.out.put v (zv - y)) (HCJ.out.next HK.out.2.2.1 (by rw [HM.out.1, HM.out.2.2.1]) (by have := HZ.out.len; rw [List.length_set] at this; exact this) HK.out.1 HK.out.2.1 hun hvn HK.out.2.2.2 (by omega) (by omega) (by rw [HZU.out.1]) (by rw [HZV.out])))
              clear HZ HCJ HZU HZV HK HG
              go_wp2_with fail
              go_roundw
              case rel => exact ⟨j + 1, _, _, by omega, by go_num, rfl, H9⟩
              case measure => simp [intOf]; omega
        · have hltI : ¬ (j : Int) < (kf : Int) := by omega
          obtain rfl : j = kf := by omega
          have hval : ∀ x : Nat, x < n → L.getD x default = net l f x := fun x hx => by
            have := HX.out.2.val x hx
            rw [List.take_of_length_le (by rw [HM.out.1]; exact Nat.le_refl _), List.take_of_length_le (by rw [HM.out.2.2.1]; exact Nat.le_refl _)] at this
            exact this
          have hok : okFb l f = true := by
            have := HX.out.2.ok
            rw [List.take_of_length_le (by rw [HM.out.1]; exact Nat.le_refl _), List.take_of_length_le (by rw [HM.out.2.2.1]; exact Nat.le_refl _)] at this
            exact okFb_iff.2 this
          have HV := Lib.hid (And.intro hval (show conB n l s t f = true → net l f s = R ∧ (0 : Int) = E by
            intro hc
            have h0 : chkE n l s t f = 0 := by rw [H0.out.2.2.1, hok, hc]; rfl
            refine ⟨?_, by rw [← HE.out.2, h0]⟩
            rw [← HE.out.1]
            unfold chkV
            rw [if_pos h0]))
          have HB2 := Lib.hid (show conB n l s t f = false → (0 : Int) = R ∧ (13 : Int) = E by
            intro hc
            have h0 : chkE n l s t f = 13 := by rw [H0.out.2.2.1, hok, hc]; rfl
            refine ⟨?_, by rw [← HE.out.2, h0]⟩
            rw [← HE.out.1]
            unfold chkV
            rw [if_neg (by omega)])
          clear hval hok
          have HX1 := Lib.hid HX.out.1
          clear HX
          go_wp2_with fail
          go_loopw [14] (fun i wr => ∃ q : Nat, q ≤ n ∧ i = .int .i64 q ∧ X = wr ∧ Hid (∀ x : Nat, x < q → (x : Int) = s ∨ (x : Int) = t ∨ net l f x = 0)) (fun i _ => n - (intOf i).toNat)
          case atStart => exact ⟨0, Nat.zero_le _, rfl, rfl, Lib.hid (fun x hx => by omega)⟩
          case round =>
            obtain ⟨q, hq, rfl, rfl, HQ⟩ := hrel
            have p0 : X.cell? ⟨w.heap.size, 0, none⟩ = some (.int .i64 n) := (blk_cell HX1.out.box 0).trans rfl
            have lp := blk_lt HX1.out.box
            by_cases hqn : q < n
            · have hqI : (q : Int) < (n : Int) := by omega
              obtain ⟨qs, _⟩ := HX1.out.at' hqn
              rw [HV.out.1 q hqn] at qs
              obtain ⟨zq, hzq⟩ : ∃ z, net l f q = z := ⟨_, rfl⟩
              rw [hzq] at qs
              have lg := HX1.out.lo.2
              have HZQ := Lib.hid hzq
              clear hzq
              by_cases h1 : (q : Int) = s
              · have HN := Lib.hid (show ∀ x : Nat, x < q + 1 → (x : Int) = s ∨ (x : Int) = t ∨ net l f x = 0 from fun x hx => by
                  by_cases e : x = q
                  · subst e; exact .inl h1
                  · exact HQ.out x (by omega))
                have h1b : ((q : Int) != (s : Int)) = false := by simpa using h1
                have h1c : q = s := by omega
                clear h1
                go_wp2_with fail
                go_roundw
                case rel => exact ⟨q + 1, by omega, by go_num, trivial, HN⟩
                case measure => simp [intOf]; omega
              · have h1b : ((q : Int) != (s : Int)) = true := by simpa using h1
                by_cases h2 : (q : Int) = t
                · have HN := Lib.hid (show ∀ x : Nat, x < q + 1 → (x : Int) = s ∨ (x : Int) = t ∨ net l f x = 0 from fun x hx => by
                    by_cases e : x = q
                    · subst e; exact .inr (.inl h2)
                    · exact HQ.out x (by omega))
                  have h2b : ((q : Int) != (t : Int)) = false := by simpa using h2
                  clear h2
                  go_wp2_with fail
                  go_roundw
                  case rel => exact ⟨q + 1, by omega, by go_num, trivial, HN⟩
                  case measure => simp [intOf]; omega
                · have h2b : ((q : Int) != (t : Int)) = true := by simpa using h2
                  by_cases h3 : zq = 0
                  · have HN := Lib.hid (show ∀ x : Nat, x < q + 1 → (x : Int) = s ∨ (x : Int) = t ∨ net l f x = 0 from fun x hx => by
                      by_cases e : x = q
                      · subst e; exact .inr (.inr (by rw [HZQ.out]; exact h3))
                      · exact HQ.out x (by omega))
                    have h3b : (zq != 0) = false := by simpa using h3
                    clear h3
                    go_wp2_with fail
                    go_roundw
                    case rel => exact ⟨q + 1, by omega, by go_num, trivial, HN⟩
                    case measure => simp [intOf]; omega
                  · have h3b : (zq != 0) = true := by simpa using h3
                    have HC := Lib.hid (HB2.out (by
                      cases hc : conB n l s t f
                      · rfl
                      · exact absurd (by have := conB_iff.1 hc q (by omega) (by omega) h1 h2; rw [HZQ.out] at this; exact this) h3))
                    clear h1 h2 h3
                    go_wp2_with fail
                    go_ret2
                    exact ⟨by rw [← HC.out.1, ← HC.out.2]; rfl, HX1.out.bel⟩
            · have hqI : ¬ (q : Int) < (n : Int) := by omega
              obtain rfl : q = n := by omega
              have hCV := HV.out.2 (conB_iff.2 fun x x0 x1 hs ht => by
                have := HQ.out x.toNat (by omega)
                rw [show ((x.toNat : Nat) : Int) = x by omega] at this
                rcases this with h | h | h
                · exact absurd h hs
                · exact absurd h ht
                · exact h)
              obtain ⟨qs, _⟩ := HX1.out.at' hsn
              rw [HV.out.1 s hsn] at qs
              have lg := HX1.out.lo.2
              have hsI : (s : Int) < (q : Int) := by omega
              obtain ⟨zq, hzq⟩ : ∃ z, net l f s = z := ⟨_, rfl⟩
              rw [hzq] at qs hCV
              have HC := Lib.hid hCV
              clear hzq hCV
              go_wp2_with fail
              go_ret2
              exact ⟨by rw [← HC.out.1, ← HC.out.2]; rfl, HX1.out.bel⟩
    · have hne2 : ¬ (kf : Int) = (k : Int) := by omega
      have hne3 : ((kf : Int) != (k : Int)) = true := bne_iff_ne.2 hne2
      have hb : okFb l f = false := by
        cases h : okFb l f
        · rfl
        · have := okF_len (okFb_iff.1 h)
          rw [HM.out.1, HM.out.2.2.1] at this
          exact absurd this hlen
      have h13 : chkE n l s t f = 13 := by rw [H0.out.2.2.1, hb]; rfl
      have hR : chkV n l s t f = 0 := by unfold chkV; rw [h13]; rfl
      rw [h13, hR]
      clear hlen hb h13 hR
      go_enter Tryz.func55, Tryz.ntmps55
      go_wp2_with fail
      obtain ⟨A, hA⟩ : ∃ W' : World, (w.alloc (.cells #[.int .i64 n, .slice a k c] 44)) = W' := ⟨_, rfl⟩
      have h : Has A [(w.heap.size, .cells #[.int .i64 n, .slice a k c] 44 (0, 0))] := by rw [← hA]; simpa using ((Has.nil w).new _)
      have z : A.heap.size = w.heap.size + 1 := by rw [← hA]; simp
      have b : Below w.heap.size w A := by rw [← hA]; exact (below_alloc (below_self w) _)
      rw [hA]
      clear hA
      have HA := Lib.hid (And.intro h.hd b)
      clear h z b
      refine (askedref_ok n a k c l s t A HM.out.1 hl (HM.out.2.1.later HA.out.2)).mono ?_
      rintro e B ⟨rfl, hb⟩
      rw [H0.out.1]
      have HB := Lib.hid (And.intro (blk_below HA.out.1 hb) (below_trans HA.out.2 hb))
      clear hb HA
      have c1 : B.cell? ⟨w.heap.size, 1, none⟩ = some (.slice a k c) := (blk_cell HB.out.1 1).trans rfl
      have lb := blk_lt HB.out.1
      go_wp2_with fail
      go_ret2
      exact ⟨rfl, HB.out.2⟩
  · have hE : chkE N l s t f = askF N l s t := by unfold chkE; rw [if_neg h0]
    have hR : chkV N l s t f = 0 := by unfold chkV; rw [hE, if_neg h0]
    rw [hE, hR]
    have h0b : (askF N l s t != 0) = true := by simpa using h0
    clear hn hm hE hR
    obtain ⟨E, hE⟩ : ∃ E, askF N l s t = E := ⟨_, rfl⟩
    rw [hE] at h0 h0b
    rw [hE]
    have HE := Lib.hid hE
    clear hE
    go_enter Tryz.func55, Tryz.ntmps55
    go_wp2_with fail
    obtain ⟨A, hA⟩ : ∃ W' : World, (w.alloc (.cells #[.int .i64 N, .slice a k c] 44)) = W' := ⟨_, rfl⟩
    have h : Has A [(w.heap.size, .cells #[.int .i64 N, .slice a k c] 44 (0, 0))] := by rw [← hA]; simpa using ((Has.nil w).new _)
    have z : A.heap.size = w.heap.size + 1 := by rw [← hA]; simp
    have b : Below w.heap.size w A := by rw [← hA]; exact (below_alloc (below_self w) _)
    rw [hA]
    clear hA
    have HA := Lib.hid (And.intro h.hd b)
    clear h z b
    refine (askedref_ok N a k c l s t A HM.out.1 hl (HM.out.2.1.later HA.out.2)).mono ?_
    rintro e B ⟨rfl, hb⟩
    rw [HE.out]
    have HB := Lib.hid (below_trans HA.out.2 hb)
    clear hb HA
    go_wp2_with fail
    go_ret2
    exact ⟨rfl, HB.out⟩
end Go.Proofs.YthlefdbhkbpejaaGreat.F5
