/- Chapter 15: linear.Course whole; the levels of a loop, plain. -/
import Derived.Test.YtmghcinbdfeeoaaGreatCourse
import Derived.Test.YtmghcinbdfeeoaaGreatPlain
import Derived.Test.YtmghcinbdfeeoaaGreatHeatB
namespace Go.Proofs.YtmghcinbdfeeoaaGreat
open Go Go.RowKit Go.Shelf

theorem course_ok (carry : Int) (a : Option Addr) (n cap : Nat) (ps : List Prt) (start : Int) (ai : Option Addr) (ni ci : Nat) (hs : List Hd) (ins : List (List Int)) (t : Int) (w : World) (hn : ps.length = n) (hl : n ≤ 9223372036854775807) (hm : RowsAt w.heap.size w a 3 (Prts ps))
    (hni : ins.length = ni) (hli : ni ≤ 9223372036854775807) (hmi : InsAt w.heap.size w ai hs ins) :
    Calls Tryz.prog 43 #[.agg #[.int .i64 carry, .slice a n cap], .int .i64 start, .slice ai ni ci, .int .i64 t] w fun e W' => ∃ v, e = .returned (.tuple #[v, .int .i64 (askedE carry ps start ins t)]) ∧ OwnI w.heap.size W' v (courseV carry ps ins start t) ∧ Below w.heap.size w W' := by
  by_cases he : askedE carry ps start ins t = 0
  · obtain ⟨_, _, _, _, ht0, _⟩ := asked_zero he
    obtain ⟨T, rfl⟩ : ∃ T : Nat, t = T := ⟨t.toNat, by omega⟩
    have e1 : courseV carry ps ins start T = levs carry ps ins start T := if_pos he
    rw [e1, he]
    exact course_zero carry a n cap ps start ai ni ci hs ins T w hn hl hm hni hli hmi he
  · have e1 : courseV carry ps ins start t = [] := if_neg he
    rw [e1]
    exact course_err carry a n cap ps start ai ni ci hs ins t w hn hl hm hni hli hmi he

/-- Whether a loop has a line; the line's one part. -/
def lineE (s : Site) (loop : Int) : Bool := decide (0 ≤ loop) && (decide (loop < s.loops.length) && siteOk s)
def lCar (s : Site) (loop : Int) : Int := (s.loops.getD loop.toNat default).carry
def lPs (s : Site) (loop : Int) : List Prt := [⟨0, 1, (s.loops.getD loop.toNat default).delay⟩]
/-- The error and the levels of cooling.Course. -/
def couE (s : Site) (loop start : Int) (heats : List Int) (n : Int) : Int := if lineE s loop = true then askedE (lCar s loop) (lPs s loop) start [heats] n else 1
def couV (s : Site) (loop start : Int) (heats : List Int) (n : Int) : List Int := if lineE s loop = true then courseV (lCar s loop) (lPs s loop) [heats] start n else []

theorem one_asked {c : Int} {ps : List Prt} {start : Int} {hs : List Int} {n : Int} (h : askedE c ps start [hs] n = 0) : hs.length ≤ 1000 ∧ ∀ j, j < hs.length → 0 ≤ hs.getD j default ∧ hs.getD j default ≤ 100000000 := by
  obtain ⟨_, _, hi, _⟩ := asked_zero h
  exact hi.2 0 (by simp)
theorem ask_line {s : Site} {loop start : Int} {hs : List Int} {n : Int} (hb : ∀ p ∈ lPs s loop, okP p = true) (hc : 0 ≤ lCar s loop ∧ lCar s loop ≤ 100000000) (hs0 : 0 ≤ start ∧ start ≤ 100000000) (hn : 0 ≤ n ∧ n ≤ 1000) (hl : hs.length ≤ 1000) (hz : ∀ j, j < hs.length → 0 ≤ hs.getD j default ∧ hs.getD j default ≤ 100000000) :
    askedE (lCar s loop) (lPs s loop) start [hs] n = 0 := by
  refine asked_of hc (by simp [lPs]) hb hs0 hn (by simp) fun l hl' => ?_
  simp only [List.mem_cons, List.not_mem_nil, or_false] at hl'
  subst hl'
  refine ⟨hl, fun z hm => ?_⟩
  obtain ⟨j, hj, rfl⟩ := List.getElem_of_mem hm
  have := hz j hj
  rw [List.getD_eq_getElem?_getD, List.getElem?_eq_getElem hj] at this
  exact this
theorem asked_ps {s : Site} {loop start : Int} {hs : List Int} {n : Int} (h : askedE (lCar s loop) (lPs s loop) start [hs] n = 0) : ∀ p ∈ lPs s loop, okP p = true := by
  obtain ⟨hp, _⟩ := asked_zero h
  intro p hm
  have h0 := hp.2 0 (by simp [lPs])
  have : p = (lPs s loop).getD 0 default := by simpa [lPs] using hm
  rw [this, okP_iff']
  exact h0

/-- heats, one number greater. -/
def hot (hs : List Int) (i : Nat) (m : Int) : List Int := hs.set i (hs.getD i default + m)
theorem hot_len (hs : List Int) (i : Nat) (m : Int) : (hot hs i m).length = hs.length := by simp [hot]
theorem hot_get {hs : List Int} {i : Nat} {m : Int} (hi : i < hs.length) (j : Nat) : (hot hs i m).getD j default = if i = j then hs.getD i default + m else hs.getD j default := by
  unfold hot
  rw [List.getD_eq_getElem?_getD, List.getElem?_set]
  by_cases e : i = j
  · rw [if_pos e, if_pos e, if_pos (by omega)]
    rfl
  · rw [if_neg e, if_neg e, ← List.getD_eq_getElem?_getD]
theorem rises_plain {s : Site} {loop start : Int} {hs : List Int} {i : Nat} {m : Int} (hi : i < hs.length) (hm : 0 ≤ m) (h : couE s loop start hs hs.length = 0) :
    (couE s loop start (hot hs i m) hs.length ≠ 0 → 100000000 < hs.getD i default + m) ∧
    (couE s loop start (hot hs i m) hs.length = 0 → (couV s loop start hs hs.length).length = hs.length + 1 ∧ (couV s loop start (hot hs i m) hs.length).length = hs.length + 1 ∧
      ∀ k, k < hs.length + 1 → (couV s loop start hs hs.length).getD k default ≤ (couV s loop start (hot hs i m) hs.length).getD k default) := by
  unfold couE at h
  by_cases hL : lineE s loop = true
  · rw [if_pos hL] at h
    have hps := asked_ps h
    have hone := one_asked h
    obtain ⟨_, hc, _, hs0, hn⟩ := asked_zero h
    constructor
    · intro hne
      by_cases hgt : 100000000 < hs.getD i default + m
      · exact hgt
      · exact absurd (by
          unfold couE
          rw [if_pos hL]
          refine ask_line hps hc hs0 hn (by rw [hot_len]; exact hone.1) fun j hj => ?_
          rw [hot_get hi]
          rw [hot_len] at hj
          have := hone.2 j hj
          have := hone.2 i hi
          split <;> omega) hne
    · intro h2
      unfold couE at h2
      rw [if_pos hL] at h2
      have e1 : couV s loop start hs hs.length = levs (lCar s loop) (lPs s loop) [hs] start hs.length := by
        unfold couV courseV; rw [if_pos hL, if_pos h]; rfl
      have e2 : couV s loop start (hot hs i m) hs.length = levs (lCar s loop) (lPs s loop) [hot hs i m] start hs.length := by
        unfold couV courseV; rw [if_pos hL, if_pos h2]; rfl
      rw [e1, e2, levs_len, levs_len]
      refine ⟨rfl, rfl, fun k hk => ?_⟩
      rw [levs_get (by omega), levs_get (by omega)]
      refine lev_mono (ins := [hs]) (ins' := [hot hs i m]) (Int.le_refl _) (Int.le_refl _) (fun t => arr_mono (ins := [hs]) (ins' := [hot hs i m]) hps rfl ?_ t) k
      intro j hj
      match j, hj with
      | 0, _ =>
        refine ⟨(hot_len _ _ _).symm, fun k hk => ?_⟩
        show hs.getD k default ≤ (hot hs i m).getD k default
        rw [hot_get hi]
        split
        · rename_i e; subst e; omega
        · exact Int.le_refl _
  · rw [if_neg hL] at h
    omega
end Go.Proofs.YtmghcinbdfeeoaaGreat
