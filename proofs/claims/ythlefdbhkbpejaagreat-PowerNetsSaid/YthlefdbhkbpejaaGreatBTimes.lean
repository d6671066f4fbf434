/- Chapter 07: the program's Lasts, Cools, Bears. -/
import Derived.Test.YthlefdbhkbpejaaGreatProg
import Derived.Test.YthlefdbhkbpejaaGreatBase
import Derived.RegionTactic
import Derived.IntWalk
namespace Go.Proofs.YthlefdbhkbpejaaGreat.B7
open Go Go.RowKit

structure Brk where
  feed : Int
  limit : Int
  slow : Int
  fast : Int
  deriving DecidableEq, Inhabited
abbrev Brk.cells (b : Brk) : List Value := [.int .i64 b.feed, .int .i64 b.limit, .int .i64 b.slow, .int .i64 b.fast]
abbrev Brk.val (b : Brk) : Value := .agg b.cells.toArray

structure BSt where
  heat : Int
  trip : Bool
  deriving DecidableEq, Inhabited
abbrev BSt.cells (s : BSt) : List Value := [.int .i64 s.heat, .bool s.trip]
abbrev BSt.val (s : BSt) : Value := .agg s.cells.toArray

def inR (n lo hi : Int) : Bool := decide (lo ≤ n ∧ n ≤ hi)
theorem inR_iff {n lo hi : Int} : inR n lo hi = true ↔ lo ≤ n ∧ n ≤ hi := by simp [inR]
theorem inR_not {n lo hi : Int} : inR n lo hi = false ↔ ¬ (lo ≤ n ∧ n ≤ hi) := by simp [inR]
def okB (b : Brk) : Bool := inR b.limit 0 1000000 && inR b.slow 0 1000000 && inR b.fast b.limit 1000000
theorem okB_iff {b : Brk} : okB b = true ↔ (0 ≤ b.limit ∧ b.limit ≤ 1000000) ∧ (0 ≤ b.slow ∧ b.slow ≤ 1000000) ∧ b.limit ≤ b.fast ∧ b.fast ≤ 1000000 := by
  simp [okB, inR, and_assoc]
def mostOf (b : Brk) (s : BSt) : Int := if s.trip = true then 100000000 else b.slow
def okS (b : Brk) (s : BSt) : Bool := okB b && inR s.heat 0 (mostOf b s)
def okW (w : Int) : Bool := inR w 0 100000000

def aft (b : Brk) (s : BSt) (w : Int) : BSt :=
  if s.trip = true then s else ⟨min (max 0 (s.heat + w - b.limit)) 100000000, decide (b.fast < w ∨ b.slow < max 0 (s.heat + w - b.limit))⟩
/-- The state after all loads. -/
def stAt (b : Brk) (s : BSt) (ws : List Int) : BSt := ws.foldl (aft b) s
/-- The states, the first one included. -/
def runB (b : Brk) : BSt → List Int → List BSt
  | s, [] => [s]
  | s, w :: ws => s :: runB b (aft b s w) ws
theorem stAt_snoc (b : Brk) (s : BSt) (ws : List Int) (w : Int) : stAt b s (ws ++ [w]) = aft b (stAt b s ws) w := by simp [stAt]
theorem runB_snoc (b : Brk) (w : Int) : ∀ (ws : List Int) (s : BSt), runB b s (ws ++ [w]) = runB b s ws ++ [aft b (stAt b s ws) w]
  | [], s => rfl
  | x :: xs, s => by
    rw [List.cons_append, runB, runB_snoc b w xs, runB]
    rfl
theorem runB_len (b : Brk) : ∀ (ws : List Int) (s : BSt), (runB b s ws).length = ws.length + 1
  | [], _ => rfl
  | x :: xs, s => by rw [runB, List.length_cons, runB_len b xs, List.length_cons]
theorem runB_get (b : Brk) : ∀ (ws : List Int) (s : BSt) (k : Nat), k ≤ ws.length → (runB b s ws)[k]? = some (stAt b s (ws.take k))
  | [], s, k, hk => by
    obtain rfl : k = 0 := by simpa using hk
    rfl
  | x :: xs, s, 0, _ => rfl
  | x :: xs, s, k + 1, hk => by
    rw [runB, List.getElem?_cons_succ, runB_get b xs (aft b s x) k (by simpa using hk)]
    rfl
/-- A state that may be: what the walks keep. -/
def StIn (b : Brk) (s : BSt) : Prop := 0 ≤ s.heat ∧ s.heat ≤ 100000000 ∧ (s.trip = false → s.heat ≤ b.slow)
theorem StIn.of {b : Brk} {s : BSt} (h : okS b s = true) : StIn b s := by
  unfold okS mostOf at h
  simp only [Bool.and_eq_true, okB_iff, inR_iff] at h
  unfold StIn
  split at h <;> rename_i ht
  · simp [ht]; omega
  · simp [ht]; omega
theorem StIn.aft {b : Brk} {s : BSt} (h : StIn b s) (w : Int) : StIn b (aft b s w) := by
  unfold StIn Go.Proofs.YthlefdbhkbpejaaGreat.B7.aft at *
  split
  · exact h
  · simp only [decide_eq_false_iff_not]
    omega
theorem StIn.all {b : Brk} : ∀ (ws : List Int) (s : BSt), StIn b s → StIn b (stAt b s ws)
  | [], _, h => h
  | w :: ws, s, h => StIn.all ws (Go.Proofs.YthlefdbhkbpejaaGreat.B7.aft b s w) (h.aft w)

/-- The first place with the property; -1: none. -/
def idxI {α : Type} (p : α → Bool) (l : List α) : Int := match l.findIdx? p with
  | none => -1
  | some i => (i : Int)

def courseE (b : Brk) (s : BSt) (ws : List Int) : Int := if okS b s = true then (if ws.length ≤ 1000 ∧ ws.all okW = true then 0 else 2) else 1
def courseL (b : Brk) (s : BSt) (ws : List Int) : List BSt := if courseE b s ws = 0 then runB b s ws else []
def nextS (b : Brk) (s : BSt) (w : Int) : BSt := if courseE b s [w] = 0 then aft b s w else ⟨0, false⟩
def steadyE (b : Brk) (h w : Int) : Int := if okB b = true then (if inR h 0 b.slow = true ∧ okW w = true then 0 else 2) else 1
def lastsN (b : Brk) (h w : Int) : Int := if steadyE b h w = 0 then (if w ≤ b.limit then -1 else if b.fast < w then 0 else (b.slow - h) / (w - b.limit)) else 0
def coolsN (b : Brk) (h w : Int) : Int := if steadyE b h w = 0 then (if h = 0 then 0 else if b.limit ≤ w then -1 else (h + (b.limit - w) - 1) / (b.limit - w)) else 0
def bearsE (b : Brk) (h t : Int) : Int := if okB b = true then (if inR h 0 b.slow = true ∧ inR t 1 1000 = true then 0 else 2) else 1
def bearsN (b : Brk) (h t : Int) : Int := if bearsE b h t = 0 then min b.fast (b.limit + (b.slow - h) / t) else 0
def tripsE (b : Brk) (h : Int) (ws : List Int) : Int := if steadyE b h 0 = 0 then courseE b ⟨h, false⟩ ws else steadyE b h 0
def tripsN (b : Brk) (h : Int) (ws : List Int) : Int := if tripsE b h ws = 0 then max (-1) (idxI (fun s => s.trip) (runB b ⟨h, false⟩ ws) - 1) else 0
end Go.Proofs.YthlefdbhkbpejaaGreat.B7

namespace Go.Proofs.YthlefdbhkbpejaaGreat.B7
open Go Go.RowKit

theorem within_ok (n lo hi : Int) (w : World) : Calls Tryz.prog 98 #[.int .i64 n, .int .i64 lo, .int .i64 hi] w fun e W' => e = .returned (.bool (inR n lo hi)) ∧ w = W' := by
  by_cases h1 : lo ≤ n
  · by_cases h2 : n ≤ hi
    · have e : inR n lo hi = true := inR_iff.2 ⟨h1, h2⟩
      rw [e]; clear e
      go_enter Tryz.func98, Tryz.ntmps98
      go_wp2_with fail
      go_ret
      exact ⟨rfl, rfl⟩
    · have e : inR n lo hi = false := inR_not.2 (fun h => h2 h.2)
      rw [e]; clear e
      go_enter Tryz.func98, Tryz.ntmps98
      go_wp2_with fail
      go_ret
      exact ⟨rfl, rfl⟩
  · have e : inR n lo hi = false := inR_not.2 (fun h => h1 h.1)
    rw [e]; clear e
    go_enter Tryz.func98, Tryz.ntmps98
    go_wp2_with fail
    go_ret
    exact ⟨rfl, rfl⟩

theorem load_ok (n : Int) (w : World) : Calls Tryz.prog 99 #[.int .i64 n] w fun e W' => e = .returned (.bool (okW n)) ∧ w = W' := by
  go_enter Tryz.func99, Tryz.ntmps99
  go_wp2_with fail
  refine (within_ok _ _ _ _).mono ?_
  rintro e W' ⟨rfl, rfl⟩
  go_wp2_with fail
  go_ret
  exact ⟨rfl, rfl⟩

theorem valid_ok (b : Brk) (w : World) : Calls Tryz.prog 97 #[b.val] w fun e W' => e = .returned (.bool (okB b)) ∧ w.alloc (.cells b.cells.toArray 61) = W' := by
  cases h1 : inR b.limit 0 1000000
  · have e : okB b = false := by unfold okB; rw [h1]; rfl
    rw [e]; clear e
    have H1 := Lib.hid h1; clear h1
    go_enter Tryz.func97, Tryz.ntmps97
    go_wp2_with fail
    refine (within_ok _ _ _ _).mono ?_
    rintro e W' ⟨rfl, rfl⟩
    rw [H1.out]
    go_wp2_with fail
    go_ret
    exact ⟨rfl, rfl⟩
  · cases h2 : inR b.slow 0 1000000
    · have e : okB b = false := by unfold okB; rw [h1, h2]; rfl
      rw [e]; clear e
      have H1 := Lib.hid h1; clear h1
      have H2 := Lib.hid h2; clear h2
      go_enter Tryz.func97, Tryz.ntmps97
      go_wp2_with fail
      refine (within_ok _ _ _ _).mono ?_
      rintro e W' ⟨rfl, rfl⟩
      rw [H1.out]
      go_wp2_with fail
      refine (within_ok _ _ _ _).mono ?_
      rintro e W' ⟨rfl, rfl⟩
      rw [H2.out]
      go_wp2_with fail
      go_ret
      exact ⟨rfl, rfl⟩
    · have e : okB b = inR b.fast b.limit 1000000 := by unfold okB; rw [h1, h2]; rfl
      rw [e]; clear e
      have H1 := Lib.hid h1; clear h1
      have H2 := Lib.hid h2; clear h2
      go_enter Tryz.func97, Tryz.ntmps97
      go_wp2_with fail
      refine (within_ok _ _ _ _).mono ?_
      rintro e W' ⟨rfl, rfl⟩
      rw [H1.out]
      go_wp2_with fail
      refine (within_ok _ _ _ _).mono ?_
      rintro e W' ⟨rfl, rfl⟩
      rw [H2.out]
      go_wp2_with fail
      refine (within_ok _ _ _ _).mono ?_
      rintro e W' ⟨rfl, rfl⟩
      go_wp2_with fail
      go_ret
      exact ⟨rfl, rfl⟩

theorem steady_ok (b : Brk) (h x : Int) (w : World) : Calls Tryz.prog 56 #[b.val, .int .i64 h, .int .i64 x] w fun e W' => e = .returned (.int .i64 (steadyE b h x)) ∧ Below w.heap.size w W' := by
  cases hv : okB b
  · have e : steadyE b h x = 1 := by unfold steadyE; rw [hv]; rfl
    rw [e]; clear e
    have HV := Lib.hid hv; clear hv
    go_enter Tryz.func56, Tryz.ntmps56
    go_wp2_with fail
    refine (valid_ok _ _).mono ?_
    rintro e W' ⟨rfl, rfl⟩
    rw [HV.out]
    go_wp2_with fail
    go_ret
    exact ⟨rfl, below_alloc (below_alloc (below_self w) _) _⟩
  · have HV := Lib.hid hv
    cases hh : inR h 0 b.slow
    · have e : steadyE b h x = 2 := by unfold steadyE; rw [hv, hh]; rfl
      rw [e]; clear e hv
      have HH := Lib.hid hh; clear hh
      go_enter Tryz.func56, Tryz.ntmps56
      go_wp2_with fail
      refine (valid_ok _ _).mono ?_
      rintro e W' ⟨rfl, rfl⟩
      rw [HV.out]
      go_wp2_with fail
      refine (within_ok _ _ _ _).mono ?_
      rintro e W' ⟨rfl, rfl⟩
      rw [HH.out]
      go_wp2_with fail
      go_ret
      exact ⟨rfl, below_alloc (below_alloc (below_self w) _) _⟩
    · have HH := Lib.hid hh
      cases hx : okW x
      · have e : steadyE b h x = 2 := by unfold steadyE; rw [hv, hh, hx]; rfl
        rw [e]; clear e hv hh
        have HX := Lib.hid hx; clear hx
        go_enter Tryz.func56, Tryz.ntmps56
        go_wp2_with fail
        refine (valid_ok _ _).mono ?_
        rintro e W' ⟨rfl, rfl⟩
        rw [HV.out]
        go_wp2_with fail
        refine (within_ok _ _ _ _).mono ?_
        rintro e W' ⟨rfl, rfl⟩
        rw [HH.out]
        go_wp2_with fail
        refine (load_ok _ _).mono ?_
        rintro e W' ⟨rfl, rfl⟩
        rw [HX.out]
        go_wp2_with fail
        go_ret
        exact ⟨rfl, below_alloc (below_alloc (below_self w) _) _⟩
      · have e : steadyE b h x = 0 := by unfold steadyE; rw [hv, hh, hx]; rfl
        rw [e]; clear e hv hh
        have HX := Lib.hid hx; clear hx
        go_enter Tryz.func56, Tryz.ntmps56
        go_wp2_with fail
        refine (valid_ok _ _).mono ?_
        rintro e W' ⟨rfl, rfl⟩
        rw [HV.out]
        go_wp2_with fail
        refine (within_ok _ _ _ _).mono ?_
        rintro e W' ⟨rfl, rfl⟩
        rw [HH.out]
        go_wp2_with fail
        refine (load_ok _ _).mono ?_
        rintro e W' ⟨rfl, rfl⟩
        rw [HX.out]
        go_wp2_with fail
        go_ret
        exact ⟨rfl, below_alloc (below_alloc (below_self w) _) _⟩
end Go.Proofs.YthlefdbhkbpejaaGreat.B7

namespace Go.Proofs.YthlefdbhkbpejaaGreat.B7
open Go Go.RowKit

theorem steadyE_zero {b : Brk} {h x : Int} (e : steadyE b h x = 0) : okB b = true ∧ (0 ≤ h ∧ h ≤ b.slow) ∧ 0 ≤ x ∧ x ≤ 100000000 := by
  unfold steadyE at e
  by_cases h1 : okB b = true
  · rw [if_pos h1] at e
    by_cases h2 : inR h 0 b.slow = true ∧ okW x = true
    · exact ⟨h1, inR_iff.1 h2.1, inR_iff.1 h2.2⟩
    · rw [if_neg h2] at e; omega
  · rw [if_neg h1] at e; omega
theorem steadyE_ne {b : Brk} {h x : Int} (e : ¬ steadyE b h x = 0) : steadyE b h x = 1 ∨ steadyE b h x = 2 := by
  unfold steadyE at *
  split at e
  · rename_i h1
    rw [if_pos h1]
    split at e
    · exact absurd rfl e
    · rename_i h2; rw [if_neg h2]; exact .inr rfl
  · rename_i h1
    rw [if_neg h1]; exact .inl rfl

set_option maxHeartbeats 1000000 in
theorem lasts_ok (b : Brk) (h x : Int) (w : World) : Calls Tryz.prog 36 #[b.val, .int .i64 h, .int .i64 x] w fun e W' => e = .returned (.tuple #[.int .i64 (lastsN b h x), .int .i64 (steadyE b h x)]) ∧ Below w.heap.size w W' := by
  by_cases h0 : steadyE b h x = 0
  · obtain ⟨hb, ⟨hh0, hh1⟩, hx0, hx1⟩ := steadyE_zero h0
    obtain ⟨⟨l0, l1⟩, ⟨s0, s1⟩, f0, f1⟩ := okB_iff.1 hb
    have e : lastsN b h x = if x ≤ b.limit then -1 else if b.fast < x then 0 else (b.slow - h) / (x - b.limit) := by unfold lastsN; rw [if_pos h0]
    rw [e]; clear e hb
    have H0 := Lib.hid h0
    by_cases c1 : x ≤ b.limit
    · rw [if_pos c1, h0]; clear h0
      go_enter Tryz.func36, Tryz.ntmps36
      go_wp2_with fail
      obtain ⟨W1, hW1⟩ : ∃ W' : World, (w.alloc (.cells b.cells.toArray 61)) = W' := ⟨_, rfl⟩
      have H1 : Has W1 [(w.heap.size, .cells b.cells.toArray 61 (0, 0))] := by rw [← hW1]; simpa using ((Has.nil w).new _)
      have s1 : W1.heap.size = w.heap.size + 1 := by rw [← hW1]; simp
      have b1 : Below w.heap.size w W1 := by rw [← hW1]; exact (below_alloc (below_self w) _)
      rw [hW1]
      clear hW1
      refine (steady_ok _ _ _ _).mono ?_
      rintro e W2 ⟨rfl, hb2⟩
      rw [H0.out]
      have h2 := H1.below hb2
      have w2 := Lib.hid (below_trans b1 hb2)
      have k1 := blk_cell h2.hd 1
      have k2 := blk_cell h2.hd 2
      have k3 := blk_cell h2.hd 3
      simp at k1 k2 k3
      clear h2 H1 s1 b1 hb2
      go_wp2_with fail
      go_ret2
      exact ⟨rfl, w2.out⟩
    · rw [if_neg c1]
      by_cases c2 : b.fast < x
      · rw [if_pos c2, h0]; clear h0
        go_enter Tryz.func36, Tryz.ntmps36
        go_wp2_with fail
        obtain ⟨W1, hW1⟩ : ∃ W' : World, (w.alloc (.cells b.cells.toArray 61)) = W' := ⟨_, rfl⟩
        have H1 : Has W1 [(w.heap.size, .cells b.cells.toArray 61 (0, 0))] := by rw [← hW1]; simpa using ((Has.nil w).new _)
        have s1 : W1.heap.size = w.heap.size + 1 := by rw [← hW1]; simp
        have b1 : Below w.heap.size w W1 := by rw [← hW1]; exact (below_alloc (below_self w) _)
        rw [hW1]
        clear hW1
        refine (steady_ok _ _ _ _).mono ?_
        rintro e W2 ⟨rfl, hb2⟩
        rw [H0.out]
        have h2 := H1.below hb2
        have w2 := Lib.hid (below_trans b1 hb2)
        have k1 := blk_cell h2.hd 1
        have k2 := blk_cell h2.hd 2
        have k3 := blk_cell h2.hd 3
        simp at k1 k2 k3
        clear h2 H1 s1 b1 hb2
        go_wp2_with fail
        go_ret2
        exact ⟨rfl, w2.out⟩
      · rw [if_neg c2, h0]; clear h0
        have hd0 : 0 ≤ b.slow - h := by omega
        have hd1 : 1 ≤ x - b.limit := by omega
        have hd2 : ¬ x - b.limit = 0 := by omega
        have hq0 : 0 ≤ (b.slow - h) / (x - b.limit) := Int.ediv_nonneg hd0 (by omega)
        have hq1 : (b.slow - h) / (x - b.limit) ≤ b.slow - h := Int.ediv_le_self _ hd0
        go_enter Tryz.func36, Tryz.ntmps36
        go_wp2_with fail
        obtain ⟨W1, hW1⟩ : ∃ W' : World, (w.alloc (.cells b.cells.toArray 61)) = W' := ⟨_, rfl⟩
        have H1 : Has W1 [(w.heap.size, .cells b.cells.toArray 61 (0, 0))] := by rw [← hW1]; simpa using ((Has.nil w).new _)
        have s1 : W1.heap.size = w.heap.size + 1 := by rw [← hW1]; simp
        have b1 : Below w.heap.size w W1 := by rw [← hW1]; exact (below_alloc (below_self w) _)
        rw [hW1]
        clear hW1
        refine (steady_ok _ _ _ _).mono ?_
        rintro e W2 ⟨rfl, hb2⟩
        rw [H0.out]
        have h2 := H1.below hb2
        have w2 := Lib.hid (below_trans b1 hb2)
        have k1 := blk_cell h2.hd 1
        have k2 := blk_cell h2.hd 2
        have k3 := blk_cell h2.hd 3
        simp at k1 k2 k3
        clear h2 H1 s1 b1 hb2
        go_wp2_with fail
        go_ret2
        exact ⟨rfl, w2.out⟩
  · have e : lastsN b h x = 0 := by unfold lastsN; rw [if_neg h0]
    rw [e]; clear e
    rcases steadyE_ne h0 with h1 | h1
    all_goals
      rw [h1]
      have H1 := Lib.hid h1; clear h1 h0
      go_enter Tryz.func36, Tryz.ntmps36
      go_wp2_with fail
      refine (steady_ok _ _ _ _).mono ?_
      rintro e W2 ⟨rfl, hb2⟩
      rw [H1.out]
      have w2 := Lib.hid (below_trans (below_alloc (below_self w) _) hb2)
      clear hb2
      go_wp2_with fail
      go_ret2
      exact ⟨rfl, w2.out⟩

theorem steadyE_bears {b : Brk} {h t : Int} (h0 : ¬ steadyE b h 0 = 0) : bearsE b h t = steadyE b h 0 := by
  have hw : okW 0 = true := by decide
  unfold bearsE steadyE at *
  by_cases h1 : okB b = true
  · rw [if_pos h1] at h0 ⊢
    rw [if_pos h1]
    by_cases h2 : inR h 0 b.slow = true
    · rw [if_pos ⟨h2, hw⟩] at h0; exact absurd rfl h0
    · rw [if_neg (fun k => h2 k.1), if_neg (fun k => h2 k.1)]
  · rw [if_neg h1, if_neg h1]
theorem bears_of {b : Brk} {h t : Int} (h0 : steadyE b h 0 = 0) : bearsE b h t = if inR t 1 1000 = true then 0 else 2 := by
  obtain ⟨hb, hh, _⟩ := steadyE_zero h0
  unfold bearsE
  rw [if_pos hb, inR_iff.2 hh]
  simp

end Go.Proofs.YthlefdbhkbpejaaGreat.B7
