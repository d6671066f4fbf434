/- Chapter 07: breakers and their states as data; what the chapter's functions compute. -/
import Derived.Test.YtojpbmaojbejjaaProg
import Derived.Test.YtojpbmaojbejjaaBase
namespace Go.Proofs.Ytojpbmaojbejjaa
open Go Go.RowKit

structure Brk where
  feed : Int
  limit : Int
  slow : Int
  fast : Int
  deriving DecidableEq, Inhabited
abbrev Brk.cells (b : Brk) : List Value := [.int .i64 b.feed, .int .i64 b.limit, .int .i64 b.slow, .int .i64 b.fast]
abbrev Brk.val (b : Brk) : Value := .agg b.cells.toArray

structure BSt where
  heat : Int
  trip : Bool
  deriving DecidableEq, Inhabited
abbrev BSt.cells (s : BSt) : List Value := [.int .i64 s.heat, .bool s.trip]
abbrev BSt.val (s : BSt) : Value := .agg s.cells.toArray

def inR (n lo hi : Int) : Bool := decide (lo ≤ n ∧ n ≤ hi)
theorem inR_iff {n lo hi : Int} : inR n lo hi = true ↔ lo ≤ n ∧ n ≤ hi := by simp [inR]
theorem inR_not {n lo hi : Int} : inR n lo hi = false ↔ ¬ (lo ≤ n ∧ n ≤ hi) := by simp [inR]
def okB (b : Brk) : Bool := inR b.limit 0 1000000 && inR b.slow 0 1000000 && inR b.fast b.limit 1000000
theorem okB_iff {b : Brk} : okB b = true ↔ (0 ≤ b.limit ∧ b.limit ≤ 1000000) ∧ (0 ≤ b.slow ∧ b.slow ≤ 1000000) ∧ b.limit ≤ b.fast ∧ b.fast ≤ 1000000 := by
  simp [okB, inR, and_assoc]
def mostOf (b : Brk) (s : BSt) : Int := if s.trip = true then 100000000 else b.slow
def okS (b : Brk) (s : BSt) : Bool := okB b && inR s.heat 0 (mostOf b s)
def okW (w : Int) : Bool := inR w 0 100000000

def aft (b : Brk) (s : BSt) (w : Int) : BSt :=
  if s.trip = true then s else ⟨min (max 0 (s.heat + w - b.limit)) 100000000, decide (b.fast < w ∨ b.slow < max 0 (s.heat + w - b.limit))⟩
/-- The state after all loads. -/
def stAt (b : Brk) (s : BSt) (ws : List Int) : BSt := ws.foldl (aft b) s
/-- The states, the first one included. -/
def runB (b : Brk) : BSt → List Int → List BSt
  | s, [] => [s]
  | s, w :: ws => s :: runB b (aft b s w) ws
theorem stAt_snoc (b : Brk) (s : BSt) (ws : List Int) (w : Int) : stAt b s (ws ++ [w]) = aft b (stAt b s ws) w := by simp [stAt]
theorem runB_snoc (b : Brk) (w : Int) : ∀ (ws : List Int) (s : BSt), runB b s (ws ++ [w]) = runB b s ws ++ [aft b (stAt b s ws) w]
  | [], s => rfl
  | x :: xs, s => by
    rw [List.cons_append, runB, runB_snoc b w xs, runB]
    rfl
theorem runB_len (b : Brk) : ∀ (ws : List Int) (s : BSt), (runB b s ws).length = ws.length + 1
  | [], _ => rfl
  | x :: xs, s => by rw [runB, List.length_cons, runB_len b xs, List.length_cons]
theorem runB_get (b : Brk) : ∀ (ws : List Int) (s : BSt) (k : Nat), k ≤ ws.length → (runB b s ws)[k]? = some (stAt b s (ws.take k))
  | [], s, k, hk => by
    obtain rfl : k = 0 := by simpa using hk
    rfl
  | x :: xs, s, 0, _ => rfl
  | x :: xs, s, k + 1, hk => by
    rw [runB, List.getElem?_cons_succ, runB_get b xs (aft b s x) k (by simpa using hk)]
    rfl
/-- A state that may be: what the walks keep. -/
def StIn (b : Brk) (s : BSt) : Prop := 0 ≤ s.heat ∧ s.heat ≤ 100000000 ∧ (s.trip = false → s.heat ≤ b.slow)
theorem StIn.of {b : Brk} {s : BSt} (h : okS b s = true) : StIn b s := by
  unfold okS mostOf at h
  simp only [Bool.and_eq_true, okB_iff, inR_iff] at h
  unfold StIn
  split at h <;> rename_i ht
  · simp [ht]; omega
  · simp [ht]; omega
theorem StIn.aft {b : Brk} {s : BSt} (h : StIn b s) (w : Int) : StIn b (aft b s w) := by
  unfold StIn Go.Proofs.Ytojpbmaojbejjaa.aft at *
  split
  · exact h
  · simp only [decide_eq_false_iff_not]
    omega
theorem StIn.all {b : Brk} : ∀ (ws : List Int) (s : BSt), StIn b s → StIn b (stAt b s ws)
  | [], _, h => h
  | w :: ws, s, h => StIn.all ws (Go.Proofs.Ytojpbmaojbejjaa.aft b s w) (h.aft w)

/-- The first place with the property; -1: none. -/
def idxI {α : Type} (p : α → Bool) (l : List α) : Int := match l.findIdx? p with
  | none => -1
  | some i => (i : Int)

def courseE (b : Brk) (s : BSt) (ws : List Int) : Int := if okS b s = true then (if ws.length ≤ 1000 ∧ ws.all okW = true then 0 else 2) else 1
def courseL (b : Brk) (s : BSt) (ws : List Int) : List BSt := if courseE b s ws = 0 then runB b s ws else []
def nextS (b : Brk) (s : BSt) (w : Int) : BSt := if courseE b s [w] = 0 then aft b s w else ⟨0, false⟩
def steadyE (b : Brk) (h w : Int) : Int := if okB b = true then (if inR h 0 b.slow = true ∧ okW w = true then 0 else 2) else 1
def lastsN (b : Brk) (h w : Int) : Int := if steadyE b h w = 0 then (if w ≤ b.limit then -1 else if b.fast < w then 0 else (b.slow - h) / (w - b.limit)) else 0
def coolsN (b : Brk) (h w : Int) : Int := if steadyE b h w = 0 then (if h = 0 then 0 else if b.limit ≤ w then -1 else (h + (b.limit - w) - 1) / (b.limit - w)) else 0
def bearsE (b : Brk) (h t : Int) : Int := if okB b = true then (if inR h 0 b.slow = true ∧ inR t 1 1000 = true then 0 else 2) else 1
def bearsN (b : Brk) (h t : Int) : Int := if bearsE b h t = 0 then min b.fast (b.limit + (b.slow - h) / t) else 0
def tripsE (b : Brk) (h : Int) (ws : List Int) : Int := if steadyE b h 0 = 0 then courseE b ⟨h, false⟩ ws else steadyE b h 0
def tripsN (b : Brk) (h : Int) (ws : List Int) : Int := if tripsE b h ws = 0 then max (-1) (idxI (fun s => s.trip) (runB b ⟨h, false⟩ ws) - 1) else 0
end Go.Proofs.Ytojpbmaojbejjaa
