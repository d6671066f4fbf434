/- Chapter 06: lines, parts and inputs as data; IndexFunc and ContainsFunc over them; the program's small functions. -/
import Derived.Test.YthlefdbhkbpejaaGreatInts
namespace Go.Proofs.YthlefdbhkbpejaaGreat
open Go Go.RowKit

structure Prt where
  src : Int
  times : Int
  delay : Int
  deriving DecidableEq, Inhabited
abbrev Prt.cells (x : Prt) : List Value := [.int .i64 x.src, .int .i64 x.times, .int .i64 x.delay]
abbrev Prt.val (x : Prt) : Value := .agg x.cells.toArray
abbrev Prts (xs : List Prt) : List (List Value) := xs.map Prt.cells
theorem prts_at {n : Nat} {w : World} {a : Option Addr} {xs : List Prt} (h : RowsAt n w a 3 (Prts xs)) (k : Nat) (hk : k < xs.length) :
    ∃ b off, a = some ⟨b, off, none⟩ ∧ b < n ∧ w.cell? ⟨b, off + k * 3, none⟩ = some (.int .i64 (xs.getD k default).src) ∧ w.cell? ⟨b, off + k * 3 + 1, none⟩ = some (.int .i64 (xs.getD k default).times) ∧ w.cell? ⟨b, off + k * 3 + 2, none⟩ = some (.int .i64 (xs.getD k default).delay) := by
  obtain ⟨b, off, ha, hb, hc⟩ := h k (xs.getD k default).cells (by simp [hk])
  exact ⟨b, off, ha, hb, hc 0 _ rfl, hc 1 _ rfl, hc 2 _ rfl⟩
/-- A slice as a cell holds it. -/
abbrev Hd : Type := Option Addr × Nat × Nat
abbrev Hd.val (h : Hd) : Value := .slice h.1 h.2.1 h.2.2
abbrev Hds (hs : List Hd) : List (List Value) := hs.map fun h => [h.val]
/-- The slice at a reads as the lists ins; hs: the slices themselves. -/
structure InsAt (n : Nat) (w : World) (a : Option Addr) (hs : List Hd) (ins : List (List Int)) : Prop where
  len : hs.length = ins.length
  rows : RowsAt n w a 1 (Hds hs)
  at' : ∀ i, i < ins.length → (ins.getD i default).length = (hs.getD i default).2.1 ∧ (hs.getD i default).2.1 ≤ 9223372036854775807 ∧ RowsAt n w (hs.getD i default).1 1 (Ints (ins.getD i default))
theorem InsAt.below {n : Nat} {w w' : World} {a : Option Addr} {hs : List Hd} {ins : List (List Int)} (h : InsAt n w a hs ins) (hb : Below n w w') : InsAt n w' a hs ins :=
  ⟨h.len, h.rows.below hb, fun i hi => ⟨(h.at' i hi).1, (h.at' i hi).2.1, (h.at' i hi).2.2.below hb⟩⟩
theorem InsAt.later {w w' : World} {a : Option Addr} {hs : List Hd} {ins : List (List Int)} (h : InsAt w.heap.size w a hs ins) (hb : Below w.heap.size w w') : InsAt w'.heap.size w' a hs ins :=
  ⟨h.len, h.rows.later hb, fun i hi => ⟨(h.at' i hi).1, (h.at' i hi).2.1, (h.at' i hi).2.2.later hb⟩⟩
theorem hds_at {n : Nat} {w : World} {a : Option Addr} {hs : List Hd} (h : RowsAt n w a 1 (Hds hs)) (k : Nat) (hk : k < hs.length) :
    ∃ b off, a = some ⟨b, off, none⟩ ∧ b < n ∧ w.cell? ⟨b, off + k, none⟩ = some (hs.getD k default).val := by
  obtain ⟨b, off, ha, hb, hc⟩ := h k [(hs.getD k default).val] (by simp [hk])
  exact ⟨b, off, ha, hb, by simpa using hc 0 _ rfl⟩

def inR (n lo hi : Int) : Bool := decide (lo ≤ n ∧ n ≤ hi)
theorem inR_iff {n lo hi : Int} : inR n lo hi = true ↔ lo ≤ n ∧ n ≤ hi := by simp [inR]
theorem inR_not {n lo hi : Int} : inR n lo hi = false ↔ ¬ (lo ≤ n ∧ n ≤ hi) := by simp [inR]
def okP (x : Prt) : Bool := inR x.src 0 15 && inR x.times 0 1000 && inR x.delay 0 1000
def okX (x : Int) : Bool := inR x 0 100000000
def okL (carry : Int) (ps : List Prt) : Bool := inR carry 0 100000000 && decide (ps.length ≤ 16) && ps.all okP
def badList (l : List Int) : Bool := decide (1000 < l.length) || l.any (fun x => !okX x)
def askedE (carry : Int) (ps : List Prt) (start : Int) (ins : List (List Int)) (n : Int) : Int :=
  if okL carry ps = true then (if inR start 0 100000000 = true ∧ inR n 0 1000 = true ∧ ins.length ≤ 16 ∧ ins.any badList = false then 0 else 2) else 1


end Go.Proofs.YthlefdbhkbpejaaGreat
