/- Chapter 06: the levels, plain. -/
import Derived.Test.YtmghcinbdfeeoaaGreatArr
namespace Go.Proofs.YtmghcinbdfeeoaaGreat
open Go Go.RowKit

def lev (carry : Int) (ps : List Prt) (ins : List (List Int)) (start : Int) : Nat → Int
  | 0 => start
  | k + 1 => max 0 (lev carry ps ins start k + arr ps ins k - carry)
def levs (carry : Int) (ps : List Prt) (ins : List (List Int)) (start : Int) (n : Nat) : List Int := (List.range (n + 1)).map (lev carry ps ins start)
theorem levs_zero (carry : Int) (ps : List Prt) (ins : List (List Int)) (start : Int) : levs carry ps ins start 0 = [start] := by
  simp [levs, lev]
theorem levs_succ (carry : Int) (ps : List Prt) (ins : List (List Int)) (start : Int) (n : Nat) : levs carry ps ins start (n + 1) = levs carry ps ins start n ++ [lev carry ps ins start (n + 1)] := by
  unfold levs
  rw [List.range_succ, List.map_append]
  rfl
theorem levs_len (carry : Int) (ps : List Prt) (ins : List (List Int)) (start : Int) (n : Nat) : (levs carry ps ins start n).length = n + 1 := by
  simp [levs]
theorem levs_get {carry : Int} {ps : List Prt} {ins : List (List Int)} {start : Int} {n k : Nat} (h : k ≤ n) : (levs carry ps ins start n).getD k default = lev carry ps ins start k := by
  unfold levs
  rw [List.getD_eq_getElem?_getD, List.getElem?_eq_getElem (by simp; omega)]
  simp
theorem arr_all {ps : List Prt} {ins : List (List Int)} (hp : PsOk ps) (h : InOk ins) (t : Int) : 0 ≤ arr ps ins t ∧ arr ps ins t ≤ 1600000000000 := by
  have := arr_le hp h t ps.length (Nat.le_refl _)
  rw [List.take_length] at this
  have := hp.1
  omega
theorem lev_le {carry : Int} {ps : List Prt} {ins : List (List Int)} {start : Int} (hp : PsOk ps) (h : InOk ins) (hc : 0 ≤ carry) (hs : 0 ≤ start ∧ start ≤ 100000000) : ∀ k, 0 ≤ lev carry ps ins start k ∧ lev carry ps ins start k ≤ 100000000 + k * 1600000000000
  | 0 => by simp only [lev]; omega
  | k + 1 => by
    have ih := lev_le hp h hc hs k
    have ha := arr_all hp h k
    simp only [lev]
    omega
/-- What Course returns. -/
def courseV (carry : Int) (ps : List Prt) (ins : List (List Int)) (start n : Int) : List Int := if askedE carry ps start ins n = 0 then levs carry ps ins start n.toNat else []
end Go.Proofs.YtmghcinbdfeeoaaGreat
