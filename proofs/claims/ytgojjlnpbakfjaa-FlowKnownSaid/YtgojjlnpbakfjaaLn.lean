/- Numbers in a range. -/
import Derived.Test.YtgojjlnpbakfjaaInts
namespace Go.Proofs.Ytgojjlnpbakfjaa
open Go Go.RowKit

def inR (n lo hi : Int) : Bool := decide (lo ≤ n ∧ n ≤ hi)
theorem inR_iff {n lo hi : Int} : inR n lo hi = true ↔ lo ≤ n ∧ n ≤ hi := by simp [inR]
theorem inR_not {n lo hi : Int} : inR n lo hi = false ↔ ¬ (lo ≤ n ∧ n ≤ hi) := by simp [inR]
end Go.Proofs.Ytgojjlnpbakfjaa
