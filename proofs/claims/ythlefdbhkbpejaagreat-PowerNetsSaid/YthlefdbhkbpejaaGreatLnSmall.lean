/- Chapter 06: the program's small functions. -/
import Derived.Test.YthlefdbhkbpejaaGreatLn
import Derived.Shelf.Abstract
import Derived.Shelf.RegionOpen
import Derived.RangeFuncBox
namespace Go.Proofs.YthlefdbhkbpejaaGreat
open Go Go.RowKit

theorem any_not_all {α : Type} (p : α → Bool) (l : List α) : l.any (fun x => !p x) = !(l.all p) := by
  induction l with
  | nil => rfl
  | cons x xs ih => simp only [List.any_cons, List.all_cons, ih, Bool.not_and]

end Go.Proofs.YthlefdbhkbpejaaGreat
