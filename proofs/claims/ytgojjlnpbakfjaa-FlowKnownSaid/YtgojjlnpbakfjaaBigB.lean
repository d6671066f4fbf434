/- Chapter 05: the greatest net without one of its arcs (42 to 83), by reckoning. -/
import Derived.Test.YtgojjlnpbakfjaaBig
namespace Go.Proofs.Ytgojjlnpbakfjaa
set_option maxRecDepth 100000 in
theorem big_okB : ∀ i, i < 42 → bigOk (i + 42) = true := by decide +kernel
end Go.Proofs.Ytgojjlnpbakfjaa
