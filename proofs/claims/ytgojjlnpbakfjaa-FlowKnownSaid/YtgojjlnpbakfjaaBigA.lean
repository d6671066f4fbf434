/- Chapter 05: the greatest net without one of its arcs (0 to 41), by reckoning. -/
import Derived.Test.YtgojjlnpbakfjaaBig
namespace Go.Proofs.Ytgojjlnpbakfjaa
set_option maxRecDepth 100000 in
theorem big_okA : ∀ i, i < 42 → bigOk (i + 0) = true := by decide +kernel
end Go.Proofs.Ytgojjlnpbakfjaa
