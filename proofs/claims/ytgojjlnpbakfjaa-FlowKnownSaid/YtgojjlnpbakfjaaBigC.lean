/- Chapter 05: the greatest net without one of its arcs (84 to 125), by reckoning. -/
import Derived.Test.YtgojjlnpbakfjaaBig
namespace Go.Proofs.Ytgojjlnpbakfjaa
set_option maxRecDepth 100000 in
theorem big_okC : ∀ i, i < 42 → bigOk (i + 84) = true := by decide +kernel
end Go.Proofs.Ytgojjlnpbakfjaa
