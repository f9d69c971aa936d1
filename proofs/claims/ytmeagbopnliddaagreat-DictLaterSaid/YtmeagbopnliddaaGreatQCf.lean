/- The orders of values: plain facts on trees. No condition. -/
import Derived.Test.YtmeagbopnliddaaGreatQPe
set_option linter.unusedVariables false
set_option linter.unusedSimpArgs false
set_option maxRecDepth 100000
namespace Go.Qv
open Go Go.RowKit Go.Proofs

/-! ### what three comparisons must be to one another -/
/-! ### lists -/
/-! ### texts -/
/-! ### values -/
end Go.Qv
