/- live() answers true. No condition. -/
import Derived.Test.YtmeagbopnliddaaGreatQLdM
set_option linter.unusedVariables false
set_option maxRecDepth 100000
namespace Go.Qv
open Go Go.RowKit Go.Proofs
theorem live10 : (closedL 10 0 [] []).okB (fun E => isT E && E.hw.isEmpty && E.frz.isEmpty && E.new.isEmpty) = true := by kernel_rfl
theorem okLive : Pure1 Tryz.prog 10 spLive := ok_live closedL_ok live10
end Go.Qv
