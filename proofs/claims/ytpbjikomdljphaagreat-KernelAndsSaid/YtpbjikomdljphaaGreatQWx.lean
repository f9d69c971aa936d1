/- Walks of readers: a law. (Printed.) -/
import Derived.Test.YtpbjikomdljphaaGreatQKe
set_option linter.unusedVariables false
set_option maxRecDepth 100000
namespace Go.Qv
open Go Go.RowKit
end Go.Qv
