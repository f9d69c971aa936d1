/- Walks of readers: a round. (Printed.) -/
import Derived.Test.YtpbjikomdljphaaGreatQKbM
set_option linter.unusedVariables false
set_option maxRecDepth 100000
namespace Go.Qv
open Go Go.RowKit
end Go.Qv
