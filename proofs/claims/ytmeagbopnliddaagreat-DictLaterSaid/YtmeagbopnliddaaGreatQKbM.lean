/- What the functions of layer 20 answer: definitions. No condition. -/
import Derived.Test.YtmeagbopnliddaaGreatQWfM
import Derived.Test.YtmeagbopnliddaaGreatQPk
import Derived.Test.YtmeagbopnliddaaGreatQPe
set_option linter.unusedVariables false
set_option linter.unusedSimpArgs false
set_option maxRecDepth 100000
namespace Go.Qv
open Go Go.RowKit Go.Proofs
mutual
def leftI : VT → Int → Int → Int
  | .mk _ n s l, k, d => if 100 < d then -1 else leftL l (IntKind.i64.wrap (IntKind.i64.wrap (IntKind.i64.wrap (k - 1) - n.length) - s.length)) d
def leftL : List VT → Int → Int → Int
  | [], k, _ => k
  | x :: l, k, d => if 0 ≤ k then leftL l (leftI x k (IntKind.i64.wrap (d + 1))) d else k
end
section
variable {F : Nat → Prop} {w : World} {cs : Array Value}
end
end Go.Qv
/- A test and its opposite: plain facts. No condition. -/
set_option linter.unusedVariables false
set_option linter.unusedSimpArgs false
set_option maxRecDepth 100000
namespace Go.Qv
open Go Go.RowKit Go.Proofs
end Go.Qv
