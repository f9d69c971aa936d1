/- Places, and what stands at them: what is answered. No condition. -/
import Derived.Test.YtpbjikomdljphaaGreatQPhM
import Derived.Test.YtpbjikomdljphaaGreatQFe
set_option linter.unusedVariables false
set_option linter.unusedSimpArgs false
set_option maxRecDepth 100000
namespace Go.Qv
open Go Go.RowKit

mutual
def szW : VT → Int
  | .mk _ n s l => szWs l (IntKind.i64.wrap (IntKind.i64.wrap (1 + n.length) + s.length))
def szWs : List VT → Int → Int
  | [], n => n
  | x :: l, n => if n ≤ 20000 then szWs l (IntKind.i64.wrap (n + szW x)) else n
end
def checkV (x : VT) : Int := if rParts x 1048576 = 0 ∧ 32 < rDepth x then 6 else rParts x 1048576
def fines (l : List VT) : Prop := ∀ x ∈ l, x.Fine
def partP (v : VT) : Prop := 0 ≤ v.t ∧ v.t ≤ 5
instance (v : VT) : Decidable (partP v) := inferInstanceAs (Decidable (_ ∧ _))
section
variable {Q : AV → Prop}
end
/-! ### numbers in a row -/
/-! ### elements -/
theorem rCount_nn : ∀ v : VT, 0 ≤ rCount v
  | .mk t n s l => by
    cases l with
    | nil => simp only [rCount]; (repeat' split) <;> omega
    | cons x l => simp only [rCount]; have := rCount_nn x; (repeat' split) <;> omega
end Go.Qv
