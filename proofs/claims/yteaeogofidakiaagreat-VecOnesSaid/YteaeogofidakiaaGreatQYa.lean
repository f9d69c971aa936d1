/- Products and quotients of numbers, scaled: what is answered. No condition. -/
import Derived.Test.YteaeogofidakiaaGreatQPlM
import Derived.Test.YteaeogofidakiaaGreatQFe
set_option linter.unusedVariables false
set_option linter.unusedSimpArgs false
set_option maxRecDepth 100000
namespace Go.Qv
open Go Go.RowKit Go.Proofs
def isU (a : Int) : Prop := 0 ≤ a ∧ a < 18446744073709551616
def isI (a : Int) : Prop := -9223372036854775808 ≤ a ∧ a < 9223372036854775808
def absU (a : Int) : Int := if a < 0 then -a else a
def mulHi (a b : Int) : Int := a * b / 18446744073709551616
def mulLo (a b : Int) : Int := a * b % 18446744073709551616
def dvOk (h l y : Int) : Prop := h = 0 ∧ isU l ∧ 0 < y ∧ isU y
def dvQ (l y : Int) : Int := l / y
def dvR (l y : Int) : Int := l % y
def byOk (h l y : Int) : Prop := isU h ∧ isU l ∧ 0 < y ∧ y ≤ 9223372036854775808
def byH (h l y : Int) : Int := (h * 18446744073709551616 + l) / y / 18446744073709551616
def byL (h l y : Int) : Int := (h * 18446744073709551616 + l) / y % 18446744073709551616
def byR (h l y : Int) : Int := (h * 18446744073709551616 + l) % y
def fitB (h l : Int) : Bool := decide (h = 0) && decide (l ≤ 9223372036854775807)
def fitN (n : Bool) (h l : Int) : Int := if fitB h l then (if n then -l else l) else 0
/-- Up by 10000, or down by it. -/
def scOk (a b d : Int) : Prop := isI a ∧ ((b = 10000 ∧ d = 1) ∨ (b = 1 ∧ d = 10000))
def isOne (c : Int) : Prop := c = 1
def scB (a b d : Int) : Bool := decide (-9223372036854775807 ≤ a * b / d) && decide (a * b / d ≤ 9223372036854775807)
def scN (a b d : Int) : Int := if scB a b d then a * b / d else 0
noncomputable def sp92x : List AV → T AV
  | [.int .u64 x, .int .u64 y] => when_ (isU x ∧ isU y) (.leaf (.tup [.int .u64 (mulHi x y), .int .u64 (mulLo x y)]))
  | _ => .stuck "sp92x"
noncomputable def sp93x : List AV → T AV
  | [.int .i64 n] => when_ (isI n) (.leaf (.int .u64 (absU n)))
  | _ => .stuck "sp93x"
noncomputable def sp94x : List AV → T AV
  | [.int .u64 h, .int .u64 l, .int .u64 y] => when_ (dvOk h l y) (.leaf (.tup [.int .u64 (dvQ l y), .int .u64 (dvR l y)]))
  | _ => .stuck "sp94x"
noncomputable def sp97x : List AV → T AV
  | [.int .u64 h, .int .u64 l, .int .u64 y] => when_ (byOk h l y) (.leaf (.tup [.int .u64 (byH h l y), .int .u64 (byL h l y), .int .u64 (byR h l y)]))
  | _ => .stuck "sp97x"
noncomputable def sp98x : List AV → T AV
  | [.bool n, .int .u64 h, .int .u64 l] => when_ (isU l) (.leaf (.tup [.int .i64 (fitN n h l), .bool (fitB h l)]))
  | _ => .stuck "sp98x"
end Go.Qv
