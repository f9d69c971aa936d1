/- Products and sizes: what is answered. No condition. -/
import Derived.Test.YteaeogofidakiaaQPlM
import Derived.Test.YteaeogofidakiaaQDt
import Derived.Test.YteaeogofidakiaaQLen
import Derived.Lib.ItoaNum
set_option linter.unusedVariables false
set_option linter.unusedSimpArgs false
set_option maxRecDepth 100000
namespace Go.Qv
open Go Go.RowKit Go.Proofs
def isU (a : Int) : Prop := 0 ≤ a ∧ a < 18446744073709551616
def isI (a : Int) : Prop := -9223372036854775808 ≤ a ∧ a < 9223372036854775808
def absU (a : Int) : Int := if a < 0 then -a else a
def mulHi (a b : Int) : Int := a * b / 18446744073709551616
def mulLo (a b : Int) : Int := a * b % 18446744073709551616
def lzF (y : Int) : Int := 64 - (Lib.bitLen y.toNat : Int)
noncomputable def sp105 : List AV → T AV
  | [.int .u64 x, .int .u64 y] => when_ (isU x ∧ isU y) (.leaf (.tup [.int .u64 (mulHi x y), .int .u64 (mulLo x y)]))
  | _ => .stuck "sp105"
noncomputable def sp106 : List AV → T AV
  | [.int .i64 n] => when_ (isI n) (.leaf (.int .u64 (absU n)))
  | _ => .stuck "sp106"
noncomputable def sp108x : List AV → T AV
  | [.int .u64 y] => when_ (isU y) (.leaf (.int .i64 (lzF y)))
  | _ => .stuck "sp108x"
end Go.Qv
