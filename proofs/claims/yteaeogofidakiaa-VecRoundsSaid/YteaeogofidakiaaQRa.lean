/- Products and quotients: what is answered. No condition. -/
import Derived.Test.YteaeogofidakiaaQPre
set_option linter.unusedVariables false
set_option linter.unusedSimpArgs false
set_option maxRecDepth 100000
namespace Go.Qv
open Go Go.RowKit Go.Proofs
def isU (a : Int) : Prop := 0 ≤ a ∧ a < 18446744073709551616
def isI (a : Int) : Prop := -9223372036854775808 ≤ a ∧ a < 9223372036854775808
def absU (a : Int) : Int := if a < 0 then -a else a
def mulHi (a b : Int) : Int := a * b / 18446744073709551616
def mulLo (a b : Int) : Int := a * b % 18446744073709551616
def uquo (a b : Int) : Int := a / b
def urem (a b : Int) : Int := a % b
def qfl (a b : Int) : Int := Int.fdiv a b
def oneQ (o a b : Int) : Int := if a = -9223372036854775808 ∨ b = -9223372036854775808 ∨ b = 0 then -9223372036854775808 else if o = 3 then Int.fdiv a b else Int.fmod a b
noncomputable def when_ {α : Type} (p : Prop) (t : T α) : T α := .req ⟨p, Classical.propDecidable _⟩ t
noncomputable def sp105 : List AV → T AV
  | [.int .u64 x, .int .u64 y] => when_ (isU x ∧ isU y) (.leaf (.tup [.int .u64 (mulHi x y), .int .u64 (mulLo x y)]))
  | _ => .stuck "sp105"
noncomputable def sp106 : List AV → T AV
  | [.int .i64 n] => when_ (isI n) (.leaf (.int .u64 (absU n)))
  | _ => .stuck "sp106"
noncomputable def sp107 : List AV → T AV
  | [.int .u64 h, .int .u64 l, .int .u64 y] => when_ (h = 0 ∧ isU l ∧ isU y ∧ y ≠ 0) (.leaf (.tup [.int .u64 (uquo l y), .int .u64 (urem l y)]))
  | _ => .stuck "sp107"
noncomputable def sp94 : List AV → T AV
  | [.int .i64 a, .int .i64 b, .int .i64 d] => when_ (isI a ∧ b = 1 ∧ isI d ∧ a ≠ -9223372036854775808 ∧ d ≠ 0) (.leaf (.tup [.int .i64 (qfl a d), .bool true]))
  | _ => .stuck "sp94"
noncomputable def sp49 : List AV → T AV
  | [.int .i64 o, .agg [.int .i64 x, .int .i64 tx], .agg [.int .i64 y, .int .i64 ty]] => when_ ((o = 3 ∨ o = 4) ∧ isI x ∧ isI y ∧ tx = 2 ∧ ty = 2) (.leaf (.tup [.int .i64 (oneQ o x y), .bool true]))
  | _ => .stuck "sp49"
def spNo (_ : List AV) : T AV := .stuck "not reached"
end Go.Qv
