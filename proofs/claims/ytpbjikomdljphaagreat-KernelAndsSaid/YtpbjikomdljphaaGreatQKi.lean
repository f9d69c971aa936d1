/- What the functions on places that are in all lists answer: definitions. No condition. -/
import Derived.Test.YtpbjikomdljphaaGreatQKe
set_option linter.unusedVariables false
set_option linter.unusedSimpArgs false
set_option maxRecDepth 100000
namespace Go.Qv
open Go Go.RowKit Go.Proofs
def andRL (rows : List (List AV)) : List Int := (rowI rows 0).filter fun i => (rows.drop 1).all fun m => decide (i ∈ rInts m 0)
def andAll (rows : List (List AV)) : Prop := rows.length ≤ 1073741824 ∧ ∀ m ∈ rows, (rInts m 0).length ≤ 1073741824
noncomputable def spAndT := onRs fun a => when_ (andAll a) (.leaf (.sl (.i .i64 (andL a))))
noncomputable def spAndR := onRs fun a => when_ (andAll a) (.leaf (.sl (.i .i64 (andRL a))))

end Go.Qv
