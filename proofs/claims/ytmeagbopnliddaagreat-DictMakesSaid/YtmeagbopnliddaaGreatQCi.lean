/- Values: rows may be asked for; a vector's elements are values. No condition. -/
import Derived.Test.YtmeagbopnliddaaGreatQCh
set_option linter.unusedVariables false
set_option linter.unusedSimpArgs false
set_option maxRecDepth 100000
namespace Go.Qv
open Go Go.RowKit Go.Proofs
theorem rPlain_mk (t n s l) : rPlain (.mk t n s l) = if isAtomT t ∧ IntKind.i64.wrap (n.length + s.length) ≠ 1 then false
  else if rAbs t = 1 then n.all fun x => decide (x = 0 ∨ x = 1)
  else if t = 100 then decide (s.length = 1 ∧ 2 ≤ (s.getD 0 ⟨#[]⟩).size ∧ byteI (s.getD 0 ⟨#[]⟩) 0 = 123 ∧ byteI (s.getD 0 ⟨#[]⟩) ((s.getD 0 ⟨#[]⟩).size - 1) = 125)
  else if t = 0 then rList (.mk t n s l)
  else if t = 98 then rTable (.mk t n s l)
  else if t = 99 then decide (l.length = 2 ∧ ((isColT (l.getD 0 default).t ∧ isColT (l.getD 1 default).t) ∨ ((l.getD 0 default).t = 98 ∧ (l.getD 1 default).t = 98)))
  else if rAbs t = 3 then rSyms s
  else true := rfl
end Go.Qv
