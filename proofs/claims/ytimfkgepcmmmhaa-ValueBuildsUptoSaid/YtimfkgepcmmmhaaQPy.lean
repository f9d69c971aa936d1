/- What is null; what is asked of a law over elements: definitions and contracts. No condition. -/
import Derived.Test.YtimfkgepcmmmhaaQWj
set_option linter.unusedVariables false
set_option linter.unusedSimpArgs false
set_option maxRecDepth 100000
namespace Go.Qv
open Go Go.RowKit Go.Proofs
def nulB (v : VT) (i : Int) : Bool := if (1 ≤ rAbs v.t ∧ rAbs v.t ≤ 5) ∧ 0 ≤ i ∧ i < v.n.length + v.s.length then (if rAbs v.t = 3 then decide (v.s.getD i.toNat ⟨#[]⟩ = ⟨#[]⟩) else if rAbs v.t = 1 then false else decide (v.n.getD i.toNat 0 = -9223372036854775808)) else false
/-- Texts in a vector of texts, numbers in one of numbers; one in an atom. -/
def nulOk (v : VT) : Prop := v.n.length ≤ 1073741824 ∧ v.s.length ≤ 1073741824 ∧ (1 ≤ rAbs v.t ∧ rAbs v.t ≤ 5 → (rAbs v.t = 3 → v.n.length = 0) ∧ (rAbs v.t ≠ 3 → v.s.length = 0) ∧ (v.t < 0 → v.n.length + v.s.length = 1))
/-- The loop over a value's elements may be gone through. -/
def asksOk (v w : VT) (k : Int) : Prop := w = v ∧ tame v ∧ ok2 v ∧ rCount v ≤ 1073741824 ∧ k = 0
def asksB (turn : Int) (v : VT) : Bool := decide (turn = 0 ∧ 2 ≤ rCount v)
noncomputable def spNull := onVn fun v i => when_ (nulOk v) (.leaf (.bool (nulB v i)))

noncomputable def tmA : TS := ⟨[(2, .one (.ptr 0 0)), (4, .one (.ptr 64 0)), (9, .one (.ptr 5824 0)), (10, .one (.ptr 5952 0)), (11, .one (.ptr 6144 0))], [(0, .cells [.int .i64, .sl (.i .i64), .sl .s, .sl .v]), (64, .cells [.fix (.bool false)]), (5824, .cells [.int .i64, .sl (.i .i64), .sl .s, .sl .v]), (5952, .cells [.int .i64]), (6144, .cells [.int .i64])], 6208, 146⟩
noncomputable def spLpA : AV → List Lf → T (List Lf × Jp)
  | .fn 131 [.rp [.int .i64 t, .sl (.i .i64 n), .sl (.s s), .sl (.v l)]], [.int t', .is n', .ss s', .vs l', .int ct, .is cn, .ss cs, .vs cl, .int turn, .int k] =>
    when_ (asksOk (.mk t n s l) (.mk t' n' s' l') k) (.ite (asksB turn (.mk t n s l))
      (.leaf ([.int t', .is n', .ss s', .vs l', .int ct, .is cn, .ss cs, .vs cl, .int turn, .int 2], .exit 2))
      (.leaf ([.int t', .is n', .ss s', .vs l', .int ct, .is cn, .ss cs, .vs cl, .int turn, .int (rCount (.mk t n s l))], .go)))
  | _, _ => .stuck "loop's arguments"
noncomputable def lpA : LP := lpOf 0 Go.Proofs.Try.f13 13 tmA spLpA noLp

end Go.Qv
