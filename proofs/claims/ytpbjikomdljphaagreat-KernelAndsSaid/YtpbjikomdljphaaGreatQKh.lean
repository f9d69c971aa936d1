/- quiverlaw20.KernelScans: the law. No condition. -/
import Derived.Test.YtpbjikomdljphaaGreatQWx
import Derived.Test.YtpbjikomdljphaaGreatQKg
import Derived.Test.YtpbjikomdljphaaGreatQKl0M
import Derived.Test.YtpbjikomdljphaaGreatQCi
set_option linter.unusedVariables false
set_option linter.unusedSimpArgs false
set_option maxRecDepth 100000
namespace Go.Qv
open Go Go.RowKit Go.Proofs
theorem small_tst {v : VT} (hL : v.Len) (h : smallV v = true) : tstOk v := by
  obtain ⟨hg, hb, hc⟩ := small_good hL h
  exact ⟨by unfold tame; omega, ok2_of hg, by omega⟩
theorem eqIs_self (a : List Int) : eqIs a a = true := decide_eq_true rfl
end Go.Qv
