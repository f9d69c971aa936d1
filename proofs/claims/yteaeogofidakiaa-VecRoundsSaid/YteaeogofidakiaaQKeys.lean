/- The tables are as the program's own (no maps). No condition. -/
import Derived.Test.YteaeogofidakiaaQTab
import Derived.Test.YteaeogofidakiaaRows
import Derived.ProofKit
set_option linter.unusedVariables false
set_option linter.unusedSimpArgs false
set_option maxRecDepth 100000
namespace Go.Qv
open Go.Proofs
theorem tbOk : TbOk Try.prog tb := by
  refine ⟨fun t d h => BT.get_all (p := fun t d => tyOk Try.prog t d) (by kernel_rfl) h, fun t d kt et ag ks h hk => ?_, fun t d h hne => ?_, fun t d h p hp => ?_⟩
  · have := BT.get_all (p := fun t d => match d.kd with | .map kt _ ag ks => false | _ => true) (by kernel_rfl) h
    simp [hk] at this
  · have := BT.get_all (p := fun t d => match d.key with | [] => true | ks => false) (by kernel_rfl) h
    split at this
    · rename_i e; exact absurd e hne
    · cases this
  · have := BT.get_all (p := fun t d => match d.ms with | [] => true | _ => false) (by kernel_rfl) h
    split at this
    · rename_i e; rw [e] at hp; cases hp
    · cases this
theorem fnsOk : FnsOk Try.prog fns := by
  intro f fn h
  exact BT.get_allP fns_all h
theorem mixed : Try.prog.follows .mixedOrders = true := by rfl
end Go.Qv
