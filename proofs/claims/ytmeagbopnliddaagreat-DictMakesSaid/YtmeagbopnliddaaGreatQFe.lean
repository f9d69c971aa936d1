/- Calls that change what they are lent: a function's walk in pieces as its contract. No condition. -/
import Derived.Test.YtmeagbopnliddaaGreatQTmM
set_option linter.unusedVariables false
set_option linter.unusedSimpArgs false
namespace Go.Qv
open Go.RowKit

/-- One function's contract, in one set of names: what it is lent has the names 0 .., what it makes has the names 64 .. . -/
def Eff1 (P : Program) (f : FuncId) (s : List AV → List (Nat × HObj) → T Eff) : Prop :=
  ∀ (xs : List AV) (hs : List (Nat × HObj)) (β : Nat → Option Value) (F : Nat → Prop) (w : World) (cs : Array Value) (R : Value → World → Prop),
    Pre hs 64 β F w → cs.size = xs.length → (∀ (j : Nat) (v : Value) (x : AV), cs[j]? = some v → xs[j]? = some x → VR β F w v x) →
    (s xs hs).sat (fun E => ∀ v' β' F' w', Post hs 64 E β F w v' β' F' w' → R v' w') → Goes P f cs w R
abbrev ES := FuncId → List AV → List (Nat × HObj) → T Eff
def EffOk (P : Program) (se : ES) : Prop := ∀ f, Eff1 P f (se f)
def ES.none : ES := fun _ _ _ => .stuck "contract"
def ES.also (f0 : FuncId) (s : List AV → List (Nat × HObj) → T Eff) (r : ES) : ES := fun f xs hs => match Nat.beq f f0 with | true => s xs hs | false => r f xs hs
theorem EffOk.none (P : Program) : EffOk P ES.none := fun _ _ _ _ _ _ _ _ _ _ _ h => h.elim
theorem EffOk.also {P : Program} {f0 : FuncId} {s : List AV → List (Nat × HObj) → T Eff} {r : ES} (h : Eff1 P f0 s) (hr : EffOk P r) : EffOk P (ES.also f0 s r) := by
  intro f xs hs β F w cs R hp hl hv h1
  unfold ES.also at h1
  split at h1
  · rename_i hb; have := Nat.eq_of_beq_eq_true hb; subst this; exact h xs hs β F w cs R hp hl hv h1
  · exact hr f xs hs β F w cs R hp hl hv h1
theorem FS.imp' {step : Nat × List Lf → T Gt} {Q Q' : Eff → Prop} (hq : ∀ E, Q E → Q' E) : ∀ {n g}, FS step Q n g → FS step Q' n g := fun h => flow_pure.FS.imp hq h
section
variable {P : Program} {hs : List (Nat × HObj)} {β : Nat → Option Value} {F : Nat → Prop} {w : World}
end
end Go.Qv
