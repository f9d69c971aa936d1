/- A run without branches that overlap comes to one end: there is one answer. No condition. -/
import Derived.Test.YteaeogofidakiaaQTmM
set_option linter.unusedVariables false
set_option linter.unusedSimpArgs false
namespace Go.Qv
open Go.RowKit
def T.nb {α : Type} : T α → Bool
  | .leaf _ => true | .stuck _ => true | .req _ t => t.nb | .ite _ t e => t.nb && e.nb | .both _ _ _ _ => false
theorem T.pick {α : Type} {Q : α → Prop} : ∀ {t : T α}, t.nb = true → t.sat Q → ∃ a, Q a ∧ t.sat (fun x => x = a)
  | .leaf a, _, h => ⟨a, h, rfl⟩
  | .stuck _, _, h => h.elim
  | .req p t, hn, h => by
    obtain ⟨a, h1, h2⟩ := T.pick (t := t) hn h.2
    exact ⟨a, h1, h.1, h2⟩
  | .ite b t e, hn, h => by
    have hn' : (t.nb && e.nb) = true := hn
    rw [Bool.and_eq_true] at hn'
    cases b with
    | true => obtain ⟨a, h1, h2⟩ := T.pick hn'.1 (h.1 rfl); exact ⟨a, h1, fun _ => h2, fun h => absurd h (by simp)⟩
    | false => obtain ⟨a, h1, h2⟩ := T.pick hn'.2 (h.2 rfl); exact ⟨a, h1, fun h => absurd h (by simp), fun _ => h2⟩
  | .both _ _ _ _, hn, _ => by simp [T.nb] at hn
/-- Pieces, none of which has branches that overlap. -/
def FN (step : Nat × List Lf → T Gt) (Q : Eff → Prop) : Nat → Nat × List Lf → Prop
  | 0, _ => False
  | n + 1, g => (step g).nb = true ∧ (step g).sat fun x => match x with | .inl g' => FN step Q n g' | .inr E => Q E
def Rn (step : Nat × List Lf → T Gt) (Q : Eff → Prop) (g : Nat × List Lf) : Prop := ∃ n, FN step Q n g
def RnQ (step : Nat × List Lf → T Gt) (Q : Eff → Prop) : Gt → Prop
  | .inl g => Rn step Q g
  | .inr E => Q E
theorem FN.succ {step : Nat × List Lf → T Gt} {Q : Eff → Prop} : ∀ {n g}, FN step Q n g → FN step Q (n + 1) g
  | n + 1, g, h => ⟨h.1, sat_mono (fun x hx => by
      cases x with
      | inl g' => exact FN.succ hx
      | inr E => exact hx) h.2⟩
theorem FN.mono {step : Nat × List Lf → T Gt} {Q : Eff → Prop} {n m : Nat} (h : n ≤ m) {g} (hf : FN step Q n g) : FN step Q m g := by
  induction h with
  | refl => exact hf
  | step _ ih => exact FN.succ ih
theorem Rn.of {step : Nat × List Lf → T Gt} {Q : Eff → Prop} {g : Nat × List Lf} (hn : (step g).nb = true) (h : (step g).sat (RnQ step Q)) : Rn step Q g := by
  obtain ⟨n, h⟩ := sat_ex (P := fun n x => match x with | .inl g => FN step Q n g | .inr E => Q E) (fun n m x hnm hx => by
    cases x with
    | inl g => exact FN.mono hnm hx
    | inr E => exact hx) (t := step g) (sat_mono (fun x hx => by
    cases x with
    | inl g => exact hx
    | inr E => exact ⟨0, hx⟩) h)
  exact ⟨n + 1, hn, h⟩
theorem Rn.go {step : Nat × List Lf → T Gt} {Q : Eff → Prop} {g : Nat × List Lf} {G : G} {p : Prop} (seg : T.ob noB (RnQ step Q) G (step g) = p) (hn : (step g).nb = true) (hp : p) : Rn step Q g := Rn.of hn (ob_of noB_ok G p seg hp)
/-- There is one end. -/
theorem FN.one {step : Nat × List Lf → T Gt} {Q : Eff → Prop} : ∀ {n g}, FN step Q n g → ∃ E, Q E ∧ FS step (fun x => x = E) n g
  | 0, _, h => h.elim
  | n + 1, g, h => by
    obtain ⟨a, h1, h2⟩ := T.pick h.1 h.2
    cases a with
    | inr E => exact ⟨E, h1, sat_mono (fun x hx => by subst hx; rfl) h2⟩
    | inl g' =>
      obtain ⟨E, e1, e2⟩ := FN.one h1
      exact ⟨E, e1, sat_mono (fun x hx => by subst hx; exact e2) h2⟩
theorem Rn.one {step : Nat × List Lf → T Gt} {Q : Eff → Prop} {g} (h : Rn step Q g) : ∃ E, Q E ∧ Rh step (fun x => x = E) g := by
  obtain ⟨n, h⟩ := h
  obtain ⟨E, h1, h2⟩ := FN.one h
  exact ⟨E, h1, n, h2⟩
end Go.Qv
