/- The rule of a loop: a family of states, each round leads from one of them to another that is less. -/
import Derived.Test.YteaeogofidakiaaQT
set_option linter.unusedVariables false
set_option linter.unusedSimpArgs false
namespace Go.Qv
open Go.RowKit

/-- Is a mark behind? -/
def hasAgain (k : Nat) : List It → Bool
  | [] => false
  | .again n :: r => Nat.beq n k || hasAgain k r
  | _ :: r => hasAgain k r
section
variable {P : Program} {tb : Tb} {orc : Orc} {c : Ctx} {H H' : Nat → Act → World → Prop} {Q : Exit → Act → World → Prop}
theorem PostI_congr {k : Nat} (hH : ∀ n, n ≠ k → H n = H' n) : ∀ {l : List It}, hasAgain k l = false → PostI P H Q l = PostI P H' Q l
  | [], _ => rfl
  | .code x :: r, h => by
    unfold PostI
    rw [PostI_congr hH (l := r) h]
  | .blk id :: r, h => by
    unfold PostI
    rw [PostI_congr hH (l := r) h]
  | .rep b :: r, h => by
    unfold PostI
    rw [PostI_congr hH (l := r) h]
  | .again n :: r, h => by
    simp only [hasAgain, Bool.or_eq_false_iff] at h
    unfold PostI
    have hn : n ≠ k := fun e => by subst e; simp [Nat.beq_refl] at h
    rw [PostI_congr hH (l := r) h.2, hH n hn]
theorem loop_AW {ι : Type} {b : Code} {r : List It} {k : Nat} (hk : hasAgain k r = false) (I : ι → S) (μ : ι → Nat) (ok : ι → Prop)
    (hstep : ∀ i, ok i → ∀ H', (∀ n, n ≠ k → H n = H' n) → (∀ j, ok j → μ j < μ i → ∀ β F a w, RS c (I j) β F a w → H' k a w) → AW P H' Q c (.code b :: .again k :: r) (I i)) :
    ∀ i, ok i → AW P H Q c (.code (.loop b) :: r) (I i) := by
  have key : ∀ n i, μ i < n → ok i → ∀ β F a w, RS c (I i) β F a w → b.wp P (Exit.then (LoopGo P b (PostI P H Q r)) (PostI P H Q r)) a w := by
    intro n
    induction n with
    | zero => intro i h; omega
    | succ n ih =>
      intro i hi hok β F a w hs
      let H' : Nat → Act → World → Prop := fun m => if m = k then LoopGo P b (PostI P H Q r) else H m
      have hH : ∀ m, m ≠ k → H m = H' m := fun m hm => by simp [H', hm]
      have e : PostI P H Q r = PostI P H' Q r := PostI_congr hH hk
      have h : b.wp P (PostI P H' Q (.again k :: r)) a w := hstep i hok H' hH (fun j hj1 hj2 β' F a w h3 => by
        show H' k a w
        simp only [H', if_true]
        exact loopGo_of (ih j (by omega) hj1 β' F a w h3)) β F a w hs
      have e2 : PostI P H' Q (.again k :: r) = Exit.then (LoopGo P b (PostI P H Q r)) (PostI P H Q r) := by
        show Exit.then (H' k) (PostI P H' Q r) = _
        rw [← e]
        simp [H']
      rw [e2] at h
      exact h
  intro i hok β F a w hs
  exact wp_loop_of (key (μ i + 1) i (by omega) hok β F a w hs)
theorem AW_sub (hB : ∀ id, c.n0 ≤ id → c.B0 id = none) {inv st : S} {l : List It} (h : (subN c.n0 inv st).sat fun _ => AW P H Q c l inv) : AW P H Q c l st := by
  intro β F a w hs
  obtain ⟨h1, β', h2⟩ := subN_ok hB hs h
  exact h1 β' F a w h2
end
end Go.Qv
