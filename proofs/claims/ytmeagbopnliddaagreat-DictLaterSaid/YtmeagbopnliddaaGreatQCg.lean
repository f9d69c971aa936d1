/- What is a value as the document says, and the two comparisons of such. No condition. -/
import Derived.Test.YtmeagbopnliddaaGreatQCf
import Derived.Test.YtmeagbopnliddaaGreatQKbM
set_option linter.unusedVariables false
set_option linter.unusedSimpArgs false
set_option maxRecDepth 100000
namespace Go.Qv
open Go Go.RowKit Go.Proofs
inductive VT.Good : VT → Prop
  | mk (t n s l) : rfI t = true → (rfN t = true ∨ n = []) → (rfS t = true ∨ s = []) → (rfL t = true ∨ l = []) → rPlain (.mk t n s l) = true → rMany (.mk t n s l) = false → rLong (.mk t n s l) = false →
      (t = 0 ∨ ∀ x ∈ l, rCount x = rCount (l.getD 0 default)) → (∀ x ∈ l, VT.Good x) → VT.Good (.mk t n s l)
theorem partsL_zero {k : Int} : ∀ {l : List VT}, rPartsL l k = 0 → ∀ x ∈ l, rParts x k = 0
  | y :: l, h, x, hx => by
    rw [rPartsL] at h
    split at h
    · rename_i h1; exact absurd h h1
    · rename_i h1
      rcases List.mem_cons.1 hx with rfl | hx
      · exact Decidable.not_not.1 h1
      · exact partsL_zero h x hx
theorem parts_good : ∀ (k : Nat) (v : VT), v.sz ≤ k → k ≤ 1048576 → rParts v k = 0 → v.Good
  | 0, .mk t n s l, h, _, _ => by simp [VT.sz] at h
  | k + 1, .mk t n s l, h, hk, hp => by
    rw [rParts] at hp
    split at hp
    · cases hp
    · rename_i h1
      split at hp
      · cases hp
      · rename_i h2
        split at hp
        · cases hp
        · rename_i h3
          split at hp
          · cases hp
          · rename_i h4
            split at hp
            · cases hp
            · rename_i h5
              rw [if_neg (by omega)] at hp
              have e : IntKind.i64.wrap (((k + 1 : Nat) : Int) - 1) = (k : Int) := by rw [w64] <;> omega
              rw [e] at hp
              have hl := partsL_zero hp
              have b : ∀ {x : Bool}, ¬ x = false → x = true := fun {x} h => by cases x <;> simp_all
              have b' : ∀ {x : Bool}, ¬ x = true → x = false := fun {x} h => by cases x <;> simp_all
              have fld : ∀ {x : Bool} {m : Nat}, ¬ (x = false ∧ 0 < m) → x = true ∨ m = 0 := fun {x m} h => by
                cases x with
                | true => exact .inl rfl
                | false => exact .inr (by simp at h; exact h)
              simp only [not_or] at h1
              refine .mk t n s l (b h1.1) ?_ ?_ ?_ (b h4) (b' h2) (b' h3) ?_ (fun x hx => parts_good k x ?_ (by omega) (hl x hx))
              · rcases fld h1.2.1 with h | h; exact .inl h; exact .inr (List.length_eq_zero_iff.1 h)
              · rcases fld h1.2.2.1 with h | h; exact .inl h; exact .inr (List.length_eq_zero_iff.1 h)
              · rcases fld h1.2.2.2 with h | h; exact .inl h; exact .inr (List.length_eq_zero_iff.1 h)
              · by_cases ht : t = 0
                · exact .inl ht
                · refine .inr fun x hx => ?_
                  have h6 : ¬ (l.drop 1).any (fun x => decide (rCount x ≠ rCount (l.getD 0 default))) = true := fun h => h5 ⟨ht, h⟩
                  simp only [List.any_eq_true, decide_eq_true_eq, not_exists, not_and] at h6
                  cases l with
                  | nil => simp at hx
                  | cons y l =>
                    rcases List.mem_cons.1 hx with rfl | hx
                    · rfl
                    · exact Decidable.not_not.1 (h6 x (by simpa using hx))
              · have := sz_lt (t := t) (n := n) (s := s) hx
                omega
theorem rAbs_or (t : Int) : (t < 0 ∧ -5 ≤ t ∧ rAbs t = -t) ∨ (¬ (t < 0 ∧ -5 ≤ t) ∧ rAbs t = t) := by
  unfold rAbs
  by_cases h : t < 0 ∧ -5 ≤ t
  · exact .inl ⟨h.1, h.2, if_pos h⟩
  · exact .inr ⟨h, if_neg h⟩
theorem rFields_or (t : Int) : (rAbs t = 3 ∧ rFields t = (false, true, false, true)) ∨ (rAbs t ≠ 3 ∧ t ≠ 0 ∧ 1 ≤ rAbs t ∧ rAbs t ≤ 5 ∧ rFields t = (true, false, false, true)) ∨
    ((t = 0 ∨ t = 99) ∧ rFields t = (false, false, true, true)) ∨ (t = 98 ∧ rFields t = (false, true, true, true)) ∨ (t = 100 ∧ rFields t = (false, true, false, true)) ∨
    (t = 101 ∧ rFields t = (false, false, false, true)) ∨ rFields t = (false, false, false, false) := by
  unfold rFields
  split
  · rename_i h; exact .inl ⟨h, rfl⟩
  · rename_i h
    split
    · rename_i h1; exact .inr (.inl ⟨h, h1.1.1, h1.1.2, h1.2, rfl⟩)
    · split
      · rename_i h2; exact .inr (.inr (.inl ⟨h2, rfl⟩))
      · split
        · rename_i h3; exact .inr (.inr (.inr (.inl ⟨h3, rfl⟩)))
        · split
          · rename_i h4; exact .inr (.inr (.inr (.inr (.inl ⟨h4, rfl⟩))))
          · by_cases h5 : t = 101
            · exact .inr (.inr (.inr (.inr (.inr (.inl ⟨h5, by simp [h5]⟩)))))
            · exact .inr (.inr (.inr (.inr (.inr (.inr (by simp [h5]))))))
/-- The types there are. -/
theorem types {t : Int} (h : rfI t = true) : (t < 0 ∧ -5 ≤ t ∧ rAbs t = -t) ∨ ((0 ≤ t ∧ t ≤ 5 ∨ 98 ≤ t ∧ t ≤ 101) ∧ rAbs t = t) := by
  have ha := rAbs_or t
  unfold rfI at h
  rcases rFields_or t with ⟨h1, h2⟩ | ⟨h1, h3, h4, h5, h2⟩ | ⟨h1, h2⟩ | ⟨h1, h2⟩ | ⟨h1, h2⟩ | ⟨h1, h2⟩ | h2 <;> rw [h2] at h <;> first | omega | (simp at h)
/-- No type has numbers and texts. -/
theorem fields_one {t : Int} : rfN t = false ∨ rfS t = false := by
  unfold rfN rfS
  rcases rFields_or t with ⟨h1, h2⟩ | ⟨h1, h3, h4, h5, h2⟩ | ⟨h1, h2⟩ | ⟨h1, h2⟩ | ⟨h1, h2⟩ | ⟨h1, h2⟩ | h2 <;> rw [h2] <;> simp
/-! ### the two comparisons -/
def dl {α : Type} (a b : List α) : Int := if a.length ≠ b.length then (if a.length < b.length then -1 else 1) else 0
end Go.Qv
