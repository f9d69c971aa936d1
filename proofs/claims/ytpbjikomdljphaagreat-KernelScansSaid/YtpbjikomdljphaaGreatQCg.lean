/- What is a value as the document says, and the two comparisons of such. No condition. -/
import Derived.Test.YtpbjikomdljphaaGreatQCf
import Derived.Test.YtpbjikomdljphaaGreatQKbM
set_option linter.unusedVariables false
set_option linter.unusedSimpArgs false
set_option maxRecDepth 100000
namespace Go.Qv
open Go Go.RowKit Go.Proofs
inductive VT.Good : VT → Prop
  | mk (t n s l) : rfI t = true → (rfN t = true ∨ n = []) → (rfS t = true ∨ s = []) → (rfL t = true ∨ l = []) → rPlain (.mk t n s l) = true → rMany (.mk t n s l) = false → rLong (.mk t n s l) = false →
      (t = 0 ∨ ∀ x ∈ l, rCount x = rCount (l.getD 0 default)) → (∀ x ∈ l, VT.Good x) → VT.Good (.mk t n s l)
theorem partsL_zero {k : Int} : ∀ {l : List VT}, rPartsL l k = 0 → ∀ x ∈ l, rParts x k = 0
  | y :: l, h, x, hx => by
    rw [rPartsL] at h
    split at h
    · rename_i h1; exact absurd h h1
    · rename_i h1
      rcases List.mem_cons.1 hx with rfl | hx
      · exact Decidable.not_not.1 h1
      · exact partsL_zero h x hx
theorem parts_good : ∀ (k : Nat) (v : VT), v.sz ≤ k → k ≤ 1048576 → rParts v k = 0 → v.Good
  | 0, .mk t n s l, h, _, _ => by simp [VT.sz] at h
  | k + 1, .mk t n s l, h, hk, hp => by
    rw [rParts] at hp
    split at hp
    · cases hp
    · rename_i h1
      split at hp
      · cases hp
      · rename_i h2
        split at hp
        · cases hp
        · rename_i h3
          split at hp
          · cases hp
          · rename_i h4
            split at hp
            · cases hp
            · rename_i h5
              rw [if_neg (by omega)] at hp
              have e : IntKind.i64.wrap (((k + 1 : Nat) : Int) - 1) = (k : Int) := by rw [w64] <;> omega
              rw [e] at hp
              have hl := partsL_zero hp
              have b : ∀ {x : Bool}, ¬ x = false → x = true := fun {x} h => by cases x <;> simp_all
              have b' : ∀ {x : Bool}, ¬ x = true → x = false := fun {x} h => by cases x <;> simp_all
              have fld : ∀ {x : Bool} {m : Nat}, ¬ (x = false ∧ 0 < m) → x = true ∨ m = 0 := fun {x m} h => by
                cases x with
                | true => exact .inl rfl
                | false => exact .inr (by simp at h; exact h)
              simp only [not_or] at h1
              refine .mk t n s l (b h1.1) ?_ ?_ ?_ (b h4) (b' h2) (b' h3) ?_ (fun x hx => parts_good k x ?_ (by omega) (hl x hx))
              · rcases fld h1.2.1 with h | h; exact .inl h; exact .inr (List.length_eq_zero_iff.1 h)
              · rcases fld h1.2.2.1 with h | h; exact .inl h; exact .inr (List.length_eq_zero_iff.1 h)
              · rcases fld h1.2.2.2 with h | h; exact .inl h; exact .inr (List.length_eq_zero_iff.1 h)
              · by_cases ht : t = 0
                · exact .inl ht
                · refine .inr fun x hx => ?_
                  have h6 : ¬ (l.drop 1).any (fun x => decide (rCount x ≠ rCount (l.getD 0 default))) = true := fun h => h5 ⟨ht, h⟩
                  simp only [List.any_eq_true, decide_eq_true_eq, not_exists, not_and] at h6
                  cases l with
                  | nil => simp at hx
                  | cons y l =>
                    rcases List.mem_cons.1 hx with rfl | hx
                    · rfl
                    · exact Decidable.not_not.1 (h6 x (by simpa using hx))
              · have := sz_lt (t := t) (n := n) (s := s) hx
                omega
theorem rAbs_or (t : Int) : (t < 0 ∧ -5 ≤ t ∧ rAbs t = -t) ∨ (¬ (t < 0 ∧ -5 ≤ t) ∧ rAbs t = t) := by
  unfold rAbs
  by_cases h : t < 0 ∧ -5 ≤ t
  · exact .inl ⟨h.1, h.2, if_pos h⟩
  · exact .inr ⟨h, if_neg h⟩
theorem rFields_or (t : Int) : (rAbs t = 3 ∧ rFields t = (false, true, false, true)) ∨ (rAbs t ≠ 3 ∧ t ≠ 0 ∧ 1 ≤ rAbs t ∧ rAbs t ≤ 5 ∧ rFields t = (true, false, false, true)) ∨
    ((t = 0 ∨ t = 99) ∧ rFields t = (false, false, true, true)) ∨ (t = 98 ∧ rFields t = (false, true, true, true)) ∨ (t = 100 ∧ rFields t = (false, true, false, true)) ∨
    (t = 101 ∧ rFields t = (false, false, false, true)) ∨ rFields t = (false, false, false, false) := by
  unfold rFields
  split
  · rename_i h; exact .inl ⟨h, rfl⟩
  · rename_i h
    split
    · rename_i h1; exact .inr (.inl ⟨h, h1.1.1, h1.1.2, h1.2, rfl⟩)
    · split
      · rename_i h2; exact .inr (.inr (.inl ⟨h2, rfl⟩))
      · split
        · rename_i h3; exact .inr (.inr (.inr (.inl ⟨h3, rfl⟩)))
        · split
          · rename_i h4; exact .inr (.inr (.inr (.inr (.inl ⟨h4, rfl⟩))))
          · by_cases h5 : t = 101
            · exact .inr (.inr (.inr (.inr (.inr (.inl ⟨h5, by simp [h5]⟩)))))
            · exact .inr (.inr (.inr (.inr (.inr (.inr (by simp [h5]))))))
/-- The types there are. -/
theorem types {t : Int} (h : rfI t = true) : (t < 0 ∧ -5 ≤ t ∧ rAbs t = -t) ∨ ((0 ≤ t ∧ t ≤ 5 ∨ 98 ≤ t ∧ t ≤ 101) ∧ rAbs t = t) := by
  have ha := rAbs_or t
  unfold rfI at h
  rcases rFields_or t with ⟨h1, h2⟩ | ⟨h1, h3, h4, h5, h2⟩ | ⟨h1, h2⟩ | ⟨h1, h2⟩ | ⟨h1, h2⟩ | ⟨h1, h2⟩ | h2 <;> rw [h2] at h <;> first | omega | (simp at h)
/-- No type has numbers and texts. -/
theorem fields_one {t : Int} : rfN t = false ∨ rfS t = false := by
  unfold rfN rfS
  rcases rFields_or t with ⟨h1, h2⟩ | ⟨h1, h3, h4, h5, h2⟩ | ⟨h1, h2⟩ | ⟨h1, h2⟩ | ⟨h1, h2⟩ | ⟨h1, h2⟩ | h2 <;> rw [h2] <;> simp
theorem rRank_or (v : VT) : (rAbs v.t = 101 ∧ rRank v = 0) ∨ (rAbs v.t = 1 ∧ rRank v = 1) ∨ (rAbs v.t = 2 ∧ rRank v = 2) ∨ (rAbs v.t = 4 ∧ rRank v = 3) ∨ (rAbs v.t = 5 ∧ rRank v = 4) ∨ (rAbs v.t = 3 ∧ rRank v = 5) ∨
    (rAbs v.t = 0 ∧ rRank v = 6) ∨ (rAbs v.t = 99 ∧ rRank v = 7) ∨ (rAbs v.t = 98 ∧ rRank v = 8) ∨ (rAbs v.t ≠ 101 ∧ rAbs v.t ≠ 1 ∧ rAbs v.t ≠ 2 ∧ rAbs v.t ≠ 4 ∧ rAbs v.t ≠ 5 ∧ rAbs v.t ≠ 3 ∧ rAbs v.t ≠ 0 ∧ rAbs v.t ≠ 99 ∧ rAbs v.t ≠ 98 ∧ rRank v = 9) := by
  unfold rRank
  generalize rAbs v.t = x
  split
  · simp_all
  · split
    · simp_all
    · split
      · simp_all
      · split
        · simp_all
        · split
          · simp_all
          · split
            · simp_all
            · split
              · simp_all
              · split
                · simp_all
                · split
                  · simp_all
                  · simp_all
theorem vRank_eq {v : VT} (h : rfI v.t = true) : vRank v = rRank v := by
  have ht := types h
  unfold vRank
  have hr := rRank_or v
  generalize rRank v = r at *
  generalize rAbs v.t = x at *
  simp only [idxI]
  split
  · omega
  · split
    · omega
    · split
      · omega
      · split
        · omega
        · split
          · omega
          · split
            · omega
            · split
              · omega
              · split
                · omega
                · split
                  · omega
                  · split
                    · omega
                    · omega
theorem rank_type {v u : VT} (h : rfI v.t = true) (h' : rfI u.t = true) (hr : rRank v = rRank u) (hf : isAtomT v.t ↔ isAtomT u.t) : v.t = u.t := by
  have h1 := types h
  have h2 := types h'
  have r1 := rRank_or v
  have r2 := rRank_or u
  have hf : (v.t < 0 ∧ -5 ≤ v.t) ↔ (u.t < 0 ∧ -5 ≤ u.t) := hf
  have : rAbs v.t = rAbs u.t := by
    rw [← hr] at r2
    rcases r1 with r1 | r1 | r1 | r1 | r1 | r1 | r1 | r1 | r1 | r1 <;> rcases r2 with r2 | r2 | r2 | r2 | r2 | r2 | r2 | r2 | r2 | r2 <;> omega
  omega
/-! ### the two comparisons -/
theorem preL_len {α : Type} {f : α → α → Int} : ∀ (a b : List α), cmpL f a b = lex (preL f a b) (if a.length ≠ b.length then (if a.length < b.length then -1 else 1) else 0)
  | [], [] => by simp [cmpL, preL, lex]
  | [], _ :: _ => by simp [cmpL, preL, lex]
  | _ :: _, [] => by simp [cmpL, preL, lex]
  | x :: a, y :: b => by
    rw [cmpL_cons, preL_len a b, preL]
    have e : (if (x :: a).length ≠ (y :: b).length then (if (x :: a).length < (y :: b).length then (-1 : Int) else 1) else 0) = (if a.length ≠ b.length then (if a.length < b.length then -1 else 1) else 0) := by
      simp only [List.length_cons, ne_eq, Nat.add_right_cancel_iff, Nat.add_lt_add_iff_right]
    rw [e]
    generalize (if a.length ≠ b.length then (if a.length < b.length then (-1 : Int) else 1) else 0) = z
    unfold lex
    by_cases h : f x y = 0
    · simp [h]
    · simp [h]
theorem dI_eq : dI = cmpI := by
  funext a b
  unfold dI cmpI
  split
  · rw [if_neg (by omega), if_neg (by omega)]
  · split
    · rfl
    · rw [if_pos (by omega)]
theorem dS_eq : dS = cmpS := by
  funext a b
  by_cases h : a = b
  · unfold dS; rw [if_pos h]; exact ((cmpS_zero a b).2 h).symm
  · unfold dS cmpS
    rw [if_neg h]
    by_cases h1 : sless a b = true
    · rw [if_pos h1, if_pos h1]
    · rw [if_neg h1, if_neg h1, if_neg (by simp [h1, h])]
def dl {α : Type} (a b : List α) : Int := if a.length ≠ b.length then (if a.length < b.length then -1 else 1) else 0
theorem dl_nil {α : Type} : dl ([] : List α) [] = 0 := by simp [dl]
theorem preL_congr {α : Type} {f g : α → α → Int} : ∀ (a b : List α), (∀ x ∈ a, ∀ y ∈ b, f x y = g x y) → preL f a b = preL g a b
  | [], _, _ => by cases ‹List α› <;> rfl
  | _ :: _, [], _ => rfl
  | x :: a, y :: b, h => by
    rw [preL, preL, h x (by simp) y (by simp), preL_congr a b (fun x hx y hy => h x (by simp [hx]) y (by simp [hy]))]
theorem rcmps_preL : ∀ (a b : List VT), rcmps a b = preL rcmp a b
  | [], b => by rw [rcmps]; cases b <;> rfl
  | x :: a, [] => by rw [rcmps]; rfl
  | x :: a, y :: b => by rw [rcmps, preL, rcmps_preL a b]
theorem dl_not {α : Type} {a b : List α} (h : a.length ≠ b.length) : dl a b = if a.length < b.length then -1 else 1 := if_pos h
theorem rTail3_lex (n n' s s' l l') : rTail3 n n' s s' l l' 0 = lex (preL cmpI n n') (lex (preL cmpS s s') (lex (dl n n') (lex (dl s s') (lex (preL rcmp l l') (dl l l'))))) := by
  unfold rTail3 rTail2 rTail
  simp only [List.drop_zero, rcmps_preL, dI_eq, dS_eq]
  have e1 : ∀ {α : Type} (a b : List α) (z : Int), (if a.length ≠ b.length then (if a.length < b.length then (-1 : Int) else 1) else z) = lex (dl a b) z := by
    intro α a b z
    by_cases h : a.length = b.length
    · simp [h, dl, lex]
    · have h2 := dl_not h
      rw [if_pos h, ← h2]
      unfold lex
      rw [if_pos (by rw [h2]; split <;> simp)]
  have e2 : (if l.length < l'.length then (-1 : Int) else if l'.length < l.length then 1 else 0) = dl l l' := by
    unfold dl
    by_cases h : l.length = l'.length
    · simp [h]
    · rw [if_pos h]
      split
      · rfl
      · rw [if_pos (by omega)]
  rw [e1, e1, e2]
  rfl
theorem lex_assoc (a b c : Int) : lex (lex a b) c = lex a (lex b c) := by
  unfold lex
  by_cases h : a = 0 <;> simp [h]
theorem lex_zr (a : Int) : lex a 0 = a := by
  unfold lex
  by_cases h : a = 0 <;> simp [h]
theorem lex_zl (a : Int) : lex 0 a = a := by simp [lex]
/-- On what are values the two comparisons agree; what is even is the same. -/
theorem cmp_good : ∀ (k : Nat) (a b : VT), a.sz + b.sz ≤ k → a.Good → b.Good → vcmp a b = rcmp a b ∧ (vcmp a b = 0 ↔ a = b)
  | 0, .mk _ _ _ _, _, h, _, _ => by simp [VT.sz] at h
  | k + 1, .mk t n s l, .mk t' n' s' l', h, ga, gb => by
    cases ga with
    | mk _ _ _ _ a1 a2 a3 a4 a5 a6 a7 a8 a9 =>
    cases gb with
    | mk _ _ _ _ b1 b2 b3 b4 b5 b6 b7 b8 b9 =>
    have ih : ∀ x ∈ l, ∀ y ∈ l', vcmp x y = rcmp x y ∧ (vcmp x y = 0 ↔ x = y) := fun x hx y hy => by
      have h1 := sz_lt (t := t) (n := n) (s := s) hx
      have h2 := sz_lt (t := t') (n := n') (s := s') hy
      exact cmp_good k x y (by omega) (a9 x hx) (b9 y hy)
    rw [vcmp_lex, vRank_eq (v := .mk t n s l) a1, vRank_eq (v := .mk t' n' s' l') b1, rcmp_mk]
    by_cases hr : rRank (.mk t n s l) = rRank (.mk t' n' s' l')
    · rw [if_neg (by simp [hr]), cmpI_zero.2 hr, lex_zl]
      by_cases hf : isAtomT t ↔ isAtomT t'
      · have ht := rank_type (v := .mk t n s l) (u := .mk t' n' s' l') a1 b1 hr hf
        simp only [VT.t] at ht
        subst ht
        rw [if_neg (by simp [hf]), cmpI_zero.2 rfl, lex_zl, rTail3_lex]
        have hz : cmpL vcmp l l' = 0 ↔ l = l' := cmpL_zero l l' (fun x hx y hy => (ih x hx y hy).2)
        have hn := cmpL_zero n n' (fun x _ y _ => cmpI_zero)
        have hs := cmpL_zero s s' (fun x _ y _ => cmpS_zero x y)
        refine ⟨?_, ?_⟩
        · rw [← preL_congr l l' (fun x hx y hy => (ih x hx y hy).1), preL_len n n', preL_len s s', preL_len l l', lex_zr]
          show lex (lex (preL cmpI n n') (dl n n')) (lex (lex (preL cmpS s s') (dl s s')) (lex (preL vcmp l l') (dl l l'))) = _
          have f1 := @fields_one t
          rcases f1 with f1 | f1
          · have hn1 : n = [] := by rcases a2 with h | h; rw [f1] at h; cases h; exact h
            have hn2 : n' = [] := by rcases b2 with h | h; rw [f1] at h; cases h; exact h
            subst hn1; subst hn2
            rw [dl_nil]
            simp only [lex_zr, lex_zl, lex_assoc]
          · have hn1 : s = [] := by rcases a3 with h | h; rw [f1] at h; cases h; exact h
            have hn2 : s' = [] := by rcases b3 with h | h; rw [f1] at h; cases h; exact h
            subst hn1; subst hn2
            rw [dl_nil, show preL cmpS [] [] = 0 from rfl]
            simp only [lex_zr, lex_zl, lex_assoc]
        · rw [lex_zero, lex_zero, lex_zr, hn, hs, hz]
          simp
      · have e : cmpI (flagT t) (flagT t') = if isAtomT t then -1 else 1 := by
          unfold flagT cmpI
          by_cases h1 : isAtomT t
          · have h2 : ¬ isAtomT t' := fun h2 => hf ⟨fun _ => h2, fun _ => h1⟩
            simp [h1, h2]
          · have h2 : isAtomT t' := Decidable.byContradiction fun h2 => hf ⟨fun h => absurd h h1, fun h => absurd h h2⟩
            simp [h1, h2]
        have ne : (if isAtomT t then (-1 : Int) else 1) ≠ 0 := by split <;> simp
        rw [if_pos hf, e]
        unfold lex
        rw [if_pos ne]
        refine ⟨rfl, fun h => absurd h ne, fun h => ?_⟩
        injection h with h1
        subst h1
        exact absurd Iff.rfl hf
    · have e : cmpI (rRank (.mk t n s l)) (rRank (.mk t' n' s' l')) = if rRank (.mk t n s l) < rRank (.mk t' n' s' l') then -1 else 1 := by
        unfold cmpI
        by_cases h1 : rRank (.mk t n s l) < rRank (.mk t' n' s' l')
        · simp [h1]
        · rw [if_neg h1, if_neg h1, if_pos (by omega)]
      have ne : (if rRank (.mk t n s l) < rRank (.mk t' n' s' l') then (-1 : Int) else 1) ≠ 0 := by split <;> simp
      rw [if_pos hr, e]
      unfold lex
      rw [if_pos ne]
      refine ⟨rfl, fun h => absurd h ne, fun h => ?_⟩
      rw [h] at hr
      exact absurd rfl hr
end Go.Qv
