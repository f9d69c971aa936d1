/- Values: rows may be asked for; a vector's elements are values. No condition. -/
import Derived.Test.YtmeagbopnliddaaGreatQCh
set_option linter.unusedVariables false
set_option linter.unusedSimpArgs false
set_option maxRecDepth 100000
namespace Go.Qv
open Go Go.RowKit Go.Proofs
theorem rfields5 {t : Int} (h : 1 ≤ rAbs t ∧ rAbs t ≤ 5) : (rAbs t = 3 → rfN t = false) ∧ (rAbs t ≠ 3 → rfS t = false) := by
  have h0 : t ≠ 0 := by unfold rAbs at h; split at h <;> omega
  refine ⟨fun e => ?_, fun e => ?_⟩
  · unfold rfN rFields; rw [if_pos e]
  · unfold rfS rFields; rw [if_neg e, if_pos ⟨⟨h0, h.1⟩, h.2⟩]
theorem cnt_mk (t n s l) : rCount (.mk t n s l) = if t = 3 then (s.length : Int) else if isVecT t then (n.length : Int) else if t = 0 then (l.length : Int) else match l with
    | [] => 1
    | x :: _ => if t = 98 ∨ t = 99 then rCount x else 1 := by rw [rCount.eq_def]; rfl
theorem rPlain_mk (t n s l) : rPlain (.mk t n s l) = if isAtomT t ∧ IntKind.i64.wrap (n.length + s.length) ≠ 1 then false
  else if rAbs t = 1 then n.all fun x => decide (x = 0 ∨ x = 1)
  else if t = 100 then decide (s.length = 1 ∧ 2 ≤ (s.getD 0 ⟨#[]⟩).size ∧ byteI (s.getD 0 ⟨#[]⟩) 0 = 123 ∧ byteI (s.getD 0 ⟨#[]⟩) ((s.getD 0 ⟨#[]⟩).size - 1) = 125)
  else if t = 0 then rList (.mk t n s l)
  else if t = 98 then rTable (.mk t n s l)
  else if t = 99 then decide (l.length = 2 ∧ ((isColT (l.getD 0 default).t ∧ isColT (l.getD 1 default).t) ∨ ((l.getD 0 default).t = 98 ∧ (l.getD 1 default).t = 98)))
  else if rAbs t = 3 then rSyms s
  else true := rfl
theorem long_iff {m : Int} {l : List ByteArray} : longer m l = false ↔ ∀ s ∈ l, (s.size : Int) ≤ m := by
  unfold longer
  rw [List.any_eq_false]
  constructor
  · intro h s hs; have := h s hs; simp at this; omega
  · intro h s hs; have := h s hs; simp; omega
theorem at0_mk {t n s l} {i : Nat} : at0 (.mk t n s l) i = if t = 3 then .mk (-3) [] [s.getD i ⟨#[]⟩] [] else if isVecT t then atomV t (n.getD i 0) else if t = 0 then l.getD i default else .mk t n s l := rfl
theorem syms_iff {l : List ByteArray} : rSyms l = true ↔ ∀ s ∈ l, noZero s = true := by unfold rSyms; rw [List.all_eq_true]
theorem good_sym {s : ByteArray} (h : noZero s = true) (h2 : (s.size : Int) ≤ 64) : VT.Good (.mk (-3) [] [s] []) := by
  refine .mk (-3) [] [s] [] (by decide) (.inr rfl) (.inl (by decide)) (.inr rfl) ?_ rfl (long_iff.2 (fun x hx => ?_)) (.inr (fun x hx => by simp at hx)) (fun x hx => by simp at hx)
  · rw [show rPlain (.mk (-3) [] [s] []) = rSyms [s] from rfl]
    exact syms_iff.2 (fun x hx => by simp at hx; subst hx; exact h)
  · have hx : x ∈ [s] := hx
    simp at hx; subst hx; exact h2
theorem good_num {t n : Int} (ht : t = 1 ∨ t = 2 ∨ t = 4 ∨ t = 5) (h1 : t = 1 → n = 0 ∨ n = 1) : VT.Good (.mk (-t) [n] [] []) := by
  rcases ht with rfl | rfl | rfl | rfl
  · refine .mk (-1) [n] [] [] (by decide) (.inl (by decide)) (.inr rfl) (.inr rfl) ?_ rfl rfl (.inr (fun x hx => by simp at hx)) (fun x hx => by simp at hx)
    rw [show rPlain (.mk (-1) [n] [] []) = [n].all (fun x => decide (x = 0 ∨ x = 1)) from rfl]
    simpa using h1 rfl
  · exact .mk (-2) [n] [] [] (by decide) (.inl (by decide)) (.inr rfl) (.inr rfl) rfl rfl rfl (.inr (fun x hx => by simp at hx)) (fun x hx => by simp at hx)
  · exact .mk (-4) [n] [] [] (by decide) (.inl (by decide)) (.inr rfl) (.inr rfl) rfl rfl rfl (.inr (fun x hx => by simp at hx)) (fun x hx => by simp at hx)
  · exact .mk (-5) [n] [] [] (by decide) (.inl (by decide)) (.inr rfl) (.inr rfl) rfl rfl rfl (.inr (fun x hx => by simp at hx)) (fun x hx => by simp at hx)
theorem good_flat {t n s l} (hg : (VT.mk t n s l).Good) (h5 : 1 ≤ rAbs t ∧ rAbs t ≤ 5) : l = [] ∧ (rAbs t = 3 → n = [] ∧ (∀ x ∈ s, noZero x = true)) ∧ (rAbs t ≠ 3 → s = []) ∧ (rAbs t = 1 → ∀ x ∈ n, x = 0 ∨ x = 1) ∧ (∀ x ∈ s, (x.size : Int) ≤ 64) ∧
    (t < 0 → IntKind.i64.wrap (n.length + s.length) = 1) := by
  obtain ⟨r1, r2⟩ := rfields5 h5
  have hne : t ≠ 100 ∧ t ≠ 0 ∧ t ≠ 98 ∧ t ≠ 99 := by unfold rAbs at h5; split at h5 <;> omega
  have hL : rfL t = false := by
    unfold rfL rFields
    by_cases h3 : rAbs t = 3
    · rw [if_pos h3]
    · rw [if_neg h3, if_pos ⟨⟨hne.2.1, h5.1⟩, h5.2⟩]
  cases hg with
  | mk _ _ _ _ g1 g2 g3 g4 g5 g6 g7 =>
    rw [rPlain_mk] at g5
    have ha : ¬ (isAtomT t ∧ IntKind.i64.wrap (n.length + s.length) ≠ 1) := fun h => by rw [if_pos h] at g5; cases g5
    rw [if_neg ha] at g5
    have g7 : longer (if t = 100 then 65536 else 64) s = false := g7
    rw [if_neg hne.1] at g7
    refine ⟨?_, fun e => ⟨?_, ?_⟩, fun e => ?_, fun e => ?_, long_iff.1 g7, fun e => ?_⟩
    · rcases g4 with g4 | g4
      · rw [hL] at g4; cases g4
      · exact g4
    · rcases g2 with g2 | g2
      · rw [r1 e] at g2; cases g2
      · exact g2
    · rw [if_neg (by omega), if_neg hne.1, if_neg hne.2.1, if_neg hne.2.2.1, if_neg hne.2.2.2, if_pos e] at g5
      exact syms_iff.1 g5
    · rcases g3 with g3 | g3
      · rw [r2 e] at g3; cases g3
      · exact g3
    · rw [if_pos e, List.all_eq_true] at g5
      exact fun x hx => of_decide_eq_true (g5 x hx)
    · have hA : isAtomT t := by unfold isAtomT; unfold rAbs at h5; split at h5 <;> omega
      exact Classical.byContradiction fun hn => ha ⟨hA, hn⟩
theorem vec_elem {v : VT} (hg : v.Good) (hv : 1 ≤ v.t ∧ v.t ≤ 5) {i : Int} (h0 : 0 ≤ i) (hi : i < rCount v) : (atV v i).Good := by
  obtain ⟨t, n, s, l⟩ := v
  have hv : 1 ≤ t ∧ t ≤ 5 := hv
  have e : atV (.mk t n s l) i = at0 (.mk t n s l) i.toNat := by
    unfold atV
    rw [if_neg (by omega), if_neg (by show ¬ t = 98; omega), if_neg (by show ¬ t = 99; omega)]
  rw [e, at0_mk]
  rw [cnt_mk] at hi
  have ha : rAbs t = t := by unfold rAbs; rw [if_neg (by omega)]
  obtain ⟨f1, f2, f3, f4, f5, _⟩ := good_flat hg (by rw [ha]; exact hv)
  rw [ha] at f2 f3 f4
  by_cases h3 : t = 3
  · rw [if_pos h3] at hi ⊢
    have hm := getD_mem s ⟨#[]⟩ (i := i.toNat) (by omega)
    exact good_sym ((f2 h3).2 _ hm) (f5 _ hm)
  · rw [if_neg h3, if_pos (show isVecT t from hv)] at hi ⊢
    have hm := getD_mem n 0 (i := i.toNat) (by omega)
    unfold atomV
    rw [ha, if_neg (by omega)]
    exact good_num (by omega) (fun e => f4 e _ hm)
end Go.Qv
