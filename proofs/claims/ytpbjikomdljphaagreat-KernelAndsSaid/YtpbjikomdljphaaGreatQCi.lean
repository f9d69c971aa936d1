/- Values: rows may be asked for; a vector's elements are values. No condition. -/
import Derived.Test.YtpbjikomdljphaaGreatQCh
set_option linter.unusedVariables false
set_option linter.unusedSimpArgs false
set_option maxRecDepth 100000
namespace Go.Qv
open Go Go.RowKit Go.Proofs
theorem rPlain_mk (t n s l) : rPlain (.mk t n s l) = if isAtomT t ∧ IntKind.i64.wrap (n.length + s.length) ≠ 1 then false
  else if rAbs t = 1 then n.all fun x => decide (x = 0 ∨ x = 1)
  else if t = 100 then decide (s.length = 1 ∧ 2 ≤ (s.getD 0 ⟨#[]⟩).size ∧ byteI (s.getD 0 ⟨#[]⟩) 0 = 123 ∧ byteI (s.getD 0 ⟨#[]⟩) ((s.getD 0 ⟨#[]⟩).size - 1) = 125)
  else if t = 0 then rList (.mk t n s l)
  else if t = 98 then rTable (.mk t n s l)
  else if t = 99 then decide (l.length = 2 ∧ ((isColT (l.getD 0 default).t ∧ isColT (l.getD 1 default).t) ∨ ((l.getD 0 default).t = 98 ∧ (l.getD 1 default).t = 98)))
  else if rAbs t = 3 then rSyms s
  else true := rfl
theorem table_cols : ∀ (s : List ByteArray) (l : List VT) (b : List ByteArray), rTableGo b s l = true → s.length = l.length → ∀ c ∈ l, isColT c.t
  | [], [], _, _, _, c, hc => by simp at hc
  | [], _ :: _, _, _, h, _, _ => by simp at h
  | _ :: _, [], _, _, h, _, _ => by simp at h
  | x :: s, y :: l, b, h, hl, c, hc => by
    rw [rTableGo] at h
    split at h
    · cases h
    · rename_i h1
      split at h
      · cases h
      · have hy : isColT y.t := Classical.byContradiction fun hn => h1 (.inr (.inr hn))
        rcases List.mem_cons.1 hc with rfl | hc
        · exact hy
        · exact table_cols s l _ h (by simpa using hl) c hc
theorem col_flat {c : VT} (h : isColT c.t) : flat9 c := by unfold isColT isVecT at h; unfold flat9; omega
theorem table_flat {n s l} (h : rPlain (.mk 98 n s l) = true) : ∀ c ∈ l, flat9 c := by
  rw [rPlain_mk] at h
  rw [if_neg (by unfold isAtomT; omega), if_neg (by unfold rAbs; omega), if_neg (by omega), if_neg (by omega), if_pos rfl] at h
  unfold rTable at h
  split at h
  · cases h
  · rename_i h1
    have h1 : ¬ (s.length = 0 ∨ s.length ≠ l.length) := h1
    exact fun c hc => col_flat (table_cols s l [] h (by omega) c hc)
theorem ok2_of {v : VT} (hg : v.Good) : ok2 v := by
  cases hg with
  | mk t n s l g1 g2 g3 g4 g5 g6 g7 g8 g9 =>
    refine ⟨fun e => ?_, fun e => ?_⟩
    · have e : t = 98 := e
      subst e
      intro x hx c hc
      simp at hx
      subst hx
      exact table_flat g5 c hc
    · have e : t = 99 := e
      subst e
      rw [rPlain_mk] at g5
      rw [if_neg (by unfold isAtomT; omega), if_neg (by unfold rAbs; omega), if_neg (by omega), if_neg (by omega), if_neg (by omega), if_pos rfl] at g5
      obtain ⟨h1, h2⟩ := of_decide_eq_true g5
      refine ⟨h1, fun e0 => ?_, fun e0 => ?_⟩
      · have e0 : (l.getD 0 default).t = 98 := e0
        have h3 : (l.getD 1 default).t = 98 := by
          rcases h2 with h2 | h2
          · unfold isColT isVecT at h2; omega
          · exact h2.2
        intro x hx c hc
        have hx : x ∈ l := hx
        have hxt : x.t = 98 := by
          match l, h1 with
          | [a, b], _ =>
            simp at hx e0 h3
            rcases hx with rfl | rfl
            · exact e0
            · exact h3
        have hgx := g9 x hx
        cases hgx with
        | mk t' n' s' l' k1 k2 k3 k4 k5 =>
          have hxt : t' = 98 := hxt
          subst hxt
          exact table_flat k5 c hc
      · have e0 : ¬ (l.getD 0 default).t = 98 := e0
        rcases h2 with h2 | h2
        · exact col_flat h2.2
        · exact absurd h2.1 e0
end Go.Qv
