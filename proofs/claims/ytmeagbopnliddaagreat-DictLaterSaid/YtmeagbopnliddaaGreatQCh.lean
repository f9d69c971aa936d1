/- What is small is of small bulk, and a value. No condition. -/
import Derived.Test.YtmeagbopnliddaaGreatQCg
set_option linter.unusedVariables false
set_option linter.unusedSimpArgs false
set_option maxRecDepth 100000
namespace Go.Qv
open Go Go.RowKit Go.Proofs
mutual
def cst : VT → Nat
  | .mk _ n s l => 1 + n.length + s.length + csts l
def csts : List VT → Nat
  | [] => 0
  | x :: l => cst x + csts l
end
theorem longer_all {m : Int} {l : List ByteArray} (h : longer m l = false) : ∀ x ∈ l, (x.size : Int) ≤ m := by
  intro x hx
  unfold longer at h
  rw [List.any_eq_false] at h
  have := h x hx
  simp at this
  exact this
theorem node_facts {t n s l} {k : Int} (hL : (VT.mk t n s l).Len) (hp : rParts (.mk t n s l) k = 0) : n.length + s.length ≤ 65536 ∧ (∀ x ∈ s, x.size ≤ 65536) ∧ (k ≠ 0 → rPartsL l (IntKind.i64.wrap (k - 1)) = 0) := by
  rw [rParts] at hp
  split at hp
  · cases hp
  · rename_i h1
    split at hp
    · cases hp
    · rename_i h2
      split at hp
      · cases hp
      · rename_i h3
        split at hp
        · cases hp
        · rename_i h4
          simp only [not_or, not_and] at h1
          have fI : rfI t = true := by cases hh : rfI t with | true => rfl | false => exact absurd hh h1.1
          have fN : rfN t = false → n.length = 0 := fun e => by have := h1.2.1 e; omega
          have fS : rfS t = false → s.length = 0 := fun e => by have := h1.2.2.1 e; omega
          have hM : (if t = 3 then decide ((65536 : Int) < s.length) else if 1 ≤ t ∧ t ≤ 5 then decide ((65536 : Int) < n.length) else if t = 98 then decide ((64 : Int) < s.length) || decide ((64 : Int) < l.length) else decide (t = 0) && decide ((65536 : Int) < l.length)) = false := by
            cases hh : rMany (.mk t n s l) with
            | true => exact absurd hh h2
            | false => exact hh
          have hG : longer (if t = 100 then 65536 else 64) s = false := by
            cases hh : rLong (.mk t n s l) with
            | true => exact absurd hh h3
            | false => exact hh
          have hP : rPlain (.mk t n s l) = true := by
            cases hh : rPlain (.mk t n s l) with
            | true => rfl
            | false => exact absurd hh h4
          have hn := hL.n
          have hs := hL.s
          simp only [maxLen] at hn hs
          refine ⟨?_, fun x hx => ?_, fun hk => ?_⟩
          · have one := @fields_one t
            rcases types fI with ⟨a1, a2, a3⟩ | ⟨a, a3⟩
            · have hw : IntKind.i64.wrap ((n.length : Int) + s.length) = 1 := by
                refine Classical.byContradiction fun hh => ?_
                have : rPlain (.mk t n s l) = if isAtomT t ∧ IntKind.i64.wrap (n.length + s.length) ≠ 1 then false else _ := rfl
                rw [this, if_pos ⟨⟨a1, a2⟩, hh⟩] at hP
                cases hP
              rcases one with o | o
              · have := fN o
                rw [w64 (by omega) (by omega)] at hw
                omega
              · have := fS o
                rw [w64 (by omega) (by omega)] at hw
                omega
            · by_cases e3 : t = 3
              · rw [if_pos e3] at hM
                have hM := of_decide_eq_false hM
                have := fN (by rw [e3]; decide)
                omega
              · by_cases e5 : 1 ≤ t ∧ t ≤ 5
                · rw [if_neg e3, if_pos e5] at hM
                  have hM := of_decide_eq_false hM
                  have hS : rfS t = false := by unfold rfS rFields; rw [a3, if_neg e3, if_pos ⟨⟨by omega, e5.1⟩, e5.2⟩]
                  have := fS hS
                  omega
                · have hN0 : rfN t = false := by
                    unfold rfN rFields
                    rw [a3, if_neg e3, if_neg (by omega)]
                    (repeat' split) <;> rfl
                  have n0 := fN hN0
                  by_cases e98 : t = 98
                  · rw [if_neg e3, if_neg e5, if_pos e98, Bool.or_eq_false_iff] at hM
                    have hM := of_decide_eq_false hM.1
                    omega
                  · by_cases e100 : t = 100
                    · have hP' : rPlain (.mk t n s l) = if isAtomT t ∧ IntKind.i64.wrap (n.length + s.length) ≠ 1 then false else if rAbs t = 1 then n.all fun x => decide (x = 0 ∨ x = 1) else if t = 100 then decide (s.length = 1 ∧ 2 ≤ (s.getD 0 ⟨#[]⟩).size ∧ byteI (s.getD 0 ⟨#[]⟩) 0 = 123 ∧ byteI (s.getD 0 ⟨#[]⟩) ((s.getD 0 ⟨#[]⟩).size - 1) = 125) else _ := rfl
                      rw [hP', if_neg (fun hh => by have := hh.1; unfold isAtomT at this; omega), if_neg (by omega), if_pos e100] at hP
                      have := (of_decide_eq_true hP).1
                      omega
                    · have hS0 : rfS t = false := by
                        unfold rfS rFields
                        rw [a3, if_neg e3, if_neg (by omega)]
                        (repeat' split) <;> first | rfl | omega
                      have := fS hS0
                      omega
          · have := longer_all hG x hx
            split at this <;> omega
          · split at hp
            · cases hp
            · first | exact hp | (rw [if_neg hk] at hp; exact hp)
theorem partsL_all {k : Int} : ∀ {l : List VT}, rPartsL l k = 0 → ∀ x ∈ l, rParts x k = 0
  | y :: l, h, x, hx => by
    rw [rPartsL] at h
    split at h
    · rename_i h1; exact absurd h h1
    · rename_i h1
      rcases List.mem_cons.1 hx with rfl | hx
      · exact Decidable.not_not.1 h1
      · exact partsL_all h x hx
theorem strs_bd : ∀ {s : List ByteArray}, (∀ x ∈ s, x.size ≤ 65536) → strs s ≤ 65537 * s.length
  | [], _ => by simp [strs]
  | x :: s, h => by
    have := strs_bd (fun y hy => h y (List.mem_cons_of_mem _ hy))
    have := h x List.mem_cons_self
    simp only [strs, List.length_cons]
    omega
theorem left_bd : ∀ (m : Nat) (v : VT) (k d : Int) (K : Nat), v.sz ≤ m → v.Len → k ≤ 2400 → 0 ≤ k → 0 ≤ d → 102 ≤ d + K → K ≤ 1048576 → rParts v K = 0 → 0 ≤ leftI v k d → (cst v : Int) + leftI v k d ≤ k ∧ v.bk ≤ 65537 * cst v ∧ v.sz ≤ cst v
  | 0, .mk t n s l, k, d, K, hm, _, _, _, _, _, _, _, _ => by simp [VT.sz] at hm
  | m + 1, .mk t n s l, k, d, K, hm, hL, hk, hk0, hd, hK, hK2, hp, h0 => by
    obtain ⟨f1, f2, f3⟩ := node_facts hL hp
    have hs := strs_bd f2
    rw [leftI] at h0 ⊢
    by_cases hd1 : 100 < d
    · rw [if_pos hd1] at h0; omega
    rw [if_neg hd1] at h0 ⊢
    have hpl := f3 (by omega)
    rw [w64 (by omega) (by omega)] at hpl
    have e1 : IntKind.i64.wrap (IntKind.i64.wrap (IntKind.i64.wrap (k - 1) - n.length) - s.length) = k - 1 - n.length - s.length := by
      rw [show IntKind.i64.wrap (k - 1) = k - 1 from w64 (by omega) (by omega), show IntKind.i64.wrap (k - 1 - (n.length : Int)) = k - 1 - n.length from w64 (by omega) (by omega), w64 (by omega) (by omega)]
    rw [e1] at h0 ⊢
    have lst : ∀ (l' : List VT) (k' : Int), (∀ x ∈ l', x ∈ l) → k' ≤ 2400 → 0 ≤ leftL l' k' d → 0 ≤ k' ∧ (csts l' : Int) + leftL l' k' d ≤ k' ∧ bks l' ≤ 65537 * csts l' ∧ szs l' ≤ csts l' := by
      intro l'
      induction l' with
      | nil => intro k' _ _ h; rw [leftL] at h ⊢; exact ⟨h, by simp [csts], by simp [bks, csts], by simp [szs, csts]⟩
      | cons x l' ih =>
        intro k' hm' hk' h
        rw [leftL] at h ⊢
        by_cases hk0' : 0 ≤ k'
        · rw [if_pos hk0'] at h ⊢
          rw [show IntKind.i64.wrap (d + 1) = d + 1 from w64 (by omega) (by omega)] at h ⊢
          have hx := hm' x List.mem_cons_self
          have hsz := sz_lt (t := t) (n := n) (s := s) hx
          have hpx := partsL_all hpl x hx
          have hkx : ((K : Int) - 1) = ((K - 1 : Nat) : Int) := by omega
          rw [hkx] at hpx
          by_cases hl0 : 0 ≤ leftI x k' (d + 1)
          · obtain ⟨a1, a2, a3⟩ := left_bd m x k' (d + 1) (K - 1) (by omega) (hL.mem x hx) hk' hk0' (by omega) (by omega) (by omega) hpx hl0
            obtain ⟨b0, b1, b2, b3⟩ := ih (leftI x k' (d + 1)) (fun y hy => hm' y (List.mem_cons_of_mem _ hy)) (by omega) h
            rw [csts, bks_cons, szs]
            refine ⟨hk0', by push_cast; omega, by omega, by omega⟩
          · exfalso
            have neg : ∀ (l2 : List VT) (k2 : Int), k2 < 0 → leftL l2 k2 d < 0 := by
              intro l2 k2 h2
              cases l2 with
              | nil => rw [leftL]; exact h2
              | cons y l2 => rw [leftL, if_neg (by omega)]; exact h2
            have := neg l' _ (by omega : leftI x k' (d + 1) < 0)
            omega
        · rw [if_neg hk0'] at h; exact absurd h hk0'
    obtain ⟨c0, c1, c2, c3⟩ := lst l (k - 1 - n.length - s.length) (fun x hx => hx) (by omega) h0
    rw [cst, VT.bk_eq, VT.sz]
    refine ⟨by push_cast; omega, by omega, by omega⟩
end Go.Qv
