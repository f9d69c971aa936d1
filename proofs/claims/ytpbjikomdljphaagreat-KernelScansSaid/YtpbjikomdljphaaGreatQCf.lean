/- The orders of values: plain facts on trees. No condition. -/
import Derived.Test.YtpbjikomdljphaaGreatQPe
set_option linter.unusedVariables false
set_option linter.unusedSimpArgs false
set_option maxRecDepth 100000
namespace Go.Qv
open Go Go.RowKit Go.Proofs

/-! ### what three comparisons must be to one another -/
def lex (x y : Int) : Int := if x ≠ 0 then x else y
theorem cmpI_zero {a b : Int} : cmpI a b = 0 ↔ a = b := by
  unfold cmpI
  split
  · omega
  · split <;> omega
theorem lex_zero {x y : Int} : lex x y = 0 ↔ x = 0 ∧ y = 0 := by
  unfold lex
  by_cases hx : x = 0
  · simp [hx]
  · rw [if_pos hx]; simp [hx]
theorem firstNZ5 (a b c d e : Int) : firstNZ [a, b, c, d, e] = lex a (lex b (lex c (lex d (lex e 0)))) := by
  have h : ∀ (x : Int) (l : List Int), firstNZ (x :: l) = lex x (firstNZ l) := fun x l => by
    unfold lex; rw [firstNZ]; by_cases hx : x = 0 <;> simp [hx]
  simp only [h]
  rfl
/-! ### lists -/
theorem cmpL_cons {α : Type} (f : α → α → Int) (x y : α) (a b : List α) : cmpL f (x :: a) (y :: b) = lex (f x y) (cmpL f a b) := by rw [cmpL]; rfl
theorem cmpL_zero {α : Type} {f : α → α → Int} : ∀ (a b : List α), (∀ x ∈ a, ∀ y ∈ b, (f x y = 0 ↔ x = y)) → (cmpL f a b = 0 ↔ a = b)
  | [], [], _ => by simp [cmpL]
  | [], _ :: _, _ => by simp [cmpL]
  | _ :: _, [], _ => by simp [cmpL]
  | x :: a, y :: b, h => by
    rw [cmpL_cons, lex_zero, h x (by simp) y (by simp), cmpL_zero a b (fun x hx y hy => h x (by simp [hx]) y (by simp [hy]))]
    simp
/-! ### texts -/
def cmpU8 (a b : UInt8) : Int := cmpI a.toNat b.toNat
theorem cmpU8_zero (a b : UInt8) : cmpU8 a b = 0 ↔ a = b := by unfold cmpU8; rw [cmpI_zero]; constructor <;> intro h; exact UInt8.toNat_inj.1 (by omega); rw [h]
theorem bytes_cmp : ∀ (a b : List UInt8), (Op.bytesLess a b = true ↔ cmpL cmpU8 a b < 0)
  | [], [] => by simp [Op.bytesLess, cmpL]
  | [], _ :: _ => by simp [Op.bytesLess, cmpL]
  | _ :: _, [] => by simp [Op.bytesLess, cmpL]
  | x :: a, y :: b => by
    rw [cmpL_cons, Op.bytesLess, Bool.or_eq_true, Bool.and_eq_true, bytes_cmp a b, decide_eq_true_iff, beq_iff_eq, UInt8.lt_iff_toNat_lt, ← UInt8.toNat_inj]
    unfold lex cmpU8 cmpI
    by_cases h1 : x.toNat < y.toNat
    · simp [h1]
    · by_cases h2 : y.toNat < x.toNat
      · have : x.toNat ≠ y.toNat := by omega
        simp [h1, h2, this]
      · have : x.toNat = y.toNat := by omega
        simp [this]
theorem cmpS_cmp (x y : ByteArray) : cmpS x y = (if cmpL cmpU8 x.data.toList y.data.toList < 0 then -1 else if cmpL cmpU8 x.data.toList y.data.toList = 0 then 0 else 1) := by
  have hz := cmpL_zero x.data.toList y.data.toList (fun a _ b _ => cmpU8_zero a b)
  have hb := bytes_cmp x.data.toList y.data.toList
  have he : x.data.toList = y.data.toList ↔ x = y := ⟨fun h => by cases x; cases y; simp at h; simpa using h, fun h => by rw [h]⟩
  unfold cmpS sless
  by_cases h1 : Op.bytesLess x.data.toList y.data.toList = true
  · rw [if_pos h1, if_pos (hb.1 h1)]
  · have h2 : ¬ cmpL cmpU8 x.data.toList y.data.toList < 0 := fun h => h1 (hb.2 h)
    rw [if_neg h1, if_neg h2]
    have h1 : Op.bytesLess x.data.toList y.data.toList = false := by cases h : Op.bytesLess x.data.toList y.data.toList <;> simp_all
    by_cases h3 : x = y
    · rw [if_pos (by simp [h3]), if_pos (hz.2 (he.2 h3))]
    · rw [if_neg (by simp [h1, h3]), if_neg (fun h => h3 (he.1 (hz.1 h)))]
theorem cmpS_zero (a b : ByteArray) : cmpS a b = 0 ↔ a = b := by
  have hz := cmpL_zero a.data.toList b.data.toList (fun a _ b _ => cmpU8_zero a b)
  have he : a.data.toList = b.data.toList ↔ a = b := ⟨fun h => by cases a; cases b; simp at h; simpa using h, fun h => by rw [h]⟩
  rw [cmpS_cmp, ← he, ← hz]
  split
  · omega
  · split <;> omega
/-! ### values -/
theorem vcmps_cmpL : ∀ (a b : List VT), vcmps a b = cmpL vcmp a b
  | [], [] => by simp [vcmps, cmpL]
  | [], _ :: _ => by simp [vcmps, cmpL]
  | _ :: _, [] => by simp [vcmps, cmpL]
  | x :: a, y :: b => by rw [vcmps, cmpL, vcmps_cmpL a b]
def flagT (t : Int) : Int := if isAtomT t then 0 else 1
theorem vcmp_lex (t n s l t' n' s' l') : vcmp (.mk t n s l) (.mk t' n' s' l') =
    lex (cmpI (vRank (.mk t n s l)) (vRank (.mk t' n' s' l'))) (lex (cmpI (flagT t) (flagT t')) (lex (cmpL cmpI n n') (lex (cmpL cmpS s s') (lex (cmpL vcmp l l') 0)))) := by
  rw [vcmp, firstNZ5, vcmps_cmpL]; rfl
end Go.Qv
