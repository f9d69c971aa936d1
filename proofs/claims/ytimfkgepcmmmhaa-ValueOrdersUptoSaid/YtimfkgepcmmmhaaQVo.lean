/- The orders of values: plain facts on trees. No condition. -/
import Derived.Test.YtimfkgepcmmmhaaQWo
set_option linter.unusedVariables false
set_option linter.unusedSimpArgs false
set_option maxRecDepth 100000
namespace Go.Qv
open Go Go.RowKit Go.Proofs

/-! ### what three comparisons must be to one another -/
def T3 (x y z : Int) : Prop := (x ≤ 0 ∧ y ≤ 0 → z ≤ 0) ∧ (x < 0 ∧ y ≤ 0 → z < 0) ∧ (x ≤ 0 ∧ y < 0 → z < 0)
def C3 (x y z : Int) : Prop := T3 x y z ∧ T3 (-y) (-x) (-z)
def lex (x y : Int) : Int := if x ≠ 0 then x else y
theorem lex_or (x y : Int) : (x = 0 ∧ lex x y = y) ∨ (x ≠ 0 ∧ lex x y = x) := by
  unfold lex
  by_cases h : x = 0
  · exact .inl ⟨h, by simp [h]⟩
  · exact .inr ⟨h, by simp [h]⟩
theorem lex_C3 {x y z x' y' z' : Int} (h : C3 x y z) (h' : C3 x' y' z') : C3 (lex x x') (lex y y') (lex z z') := by
  unfold C3 T3 at *
  rcases lex_or x x' with ⟨p1, e1⟩ | ⟨p1, e1⟩ <;> rcases lex_or y y' with ⟨p2, e2⟩ | ⟨p2, e2⟩ <;> rcases lex_or z z' with ⟨p3, e3⟩ | ⟨p3, e3⟩ <;> rw [e1, e2, e3] <;> omega
theorem C3_zero : C3 0 0 0 := by unfold C3 T3; omega
theorem cmpI_C3 (a b c : Int) : C3 (cmpI a b) (cmpI b c) (cmpI a c) := by
  unfold C3 T3 cmpI
  split <;> split <;> split <;> (try split) <;> (try split) <;> (try split) <;> omega
theorem cmpI_anti (a b : Int) : cmpI b a = - cmpI a b := by
  unfold cmpI
  split <;> split <;> first | rfl | omega
theorem cmpI_zero {a b : Int} : cmpI a b = 0 ↔ a = b := by
  unfold cmpI
  split
  · omega
  · split <;> omega
theorem lex_anti {x y x' y' : Int} (h : x' = -x) (h' : y' = -y) : lex x' y' = - lex x y := by
  unfold lex; subst h; subst h'
  by_cases hx : x = 0
  · simp [hx]
  · rw [if_pos (by omega), if_pos hx]
theorem lex_zero {x y : Int} : lex x y = 0 ↔ x = 0 ∧ y = 0 := by
  unfold lex
  by_cases hx : x = 0
  · simp [hx]
  · rw [if_pos hx]; simp [hx]
theorem firstNZ5 (a b c d e : Int) : firstNZ [a, b, c, d, e] = lex a (lex b (lex c (lex d (lex e 0)))) := by
  have h : ∀ (x : Int) (l : List Int), firstNZ (x :: l) = lex x (firstNZ l) := fun x l => by
    unfold lex; rw [firstNZ]; by_cases hx : x = 0 <;> simp [hx]
  simp only [h]
  rfl
/-! ### lists -/
theorem cmpL_cons {α : Type} (f : α → α → Int) (x y : α) (a b : List α) : cmpL f (x :: a) (y :: b) = lex (f x y) (cmpL f a b) := by rw [cmpL]; rfl
theorem cmpL_C3 {α : Type} {f : α → α → Int} : ∀ (a b c : List α), (∀ x ∈ a, ∀ y ∈ b, ∀ z ∈ c, C3 (f x y) (f y z) (f x z)) → C3 (cmpL f a b) (cmpL f b c) (cmpL f a c)
  | [], [], [], _ => C3_zero
  | [], [], _ :: _, _ => by unfold C3 T3; simp only [cmpL]; omega
  | [], _ :: _, [], _ => by unfold C3 T3; simp only [cmpL]; omega
  | _ :: _, [], [], _ => by unfold C3 T3; simp only [cmpL]; omega
  | [], y :: b, z :: c, h => by
    unfold C3 T3; simp only [cmpL]; omega
  | x :: a, [], z :: c, h => by
    unfold C3 T3; simp only [cmpL]; omega
  | x :: a, y :: b, [], h => by
    unfold C3 T3; simp only [cmpL]; omega
  | x :: a, y :: b, z :: c, h => by
    rw [cmpL_cons, cmpL_cons, cmpL_cons]
    exact lex_C3 (h x (by simp) y (by simp) z (by simp)) (cmpL_C3 a b c (fun x hx y hy z hz => h x (by simp [hx]) y (by simp [hy]) z (by simp [hz])))
theorem cmpL_anti {α : Type} {f : α → α → Int} : ∀ (a b : List α), (∀ x ∈ a, ∀ y ∈ b, f y x = - f x y) → cmpL f b a = - cmpL f a b
  | [], [], _ => rfl
  | [], _ :: _, _ => rfl
  | _ :: _, [], _ => rfl
  | x :: a, y :: b, h => by
    rw [cmpL_cons, cmpL_cons]
    exact lex_anti (h x (by simp) y (by simp)) (cmpL_anti a b (fun x hx y hy => h x (by simp [hx]) y (by simp [hy])))
theorem cmpL_zero {α : Type} {f : α → α → Int} : ∀ (a b : List α), (∀ x ∈ a, ∀ y ∈ b, (f x y = 0 ↔ x = y)) → (cmpL f a b = 0 ↔ a = b)
  | [], [], _ => by simp [cmpL]
  | [], _ :: _, _ => by simp [cmpL]
  | _ :: _, [], _ => by simp [cmpL]
  | x :: a, y :: b, h => by
    rw [cmpL_cons, lex_zero, h x (by simp) y (by simp), cmpL_zero a b (fun x hx y hy => h x (by simp [hx]) y (by simp [hy]))]
    simp
/-! ### texts -/
def cmpB (a b : UInt8) : Int := cmpI a.toNat b.toNat
theorem cmpB_zero (a b : UInt8) : cmpB a b = 0 ↔ a = b := by unfold cmpB; rw [cmpI_zero]; constructor <;> intro h; exact UInt8.toNat_inj.1 (by omega); rw [h]
theorem bytes_cmp : ∀ (a b : List UInt8), (Op.bytesLess a b = true ↔ cmpL cmpB a b < 0)
  | [], [] => by simp [Op.bytesLess, cmpL]
  | [], _ :: _ => by simp [Op.bytesLess, cmpL]
  | _ :: _, [] => by simp [Op.bytesLess, cmpL]
  | x :: a, y :: b => by
    rw [cmpL_cons, Op.bytesLess, Bool.or_eq_true, Bool.and_eq_true, bytes_cmp a b, decide_eq_true_iff, beq_iff_eq, UInt8.lt_iff_toNat_lt, ← UInt8.toNat_inj]
    unfold lex cmpB cmpI
    by_cases h1 : x.toNat < y.toNat
    · simp [h1]
    · by_cases h2 : y.toNat < x.toNat
      · have : x.toNat ≠ y.toNat := by omega
        simp [h1, h2, this]
      · have : x.toNat = y.toNat := by omega
        simp [this]
theorem cmpS_cmp (x y : ByteArray) : cmpS x y = (if cmpL cmpB x.data.toList y.data.toList < 0 then -1 else if cmpL cmpB x.data.toList y.data.toList = 0 then 0 else 1) := by
  have hz := cmpL_zero x.data.toList y.data.toList (fun a _ b _ => cmpB_zero a b)
  have hb := bytes_cmp x.data.toList y.data.toList
  have he : x.data.toList = y.data.toList ↔ x = y := ⟨fun h => by cases x; cases y; simp at h; simpa using h, fun h => by rw [h]⟩
  unfold cmpS sless
  by_cases h1 : Op.bytesLess x.data.toList y.data.toList = true
  · rw [if_pos h1, if_pos (hb.1 h1)]
  · have h2 : ¬ cmpL cmpB x.data.toList y.data.toList < 0 := fun h => h1 (hb.2 h)
    rw [if_neg h1, if_neg h2]
    have h1 : Op.bytesLess x.data.toList y.data.toList = false := by cases h : Op.bytesLess x.data.toList y.data.toList <;> simp_all
    by_cases h3 : x = y
    · rw [if_pos (by simp [h3]), if_pos (hz.2 (he.2 h3))]
    · rw [if_neg (by simp [h1, h3]), if_neg (fun h => h3 (he.1 (hz.1 h)))]
theorem cmpS_C3 (a b c : ByteArray) : C3 (cmpS a b) (cmpS b c) (cmpS a c) := by
  have h := cmpL_C3 (f := cmpB) a.data.toList b.data.toList c.data.toList (fun x _ y _ z _ => cmpI_C3 _ _ _)
  rw [cmpS_cmp, cmpS_cmp, cmpS_cmp]
  unfold C3 T3 at *
  split <;> split <;> split <;> (try split) <;> (try split) <;> (try split) <;> omega
theorem cmpS_anti (a b : ByteArray) : cmpS b a = - cmpS a b := by
  have h := cmpL_anti (f := cmpB) a.data.toList b.data.toList (fun x _ y _ => cmpI_anti _ _)
  rw [cmpS_cmp, cmpS_cmp]
  split <;> split <;> (try split) <;> (try split) <;> omega
theorem cmpS_zero (a b : ByteArray) : cmpS a b = 0 ↔ a = b := by
  have hz := cmpL_zero a.data.toList b.data.toList (fun a _ b _ => cmpB_zero a b)
  have he : a.data.toList = b.data.toList ↔ a = b := ⟨fun h => by cases a; cases b; simp at h; simpa using h, fun h => by rw [h]⟩
  rw [cmpS_cmp, ← he, ← hz]
  split
  · omega
  · split <;> omega
/-! ### values -/
theorem vcmps_cmpL : ∀ (a b : List VT), vcmps a b = cmpL vcmp a b
  | [], [] => by simp [vcmps, cmpL]
  | [], _ :: _ => by simp [vcmps, cmpL]
  | _ :: _, [] => by simp [vcmps, cmpL]
  | x :: a, y :: b => by rw [vcmps, cmpL, vcmps_cmpL a b]
def flagT (t : Int) : Int := if isAtomT t then 0 else 1
theorem vcmp_lex (t n s l t' n' s' l') : vcmp (.mk t n s l) (.mk t' n' s' l') =
    lex (cmpI (vRank (.mk t n s l)) (vRank (.mk t' n' s' l'))) (lex (cmpI (flagT t) (flagT t')) (lex (cmpL cmpI n n') (lex (cmpL cmpS s s') (lex (cmpL vcmp l l') 0)))) := by
  rw [vcmp, firstNZ5, vcmps_cmpL]; rfl
theorem vcmp_C3 : ∀ (k : Nat) (a b c : VT), a.sz + b.sz + c.sz ≤ k → C3 (vcmp a b) (vcmp b c) (vcmp a c)
  | 0, .mk _ _ _ _, _, _, h => by simp [VT.sz] at h
  | k + 1, .mk t n s l, .mk t' n' s' l', .mk t'' n'' s'' l'', h => by
    rw [vcmp_lex, vcmp_lex, vcmp_lex]
    refine lex_C3 (cmpI_C3 _ _ _) (lex_C3 (cmpI_C3 _ _ _) (lex_C3 (cmpL_C3 _ _ _ (fun x _ y _ z _ => cmpI_C3 x y z)) (lex_C3 (cmpL_C3 _ _ _ (fun x _ y _ z _ => cmpS_C3 x y z)) (lex_C3 (cmpL_C3 _ _ _ (fun x hx y hy z hz => ?_)) C3_zero))))
    have h1 := sz_lt (t := t) (n := n) (s := s) hx
    have h2 := sz_lt (t := t') (n := n') (s := s') hy
    have h3 := sz_lt (t := t'') (n := n'') (s := s'') hz
    exact vcmp_C3 k x y z (by omega)
theorem vcmp_anti : ∀ (k : Nat) (a b : VT), a.sz + b.sz ≤ k → vcmp b a = - vcmp a b
  | 0, .mk _ _ _ _, _, h => by simp [VT.sz] at h
  | k + 1, .mk t n s l, .mk t' n' s' l', h => by
    rw [vcmp_lex, vcmp_lex]
    refine lex_anti (cmpI_anti _ _) (lex_anti (cmpI_anti _ _) (lex_anti (cmpL_anti _ _ (fun x _ y _ => cmpI_anti x y)) (lex_anti (cmpL_anti _ _ (fun x _ y _ => cmpS_anti x y)) (lex_anti (cmpL_anti _ _ (fun x hx y hy => ?_)) rfl))))
    have h1 := sz_lt (t := t) (n := n) (s := s) hx
    have h2 := sz_lt (t := t') (n := n') (s := s') hy
    exact vcmp_anti k x y (by omega)
end Go.Qv
