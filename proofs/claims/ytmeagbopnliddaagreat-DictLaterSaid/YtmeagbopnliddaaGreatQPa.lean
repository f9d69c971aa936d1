/- Contracts: lists compared, a place looked for, texts looked through. No condition. -/
import Derived.Test.YtmeagbopnliddaaGreatQSp
import Derived.Test.YtmeagbopnliddaaGreatQWa
set_option linter.unusedVariables false
set_option linter.unusedSimpArgs false
set_option maxRecDepth 100000
namespace Go.Qv
open Go Go.RowKit

theorem loop130 (a b : List Int) (ha : a.length ≤ maxLen) (i : Nat) (h1 : i ≤ a.length) (h2 : a.length = b.length) : Rh w130S (Ret (.bool (decide (a.drop i = b.drop i)))) (4, [.is a, .is b, .int a.length, .int i]) := by
  refine Rh.go (w130_4 a b a.length i _) ?_
  simp only [SQ, RhQ, eq_self, implies_true, forall_const, VT.eta, if_true, if_false]
  refine ⟨fun h => ⟨⟨by omega, by omega⟩, fun hne => Ret.bool ?_, fun he => ?_⟩, fun h => Ret.bool ?_⟩
  · rw [drop_at a 0 (show i < a.length by omega), drop_at b 0 (show i < b.length by omega), decide_eq_false (by intro e; injection e with e1 e2; exact hne e1)]
  · rw [inc ha (by omega)]
    have := loop130 a b ha (i + 1) (by omega) h2
    rw [drop_at a 0 (show i < a.length by omega), drop_at b 0 (show i < b.length by omega), he]
    simpa using this
  · rw [List.drop_of_length_le (by omega), List.drop_of_length_le (by omega)]; rfl
termination_by a.length - i
theorem run130 (a b : List Int) (ha : a.length ≤ maxLen) : Rh w130S (Ret (.bool (decide (a = b)))) (9999, [.is a, .is b]) := by
  refine Rh.go (w130_9999 a b _) ?_
  simp only [SQ, RhQ, eq_self, implies_true, forall_const, VT.eta, if_true, if_false]
  exact ⟨fun h => Ret.bool (decide_eq_false (by intro e; subst e; exact h rfl)), fun h => loop130 a b ha 0 (by omega) (by omega)⟩
theorem loop131 (a b : List ByteArray) (ha : a.length ≤ maxLen) (i : Nat) (h1 : i ≤ a.length) (h2 : a.length = b.length) : Rh w131S (Ret (.bool (decide (a.drop i = b.drop i)))) (4, [.ss a, .ss b, .int a.length, .int i]) := by
  refine Rh.go (w131_4 a b a.length i _) ?_
  simp only [SQ, RhQ, eq_self, implies_true, forall_const, VT.eta, if_true, if_false]
  refine ⟨fun h => ⟨⟨by omega, by omega⟩, fun hne => Ret.bool ?_, fun he => ?_⟩, fun h => Ret.bool ?_⟩
  · rw [drop_at a ⟨#[]⟩ (show i < a.length by omega), drop_at b ⟨#[]⟩ (show i < b.length by omega), decide_eq_false (by intro e; injection e with e1 e2; exact hne e1)]
  · rw [inc ha (by omega)]
    have := loop131 a b ha (i + 1) (by omega) h2
    rw [drop_at a ⟨#[]⟩ (show i < a.length by omega), drop_at b ⟨#[]⟩ (show i < b.length by omega), he]
    simpa using this
  · rw [List.drop_of_length_le (by omega), List.drop_of_length_le (by omega)]; rfl
termination_by a.length - i
theorem run131 (a b : List ByteArray) (ha : a.length ≤ maxLen) : Rh w131S (Ret (.bool (decide (a = b)))) (9999, [.ss a, .ss b]) := by
  refine Rh.go (w131_9999 a b _) ?_
  simp only [SQ, RhQ, eq_self, implies_true, forall_const, VT.eta, if_true, if_false]
  exact ⟨fun h => Ret.bool (decide_eq_false (by intro e; subst e; exact h rfl)), fun h => loop131 a b ha 0 (by omega) (by omega)⟩
/-- Where a number stands. -/
def idxI (x : Int) : List Int → Int → Int
  | [], _ => -1
  | y :: l, n => if x = y then n else idxI x l (n + 1)
/-- The first that is not 0. -/
def firstNZ : List Int → Int
  | [] => 0
  | y :: l => if y = 0 then firstNZ l else y
/-- Has a text no byte 0? -/
def noZero (s : ByteArray) : Bool := !s.data.toList.contains 0
theorem loop148 (s : ByteArray) (hs : s.size ≤ maxLen) (i : Nat) (h1 : i ≤ s.size) : Rh w148S (Ret (.bool (!(s.data.toList.drop i).contains 0))) (2, [.str s, .int i]) := by
  refine Rh.go (w148_2 s i _) ?_
  simp only [SQ, RhQ, eq_self, implies_true, forall_const, VT.eta, if_true, if_false]
  have hsz := size_list s
  refine ⟨fun h => ⟨⟨by omega, by omega⟩, ?_⟩, fun h => ?_⟩
  · rw [byte_at s (show i < s.size by omega), drop_at s.data.toList 0 (show i < s.data.toList.length by omega)]
    refine ⟨fun he => Ret.bool ?_, fun he => ?_⟩
    · have : s.data.toList.getD i 0 = 0 := UInt8.toNat_inj.1 (by simpa using he)
      rw [this]; simp
    · rw [inc hs (by omega)]
      have h0 : s.data.toList.getD i 0 ≠ 0 := fun e => he (by rw [e]; rfl)
      have := loop148 s hs (i + 1) (by omega)
      have e : (s.data.toList.getD i 0 :: s.data.toList.drop (i + 1)).contains 0 = (s.data.toList.drop (i + 1)).contains 0 := by
        rw [List.contains_cons]
        have : ((0 : UInt8) == s.data.toList.getD i 0) = false := by rw [beq_eq_false_iff_ne]; exact fun e => h0 e.symm
        rw [this, Bool.false_or]
      rw [e]
      exact this
  · rw [List.drop_of_length_le (by omega)]; rfl
termination_by s.size - i
theorem run148 (s : ByteArray) (hs : s.size ≤ maxLen) : Rh w148S (Ret (.bool (noZero s))) (9999, [.str s]) := by
  refine Rh.go (w148_9999 s _) ?_
  simp only [SQ, RhQ, eq_self, implies_true, forall_const, VT.eta, if_true, if_false]
  exact loop148 s hs 0 (by omega)
def longer (most : Int) (l : List ByteArray) : Bool := l.any fun s => decide (most < s.size)
theorem loop123 (most t : Int) (n : List Int) (s : List ByteArray) (l : List VT) (hs : s.length ≤ maxLen) (i : Nat) (h1 : i ≤ s.length) : Rh w123S (Ret (.bool (longer most (s.drop i)))) (5, [.int most, .int i, .int t, .is n, .ss s, .vs l]) := by
  refine Rh.go (w123_5 most i t n s l _) ?_
  simp only [SQ, RhQ, eq_self, implies_true, forall_const, VT.eta, if_true, if_false]
  refine ⟨fun h => ⟨⟨by omega, by omega⟩, fun he => ?_, fun he => ?_⟩, fun h => ?_⟩
  · rw [drop_at s ⟨#[]⟩ (show i < s.length by omega)]
    exact Ret.bool (by simp [longer, -List.getD_eq_getElem?_getD, he])
  · rw [inc hs (by omega)]
    have := loop123 most t n s l hs (i + 1) (by omega)
    rw [drop_at s ⟨#[]⟩ (show i < s.length by omega)]
    have e : longer most (s.getD i ⟨#[]⟩ :: s.drop (i + 1)) = longer most (s.drop (i + 1)) := by simp only [longer, List.any_cons, decide_eq_false he, Bool.false_or]
    rw [e]
    exact this
  · rw [List.drop_of_length_le (by omega)]; rfl
termination_by s.length - i
/-- R.long -/
def rLong (v : VT) : Bool := longer (if v.t = 100 then 65536 else 64) v.s
theorem run123 (t : Int) (n : List Int) (s : List ByteArray) (l : List VT) (hs : s.length ≤ maxLen) : Rh w123S (Ret (.bool (rLong (.mk t n s l)))) (9999, [.int t, .is n, .ss s, .vs l]) := by
  refine Rh.go (w123_9999 t n s l _) ?_
  simp only [SQ, RhQ, eq_self, implies_true, forall_const, VT.eta, if_true, if_false]
  refine ⟨fun h => ?_, fun h => ?_⟩
  · simp only [rLong, VT.t, VT.s, h, if_true]; exact h ▸ loop123 65536 t n s l hs 0 (by omega)
  · simp only [rLong, VT.t, VT.s, h, if_false]; exact loop123 64 t n s l hs 0 (by omega)
end Go.Qv
