/- Contracts of the readers of values. No condition. -/
import Derived.Test.YtmeagbopnliddaaGreatQPbM
set_option linter.unusedVariables false
set_option linter.unusedSimpArgs false
set_option maxRecDepth 100000
namespace Go.Qv
open Go Go.RowKit Go.Proofs

theorem ok148 : Pure1 Tryz.prog 148 sp148 := by
  intro xs F w cs R ha h
  obtain ⟨s, rfl, h⟩ := onStr_inv h
  obtain ⟨h1, h⟩ := when_inv h
  exact contract (fn := Tryz.f148) (walked0 14) (by kernel_rfl) w148C_ok (by rfl) (by rfl) (by rfl) (by rfl) (by rfl) ha (run148 s h1) h
theorem ok123 : Pure1 Tryz.prog 123 sp123 := by
  intro xs F w cs R ha h
  obtain ⟨x, a, rfl, h1, h⟩ := onV_inv h
  have ha := ha.conv1 (fun v => as_V h1)
  obtain ⟨v, hv⟩ := ha.at 0 rfl
  obtain ⟨t, n, s, l⟩ := a
  exact contract (fn := Tryz.f123) (walked0 14) (by kernel_rfl) w123C_ok (by rfl) (by rfl) (by rfl) (by rfl) (by rfl) ha (run123 t n s l hv.vlen.s) h
/-! ### what is reckoned from a type -/
theorem run112 (t : Int) : Rh w112S (Ret (.int .i64 (rAbs t))) (9999, [.int t]) := by
  refine Rh.go (w112_9999 t _) ?_
  simp only [SQ, RhQ, eq_self, implies_true, forall_const, VT.eta, if_true, if_false]
  refine ⟨fun h => Ret.int ?_, fun h => Ret.int ?_⟩
  · unfold rAbs; rw [if_pos ⟨h.1, h.2⟩, w64] <;> omega
  · unfold rAbs; rw [if_neg]; rintro ⟨h1, h2⟩; rcases h with h | h <;> omega
theorem run97 (t : Int) : Rh w97S (Ret (.int .i64 (rAbs t))) (9999, [.int t]) := by
  refine Rh.go (w97_9999 t _) ?_
  simp only [SQ, RhQ, eq_self, implies_true, forall_const, VT.eta, if_true, if_false]
  refine ⟨fun h => Ret.int ?_, fun h => Ret.int ?_⟩
  · unfold rAbs; rw [if_pos ⟨h.1, h.2⟩, w64] <;> omega
  · unfold rAbs; rw [if_neg]; rintro ⟨h1, h2⟩; rcases h with h | h <;> omega
theorem ok112 : Pure1 Tryz.prog 112 spAbs := by
  intro xs F w cs R ha h
  obtain ⟨s, rfl, h⟩ := onInt_inv h
  exact contract (fn := Tryz.f112) (walked (PureOk.none _) 14) (by kernel_rfl) w112C_ok (by rfl) (by rfl) (by rfl) (by rfl) (by rfl) ha (run112 s) h
theorem ok97 : Pure1 Tryz.prog 97 spAbs := by
  intro xs F w cs R ha h
  obtain ⟨s, rfl, h⟩ := onInt_inv h
  exact contract (fn := Tryz.f97) (walked (PureOk.none _) 14) (by kernel_rfl) w97C_ok (by rfl) (by rfl) (by rfl) (by rfl) (by rfl) ha (run97 s) h
theorem okAB : PureOk Tryz.prog (PS.also 112 spAbs (PS.also 97 spAbs PS.none)) := PureOk.also ok112 (PureOk.also ok97 (PureOk.none _))
theorem run121 (t : Int) : Rh w121S (Ret (.tup [.bool (rfN t), .bool (rfS t), .bool (rfL t), .bool (rfI t)])) (9999, [.int t]) := by
  refine Rh.go (w121_9999 t _) ?_
  simp only [SQ, RhQ, eq_self, implies_true, forall_const, VT.eta, if_true, if_false]
  have key : ∀ {p : Bool × Bool × Bool × Bool}, rFields t = p → Ret (.tup [.bool (rfN t), .bool (rfS t), .bool (rfL t), .bool (rfI t)]) ⟨.tup [.bool p.1, .bool p.2.1, .bool p.2.2.1, .bool p.2.2.2], [], [], []⟩ := fun h => by
    unfold rfN rfS rfL rfI; rw [h]; rfl
  refine ⟨fun h1 => key (p := (_, _, _, _)) (by unfold rFields; rw [if_pos h1]), fun h1 => ⟨fun h2 => key (p := (_, _, _, _)) (by unfold rFields; rw [if_neg h1, if_pos (by omega)]), fun h2 => ⟨fun h3 => key (p := (_, _, _, _)) (by unfold rFields; rw [if_neg h1, if_neg (by omega), if_pos h3]), fun h3 => ⟨fun h4 => key (p := (_, _, _, _)) (by unfold rFields; rw [if_neg h1, if_neg (by omega), if_neg (by omega), if_pos h4]), fun h4 => ⟨fun h5 => key (p := (_, _, _, _)) (by unfold rFields; rw [if_neg h1, if_neg (by omega), if_neg (by omega), if_neg h4, if_pos h5]), fun h5 => key (p := (_, _, _, _)) (by unfold rFields; rw [if_neg h1, if_neg (by omega), if_neg (by omega), if_neg h4, if_neg h5]; rfl)⟩⟩⟩⟩⟩
theorem ok121 : Pure1 Tryz.prog 121 sp121 := by
  intro xs F w cs R ha h
  obtain ⟨s, rfl, h⟩ := onInt_inv h
  exact contract (fn := Tryz.f121) (walked okAB 14) (by kernel_rfl) w121C_ok (by rfl) (by rfl) (by rfl) (by rfl) (by rfl) ha (run121 s) h
/-! ### lists of values, tables -/
theorem loop145 (t n s l) (hl : l.length ≤ maxLen) (a : Bool) (i : Nat) (h1 : i ≤ l.length) : Rh w145S (Ret (.bool (rListGo (l.getD 0 default).t a (l.drop i)))) (3, [.bool a, .int i, .int t, .is n, .ss s, .vs l]) := by
  refine Rh.go (w145_3 a i t n s l _) ?_
  simp only [SQ, RhQ, eq_self, implies_true, forall_const, VT.eta, if_true, if_false]
  refine ⟨fun h => ⟨⟨by omega, by omega⟩, fun h2 => ?_, fun h2 => ⟨⟨⟨by omega, by omega⟩, fun _ => ⟨by omega, by omega⟩, fun _ => ⟨by omega, by omega⟩⟩, fun h3 => ?_, fun h3 => ?_⟩⟩, fun h => ?_⟩
  · rw [drop_at l default (show i < l.length by omega)]
    exact Ret.bool (by rw [rListGo, if_pos h2])
  · rw [inc hl (by omega), drop_at l default (show i < l.length by omega), rListGo, if_neg h2]
    have e : decide (isAtomT (l.getD i default).t ∧ (l.getD i default).t = (l.getD 0 default).t) = false := decide_eq_false (by
      rintro ⟨⟨a1, a2⟩, a3⟩
      rcases h3 with (h3 | h3) | h3
      · exact h3 a1
      · exact h3 a2
      · exact h3 a3)
    rw [e, Bool.and_false]
    exact loop145 t n s l hl false (i + 1) (by omega)
  · rw [inc hl (by omega), drop_at l default (show i < l.length by omega), rListGo, if_neg h2]
    have e : decide (isAtomT (l.getD i default).t ∧ (l.getD i default).t = (l.getD 0 default).t) = true := decide_eq_true ⟨h3.1, h3.2⟩
    rw [e, Bool.and_true]
    exact loop145 t n s l hl a (i + 1) (by omega)
  · rw [List.drop_of_length_le (by omega)]; exact Ret.bool rfl
termination_by l.length - i
theorem run145 (t n s l) (hl : l.length ≤ maxLen) : Rh w145S (Ret (.bool (rList (.mk t n s l)))) (9999, [.int t, .is n, .ss s, .vs l]) := by
  refine Rh.go (w145_9999 t n s l _) ?_
  simp only [SQ, RhQ, eq_self, implies_true, forall_const, VT.eta, if_true, if_false]
  have := loop145 t n s l hl (decide (0 < l.length)) 0 (by omega)
  unfold rList
  simp only [VT.l]
  have e : decide ((0 : Int) < (l.length : Int)) = decide (0 < l.length) := by rw [decide_eq_decide]; omega
  rw [e]
  exact this
theorem ok145 : Pure1 Tryz.prog 145 sp145 := by
  intro xs F w cs R ha h
  obtain ⟨x, a, rfl, h1, h⟩ := onV_inv h
  have ha := ha.conv1 (fun v => as_V h1)
  obtain ⟨v, hv⟩ := ha.at 0 rfl
  obtain ⟨t, n, s, l⟩ := a
  exact contract (fn := Tryz.f145) (walked0 14) (by kernel_rfl) w145C_ok (by rfl) (by rfl) (by rfl) (by rfl) (by rfl) ha (run145 t n s l hv.vlen.l) h
theorem inner146 (t n s l) (hs : s.length ≤ maxLen) (i : Nat) (hi : i < s.length) (X : Bool) (ho : Rh w146S (Ret (.bool X)) (4, [.int (i + 1 : Nat), .int t, .is n, .ss s, .vs l])) (k : Nat) (hk : k ≤ i) :
    Rh w146S (Ret (.bool (if ((s.take i).drop k).any (fun y => decide (y = s.getD i ⟨#[]⟩)) then false else X))) (9, [.int i, .int k, .int t, .is n, .ss s, .vs l]) := by
  refine Rh.go (w146_9 i k t n s l _) ?_
  simp only [SQ, RhQ, eq_self, implies_true, forall_const, VT.eta, if_true, if_false]
  have e : k < i → (s.take i).drop k = s.getD k ⟨#[]⟩ :: (s.take i).drop (k + 1) := fun h => by
    rw [drop_at (s.take i) ⟨#[]⟩ (by simp; omega)]
    congr 1
    rw [List.getD_eq_getElem?_getD, List.getD_eq_getElem?_getD, List.getElem?_take_of_lt h]
  refine ⟨fun h => ⟨⟨⟨by omega, by omega⟩, by omega, by omega⟩, fun he => ?_, fun he => ?_⟩, fun h => ?_⟩
  · rw [e (by omega)]
    exact Ret.bool (by rw [List.any_cons, decide_eq_true he, Bool.true_or, if_pos rfl])
  · rw [inc hs (show k < s.length by omega)]
    have := inner146 t n s l hs i hi X ho (k + 1) (by omega)
    rw [e (by omega), List.any_cons, decide_eq_false he, Bool.false_or]
    exact this
  · rw [inc hs hi, List.drop_of_length_le (by simp; omega)]
    exact ho
termination_by i - k
theorem loop146 (t n s l) (hs : s.length ≤ maxLen) (hsl : s.length = l.length) (hsh : ∀ x ∈ s, x.size ≤ maxLen) (i : Nat) (h1 : i ≤ s.length) : Rh w146S (Ret (.bool (rTableGo (s.take i) (s.drop i) (l.drop i)))) (4, [.int i, .int t, .is n, .ss s, .vs l]) := by
  refine Rh.go (w146_4 i t n s l _) ?_
  simp only [SQ, RhQ, eq_self, implies_true, forall_const, VT.eta, if_true, if_false]
  refine ⟨fun h => ⟨⟨by omega, by omega⟩, fun _ => ⟨by omega, by omega⟩, fun _ => hsh _ (getD_mem s _ (by omega)), fun _ => ⟨by omega, by omega⟩, fun h2 => ?_, fun h2 => ?_⟩, fun h => ?_⟩
  · rw [drop_at s ⟨#[]⟩ (show i < s.length by omega), drop_at l default (show i < l.length by omega)]
    refine Ret.bool ?_
    rw [rTableGo, if_pos]
    rcases h2 with (h2 | h2) | h2
    · exact .inl h2
    · exact .inr (.inl h2)
    · refine .inr (.inr ?_)
      rintro (⟨a1, a2⟩ | a3)
      · rcases h2.1 with h2 | h2
        · exact h2 a1
        · exact h2 a2
      · exact h2.2 a3
  · rw [drop_at s ⟨#[]⟩ (show i < s.length by omega), drop_at l default (show i < l.length by omega)]
    have ih := loop146 t n s l hs hsl hsh (i + 1) (by omega)
    have e : s.take (i + 1) = s.take i ++ [s.getD i ⟨#[]⟩] := by
      rw [List.take_add_one, List.getElem?_eq_getElem (show i < s.length by omega), List.getD_eq_getElem?_getD, List.getElem?_eq_getElem (show i < s.length by omega)]
      rfl
    have := inner146 t n s l hs i (by omega) _ ih 0 (by omega)
    rw [rTableGo, if_neg]
    · rw [← e]
      exact this
    · rintro (h3 | h3 | h3)
      · exact h2.1.1 h3
      · rw [h2.1.2] at h3; cases h3
      · exact h3 h2.2
  · rw [List.drop_of_length_le (show s.length ≤ i by omega)]; exact Ret.bool rfl
termination_by s.length - i
theorem run146 (t n s l) (hs : s.length ≤ maxLen) (hsh : ∀ x ∈ s, x.size ≤ maxLen) : Rh w146S (Ret (.bool (rTable (.mk t n s l)))) (9999, [.int t, .is n, .ss s, .vs l]) := by
  refine Rh.go (w146_9999 t n s l _) ?_
  simp only [SQ, RhQ, eq_self, implies_true, forall_const, VT.eta, if_true, if_false]
  have e : rTable (.mk t n s l) = if s.length = 0 ∨ s.length ≠ l.length then false else rTableGo [] s l := rfl
  rw [e]
  refine ⟨fun h => Ret.bool ?_, fun h => ?_⟩
  · rw [if_pos (by omega)]
  · rw [if_neg (by omega)]
    exact loop146 t n s l hs (by omega) hsh 0 (by omega)
theorem ok146 : Pure1 Tryz.prog 146 sp146 := by
  intro xs F w cs R ha h
  obtain ⟨x, a, rfl, h1, h⟩ := onV_inv h
  obtain ⟨hsh, h⟩ := when_inv h
  have ha := ha.conv1 (fun v => as_V h1)
  obtain ⟨v, hv⟩ := ha.at 0 rfl
  obtain ⟨t, n, s, l⟩ := a
  exact contract (fn := Tryz.f146) (walked (PureOk.also ok112 (PureOk.also ok97 (PureOk.also ok148 (PureOk.none _)))) 14) (by kernel_rfl) w146C_ok (by rfl) (by rfl) (by rfl) (by rfl) (by rfl) ha (run146 t n s l hv.vlen.s hsh) h
/-! ### what stands in a value itself -/
theorem loop124b (t n s l) (hs : s.length ≤ maxLen) (hsh : ∀ x ∈ s, x.size ≤ maxLen) (i : Nat) (h1 : i ≤ s.length) : Rh w124S (Ret (.bool (if rAbs t = 3 then rSyms (s.drop i) else true))) (19, [.int i, .int t, .is n, .ss s, .vs l]) := by
  refine Rh.go (w124_19 i t n s l _) ?_
  simp only [SQ, RhQ, eq_self, implies_true, forall_const, VT.eta, if_true, if_false]
  refine ⟨fun h => ⟨⟨by omega, by omega⟩, hsh _ (getD_mem s _ (by omega)), fun h2 => ?_, fun h2 => ?_⟩, fun h => ?_⟩
  · rw [drop_at s ⟨#[]⟩ (show i < s.length by omega), if_pos h.2]
    exact Ret.bool (by rw [rSyms, List.all_cons, h2, Bool.false_and])
  · rw [inc hs (by omega), drop_at s ⟨#[]⟩ (show i < s.length by omega)]
    have := loop124b t n s l hs hsh (i + 1) (by omega)
    rw [if_pos h.2] at this ⊢
    rw [rSyms, List.all_cons, h2, Bool.true_and]
    exact this
  · refine Ret.bool ?_
    rcases h with h | h
    · rw [List.drop_of_length_le (show s.length ≤ i by omega)]; split <;> rfl
    · rw [if_neg h]
termination_by s.length - i
theorem loop124a (t n s l) (ht : rAbs t = 1) (hn : n.length ≤ maxLen) (hs : s.length ≤ maxLen) (hsh : ∀ x ∈ s, x.size ≤ maxLen) (i : Nat) (h1 : i ≤ n.length) :
    Rh w124S (Ret (.bool ((n.drop i).all fun x => decide (x = 0 ∨ x = 1)))) (5, [.int i, .int t, .is n, .ss s, .vs l]) := by
  refine Rh.go (w124_5 i t n s l _) ?_
  simp only [SQ, RhQ, eq_self, implies_true, forall_const, VT.eta, if_true, if_false]
  refine ⟨fun h => ⟨⟨by omega, by omega⟩, fun _ => ⟨by omega, by omega⟩, fun h2 => ?_, fun h2 => ?_⟩, fun h => ?_⟩
  · rw [drop_at n 0 (show i < n.length by omega)]
    exact Ret.bool (by rw [List.all_cons, decide_eq_false (by rintro (h | h); exact h2.1 h; exact h2.2 h), Bool.false_and])
  · rw [inc hn (by omega), drop_at n 0 (show i < n.length by omega)]
    have := loop124a t n s l ht hn hs hsh (i + 1) (by omega)
    rw [List.all_cons, decide_eq_true h2, Bool.true_and]
    exact this
  · rw [List.drop_of_length_le (show n.length ≤ i by omega)]
    have := loop124b t n s l hs hsh 0 (by omega)
    rw [if_neg (by omega)] at this
    exact this
termination_by n.length - i
theorem run124 (t n s l) (hn : n.length ≤ maxLen) (hs : s.length ≤ maxLen) (hsh : ∀ x ∈ s, x.size ≤ maxLen) : Rh w124S (Ret (.bool (rPlain (.mk t n s l)))) (9999, [.int t, .is n, .ss s, .vs l]) := by
  refine Rh.go (w124_9999 t n s l _) ?_
  simp only [SQ, RhQ, eq_self, implies_true, forall_const, VT.eta, if_true, if_false]
  have hb := loop124b t n s l hs hsh 0 (by omega)
  rw [List.drop_zero] at hb
  have hsz : 0 < s.length → (s.getD 0 ⟨#[]⟩).size ≤ maxLen := fun h => hsh _ (getD_mem s _ h)
  have ml : maxLen = 9223372036854775807 := rfl
  rw [rPlain]
  refine ⟨fun h => Ret.bool (by rw [if_pos ⟨h.1, h.2⟩]), fun h => ?_⟩
  rw [if_neg (by rintro ⟨⟨a1, a2⟩, a3⟩; rcases h with (h | h) | h; exact h a1; exact h a2; exact a3 h)]
  refine ⟨fun h1 => ?_, fun h1 => ?_⟩
  · rw [if_pos h1]; exact loop124a t n s l h1 hn hs hsh 0 (by omega)
  rw [if_neg h1]
  refine ⟨fun h2 => ?_, fun h2 => ?_⟩
  · rw [if_pos h2]
    have e3 : rAbs t ≠ 3 := by unfold rAbs; rw [if_neg (by omega)]; omega
    rw [if_neg e3] at hb
    have w1 : s.length = 1 → IntKind.i64.wrap (((s.getD 0 ⟨#[]⟩).size : Int) - 1) = ((s.getD 0 ⟨#[]⟩).size : Int) - 1 := fun h => by
      have := hsz (by omega)
      rw [w64] <;> omega
    refine ⟨⟨fun h => ⟨by omega, by omega⟩, fun h => ⟨by omega, by omega⟩, fun h => ⟨by omega, by omega⟩, fun h => ⟨by omega, by omega⟩, fun h => ⟨by omega, by omega⟩, fun h => ?_⟩, fun h => Ret.bool (decide_eq_false ?_), fun h => ?_⟩
    · rw [w1 (by omega)]; exact ⟨by omega, by omega⟩
    · rintro ⟨a1, a2, a3, a4⟩
      rcases h with ((h | h) | h) | h
      · omega
      · omega
      · exact h a3
      · rw [w1 a1, show (((s.getD 0 ⟨#[]⟩).size : Int) - 1).toNat = (s.getD 0 ⟨#[]⟩).size - 1 by omega] at h
        exact h a4
    · rw [w1 (by omega), show (((s.getD 0 ⟨#[]⟩).size : Int) - 1).toNat = (s.getD 0 ⟨#[]⟩).size - 1 by omega] at h
      rw [decide_eq_true (by refine ⟨by omega, by omega, h.1.2, h.2⟩)]
      exact hb
  rw [if_neg h2]
  refine ⟨fun h3 => ?_, fun h3 => ?_⟩
  · rw [if_pos h3]; exact Ret.bool rfl
  rw [if_neg h3]
  refine ⟨fun h4 => ?_, fun h4 => ?_⟩
  · rw [if_pos h4]; exact ⟨hsh, Ret.bool rfl⟩
  rw [if_neg h4]
  refine ⟨fun h5 => ?_, fun h5 => ?_⟩
  · rw [if_pos h5]
    refine ⟨fun h => ⟨by omega, by omega⟩, fun _ h => ⟨by omega, by omega⟩, fun _ h => ⟨by omega, by omega⟩, fun _ _ h => ⟨by omega, by omega⟩, Ret.bool ?_⟩
    rw [Bool.eq_iff_iff, decide_eq_true_iff]
    simp only [decide_eq_true_eq, Bool.and_eq_true, Bool.or_eq_true, isColT, isVecT]
    constructor
    · rintro ⟨a, b⟩; exact ⟨by omega, b⟩
    · rintro ⟨a, b⟩; exact ⟨by omega, b⟩
  rw [if_neg h5]
  exact hb
theorem ok124 : Pure1 Tryz.prog 124 sp124 := by
  intro xs F w cs R ha h
  obtain ⟨x, a, rfl, h1, h⟩ := onV_inv h
  obtain ⟨hsh, h⟩ := when_inv h
  have ha := ha.conv1 (fun v => as_V h1)
  obtain ⟨v, hv⟩ := ha.at 0 rfl
  obtain ⟨t, n, s, l⟩ := a
  exact contract (fn := Tryz.f124) (walked (PureOk.also ok112 (PureOk.also ok97 (PureOk.also ok148 (PureOk.also ok145 (PureOk.also ok146 (PureOk.none _)))))) 14) (by kernel_rfl) w124C_ok (by rfl) (by rfl) (by rfl) (by rfl) (by rfl) ha (run124 t n s l hv.vlen.n hv.vlen.s hsh) h
end Go.Qv
/- Contracts of those readers of values that call themselves. No condition. -/
set_option linter.unusedVariables false
set_option linter.unusedSimpArgs false
set_option maxRecDepth 100000
namespace Go.Qv
open Go Go.RowKit Go.Proofs

section
variable {Q : AV → Prop}
theorem onV_mk {f : VT → T AV} {x : AV} {a : VT} (h : asV [] x = some a) (hf : (f a).sat Q) : (onV f [x]).sat Q := by simp only [onV, h]; exact hf
theorem onVn_mk {f : VT → Int → T AV} {x : AV} {n : Int} {a : VT} (h : asV [] x = some a) (hf : (f a n).sat Q) : (onVn f [x, .int .i64 n]).sat Q := by simp only [onVn, h]; exact hf
theorem onVV_mk {f : VT → VT → T AV} {x y : AV} {a b : VT} (h : asV [] x = some a) (h' : asV [] y = some b) (hf : (f a b).sat Q) : (onVV f [x, y]).sat Q := by simp only [onVV, h, h']; exact hf
theorem when_mk {p : Prop} {t : T AV} (hp : p) (h : t.sat Q) : (when_ p t).sat Q := ⟨hp, h⟩
end
theorem none0 {a : VT} (h : smaller a 0) : False := by unfold smaller at h; omega
/-- For all that is smaller: for all. -/
theorem pure_all {f : FuncId} {s : Nat → List AV → T AV} {sf : List AV → T AV} (h : ∀ n, Pure1 Tryz.prog f (s n)) (hs : ∀ (xs : List AV) (Q : AV → Prop), (sf xs).sat Q → ∃ n, (s n xs).sat Q) : Pure1 Tryz.prog f sf := by
  intro xs F w cs R ha h1
  obtain ⟨n, hn⟩ := hs xs _ h1
  exact h n xs F w cs R ha hn
theorem pure_ind {f : FuncId} {s : Nat → List AV → T AV} (h0 : Pure1 Tryz.prog f (s 0)) (hs : ∀ n, Pure1 Tryz.prog f (s n) → Pure1 Tryz.prog f (s (n + 1))) : ∀ n, Pure1 Tryz.prog f (s n)
  | 0 => h0
  | n + 1 => hs n (pure_ind h0 hs n)

/-! ### R.Count -/
theorem run18 (m : Nat) (t n s l) (hm : smaller (.mk t n s l) (m + 1)) : Rh (w18S m) (Ret (.int .i64 (rCount (.mk t n s l)))) (9999, [.int t, .is n, .ss s, .vs l]) := by
  refine Rh.go (w18_9999 m t n s l _) ?_
  simp only [SQ, RhQ, eq_self, implies_true, forall_const, VT.eta, if_true, if_false]
  unfold smaller at hm
  have nv : ¬ (1 ≤ t ∧ t ≤ 5) → ¬ isVecT t := fun h e => h ⟨e.1, e.2⟩
  refine ⟨fun h => Ret.int (by cases l <;> simp only [rCount, if_pos h]), fun h => ⟨fun h1 => Ret.int (by cases l <;> simp only [rCount, if_neg h, if_pos (show isVecT t from h1)]), fun h1 => ?_⟩⟩
  have h1 : ¬ isVecT t := nv (by omega)
  refine ⟨fun h2 => Ret.int (by cases l <;> simp only [rCount, if_neg h, if_neg h1, if_pos h2]), fun h2 => ⟨fun h3 => ⟨⟨by omega, by omega⟩, ?_, Ret.int ?_⟩, fun h3 => Ret.int ?_⟩⟩
  · unfold smaller
    have := sz_lt (t := t) (n := n) (s := s) (getD_mem l default (i := 0) (by omega))
    omega
  · cases l with
    | nil => simp at h3
    | cons x l => simp only [rCount, if_neg h, if_neg h1, if_neg h2, if_pos h3.1]; rfl
  · cases l with
    | nil => simp only [rCount, if_neg h, if_neg h1, if_neg h2]
    | cons x l =>
      have : ¬ (t = 98 ∨ t = 99) := by simp only [List.length_cons] at h3; omega
      simp only [rCount, if_neg h, if_neg h1, if_neg h2, if_neg this]
theorem ok18n : ∀ n, Pure1 Tryz.prog 18 (sp18 n) := pure_ind (fun xs F w cs R ha h => by
    obtain ⟨x, a, rfl, h1, h⟩ := onV_inv h
    exact (none0 (when_inv h).1).elim) (fun m ih xs F w cs R ha h => by
    obtain ⟨x, a, rfl, h1, h⟩ := onV_inv h
    obtain ⟨hm, h⟩ := when_inv h
    have ha := ha.conv1 (fun v => as_V h1)
    obtain ⟨t, n, s, l⟩ := a
    exact contract (fn := Tryz.f18) (walked (PureOk.also ih (PureOk.none _)) 14) (by kernel_rfl) w18C_ok (by rfl) (by rfl) (by rfl) (by rfl) (by rfl) ha (run18 m t n s l hm) h)
theorem ok18 : Pure1 Tryz.prog 18 sp18f := pure_all ok18n fun xs Q h => by
  obtain ⟨x, a, rfl, h1, h⟩ := onV_inv h
  exact ⟨a.sz + 1, onV_mk h1 (when_mk (Nat.lt_succ_self _) h)⟩

/-! ### R.Depth -/
theorem loop84 (m : Nat) (t n s l) (hm : smaller (.mk t n s l) (m + 1)) (hl : l.length ≤ maxLen) (d : Int) (i : Nat) (h1 : i ≤ l.length) : Rh (w84S m) (Ret (.int .i64 (IntKind.i64.wrap (rDepthL (l.drop i) d + 1)))) (3, [.int d, .int i, .int t, .is n, .ss s, .vs l]) := by
  refine Rh.go (w84_3 m d i t n s l _) ?_
  simp only [SQ, RhQ, eq_self, implies_true, forall_const, VT.eta, if_true, if_false]
  refine ⟨fun h => ⟨⟨by omega, by omega⟩, ?_, ?_⟩, fun h => ?_⟩
  · unfold smaller at hm ⊢
    have := sz_lt (t := t) (n := n) (s := s) (getD_mem l default (i := i) (by omega))
    omega
  · rw [inc hl (by omega), drop_at l default (show i < l.length by omega), rDepthL]
    exact loop84 m t n s l hm hl _ (i + 1) (by omega)
  · rw [List.drop_of_length_le (by omega)]; exact Ret.int rfl
termination_by l.length - i
theorem run84 (m : Nat) (t n s l) (hm : smaller (.mk t n s l) (m + 1)) (hl : l.length ≤ maxLen) : Rh (w84S m) (Ret (.int .i64 (rDepth (.mk t n s l)))) (9999, [.int t, .is n, .ss s, .vs l]) := by
  refine Rh.go (w84_9999 m t n s l _) ?_
  simp only [SQ, RhQ, eq_self, implies_true, forall_const, VT.eta, if_true, if_false]
  rw [rDepth]
  exact loop84 m t n s l hm hl 0 0 (by omega)
theorem ok84n : ∀ n, Pure1 Tryz.prog 84 (sp84 n) := pure_ind (fun xs F w cs R ha h => by
    obtain ⟨x, a, rfl, h1, h⟩ := onV_inv h
    exact (none0 (when_inv h).1).elim) (fun m ih xs F w cs R ha h => by
    obtain ⟨x, a, rfl, h1, h⟩ := onV_inv h
    obtain ⟨hm, h⟩ := when_inv h
    have ha := ha.conv1 (fun v => as_V h1)
    obtain ⟨v, hv⟩ := ha.at 0 rfl
    obtain ⟨t, n, s, l⟩ := a
    exact contract (fn := Tryz.f84) (walked (PureOk.also ih (PureOk.none _)) 14) (by kernel_rfl) w84C_ok (by rfl) (by rfl) (by rfl) (by rfl) (by rfl) ha (run84 m t n s l hm hv.vlen.l) h)
theorem ok84 : Pure1 Tryz.prog 84 sp84f := pure_all ok84n fun xs Q h => by
  obtain ⟨x, a, rfl, h1, h⟩ := onV_inv h
  exact ⟨a.sz + 1, onV_mk h1 (when_mk (Nat.lt_succ_self _) h)⟩

/-! ### R.parts -/
theorem loop83b (m : Nat) (t n s l) (hm : smaller (.mk t n s l) (m + 1)) (hf : VT.Fine (.mk t n s l)) (hl : l.length ≤ maxLen) (k : Int) (i : Nat) (h1 : i ≤ l.length) : Rh (w83S m) (Ret (.int .i64 (rPartsL (l.drop i) (IntKind.i64.wrap (k - 1))))) (18, [.int k, .int i, .int t, .is n, .ss s, .vs l]) := by
  refine Rh.go (w83_18 m k i t n s l _) ?_
  simp only [SQ, RhQ, eq_self, implies_true, forall_const, VT.eta, if_true, if_false]
  refine ⟨fun h => ⟨⟨by omega, by omega⟩, ?_, hf.mem _ (getD_mem l default (by omega)), fun h2 => ?_, fun h2 => ?_⟩, fun h => ?_⟩
  · unfold smaller at hm ⊢
    have := sz_lt (t := t) (n := n) (s := s) (getD_mem l default (i := i) (by omega))
    omega
  · rw [drop_at l default (show i < l.length by omega)]
    exact Ret.int (by rw [rPartsL, if_pos h2])
  · rw [inc hl (by omega), drop_at l default (show i < l.length by omega), rPartsL, if_neg (by simp only [ne_eq, h2, not_true, not_false_iff])]
    exact loop83b m t n s l hm hf hl k (i + 1) (by omega)
  · rw [List.drop_of_length_le (by omega)]; exact Ret.int rfl
termination_by l.length - i
theorem loop83a (m : Nat) (t n s l) (hm : smaller (.mk t n s l) (m + 1)) (hf : VT.Fine (.mk t n s l)) (hl : l.length ≤ maxLen) (k : Int) (i : Nat) (h0 : 0 < i) (h1 : i ≤ l.length + 1) :
    Rh (w83S m) (Ret (.int .i64 (if t ≠ 0 ∧ (l.drop i).any (fun x => decide (rCount x ≠ rCount (l.getD 0 default))) = true then 32 else if k = 0 then 0 else rPartsL l (IntKind.i64.wrap (k - 1))))) (11, [.int k, .int i, .int t, .is n, .ss s, .vs l]) := by
  refine Rh.go (w83_11 m k i t n s l _) ?_
  simp only [SQ, RhQ, eq_self, implies_true, forall_const, VT.eta, if_true, if_false]
  refine ⟨fun h => ⟨⟨⟨by omega, by omega⟩, by omega, by omega⟩, fun h2 => ?_, fun h2 => ?_⟩, fun h => ?_⟩
  · rw [drop_at l default (show i < l.length by omega)]
    exact Ret.int (by rw [if_pos ⟨h.2, by rw [List.any_cons, decide_eq_true h2, Bool.true_or]⟩])
  · rw [inc hl (by omega), drop_at l default (show i < l.length by omega), List.any_cons, decide_eq_false (by simp only [ne_eq, h2, not_true, not_false_iff]), Bool.false_or]
    exact loop83a m t n s l hm hf hl k (i + 1) (by omega) (by omega)
  · rw [if_neg (by
      rintro ⟨a, b⟩
      rcases h with h | h
      · rw [List.drop_of_length_le (by omega)] at b; cases b
      · exact a h)]
    refine ⟨fun h2 => ?_, fun h2 => ?_⟩
    · rw [if_pos h2]; exact Ret.int rfl
    · rw [if_neg h2]; exact loop83b m t n s l hm hf hl k 0 (by omega)
termination_by l.length - i
theorem run83 (m : Nat) (t n s l) (hm : smaller (.mk t n s l) (m + 1)) (hf : VT.Fine (.mk t n s l)) (hl : l.length ≤ maxLen) (k : Int) : Rh (w83S m) (Ret (.int .i64 (rParts (.mk t n s l) k))) (9999, [.int t, .is n, .ss s, .vs l, .int k]) := by
  refine Rh.go (w83_9999 m t n s l k _) ?_
  simp only [SQ, RhQ, eq_self, implies_true, forall_const, VT.eta, if_true, if_false]
  have em : (if t = 3 then decide ((65536 : Int) < s.length) else if 1 ≤ t ∧ t ≤ 5 then decide ((65536 : Int) < n.length) else if t = 98 then decide ((64 : Int) < s.length) || decide ((64 : Int) < l.length) else decide (t = 0) && decide ((65536 : Int) < l.length)) = rMany (.mk t n s l) := rfl
  simp only [em]
  rw [rParts]
  refine ⟨fun h => Ret.int (if_pos ?_), fun h => ?_⟩
  · rcases h with ((h | h) | h) | h
    · exact .inl h
    · exact .inr (.inl ⟨h.1, by omega⟩)
    · exact .inr (.inr (.inl ⟨h.1, by omega⟩))
    · exact .inr (.inr (.inr ⟨h.1, by omega⟩))
  rw [if_neg (by
    rintro (h1 | ⟨h1, h2⟩ | ⟨h1, h2⟩ | ⟨h1, h2⟩)
    · rw [h.1.1.1] at h1; cases h1
    · rcases h.1.1.2 with h3 | h3
      · rw [h3] at h1; cases h1
      · omega
    · rcases h.1.2 with h3 | h3
      · rw [h3] at h1; cases h1
      · omega
    · rcases h.2 with h3 | h3
      · rw [h3] at h1; cases h1
      · omega)]
  refine ⟨fun h2 => Ret.int (by rw [if_pos h2]), fun h2 => ?_⟩
  rw [if_neg (by rw [h2]; simp)]
  refine ⟨fun h3 => Ret.int (by rw [if_pos h3]), fun h3 => ?_⟩
  rw [if_neg (by rw [h3]; simp)]
  refine ⟨hf.str, fun h4 => Ret.int (by rw [if_pos h4]), fun h4 => ?_⟩
  rw [if_neg (by rw [h4]; simp)]
  exact loop83a m t n s l hm hf hl k 1 (by omega) (by omega)
theorem ok83n : ∀ n, Pure1 Tryz.prog 83 (sp83 n) := pure_ind (fun xs F w cs R ha h => by
    obtain ⟨x, k, a, rfl, h1, h⟩ := onVn_inv h
    exact (none0 (when_inv h).1).elim) (fun m ih xs F w cs R ha h => by
    obtain ⟨x, k, a, rfl, h1, h⟩ := onVn_inv h
    obtain ⟨hm, h⟩ := when_inv h
    obtain ⟨hf, h⟩ := when_inv h
    have ha := ha.conv2 (fun v => as_V h1) (fun v h => h)
    obtain ⟨v, hv⟩ := ha.at 0 rfl
    obtain ⟨t, n, s, l⟩ := a
    exact contract (fn := Tryz.f83) (walked (PureOk.also ih (PureOk.also ok121 (PureOk.also ok18 (PureOk.also ok123 (PureOk.also ok124 (PureOk.none _)))))) 14) (by kernel_rfl) w83C_ok (by rfl) (by rfl) (by rfl) (by rfl) (by rfl) ha (run83 m t n s l hm hf hv.vlen.l k) h)
theorem ok83 : Pure1 Tryz.prog 83 sp83f := pure_all ok83n fun xs Q h => by
  obtain ⟨x, k, a, rfl, h1, h⟩ := onVn_inv h
  exact ⟨a.sz + 1, onVn_mk h1 (when_mk (Nat.lt_succ_self _) h)⟩

/-! ### size, huge -/
end Go.Qv
