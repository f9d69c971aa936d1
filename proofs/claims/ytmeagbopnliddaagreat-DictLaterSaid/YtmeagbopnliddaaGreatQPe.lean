/- Contracts: values matched and compared, by the program and by the document. No condition. -/
import Derived.Test.YtmeagbopnliddaaGreatQPcM
set_option linter.unusedVariables false
set_option linter.unusedSimpArgs false
set_option maxRecDepth 100000
namespace Go.Qv
open Go Go.RowKit Go.Proofs

theorem veq_iff {a b : VT} : veq a b = true ↔ a = b := by unfold veq; exact @decide_eq_true_iff _ (Classical.propDecidable _)
theorem veq_not {a b : VT} : veq a b = false ↔ a ≠ b := by unfold veq; exact @decide_eq_false_iff_not _ (Classical.propDecidable _)
theorem veqs_iff {a b : List VT} : veqs a b = true ↔ a = b := by unfold veqs; exact @decide_eq_true_iff _ (Classical.propDecidable _)
theorem veqs_nil : veqs [] [] = true := veqs_iff.2 rfl
theorem veqs_cons (x y : VT) (a b : List VT) : veqs (x :: a) (y :: b) = (veq x y && veqs a b) := by
  rw [Bool.eq_iff_iff, Bool.and_eq_true, veqs_iff, veqs_iff, veq_iff]
  simp
theorem veqs_len {a b : List VT} (h : a.length ≠ b.length) : veqs a b = false := by
  cases e : veqs a b with
  | false => rfl
  | true => rw [veqs_iff] at e; subst e; exact absurd rfl h
theorem veq_mk (t n s l t' n' s' l') : veq (.mk t n s l) (.mk t' n' s' l') = (decide (t = t') && eqIs n n' && eqSs s s' && veqs l l') := by
  rw [Bool.eq_iff_iff, veq_iff]
  simp only [Bool.and_eq_true, decide_eq_true_eq, eqIs, eqSs, veqs_iff, VT.mk.injEq, and_assoc]

/-! ### value.Match -/
theorem loop132 (m : Nat) (a b : List VT) (hm : smallers a m) (ha : a.length ≤ maxLen) (hab : a.length = b.length) (i : Nat) (h1 : i ≤ a.length) : Rh (w132S m) (Ret (.bool (veqs (a.drop i) (b.drop i)))) (4, [.vs b, .vs a, .int a.length, .int i]) := by
  refine Rh.go (w132_4 m b a a.length i _) ?_
  simp only [SQ, RhQ, eq_self, implies_true, forall_const, VT.eta, if_true, if_false]
  refine ⟨fun h => ⟨⟨by omega, by omega⟩, ⟨by omega, by omega⟩, hm _ (getD_mem a _ (by omega)), fun h2 => ?_, fun h2 => ?_⟩, fun h => ?_⟩
  · rw [drop_at a default (show i < a.length by omega), drop_at b default (show i < b.length by omega)]
    exact Ret.bool (by rw [veqs_cons, h2, Bool.false_and])
  · rw [inc ha (by omega), drop_at a default (show i < a.length by omega), drop_at b default (show i < b.length by omega), veqs_cons, h2, Bool.true_and]
    exact loop132 m a b hm ha hab (i + 1) (by omega)
  · rw [List.drop_of_length_le (by omega), List.drop_of_length_le (by omega)]
    exact Ret.bool veqs_nil
termination_by a.length - i
theorem run132 (m : Nat) (a b : List VT) (hm : smallers a m) (ha : a.length ≤ maxLen) : Rh (w132S m) (Ret (.bool (veqs a b))) (9999, [.vs a, .vs b]) := by
  refine Rh.go (w132_9999 m a b _) ?_
  simp only [SQ, RhQ, eq_self, implies_true, forall_const, VT.eta, if_true, if_false]
  exact ⟨fun h => Ret.bool (veqs_len (by omega)), fun h => loop132 m a b hm ha (by omega) 0 (by omega)⟩
theorem ok132 {m : Nat} (ih : Pure1 Tryz.prog 99 (sp99 m)) : Pure1 Tryz.prog 132 (sp132 m) := by
  intro xs F w cs R ha h
  obtain ⟨x, y, a, b, rfl, h1, h2, h⟩ := onVsF_inv h
  obtain ⟨hm, h⟩ := when_inv h
  have ha := ha.conv3 (fun v => as_Vs h1) (fun v => as_Vs h2) (fun v h => h)
  obtain ⟨v, hv⟩ := ha.at 0 rfl
  exact contract (fn := Tryz.f132) (walked (PureOk.also ih (PureOk.none _)) 14) (by kernel_rfl) w132C_ok (by rfl) (by rfl) (by rfl) (by rfl) (by rfl) ha (run132 m a b hm hv.len) h
theorem run99 (m : Nat) (t n s l t' n' s' l') (hm : smaller (.mk t n s l) (m + 1)) : Rh (w99S m) (Ret (.bool (veq (.mk t n s l) (.mk t' n' s' l')))) (9999, [.int t, .is n, .ss s, .vs l, .int t', .is n', .ss s', .vs l']) := by
  refine Rh.go (w99_9999 m t n s l t' n' s' l' _) ?_
  simp only [SQ, RhQ, eq_self, implies_true, forall_const, VT.eta, if_true, if_false]
  refine ⟨fun _ x hx => ?_, Ret.bool (veq_mk ..)⟩
  unfold smaller at hm
  have := sz_lt (t := t) (n := n) (s := s) hx
  omega
theorem ok99n : ∀ n, Pure1 Tryz.prog 99 (sp99 n) := pure_ind (fun xs F w cs R ha h => by
    obtain ⟨x, y, a, b, rfl, h1, h2, h⟩ := onVV_inv h
    exact (none0 (when_inv h).1).elim) (fun m ih xs F w cs R ha h => by
    obtain ⟨x, y, a, b, rfl, h1, h2, h⟩ := onVV_inv h
    obtain ⟨hm, h⟩ := when_inv h
    have ha := ha.conv2 (fun v => as_V h1) (fun v => as_V h2)
    obtain ⟨t, n, s, l⟩ := a
    obtain ⟨t', n', s', l'⟩ := b
    exact contract (fn := Tryz.f99) (walked (PureOk.also (ok132 ih) (PureOk.also ok130 (PureOk.also ok131 (PureOk.none _)))) 14) (by kernel_rfl) w99C_ok (by rfl) (by rfl) (by rfl) (by rfl) (by rfl) ha (run99 m t n s l t' n' s' l' hm) h)
theorem ok99 : Pure1 Tryz.prog 99 sp99f := pure_all ok99n fun xs Q h => by
  obtain ⟨x, y, a, b, rfl, h1, h2, h⟩ := onVV_inv h
  exact ⟨a.sz + 1, onVV_mk h1 h2 (when_mk (Nat.lt_succ_self _) h)⟩

/-! ### R.Match -/
theorem loop15c (m : Nat) (t n s l t' n' s' l') (hm : smaller (.mk t n s l) (m + 1)) (hl : l.length ≤ maxLen) (hll : l.length = l'.length) (i : Nat) (h1 : i ≤ l.length) :
    Rh (w15S m) (Ret (.bool (veqs (l.drop i) (l'.drop i)))) (14, [.int i, .int t, .is n, .ss s, .vs l, .int t', .is n', .ss s', .vs l']) := by
  refine Rh.go (w15_14 m i t n s l t' n' s' l' _) ?_
  simp only [SQ, RhQ, eq_self, implies_true, forall_const, VT.eta, if_true, if_false]
  refine ⟨fun h => ⟨⟨⟨by omega, by omega⟩, ⟨by omega, by omega⟩, ?_⟩, fun h2 => ?_, fun h2 => ?_⟩, fun h => ?_⟩
  · unfold smaller at hm ⊢
    have := sz_lt (t := t) (n := n) (s := s) (getD_mem l default (i := i) (by omega))
    omega
  · rw [drop_at l default (show i < l.length by omega), drop_at l' default (show i < l'.length by omega)]
    exact Ret.bool (by rw [veqs_cons, h2, Bool.false_and])
  · rw [inc hl (by omega), drop_at l default (show i < l.length by omega), drop_at l' default (show i < l'.length by omega), veqs_cons, h2, Bool.true_and]
    exact loop15c m t n s l t' n' s' l' hm hl hll (i + 1) (by omega)
  · rw [List.drop_of_length_le (by omega), List.drop_of_length_le (by omega)]
    exact Ret.bool veqs_nil
termination_by l.length - i
theorem loop15b (m : Nat) (t n s l t' n' s' l') (hm : smaller (.mk t n s l) (m + 1)) (hs : s.length ≤ maxLen) (hl : l.length ≤ maxLen) (hss : s.length = s'.length) (hll : l.length = l'.length) (i : Nat) (h1 : i ≤ s.length) :
    Rh (w15S m) (Ret (.bool (eqSs (s.drop i) (s'.drop i) && veqs l l'))) (9, [.int i, .int t, .is n, .ss s, .vs l, .int t', .is n', .ss s', .vs l']) := by
  refine Rh.go (w15_9 m i t n s l t' n' s' l' _) ?_
  simp only [SQ, RhQ, eq_self, implies_true, forall_const, VT.eta, if_true, if_false]
  refine ⟨fun h => ⟨⟨⟨by omega, by omega⟩, by omega, by omega⟩, fun h2 => ?_, fun h2 => ?_⟩, fun h => ?_⟩
  · rw [drop_at s ⟨#[]⟩ (show i < s.length by omega), drop_at s' ⟨#[]⟩ (show i < s'.length by omega)]
    exact Ret.bool (by rw [eqSs, decide_eq_false (by intro e; injection e with e1 e2; exact h2 e1), Bool.false_and])
  · rw [inc hs (by omega), drop_at s ⟨#[]⟩ (show i < s.length by omega), drop_at s' ⟨#[]⟩ (show i < s'.length by omega)]
    have e : eqSs (s.getD i ⟨#[]⟩ :: s.drop (i + 1)) (s'.getD i ⟨#[]⟩ :: s'.drop (i + 1)) = eqSs (s.drop (i + 1)) (s'.drop (i + 1)) := by
      unfold eqSs; rw [h2, decide_eq_decide]; simp
    rw [e]
    exact loop15b m t n s l t' n' s' l' hm hs hl hss hll (i + 1) (by omega)
  · rw [List.drop_of_length_le (show s.length ≤ i by omega), List.drop_of_length_le (show s'.length ≤ i by omega)]
    exact loop15c m t n s l t' n' s' l' hm hl hll 0 (by omega)
termination_by s.length - i
theorem loop15a (m : Nat) (t n s l t' n' s' l') (hm : smaller (.mk t n s l) (m + 1)) (hn : n.length ≤ maxLen) (hs : s.length ≤ maxLen) (hl : l.length ≤ maxLen) (hnn : n.length = n'.length) (hss : s.length = s'.length) (hll : l.length = l'.length) (i : Nat) (h1 : i ≤ n.length) :
    Rh (w15S m) (Ret (.bool (eqIs (n.drop i) (n'.drop i) && (eqSs s s' && veqs l l')))) (4, [.int i, .int t, .is n, .ss s, .vs l, .int t', .is n', .ss s', .vs l']) := by
  refine Rh.go (w15_4 m i t n s l t' n' s' l' _) ?_
  simp only [SQ, RhQ, eq_self, implies_true, forall_const, VT.eta, if_true, if_false]
  refine ⟨fun h => ⟨⟨⟨by omega, by omega⟩, by omega, by omega⟩, fun h2 => ?_, fun h2 => ?_⟩, fun h => ?_⟩
  · rw [drop_at n 0 (show i < n.length by omega), drop_at n' 0 (show i < n'.length by omega)]
    exact Ret.bool (by rw [eqIs, decide_eq_false (by intro e; injection e with e1 e2; exact h2 e1), Bool.false_and])
  · rw [inc hn (by omega), drop_at n 0 (show i < n.length by omega), drop_at n' 0 (show i < n'.length by omega)]
    have e : eqIs (n.getD i 0 :: n.drop (i + 1)) (n'.getD i 0 :: n'.drop (i + 1)) = eqIs (n.drop (i + 1)) (n'.drop (i + 1)) := by
      unfold eqIs; rw [h2, decide_eq_decide]; simp
    rw [e]
    exact loop15a m t n s l t' n' s' l' hm hn hs hl hnn hss hll (i + 1) (by omega)
  · rw [List.drop_of_length_le (show n.length ≤ i by omega), List.drop_of_length_le (show n'.length ≤ i by omega)]
    exact loop15b m t n s l t' n' s' l' hm hs hl hss hll 0 (by omega)
termination_by n.length - i
theorem run15 (m : Nat) (t n s l t' n' s' l') (hm : smaller (.mk t n s l) (m + 1)) (hn : n.length ≤ maxLen) (hs : s.length ≤ maxLen) (hl : l.length ≤ maxLen) :
    Rh (w15S m) (Ret (.bool (veq (.mk t n s l) (.mk t' n' s' l')))) (9999, [.int t, .is n, .ss s, .vs l, .int t', .is n', .ss s', .vs l']) := by
  refine Rh.go (w15_9999 m t n s l t' n' s' l' _) ?_
  simp only [SQ, RhQ, eq_self, implies_true, forall_const, VT.eta, if_true, if_false]
  refine ⟨fun h => Ret.bool (veq_not.2 ?_), fun h => ?_⟩
  · intro e
    injection e with e1 e2 e3 e4
    subst e1; subst e2; subst e3; subst e4
    omega
  · rw [veq_mk, decide_eq_true h.1.1.1, Bool.true_and, Bool.and_assoc]
    exact loop15a m t n s l t' n' s' l' hm hn hs hl (by omega) (by omega) (by omega) 0 (by omega)
theorem ok15n : ∀ n, Pure1 Tryz.prog 15 (sp15 n) := pure_ind (fun xs F w cs R ha h => by
    obtain ⟨x, y, a, b, rfl, h1, h2, h⟩ := onVV_inv h
    exact (none0 (when_inv h).1).elim) (fun m ih xs F w cs R ha h => by
    obtain ⟨x, y, a, b, rfl, h1, h2, h⟩ := onVV_inv h
    obtain ⟨hm, h⟩ := when_inv h
    have ha := ha.conv2 (fun v => as_V h1) (fun v => as_V h2)
    obtain ⟨v, hv⟩ := ha.at 0 rfl
    obtain ⟨t, n, s, l⟩ := a
    obtain ⟨t', n', s', l'⟩ := b
    exact contract (fn := Tryz.f15) (walked (PureOk.also ih (PureOk.none _)) 14) (by kernel_rfl) w15C_ok (by rfl) (by rfl) (by rfl) (by rfl) (by rfl) ha (run15 m t n s l t' n' s' l' hm hv.vlen.n hv.vlen.s hv.vlen.l) h)
theorem ok15 : Pure1 Tryz.prog 15 sp15f := pure_all ok15n fun xs Q h => by
  obtain ⟨x, y, a, b, rfl, h1, h2, h⟩ := onVV_inv h
  exact ⟨a.sz + 1, onVV_mk h1 h2 (when_mk (Nat.lt_succ_self _) h)⟩

/-! ### value.Compare -/
/-! ### R.Compare -/
end Go.Qv
