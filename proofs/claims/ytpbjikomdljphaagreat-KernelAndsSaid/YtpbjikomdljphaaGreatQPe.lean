/- Contracts: values matched and compared, by the program and by the document. No condition. -/
import Derived.Test.YtpbjikomdljphaaGreatQPcM
set_option linter.unusedVariables false
set_option linter.unusedSimpArgs false
set_option maxRecDepth 100000
namespace Go.Qv
open Go Go.RowKit Go.Proofs

/-! ### value.Match -/
/-! ### R.Match -/
/-! ### value.Compare -/
theorem loop77 (m : Nat) (a b : List VT) (hm : smallers a m) (ha : a.length ≤ maxLen) (i : Nat) (h1 : i ≤ a.length) (h2 : i ≤ b.length) : Rh (w77S m) (Ret (.int .i64 (vcmps (a.drop i) (b.drop i)))) (2, [.vs a, .vs b, .vs a, .int a.length, .int i]) := by
  refine Rh.go (w77_2 m a b a a.length i _) ?_
  simp only [o_add, o_sub, o_mul, o_neg, o_conv, o_lt, o_le, o_eq, o_not, o_and, o_or, o_sel, o_isel, o_ssel, o_beq, o_seq, o_slt, o_slen, o_sat, o_scut, o_sadd, o_ilen, o_blen, o_vlen, o_rlen, o_iget, o_bget, o_vget, o_rget, o_iset, o_bset, o_vset, o_iapp, o_bapp, o_vapp, o_rapp, o_icut, o_bcut, o_vcut, o_irep, o_vt, o_vn, o_vs, o_vl, o_imax, o_imin, o_inb, o_sfit, o_cutb, o_fit, o_mkfit, RhQ, decT, decF, true_and, and_true, eq_self, implies_true, forall_const, Bool.not_eq_true', Bool.not_eq_false', Bool.not_true, Bool.not_false, Bool.and_eq_true, Bool.or_eq_true, Bool.and_eq_false_iff, Bool.or_eq_false_iff, Bool.true_and, Bool.and_true, Bool.false_and, Bool.and_false, Bool.or_false, Bool.false_or, Bool.true_or, Bool.or_true, Int.toNat_natCast, VT.eta, not_true, not_false_iff, false_implies, if_true, if_false, Int.toNat_zero, Int.toNat_one, ns0, ns4]
  refine ⟨fun h => ⟨⟨by omega, by omega⟩, fun hb => ?_, fun hb => ⟨⟨by omega, by omega⟩, hm _ (getD_mem a _ (by omega)), fun hl => ?_, fun hl => ?_⟩⟩, fun h => ⟨fun hs => ?_, fun hs => ?_⟩⟩
  · rw [drop_at a default (show i < a.length by omega), List.drop_of_length_le (l := b) (by omega), vcmps]; exact Ret.int rfl
  · rw [drop_at a default (show i < a.length by omega), drop_at b default (show i < b.length by omega)]
    exact Ret.int (by rw [vcmps, if_pos hl])
  · rw [inc ha (by omega), drop_at a default (show i < a.length by omega), drop_at b default (show i < b.length by omega), vcmps, if_neg (by rw [hl]; simp)]
    exact loop77 m a b hm ha (i + 1) (by omega) (by omega)
  · rw [List.drop_of_length_le (l := a) (by omega), drop_at b default (show i < b.length by omega), vcmps]; exact Ret.int rfl
  · rw [List.drop_of_length_le (l := a) (by omega), List.drop_of_length_le (l := b) (by omega), vcmps]; exact Ret.int rfl
termination_by a.length - i
theorem run77 (m : Nat) (a b : List VT) (hm : smallers a m) (ha : a.length ≤ maxLen) : Rh (w77S m) (Ret (.int .i64 (vcmps a b))) (9999, [.vs a, .vs b]) := by
  refine Rh.go (w77_9999 m a b _) ?_
  simp only [o_add, o_sub, o_mul, o_neg, o_conv, o_lt, o_le, o_eq, o_not, o_and, o_or, o_sel, o_isel, o_ssel, o_beq, o_seq, o_slt, o_slen, o_sat, o_scut, o_sadd, o_ilen, o_blen, o_vlen, o_rlen, o_iget, o_bget, o_vget, o_rget, o_iset, o_bset, o_vset, o_iapp, o_bapp, o_vapp, o_rapp, o_icut, o_bcut, o_vcut, o_irep, o_vt, o_vn, o_vs, o_vl, o_imax, o_imin, o_inb, o_sfit, o_cutb, o_fit, o_mkfit, RhQ, decT, decF, true_and, and_true, eq_self, implies_true, forall_const, Bool.not_eq_true', Bool.not_eq_false', Bool.not_true, Bool.not_false, Bool.and_eq_true, Bool.or_eq_true, Bool.and_eq_false_iff, Bool.or_eq_false_iff, Bool.true_and, Bool.and_true, Bool.false_and, Bool.and_false, Bool.or_false, Bool.false_or, Bool.true_or, Bool.or_true, Int.toNat_natCast, VT.eta, not_true, not_false_iff, false_implies, if_true, if_false, Int.toNat_zero, Int.toNat_one, ns0, ns4]
  exact loop77 m a b hm ha 0 (by omega) (by omega)
theorem ok77 {m : Nat} (ih : Pure1 Tryz.prog 50 (sp50 m)) : Pure1 Tryz.prog 77 (sp77 m) := by
  intro xs F w cs R ha h
  obtain ⟨x, y, a, b, rfl, h1, h2, h⟩ := onVsF_inv h
  obtain ⟨hm, h⟩ := when_inv h
  have ha := ha.conv3 (fun v => as_Vs h1) (fun v => as_Vs h2) (fun v h => h)
  obtain ⟨v, hv⟩ := ha.at 0 rfl
  exact contract (fn := Tryz.f77) (walked (PureOk.also ih (PureOk.none _)) 14) (by kernel_rfl) w77C_ok (by rfl) (by rfl) (by rfl) (by rfl) (by rfl) ha (run77 m a b hm hv.len) h
theorem run50 (m : Nat) (t n s l t' n' s' l') (hm : smaller (.mk t n s l) (m + 1)) : Rh (w50S m) (Ret (.int .i64 (vcmp (.mk t n s l) (.mk t' n' s' l')))) (9999, [.int t, .is n, .ss s, .vs l, .int t', .is n', .ss s', .vs l']) := by
  refine Rh.go (w50_9999 m t n s l t' n' s' l' _) ?_
  simp only [o_add, o_sub, o_mul, o_neg, o_conv, o_lt, o_le, o_eq, o_not, o_and, o_or, o_sel, o_isel, o_ssel, o_beq, o_seq, o_slt, o_slen, o_sat, o_scut, o_sadd, o_ilen, o_blen, o_vlen, o_rlen, o_iget, o_bget, o_vget, o_rget, o_iset, o_bset, o_vset, o_iapp, o_bapp, o_vapp, o_rapp, o_icut, o_bcut, o_vcut, o_irep, o_vt, o_vn, o_vs, o_vl, o_imax, o_imin, o_inb, o_sfit, o_cutb, o_fit, o_mkfit, RhQ, decT, decF, true_and, and_true, eq_self, implies_true, forall_const, Bool.not_eq_true', Bool.not_eq_false', Bool.not_true, Bool.not_false, Bool.and_eq_true, Bool.or_eq_true, Bool.and_eq_false_iff, Bool.or_eq_false_iff, Bool.true_and, Bool.and_true, Bool.false_and, Bool.and_false, Bool.or_false, Bool.false_or, Bool.true_or, Bool.or_true, Int.toNat_natCast, VT.eta, not_true, not_false_iff, false_implies, if_true, if_false, Int.toNat_zero, Int.toNat_one, ns0, ns4]
  refine ⟨fun x hx => ?_, Ret.int (by rw [vcmp]; rfl)⟩
  unfold smaller at hm
  have := sz_lt (t := t) (n := n) (s := s) hx
  omega
theorem ok50n : ∀ n, Pure1 Tryz.prog 50 (sp50 n) := pure_ind (fun xs F w cs R ha h => by
    obtain ⟨x, y, a, b, rfl, h1, h2, h⟩ := onVV_inv h
    exact (none0 (when_inv h).1).elim) (fun m ih xs F w cs R ha h => by
    obtain ⟨x, y, a, b, rfl, h1, h2, h⟩ := onVV_inv h
    obtain ⟨hm, h⟩ := when_inv h
    have ha := ha.conv2 (fun v => as_V h1) (fun v => as_V h2)
    obtain ⟨t, n, s, l⟩ := a
    obtain ⟨t', n', s', l'⟩ := b
    exact contract (fn := Tryz.f50) (walked (PureOk.also (ok77 ih) (PureOk.also ok72 (PureOk.also ok73 (PureOk.also ok75 (PureOk.also ok76 (PureOk.also ok71 (PureOk.none _))))))) 14) (by kernel_rfl) w50C_ok (by rfl) (by rfl) (by rfl) (by rfl) (by rfl) ha (run50 m t n s l t' n' s' l' hm) h)
theorem ok50 : Pure1 Tryz.prog 50 sp50f := pure_all ok50n fun xs Q h => by
  obtain ⟨x, y, a, b, rfl, h1, h2, h⟩ := onVV_inv h
  exact ⟨a.sz + 1, onVV_mk h1 h2 (when_mk (Nat.lt_succ_self _) h)⟩

/-! ### R.Compare -/
end Go.Qv
