/- Contracts: sizes, places, elements at places. No condition. -/
import Derived.Test.YteaeogofidakiaaGreatQWd
set_option linter.unusedVariables false
set_option linter.unusedSimpArgs false
set_option maxRecDepth 100000
namespace Go.Qv
open Go Go.RowKit Go.Proofs

/-! ### quiverlaw07.size, right -/
theorem loop31 (m : Nat) (t n s l) (hm : smaller (.mk t n s l) (m + 1)) (hl : l.length ≤ maxLen) (d : Int) (i : Nat) (h1 : i ≤ l.length) : Rh (w31S m) (Ret (.int .i64 (szWs (l.drop i) d))) (3, [.int d, .int i, .int t, .is n, .ss s, .vs l]) := by
  refine Rh.go (w31_3 m d i t n s l _) ?_
  simp only [o_add, o_sub, o_mul, o_neg, o_conv, o_lt, o_le, o_eq, o_not, o_and, o_or, o_sel, o_isel, o_ssel, o_beq, o_seq, o_slt, o_slen, o_sat, o_scut, o_sadd, o_ilen, o_blen, o_vlen, o_rlen, o_iget, o_bget, o_vget, o_rget, o_iset, o_bset, o_vset, o_iapp, o_bapp, o_vapp, o_rapp, o_icut, o_bcut, o_vcut, o_irep, o_vt, o_vn, o_vs, o_vl, o_imax, o_imin, o_inb, o_sfit, o_cutb, o_fit, o_mkfit, RhQ, decT, decF, true_and, and_true, eq_self, implies_true, forall_const, Bool.not_eq_true', Bool.not_eq_false', Bool.not_true, Bool.not_false, Bool.and_eq_true, Bool.or_eq_true, Bool.and_eq_false_iff, Bool.or_eq_false_iff, Bool.true_and, Bool.and_true, Bool.false_and, Bool.and_false, Bool.or_false, Bool.false_or, Bool.true_or, Bool.or_true, Int.toNat_natCast, VT.eta, not_true, not_false_iff, false_implies, if_true, if_false, Int.toNat_zero, Int.toNat_one, ns0, ns4]
  refine ⟨fun h => ⟨⟨by omega, by omega⟩, hm.mem (getD_mem l default (by omega)), ?_⟩, fun h => Ret.int ?_⟩
  · rw [inc hl (by omega), drop_at l default (show i < l.length by omega), szWs, if_pos h.2]
    exact loop31 m t n s l hm hl _ (i + 1) (by omega)
  · rcases Nat.lt_or_ge i l.length with hi | hi
    · rw [drop_at l default hi, szWs, if_neg (by omega)]
    · rw [List.drop_of_length_le hi]; rfl
termination_by l.length - i
theorem ok31n : ∀ n, Pure1 Tryz.prog 31 (sp31 n) := pure_ind (fun xs F w cs R ha h => by
    obtain ⟨x, a, rfl, h1, h⟩ := onV_inv h
    exact (none0 (when_inv h).1).elim) (fun m ih xs F w cs R ha h => by
    obtain ⟨x, a, rfl, h1, h⟩ := onV_inv h
    obtain ⟨hm, h⟩ := when_inv h
    have ha := ha.conv1 (fun v => as_V h1)
    obtain ⟨v, hv⟩ := ha.at 0 rfl
    obtain ⟨t, n, s, l⟩ := a
    refine contract (fn := Tryz.f31) (walked (PureOk.also ih (PureOk.none _)) 14) (by kernel_rfl) w31C_ok (by rfl) (by rfl) (by rfl) (by rfl) (by rfl) ha (ρ := [.int t, .is n, .ss s, .vs l]) (Rh.go (w31_9999 m t n s l _) ?_) h
    simp only [o_add, o_sub, o_mul, o_neg, o_conv, o_lt, o_le, o_eq, o_not, o_and, o_or, o_sel, o_isel, o_ssel, o_beq, o_seq, o_slt, o_slen, o_sat, o_scut, o_sadd, o_ilen, o_blen, o_vlen, o_rlen, o_iget, o_bget, o_vget, o_rget, o_iset, o_bset, o_vset, o_iapp, o_bapp, o_vapp, o_rapp, o_icut, o_bcut, o_vcut, o_irep, o_vt, o_vn, o_vs, o_vl, o_imax, o_imin, o_inb, o_sfit, o_cutb, o_fit, o_mkfit, RhQ, decT, decF, true_and, and_true, eq_self, implies_true, forall_const, Bool.not_eq_true', Bool.not_eq_false', Bool.not_true, Bool.not_false, Bool.and_eq_true, Bool.or_eq_true, Bool.and_eq_false_iff, Bool.or_eq_false_iff, Bool.true_and, Bool.and_true, Bool.false_and, Bool.and_false, Bool.or_false, Bool.false_or, Bool.true_or, Bool.or_true, Int.toNat_natCast, VT.eta, not_true, not_false_iff, false_implies, if_true, if_false, Int.toNat_zero, Int.toNat_one, ns0, ns4]
    rw [szW]
    exact loop31 m t n s l hm hv.vlen.l _ 0 (by omega))
theorem ok31 : Pure1 Tryz.prog 31 sp31f := pure_all ok31n fun xs Q h => by
  obtain ⟨x, a, rfl, h1, h⟩ := onV_inv h
  exact ⟨a.sz + 1, onV_mk h1 (when_mk (Nat.lt_succ_self _) h)⟩
theorem loop5b (l : List VT) (hl : l.length ≤ maxLen) (hf : fines l) (i : Nat) (h1 : i ≤ l.length) : Rh w5S (Ret (.bool (checkB (l.drop i)))) (9, [.vs l, .int i]) := by
  refine Rh.go (w5_9 l i _) ?_
  simp only [o_add, o_sub, o_mul, o_neg, o_conv, o_lt, o_le, o_eq, o_not, o_and, o_or, o_sel, o_isel, o_ssel, o_beq, o_seq, o_slt, o_slen, o_sat, o_scut, o_sadd, o_ilen, o_blen, o_vlen, o_rlen, o_iget, o_bget, o_vget, o_rget, o_iset, o_bset, o_vset, o_iapp, o_bapp, o_vapp, o_rapp, o_icut, o_bcut, o_vcut, o_irep, o_vt, o_vn, o_vs, o_vl, o_imax, o_imin, o_inb, o_sfit, o_cutb, o_fit, o_mkfit, RhQ, decT, decF, true_and, and_true, eq_self, implies_true, forall_const, Bool.not_eq_true', Bool.not_eq_false', Bool.not_true, Bool.not_false, Bool.and_eq_true, Bool.or_eq_true, Bool.and_eq_false_iff, Bool.or_eq_false_iff, Bool.true_and, Bool.and_true, Bool.false_and, Bool.and_false, Bool.or_false, Bool.false_or, Bool.true_or, Bool.or_true, Int.toNat_natCast, VT.eta, not_true, not_false_iff, false_implies, if_true, if_false, Int.toNat_zero, Int.toNat_one, ns0, ns4]
  refine ⟨fun h => ⟨⟨by omega, by omega⟩, hf _ (getD_mem l default (by omega)), fun h2 => ?_, fun h2 => ?_⟩, fun h => ?_⟩
  · rw [drop_at l default (show i < l.length by omega)]
    refine Ret.bool ?_
    unfold checkB
    rw [List.all_cons, decide_eq_false (fun h3 => h2 (by unfold checkV at h3; simpa using h3)), Bool.false_and]
  · rw [inc hl (by omega), drop_at l default (show i < l.length by omega)]
    have e := loop5b l hl hf (i + 1) (by omega)
    have e2 : checkB (l.getD i default :: l.drop (i + 1)) = checkB (l.drop (i + 1)) := by
      unfold checkB
      rw [List.all_cons, decide_eq_true (show checkV (l.getD i default) = 0 by unfold checkV; simpa using h2), Bool.true_and]
    rw [e2]
    exact e
  · rw [List.drop_of_length_le (by omega)]; exact Ret.bool rfl
termination_by l.length - i
theorem loop5a (l : List VT) (hl : l.length ≤ maxLen) (hf : fines l) (d : Int) (i : Nat) (h1 : i ≤ l.length) (hd : szWs l 0 = szWs (l.drop i) d) : Rh w5S (Ret (.bool (rightB l))) (3, [.vs l, .int d, .int i]) := by
  refine Rh.go (w5_3 l d i _) ?_
  simp only [o_add, o_sub, o_mul, o_neg, o_conv, o_lt, o_le, o_eq, o_not, o_and, o_or, o_sel, o_isel, o_ssel, o_beq, o_seq, o_slt, o_slen, o_sat, o_scut, o_sadd, o_ilen, o_blen, o_vlen, o_rlen, o_iget, o_bget, o_vget, o_rget, o_iset, o_bset, o_vset, o_iapp, o_bapp, o_vapp, o_rapp, o_icut, o_bcut, o_vcut, o_irep, o_vt, o_vn, o_vs, o_vl, o_imax, o_imin, o_inb, o_sfit, o_cutb, o_fit, o_mkfit, RhQ, decT, decF, true_and, and_true, eq_self, implies_true, forall_const, Bool.not_eq_true', Bool.not_eq_false', Bool.not_true, Bool.not_false, Bool.and_eq_true, Bool.or_eq_true, Bool.and_eq_false_iff, Bool.or_eq_false_iff, Bool.true_and, Bool.and_true, Bool.false_and, Bool.and_false, Bool.or_false, Bool.false_or, Bool.true_or, Bool.or_true, Int.toNat_natCast, VT.eta, not_true, not_false_iff, false_implies, if_true, if_false, Int.toNat_zero, Int.toNat_one, ns0, ns4]
  refine ⟨fun h => ⟨⟨by omega, by omega⟩, ?_⟩, fun h => ⟨fun h2 => ?_, fun h2 => ?_⟩⟩
  · rw [drop_at l default (show i < l.length by omega), szWs, if_pos h.2] at hd
    rw [inc hl (by omega)]
    exact loop5a l hl hf _ (i + 1) (by omega) hd
  all_goals
    have e : szWs l 0 = d := by
      rcases Nat.lt_or_ge i l.length with hi | hi
      · rw [drop_at l default hi, szWs, if_neg (by omega)] at hd; exact hd
      · rw [List.drop_of_length_le hi] at hd; simpa [szWs] using hd
    unfold rightB
    rw [e]
  · rw [decide_eq_true h2]; exact Ret.bool rfl
  · rw [decide_eq_false h2]; exact loop5b l hl hf 0 (by omega)
termination_by l.length - i
theorem ok5 : Pure1 Tryz.prog 5 sp5 := by
  intro xs F w cs R ha h
  obtain ⟨x, a, rfl, h1, h⟩ := onVs_inv h
  obtain ⟨hf, h⟩ := when_inv h
  have ha := ha.conv1 (fun v => as_Vs h1)
  obtain ⟨v, hv⟩ := ha.at 0 rfl
  refine contract (fn := Tryz.f5) (walked (PureOk.also ok31 (PureOk.also ok68 (PureOk.also ok69 (PureOk.none _)))) 14) (by kernel_rfl) w5C_ok (by rfl) (by rfl) (by rfl) (by rfl) (by rfl) ha (ρ := [.vs a]) (Rh.go (w5_9999 a _) ?_) h
  simp only [o_add, o_sub, o_mul, o_neg, o_conv, o_lt, o_le, o_eq, o_not, o_and, o_or, o_sel, o_isel, o_ssel, o_beq, o_seq, o_slt, o_slen, o_sat, o_scut, o_sadd, o_ilen, o_blen, o_vlen, o_rlen, o_iget, o_bget, o_vget, o_rget, o_iset, o_bset, o_vset, o_iapp, o_bapp, o_vapp, o_rapp, o_icut, o_bcut, o_vcut, o_irep, o_vt, o_vn, o_vs, o_vl, o_imax, o_imin, o_inb, o_sfit, o_cutb, o_fit, o_mkfit, RhQ, decT, decF, true_and, and_true, eq_self, implies_true, forall_const, Bool.not_eq_true', Bool.not_eq_false', Bool.not_true, Bool.not_false, Bool.and_eq_true, Bool.or_eq_true, Bool.and_eq_false_iff, Bool.or_eq_false_iff, Bool.true_and, Bool.and_true, Bool.false_and, Bool.and_false, Bool.or_false, Bool.false_or, Bool.true_or, Bool.or_true, Int.toNat_natCast, VT.eta, not_true, not_false_iff, false_implies, if_true, if_false, Int.toNat_zero, Int.toNat_one, ns0, ns4]
  exact loop5a a hv.len hf 0 0 (by omega) rfl
/-! ### nulls -/
theorem null63 : Int.negSucc 9223372036854775807 = -9223372036854775808 := rfl
theorem ns2 : Int.negSucc 2 = -3 := rfl
theorem ok85 : Pure1 Tryz.prog 85 sp85 := by
  intro xs F w cs R ha h
  obtain ⟨t, rfl, h⟩ := onInt_inv h
  refine contract (fn := Tryz.f85) (walked (PureOk.also ok77 (PureOk.also ok90 (PureOk.also ok114 (PureOk.none _)))) 14) (by kernel_rfl) w85C_ok (by rfl) (by rfl) (by rfl) (by rfl) (by rfl) ha (ρ := [.int t]) (Rh.go (w85_9999 t _) ?_) h
  simp only [o_add, o_sub, o_mul, o_neg, o_conv, o_lt, o_le, o_eq, o_not, o_and, o_or, o_sel, o_isel, o_ssel, o_beq, o_seq, o_slt, o_slen, o_sat, o_scut, o_sadd, o_ilen, o_blen, o_vlen, o_rlen, o_iget, o_bget, o_vget, o_rget, o_iset, o_bset, o_vset, o_iapp, o_bapp, o_vapp, o_rapp, o_icut, o_bcut, o_vcut, o_irep, o_vt, o_vn, o_vs, o_vl, o_imax, o_imin, o_inb, o_sfit, o_cutb, o_fit, o_mkfit, RhQ, decT, decF, true_and, and_true, eq_self, implies_true, forall_const, Bool.not_eq_true', Bool.not_eq_false', Bool.not_true, Bool.not_false, Bool.and_eq_true, Bool.or_eq_true, Bool.and_eq_false_iff, Bool.or_eq_false_iff, Bool.true_and, Bool.and_true, Bool.false_and, Bool.and_false, Bool.or_false, Bool.false_or, Bool.true_or, Bool.or_true, Int.toNat_natCast, VT.eta, not_true, not_false_iff, false_implies, if_true, if_false, Int.toNat_zero, Int.toNat_one, ns0, ns4, null63, ns2]
  unfold nullV
  refine ⟨fun h => Ret.v (if_pos h) rfl, fun h => ⟨fun h2 => Ret.v (by rw [if_neg h, if_pos h2]) rfl, fun h2 => by rw [if_neg h, if_neg h2]; exact rfl⟩⟩
theorem atomV_nil {t n : Int} (h1 : rAbs t ≠ 1) (h2 : rAbs t ≠ 2) (h4 : rAbs t ≠ 4) (h5 : rAbs t ≠ 5) : atomV t n = .mk 101 [] [] [] := by
  unfold atomV; rw [if_pos (by omega)]
theorem ok89 : Pure1 Tryz.prog 89 sp89 := by
  intro xs F w cs R ha h
  obtain ⟨t, rfl, h⟩ := onInt_inv h
  refine contract (fn := Tryz.f89) (walked (PureOk.also ok77 (PureOk.also ok90 (PureOk.also ok35 (PureOk.none _)))) 14) (by kernel_rfl) w89C_ok (by rfl) (by rfl) (by rfl) (by rfl) (by rfl) ha (ρ := [.int t]) (Rh.go (w89_9999 t _) ?_) h
  simp only [o_add, o_sub, o_mul, o_neg, o_conv, o_lt, o_le, o_eq, o_not, o_and, o_or, o_sel, o_isel, o_ssel, o_beq, o_seq, o_slt, o_slen, o_sat, o_scut, o_sadd, o_ilen, o_blen, o_vlen, o_rlen, o_iget, o_bget, o_vget, o_rget, o_iset, o_bset, o_vset, o_iapp, o_bapp, o_vapp, o_rapp, o_icut, o_bcut, o_vcut, o_irep, o_vt, o_vn, o_vs, o_vl, o_imax, o_imin, o_inb, o_sfit, o_cutb, o_fit, o_mkfit, RhQ, decT, decF, true_and, and_true, eq_self, implies_true, forall_const, Bool.not_eq_true', Bool.not_eq_false', Bool.not_true, Bool.not_false, Bool.and_eq_true, Bool.or_eq_true, Bool.and_eq_false_iff, Bool.or_eq_false_iff, Bool.true_and, Bool.and_true, Bool.false_and, Bool.and_false, Bool.or_false, Bool.false_or, Bool.true_or, Bool.or_true, Int.toNat_natCast, VT.eta, not_true, not_false_iff, false_implies, if_true, if_false, Int.toNat_zero, Int.toNat_one, ns0, ns4, null63, ns2]
  unfold nullV
  refine ⟨fun h => Ret.v (if_pos h) rfl, fun h => ⟨fun h2 => Ret.v (by rw [if_neg h, if_pos h2]) rfl, fun h2 => ?_⟩⟩
  rw [if_neg h, if_neg h2]
  refine ⟨fun h3 => ?_, fun h3 => ⟨fun h4 => ?_, fun h4 => ⟨fun h5 => ?_, fun h5 => Ret.v (atomV_nil h h3 h4 h5) rfl⟩⟩⟩
  all_goals first | exact rfl | exact ⟨fun _ => rfl, fun hh => absurd (by assumption) hh⟩
/-! ### vec.Til -/
theorem loop23 (n : Int) (hn : tilOk n) (i : Nat) (h1 : (i : Int) ≤ n) : Rh w23S (Ret (.tup [vcl (tilV n), .int .i64 0])) (7, [.int n, .int i, .int 2, .is (iotaI i)]) := by
  refine Rh.go (w23_7 n i 2 (iotaI i) _) ?_
  obtain ⟨hn0, hn1⟩ := hn
  simp only [o_add, o_sub, o_mul, o_neg, o_conv, o_lt, o_le, o_eq, o_not, o_and, o_or, o_sel, o_isel, o_ssel, o_beq, o_seq, o_slt, o_slen, o_sat, o_scut, o_sadd, o_ilen, o_blen, o_vlen, o_rlen, o_iget, o_bget, o_vget, o_rget, o_iset, o_bset, o_vset, o_iapp, o_bapp, o_vapp, o_rapp, o_icut, o_bcut, o_vcut, o_irep, o_vt, o_vn, o_vs, o_vl, o_imax, o_imin, o_inb, o_sfit, o_cutb, o_fit, o_mkfit, RhQ, decT, decF, true_and, and_true, eq_self, implies_true, forall_const, Bool.not_eq_true', Bool.not_eq_false', Bool.not_true, Bool.not_false, Bool.and_eq_true, Bool.or_eq_true, Bool.and_eq_false_iff, Bool.or_eq_false_iff, Bool.true_and, Bool.and_true, Bool.false_and, Bool.and_false, Bool.or_false, Bool.false_or, Bool.true_or, Bool.or_true, Int.toNat_natCast, VT.eta, not_true, not_false_iff, false_implies, if_true, if_false, Int.toNat_zero, Int.toNat_one, ns0, ns4, iotaI_len, List.length_cons, List.length_nil]
  refine ⟨fun h => ⟨by omega, ?_⟩, fun h => ?_⟩
  · rw [w64 (by omega) (by omega)]
    have e := loop23 n ⟨hn0, hn1⟩ (i + 1) (by omega)
    rw [iotaI_succ] at e
    exact e
  · have : n = (i : Int) := by omega
    subst this; exact rfl
termination_by (n - i).toNat
theorem ok23 : Pure1 Tryz.prog 23 sp23 := by
  intro xs F w cs R ha h
  obtain ⟨n, rfl, h⟩ := onInt_inv h
  obtain ⟨hn, h⟩ := when_inv h
  refine contract (fn := Tryz.f23) (walked okAB2 14) (by kernel_rfl) w23C_ok (by rfl) (by rfl) (by rfl) (by rfl) (by rfl) ha (ρ := [.int n]) (Rh.go (w23_9999 n _) ?_) h
  have e := loop23 n hn 0 (by have := hn.1; omega)
  have e0 : iotaI ((0 : Nat) : Int) = [] := rfl
  rw [e0] at e
  have a2 : rAbs 2 = 2 := by decide
  simp only [o_add, o_sub, o_mul, o_neg, o_conv, o_lt, o_le, o_eq, o_not, o_and, o_or, o_sel, o_isel, o_ssel, o_beq, o_seq, o_slt, o_slen, o_sat, o_scut, o_sadd, o_ilen, o_blen, o_vlen, o_rlen, o_iget, o_bget, o_vget, o_rget, o_iset, o_bset, o_vset, o_iapp, o_bapp, o_vapp, o_rapp, o_icut, o_bcut, o_vcut, o_irep, o_vt, o_vn, o_vs, o_vl, o_imax, o_imin, o_inb, o_sfit, o_cutb, o_fit, o_mkfit, RhQ, decT, decF, true_and, and_true, eq_self, implies_true, forall_const, Bool.not_eq_true', Bool.not_eq_false', Bool.not_true, Bool.not_false, Bool.and_eq_true, Bool.or_eq_true, Bool.and_eq_false_iff, Bool.or_eq_false_iff, Bool.true_and, Bool.and_true, Bool.false_and, Bool.and_false, Bool.or_false, Bool.false_or, Bool.true_or, Bool.or_true, Int.toNat_natCast, VT.eta, not_true, not_false_iff, false_implies, if_true, if_false, Int.toNat_zero, Int.toNat_one, ns0, ns4, a2]
  exact ⟨fun h => absurd h (by have := hn.1; omega), fun _ => ⟨fun h => absurd h (by have := hn.2; omega), fun _ => ⟨fun _ => e, fun h => absurd h (by omega)⟩⟩⟩
theorem loop23e (n : Int) (hn : tilOk n) (i : Nat) (h1 : (i : Int) ≤ n) : Rh w23eS (fun E => E = ⟨.tup [.agg [.int .i64 2, .own 64, .nils, .nils], .int .i64 0], [], [], [.arr 2 (.i .i64 (iotaI n))]⟩) (7, [.int n, .int i, .int 2, .is (iotaI i)]) := by
  refine Rh.go (w23e_7 n i 2 (iotaI i) _) ?_
  obtain ⟨hn0, hn1⟩ := hn
  simp only [o_add, o_sub, o_mul, o_neg, o_conv, o_lt, o_le, o_eq, o_not, o_and, o_or, o_sel, o_isel, o_ssel, o_beq, o_seq, o_slt, o_slen, o_sat, o_scut, o_sadd, o_ilen, o_blen, o_vlen, o_rlen, o_iget, o_bget, o_vget, o_rget, o_iset, o_bset, o_vset, o_iapp, o_bapp, o_vapp, o_rapp, o_icut, o_bcut, o_vcut, o_irep, o_vt, o_vn, o_vs, o_vl, o_imax, o_imin, o_inb, o_sfit, o_cutb, o_fit, o_mkfit, RhQ, decT, decF, true_and, and_true, eq_self, implies_true, forall_const, Bool.not_eq_true', Bool.not_eq_false', Bool.not_true, Bool.not_false, Bool.and_eq_true, Bool.or_eq_true, Bool.and_eq_false_iff, Bool.or_eq_false_iff, Bool.true_and, Bool.and_true, Bool.false_and, Bool.and_false, Bool.or_false, Bool.false_or, Bool.true_or, Bool.or_true, Int.toNat_natCast, VT.eta, not_true, not_false_iff, false_implies, if_true, if_false, Int.toNat_zero, Int.toNat_one, ns0, ns4, iotaI_len, List.length_cons, List.length_nil]
  refine ⟨fun h => ⟨by omega, ?_⟩, fun h => ?_⟩
  · rw [w64 (by omega) (by omega)]
    have e := loop23e n ⟨hn0, hn1⟩ (i + 1) (by omega)
    rw [iotaI_succ] at e
    exact e
  · have : n = (i : Int) := by omega
    subst this; exact rfl
termination_by (n - i).toNat
theorem whenE_inv {p : Prop} {t : T Eff} {Q : Eff → Prop} (h : (whenE p t).sat Q) : p ∧ t.sat Q := h
theorem oke23 : Eff1 Tryz.prog 23 se23 := by
  intro xs hs β F w cs R hp hl hv h
  unfold se23 at h
  split at h
  · rename_i n
    obtain ⟨hn, h⟩ := whenE_inv h
    refine flow_eff (fn := Tryz.f23) (ρ := [.int n]) mixed tbOk (walked okAB2 14) fnsOk (by kernel_rfl) w23eC_ok (e0 := 9999) (by rfl) (by rfl) (ys := [.int .i64 n]) (hs' := []) (by rfl) (by rfl) (by rfl) (by rfl) hp hl hv (K := fun E => E = ⟨.tup [.agg [.int .i64 2, .own 64, .nils, .nils], .int .i64 0], [], [], [.arr 2 (.i .i64 (iotaI n))]⟩) (Rh.go (w23e_9999 n _) ?_) (fun E hE => by subst hE; exact h)
    have e := loop23e n hn 0 (by have := hn.1; omega)
    have e0 : iotaI ((0 : Nat) : Int) = [] := rfl
    rw [e0] at e
    have a2 : rAbs 2 = 2 := by decide
    simp only [o_add, o_sub, o_mul, o_neg, o_conv, o_lt, o_le, o_eq, o_not, o_and, o_or, o_sel, o_isel, o_ssel, o_beq, o_seq, o_slt, o_slen, o_sat, o_scut, o_sadd, o_ilen, o_blen, o_vlen, o_rlen, o_iget, o_bget, o_vget, o_rget, o_iset, o_bset, o_vset, o_iapp, o_bapp, o_vapp, o_rapp, o_icut, o_bcut, o_vcut, o_irep, o_vt, o_vn, o_vs, o_vl, o_imax, o_imin, o_inb, o_sfit, o_cutb, o_fit, o_mkfit, RhQ, decT, decF, true_and, and_true, eq_self, implies_true, forall_const, Bool.not_eq_true', Bool.not_eq_false', Bool.not_true, Bool.not_false, Bool.and_eq_true, Bool.or_eq_true, Bool.and_eq_false_iff, Bool.or_eq_false_iff, Bool.true_and, Bool.and_true, Bool.false_and, Bool.and_false, Bool.or_false, Bool.false_or, Bool.true_or, Bool.or_true, Int.toNat_natCast, VT.eta, not_true, not_false_iff, false_implies, if_true, if_false, Int.toNat_zero, Int.toNat_one, ns0, ns4, a2]
    exact ⟨fun h => absurd h (by have := hn.1; omega), fun _ => ⟨fun h => absurd h (by have := hn.2; omega), fun _ => ⟨fun _ => e, fun h => absurd h (by omega)⟩⟩⟩
  · exact h.elim
/-! ### slices.Reverse -/
def revAt (l : List Int) (i : Nat) : List Int := (List.range l.length).map fun k => if k < i ∨ l.length ≤ k + i then l.getD (l.length - 1 - k) 0 else l.getD k 0
theorem revAt_len (l : List Int) (i : Nat) : (revAt l i).length = l.length := by simp [revAt]
theorem revAt_get (l : List Int) (i k : Nat) (h : k < l.length) : (revAt l i).getD k 0 = if k < i ∨ l.length ≤ k + i then l.getD (l.length - 1 - k) 0 else l.getD k 0 := by
  rw [List.getD_eq_getElem?_getD, List.getElem?_eq_getElem (by rw [revAt_len]; exact h)]
  simp [revAt, -List.getD_eq_getElem?_getD]
theorem ext_getD {a b : List Int} (h : a.length = b.length) (hh : ∀ k, k < a.length → a.getD k 0 = b.getD k 0) : a = b := by
  apply List.ext_getElem h
  intro k h1 h2
  have := hh k h1
  rwa [List.getD_eq_getElem?_getD, List.getElem?_eq_getElem h1, List.getD_eq_getElem?_getD, List.getElem?_eq_getElem h2] at this
theorem revAt_zero (l : List Int) : revAt l 0 = l := ext_getD (revAt_len l 0) fun k hk => by
  rw [revAt_len] at hk; rw [revAt_get l 0 k hk, if_neg (by omega)]
theorem getD_set {l : List Int} {i k : Nat} {x : Int} (hk : k < l.length) : (l.set i x).getD k 0 = if i = k then x else l.getD k 0 := by
  rw [List.getD_eq_getElem?_getD, List.getElem?_eq_getElem (by simpa using hk), List.getD_eq_getElem?_getD, List.getElem?_eq_getElem hk, Option.getD_some, Option.getD_some, List.getElem_set]
theorem revAt_step (l : List Int) (i : Nat) (h : 2 * i + 1 < l.length) : ((revAt l i).set i ((revAt l i).getD (l.length - 1 - i) 0)).set (l.length - 1 - i) ((revAt l i).getD i 0) = revAt l (i + 1) := by
  refine ext_getD (by simp [revAt_len]) fun k hk => ?_
  have hk : k < l.length := by simpa [revAt_len] using hk
  rw [getD_set (by simpa [revAt_len] using hk), getD_set (by rw [revAt_len]; exact hk), revAt_get l (i + 1) k hk, revAt_get l i k hk, revAt_get l i i (by omega), revAt_get l i _ (by omega)]
  by_cases h1 : l.length - 1 - i = k
  · rw [if_pos h1, if_neg (by omega), if_pos (by omega)]; congr 1; omega
  · rw [if_neg h1]
    by_cases h2 : i = k
    · rw [if_pos h2, if_neg (by omega), if_pos (by omega)]; congr 1; omega
    · rw [if_neg h2]
      by_cases h3 : k < i ∨ l.length ≤ k + i
      · rw [if_pos h3, if_pos (by omega)]
      · rw [if_neg h3, if_neg (by omega)]
theorem revAt_end (l : List Int) (i : Nat) (h : l.length ≤ 2 * i + 1) : revAt l i = l.reverse := by
  refine ext_getD (by simp [revAt_len]) fun k hk => ?_
  rw [revAt_len] at hk
  have e : l.reverse.getD k 0 = l.getD (l.length - 1 - k) 0 := by
    rw [List.getD_eq_getElem?_getD, List.getElem?_reverse hk, ← List.getD_eq_getElem?_getD]
  rw [revAt_get l i k hk, e]
  by_cases h3 : k < i ∨ l.length ≤ k + i
  · rw [if_pos h3]
  · rw [if_neg h3]; congr 1; omega
theorem loop39 (l0 l : List Int) (hl : l.length ≤ 1073741824) (i : Nat) (h1 : i ≤ l.length) : Rh (w39eS l0) (fun E => E = ⟨.tup [], [(0, some (.arr 2 (.i .i64 l.reverse)))], [], []⟩) (1, [.int i, .int ((l.length : Int) - 1 - i), .is (revAt l i)]) := by
  refine Rh.go (w39e_1 l0 i _ (revAt l i) _) ?_
  simp only [o_add, o_sub, o_mul, o_neg, o_conv, o_lt, o_le, o_eq, o_not, o_and, o_or, o_sel, o_isel, o_ssel, o_beq, o_seq, o_slt, o_slen, o_sat, o_scut, o_sadd, o_ilen, o_blen, o_vlen, o_rlen, o_iget, o_bget, o_vget, o_rget, o_iset, o_bset, o_vset, o_iapp, o_bapp, o_vapp, o_rapp, o_icut, o_bcut, o_vcut, o_irep, o_vt, o_vn, o_vs, o_vl, o_imax, o_imin, o_inb, o_sfit, o_cutb, o_fit, o_mkfit, RhQ, decT, decF, true_and, and_true, eq_self, implies_true, forall_const, Bool.not_eq_true', Bool.not_eq_false', Bool.not_true, Bool.not_false, Bool.and_eq_true, Bool.or_eq_true, Bool.and_eq_false_iff, Bool.or_eq_false_iff, Bool.true_and, Bool.and_true, Bool.false_and, Bool.and_false, Bool.or_false, Bool.false_or, Bool.true_or, Bool.or_true, Int.toNat_natCast, VT.eta, not_true, not_false_iff, false_implies, if_true, if_false, Int.toNat_zero, Int.toNat_one, ns0, ns4, revAt_len, List.length_set]
  refine ⟨fun h => ?_, fun h => ?_⟩
  · have e := loop39 l0 l hl (i + 1) (by omega)
    rw [← revAt_step l i (by omega)] at e
    have t1 : ((l.length : Int) - 1 - i).toNat = l.length - 1 - i := by omega
    have t2 : (l.length : Int) - 1 - ((i + 1 : Nat) : Int) = (l.length : Int) - 1 - i - 1 := by omega
    rw [t1, w64 (a := (i : Int) + 1) (by omega) (by omega), w64 (by omega) (by omega)]
    rw [t2] at e
    repeat' apply And.intro
    all_goals first | exact e | omega
  · rw [revAt_end l i (by omega)]
termination_by l.length - i
theorem oke39 : Eff1 Tryz.prog 39 se39 := by
  intro xs hs β F w cs R hp hlen hv h
  unfold se39 at h
  split at h
  · rename_i e l
    split at h
    · rename_i he
      have he := Nat.eq_of_beq_eq_true he
      subst he
      obtain ⟨hl, h⟩ := whenE_inv h
      refine flow_eff (fn := Tryz.f39) (ρ := [.is l]) mixed tbOk (walked (PureOk.none _) 14) fnsOk (by kernel_rfl) w39eC_ok (e0 := 9999) (by rfl) (by rfl) (ys := [.own 0]) (hs' := [(0, .arr 2 (.i .i64 l))]) (by rfl) (by rfl) (by rfl) (by rfl) hp hlen hv (K := fun E => E = ⟨.tup [], [(0, some (.arr 2 (.i .i64 l.reverse)))], [], []⟩) (Rh.go (w39e_9999 l l _) ?_) (fun E hE => by subst hE; exact h)
      simp only [o_add, o_sub, o_mul, o_neg, o_conv, o_lt, o_le, o_eq, o_not, o_and, o_or, o_sel, o_isel, o_ssel, o_beq, o_seq, o_slt, o_slen, o_sat, o_scut, o_sadd, o_ilen, o_blen, o_vlen, o_rlen, o_iget, o_bget, o_vget, o_rget, o_iset, o_bset, o_vset, o_iapp, o_bapp, o_vapp, o_rapp, o_icut, o_bcut, o_vcut, o_irep, o_vt, o_vn, o_vs, o_vl, o_imax, o_imin, o_inb, o_sfit, o_cutb, o_fit, o_mkfit, RhQ, decT, decF, true_and, and_true, eq_self, implies_true, forall_const, Bool.not_eq_true', Bool.not_eq_false', Bool.not_true, Bool.not_false, Bool.and_eq_true, Bool.or_eq_true, Bool.and_eq_false_iff, Bool.or_eq_false_iff, Bool.true_and, Bool.and_true, Bool.false_and, Bool.and_false, Bool.or_false, Bool.false_or, Bool.true_or, Bool.or_true, Int.toNat_natCast, VT.eta, not_true, not_false_iff, false_implies, if_true, if_false, Int.toNat_zero, Int.toNat_one, ns0, ns4]
      have e := loop39 l l hl 0 (by omega)
      rw [revAt_zero, show (l.length : Int) - 1 - ((0 : Nat) : Int) = (l.length : Int) - 1 by omega] at e
      rw [w64 (by omega) (by omega)]
      exact e
    · exact h.elim
  · exact h.elim
end Go.Qv
