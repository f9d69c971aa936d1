/- Contracts: sizes, places, elements at places. No condition. -/
import Derived.Test.YteaeogofidakiaaGreatQWd
set_option linter.unusedVariables false
set_option linter.unusedSimpArgs false
set_option maxRecDepth 100000
namespace Go.Qv
open Go Go.RowKit Go.Proofs

/-! ### quiverlaw07.size, right -/
theorem loop31 (m : Nat) (t n s l) (hm : smaller (.mk t n s l) (m + 1)) (hl : l.length ≤ maxLen) (d : Int) (i : Nat) (h1 : i ≤ l.length) : Rh (w31S m) (Ret (.int .i64 (szWs (l.drop i) d))) (3, [.int d, .int i, .int t, .is n, .ss s, .vs l]) := by
  refine Rh.go (w31_3 m d i t n s l _) ?_
  simp only [o_add, o_sub, o_mul, o_neg, o_conv, o_lt, o_le, o_eq, o_not, o_and, o_or, o_sel, o_isel, o_ssel, o_beq, o_seq, o_slt, o_slen, o_sat, o_scut, o_sadd, o_ilen, o_blen, o_vlen, o_rlen, o_iget, o_bget, o_vget, o_rget, o_iset, o_bset, o_vset, o_iapp, o_bapp, o_vapp, o_rapp, o_icut, o_bcut, o_vcut, o_irep, o_vt, o_vn, o_vs, o_vl, o_imax, o_imin, o_inb, o_sfit, o_cutb, o_fit, o_mkfit, RhQ, decT, decF, true_and, and_true, eq_self, implies_true, forall_const, Bool.not_eq_true', Bool.not_eq_false', Bool.not_true, Bool.not_false, Bool.and_eq_true, Bool.or_eq_true, Bool.and_eq_false_iff, Bool.or_eq_false_iff, Bool.true_and, Bool.and_true, Bool.false_and, Bool.and_false, Bool.or_false, Bool.false_or, Bool.true_or, Bool.or_true, Int.toNat_natCast, VT.eta, not_true, not_false_iff, false_implies, if_true, if_false, Int.toNat_zero, Int.toNat_one, ns0, ns4]
  refine ⟨fun h => ⟨⟨by omega, by omega⟩, hm.mem (getD_mem l default (by omega)), ?_⟩, fun h => Ret.int ?_⟩
  · rw [inc hl (by omega), drop_at l default (show i < l.length by omega), szWs, if_pos h.2]
    exact loop31 m t n s l hm hl _ (i + 1) (by omega)
  · rcases Nat.lt_or_ge i l.length with hi | hi
    · rw [drop_at l default hi, szWs, if_neg (by omega)]
    · rw [List.drop_of_length_le hi]; rfl
termination_by l.length - i
theorem ok31n : ∀ n, Pure1 Tryz.prog 31 (sp31 n) := pure_ind (fun xs F w cs R ha h => by
    obtain ⟨x, a, rfl, h1, h⟩ := onV_inv h
    exact (none0 (when_inv h).1).elim) (fun m ih xs F w cs R ha h => by
    obtain ⟨x, a, rfl, h1, h⟩ := onV_inv h
    obtain ⟨hm, h⟩ := when_inv h
    have ha := ha.conv1 (fun v => as_V h1)
    obtain ⟨v, hv⟩ := ha.at 0 rfl
    obtain ⟨t, n, s, l⟩ := a
    refine contract (fn := Tryz.f31) (walked (PureOk.also ih (PureOk.none _)) 14) (by kernel_rfl) w31C_ok (by rfl) (by rfl) (by rfl) (by rfl) (by rfl) ha (ρ := [.int t, .is n, .ss s, .vs l]) (Rh.go (w31_9999 m t n s l _) ?_) h
    simp only [o_add, o_sub, o_mul, o_neg, o_conv, o_lt, o_le, o_eq, o_not, o_and, o_or, o_sel, o_isel, o_ssel, o_beq, o_seq, o_slt, o_slen, o_sat, o_scut, o_sadd, o_ilen, o_blen, o_vlen, o_rlen, o_iget, o_bget, o_vget, o_rget, o_iset, o_bset, o_vset, o_iapp, o_bapp, o_vapp, o_rapp, o_icut, o_bcut, o_vcut, o_irep, o_vt, o_vn, o_vs, o_vl, o_imax, o_imin, o_inb, o_sfit, o_cutb, o_fit, o_mkfit, RhQ, decT, decF, true_and, and_true, eq_self, implies_true, forall_const, Bool.not_eq_true', Bool.not_eq_false', Bool.not_true, Bool.not_false, Bool.and_eq_true, Bool.or_eq_true, Bool.and_eq_false_iff, Bool.or_eq_false_iff, Bool.true_and, Bool.and_true, Bool.false_and, Bool.and_false, Bool.or_false, Bool.false_or, Bool.true_or, Bool.or_true, Int.toNat_natCast, VT.eta, not_true, not_false_iff, false_implies, if_true, if_false, Int.toNat_zero, Int.toNat_one, ns0, ns4]
    rw [szW]
    exact loop31 m t n s l hm hv.vlen.l _ 0 (by omega))
theorem ok31 : Pure1 Tryz.prog 31 sp31f := pure_all ok31n fun xs Q h => by
  obtain ⟨x, a, rfl, h1, h⟩ := onV_inv h
  exact ⟨a.sz + 1, onV_mk h1 (when_mk (Nat.lt_succ_self _) h)⟩
theorem loop5b (l : List VT) (hl : l.length ≤ maxLen) (hf : fines l) (i : Nat) (h1 : i ≤ l.length) : Rh w5S (Ret (.bool (checkB (l.drop i)))) (9, [.vs l, .int i]) := by
  refine Rh.go (w5_9 l i _) ?_
  simp only [o_add, o_sub, o_mul, o_neg, o_conv, o_lt, o_le, o_eq, o_not, o_and, o_or, o_sel, o_isel, o_ssel, o_beq, o_seq, o_slt, o_slen, o_sat, o_scut, o_sadd, o_ilen, o_blen, o_vlen, o_rlen, o_iget, o_bget, o_vget, o_rget, o_iset, o_bset, o_vset, o_iapp, o_bapp, o_vapp, o_rapp, o_icut, o_bcut, o_vcut, o_irep, o_vt, o_vn, o_vs, o_vl, o_imax, o_imin, o_inb, o_sfit, o_cutb, o_fit, o_mkfit, RhQ, decT, decF, true_and, and_true, eq_self, implies_true, forall_const, Bool.not_eq_true', Bool.not_eq_false', Bool.not_true, Bool.not_false, Bool.and_eq_true, Bool.or_eq_true, Bool.and_eq_false_iff, Bool.or_eq_false_iff, Bool.true_and, Bool.and_true, Bool.false_and, Bool.and_false, Bool.or_false, Bool.false_or, Bool.true_or, Bool.or_true, Int.toNat_natCast, VT.eta, not_true, not_false_iff, false_implies, if_true, if_false, Int.toNat_zero, Int.toNat_one, ns0, ns4]
  refine ⟨fun h => ⟨⟨by omega, by omega⟩, hf _ (getD_mem l default (by omega)), fun h2 => ?_, fun h2 => ?_⟩, fun h => ?_⟩
  · rw [drop_at l default (show i < l.length by omega)]
    refine Ret.bool ?_
    unfold checkB
    rw [List.all_cons, decide_eq_false (fun h3 => h2 (by unfold checkV at h3; simpa using h3)), Bool.false_and]
  · rw [inc hl (by omega), drop_at l default (show i < l.length by omega)]
    have e := loop5b l hl hf (i + 1) (by omega)
    have e2 : checkB (l.getD i default :: l.drop (i + 1)) = checkB (l.drop (i + 1)) := by
      unfold checkB
      rw [List.all_cons, decide_eq_true (show checkV (l.getD i default) = 0 by unfold checkV; simpa using h2), Bool.true_and]
    rw [e2]
    exact e
  · rw [List.drop_of_length_le (by omega)]; exact Ret.bool rfl
termination_by l.length - i
theorem loop5a (l : List VT) (hl : l.length ≤ maxLen) (hf : fines l) (d : Int) (i : Nat) (h1 : i ≤ l.length) (hd : szWs l 0 = szWs (l.drop i) d) : Rh w5S (Ret (.bool (rightB l))) (3, [.vs l, .int d, .int i]) := by
  refine Rh.go (w5_3 l d i _) ?_
  simp only [o_add, o_sub, o_mul, o_neg, o_conv, o_lt, o_le, o_eq, o_not, o_and, o_or, o_sel, o_isel, o_ssel, o_beq, o_seq, o_slt, o_slen, o_sat, o_scut, o_sadd, o_ilen, o_blen, o_vlen, o_rlen, o_iget, o_bget, o_vget, o_rget, o_iset, o_bset, o_vset, o_iapp, o_bapp, o_vapp, o_rapp, o_icut, o_bcut, o_vcut, o_irep, o_vt, o_vn, o_vs, o_vl, o_imax, o_imin, o_inb, o_sfit, o_cutb, o_fit, o_mkfit, RhQ, decT, decF, true_and, and_true, eq_self, implies_true, forall_const, Bool.not_eq_true', Bool.not_eq_false', Bool.not_true, Bool.not_false, Bool.and_eq_true, Bool.or_eq_true, Bool.and_eq_false_iff, Bool.or_eq_false_iff, Bool.true_and, Bool.and_true, Bool.false_and, Bool.and_false, Bool.or_false, Bool.false_or, Bool.true_or, Bool.or_true, Int.toNat_natCast, VT.eta, not_true, not_false_iff, false_implies, if_true, if_false, Int.toNat_zero, Int.toNat_one, ns0, ns4]
  refine ⟨fun h => ⟨⟨by omega, by omega⟩, ?_⟩, fun h => ⟨fun h2 => ?_, fun h2 => ?_⟩⟩
  · rw [drop_at l default (show i < l.length by omega), szWs, if_pos h.2] at hd
    rw [inc hl (by omega)]
    exact loop5a l hl hf _ (i + 1) (by omega) hd
  all_goals
    have e : szWs l 0 = d := by
      rcases Nat.lt_or_ge i l.length with hi | hi
      · rw [drop_at l default hi, szWs, if_neg (by omega)] at hd; exact hd
      · rw [List.drop_of_length_le hi] at hd; simpa [szWs] using hd
    unfold rightB
    rw [e]
  · rw [decide_eq_true h2]; exact Ret.bool rfl
  · rw [decide_eq_false h2]; exact loop5b l hl hf 0 (by omega)
termination_by l.length - i
theorem ok5 : Pure1 Tryz.prog 5 sp5 := by
  intro xs F w cs R ha h
  obtain ⟨x, a, rfl, h1, h⟩ := onVs_inv h
  obtain ⟨hf, h⟩ := when_inv h
  have ha := ha.conv1 (fun v => as_Vs h1)
  obtain ⟨v, hv⟩ := ha.at 0 rfl
  refine contract (fn := Tryz.f5) (walked (PureOk.also ok31 (PureOk.also ok68 (PureOk.also ok69 (PureOk.none _)))) 14) (by kernel_rfl) w5C_ok (by rfl) (by rfl) (by rfl) (by rfl) (by rfl) ha (ρ := [.vs a]) (Rh.go (w5_9999 a _) ?_) h
  simp only [o_add, o_sub, o_mul, o_neg, o_conv, o_lt, o_le, o_eq, o_not, o_and, o_or, o_sel, o_isel, o_ssel, o_beq, o_seq, o_slt, o_slen, o_sat, o_scut, o_sadd, o_ilen, o_blen, o_vlen, o_rlen, o_iget, o_bget, o_vget, o_rget, o_iset, o_bset, o_vset, o_iapp, o_bapp, o_vapp, o_rapp, o_icut, o_bcut, o_vcut, o_irep, o_vt, o_vn, o_vs, o_vl, o_imax, o_imin, o_inb, o_sfit, o_cutb, o_fit, o_mkfit, RhQ, decT, decF, true_and, and_true, eq_self, implies_true, forall_const, Bool.not_eq_true', Bool.not_eq_false', Bool.not_true, Bool.not_false, Bool.and_eq_true, Bool.or_eq_true, Bool.and_eq_false_iff, Bool.or_eq_false_iff, Bool.true_and, Bool.and_true, Bool.false_and, Bool.and_false, Bool.or_false, Bool.false_or, Bool.true_or, Bool.or_true, Int.toNat_natCast, VT.eta, not_true, not_false_iff, false_implies, if_true, if_false, Int.toNat_zero, Int.toNat_one, ns0, ns4]
  exact loop5a a hv.len hf 0 0 (by omega) rfl
/-! ### nulls -/
theorem null63 : Int.negSucc 9223372036854775807 = -9223372036854775808 := rfl
theorem ns2 : Int.negSucc 2 = -3 := rfl
theorem ok85 : Pure1 Tryz.prog 85 sp85 := by
  intro xs F w cs R ha h
  obtain ⟨t, rfl, h⟩ := onInt_inv h
  refine contract (fn := Tryz.f85) (walked (PureOk.also ok77 (PureOk.also ok90 (PureOk.also ok114 (PureOk.none _)))) 14) (by kernel_rfl) w85C_ok (by rfl) (by rfl) (by rfl) (by rfl) (by rfl) ha (ρ := [.int t]) (Rh.go (w85_9999 t _) ?_) h
  simp only [o_add, o_sub, o_mul, o_neg, o_conv, o_lt, o_le, o_eq, o_not, o_and, o_or, o_sel, o_isel, o_ssel, o_beq, o_seq, o_slt, o_slen, o_sat, o_scut, o_sadd, o_ilen, o_blen, o_vlen, o_rlen, o_iget, o_bget, o_vget, o_rget, o_iset, o_bset, o_vset, o_iapp, o_bapp, o_vapp, o_rapp, o_icut, o_bcut, o_vcut, o_irep, o_vt, o_vn, o_vs, o_vl, o_imax, o_imin, o_inb, o_sfit, o_cutb, o_fit, o_mkfit, RhQ, decT, decF, true_and, and_true, eq_self, implies_true, forall_const, Bool.not_eq_true', Bool.not_eq_false', Bool.not_true, Bool.not_false, Bool.and_eq_true, Bool.or_eq_true, Bool.and_eq_false_iff, Bool.or_eq_false_iff, Bool.true_and, Bool.and_true, Bool.false_and, Bool.and_false, Bool.or_false, Bool.false_or, Bool.true_or, Bool.or_true, Int.toNat_natCast, VT.eta, not_true, not_false_iff, false_implies, if_true, if_false, Int.toNat_zero, Int.toNat_one, ns0, ns4, null63, ns2]
  unfold nullV
  refine ⟨fun h => Ret.v (if_pos h) rfl, fun h => ⟨fun h2 => Ret.v (by rw [if_neg h, if_pos h2]) rfl, fun h2 => by rw [if_neg h, if_neg h2]; exact rfl⟩⟩
theorem atomV_nil {t n : Int} (h1 : rAbs t ≠ 1) (h2 : rAbs t ≠ 2) (h4 : rAbs t ≠ 4) (h5 : rAbs t ≠ 5) : atomV t n = .mk 101 [] [] [] := by
  unfold atomV; rw [if_pos (by omega)]
theorem ok89 : Pure1 Tryz.prog 89 sp89 := by
  intro xs F w cs R ha h
  obtain ⟨t, rfl, h⟩ := onInt_inv h
  refine contract (fn := Tryz.f89) (walked (PureOk.also ok77 (PureOk.also ok90 (PureOk.also ok35 (PureOk.none _)))) 14) (by kernel_rfl) w89C_ok (by rfl) (by rfl) (by rfl) (by rfl) (by rfl) ha (ρ := [.int t]) (Rh.go (w89_9999 t _) ?_) h
  simp only [o_add, o_sub, o_mul, o_neg, o_conv, o_lt, o_le, o_eq, o_not, o_and, o_or, o_sel, o_isel, o_ssel, o_beq, o_seq, o_slt, o_slen, o_sat, o_scut, o_sadd, o_ilen, o_blen, o_vlen, o_rlen, o_iget, o_bget, o_vget, o_rget, o_iset, o_bset, o_vset, o_iapp, o_bapp, o_vapp, o_rapp, o_icut, o_bcut, o_vcut, o_irep, o_vt, o_vn, o_vs, o_vl, o_imax, o_imin, o_inb, o_sfit, o_cutb, o_fit, o_mkfit, RhQ, decT, decF, true_and, and_true, eq_self, implies_true, forall_const, Bool.not_eq_true', Bool.not_eq_false', Bool.not_true, Bool.not_false, Bool.and_eq_true, Bool.or_eq_true, Bool.and_eq_false_iff, Bool.or_eq_false_iff, Bool.true_and, Bool.and_true, Bool.false_and, Bool.and_false, Bool.or_false, Bool.false_or, Bool.true_or, Bool.or_true, Int.toNat_natCast, VT.eta, not_true, not_false_iff, false_implies, if_true, if_false, Int.toNat_zero, Int.toNat_one, ns0, ns4, null63, ns2]
  unfold nullV
  refine ⟨fun h => Ret.v (if_pos h) rfl, fun h => ⟨fun h2 => Ret.v (by rw [if_neg h, if_pos h2]) rfl, fun h2 => ?_⟩⟩
  rw [if_neg h, if_neg h2]
  refine ⟨fun h3 => ?_, fun h3 => ⟨fun h4 => ?_, fun h4 => ⟨fun h5 => ?_, fun h5 => Ret.v (atomV_nil h h3 h4 h5) rfl⟩⟩⟩
  all_goals first | exact rfl | exact ⟨fun _ => rfl, fun hh => absurd (by assumption) hh⟩
/-! ### vec.Til -/
theorem loop23 (n : Int) (hn : tilOk n) (i : Nat) (h1 : (i : Int) ≤ n) : Rh w23S (Ret (.tup [vcl (tilV n), .int .i64 0])) (7, [.int n, .int i, .int 2, .is (iotaI i)]) := by
  refine Rh.go (w23_7 n i 2 (iotaI i) _) ?_
  obtain ⟨hn0, hn1⟩ := hn
  simp only [o_add, o_sub, o_mul, o_neg, o_conv, o_lt, o_le, o_eq, o_not, o_and, o_or, o_sel, o_isel, o_ssel, o_beq, o_seq, o_slt, o_slen, o_sat, o_scut, o_sadd, o_ilen, o_blen, o_vlen, o_rlen, o_iget, o_bget, o_vget, o_rget, o_iset, o_bset, o_vset, o_iapp, o_bapp, o_vapp, o_rapp, o_icut, o_bcut, o_vcut, o_irep, o_vt, o_vn, o_vs, o_vl, o_imax, o_imin, o_inb, o_sfit, o_cutb, o_fit, o_mkfit, RhQ, decT, decF, true_and, and_true, eq_self, implies_true, forall_const, Bool.not_eq_true', Bool.not_eq_false', Bool.not_true, Bool.not_false, Bool.and_eq_true, Bool.or_eq_true, Bool.and_eq_false_iff, Bool.or_eq_false_iff, Bool.true_and, Bool.and_true, Bool.false_and, Bool.and_false, Bool.or_false, Bool.false_or, Bool.true_or, Bool.or_true, Int.toNat_natCast, VT.eta, not_true, not_false_iff, false_implies, if_true, if_false, Int.toNat_zero, Int.toNat_one, ns0, ns4, iotaI_len, List.length_cons, List.length_nil]
  refine ⟨fun h => ⟨by omega, ?_⟩, fun h => ?_⟩
  · rw [w64 (by omega) (by omega)]
    have e := loop23 n ⟨hn0, hn1⟩ (i + 1) (by omega)
    rw [iotaI_succ] at e
    exact e
  · have : n = (i : Int) := by omega
    subst this; exact rfl
termination_by (n - i).toNat
theorem ok23 : Pure1 Tryz.prog 23 sp23 := by
  intro xs F w cs R ha h
  obtain ⟨n, rfl, h⟩ := onInt_inv h
  obtain ⟨hn, h⟩ := when_inv h
  refine contract (fn := Tryz.f23) (walked okAB2 14) (by kernel_rfl) w23C_ok (by rfl) (by rfl) (by rfl) (by rfl) (by rfl) ha (ρ := [.int n]) (Rh.go (w23_9999 n _) ?_) h
  have e := loop23 n hn 0 (by have := hn.1; omega)
  have e0 : iotaI ((0 : Nat) : Int) = [] := rfl
  rw [e0] at e
  have a2 : rAbs 2 = 2 := by decide
  simp only [o_add, o_sub, o_mul, o_neg, o_conv, o_lt, o_le, o_eq, o_not, o_and, o_or, o_sel, o_isel, o_ssel, o_beq, o_seq, o_slt, o_slen, o_sat, o_scut, o_sadd, o_ilen, o_blen, o_vlen, o_rlen, o_iget, o_bget, o_vget, o_rget, o_iset, o_bset, o_vset, o_iapp, o_bapp, o_vapp, o_rapp, o_icut, o_bcut, o_vcut, o_irep, o_vt, o_vn, o_vs, o_vl, o_imax, o_imin, o_inb, o_sfit, o_cutb, o_fit, o_mkfit, RhQ, decT, decF, true_and, and_true, eq_self, implies_true, forall_const, Bool.not_eq_true', Bool.not_eq_false', Bool.not_true, Bool.not_false, Bool.and_eq_true, Bool.or_eq_true, Bool.and_eq_false_iff, Bool.or_eq_false_iff, Bool.true_and, Bool.and_true, Bool.false_and, Bool.and_false, Bool.or_false, Bool.false_or, Bool.true_or, Bool.or_true, Int.toNat_natCast, VT.eta, not_true, not_false_iff, false_implies, if_true, if_false, Int.toNat_zero, Int.toNat_one, ns0, ns4, a2]
  exact ⟨fun h => absurd h (by have := hn.1; omega), fun _ => ⟨fun h => absurd h (by have := hn.2; omega), fun _ => ⟨fun _ => e, fun h => absurd h (by omega)⟩⟩⟩
theorem loop23e (n : Int) (hn : tilOk n) (i : Nat) (h1 : (i : Int) ≤ n) : Rh w23eS (fun E => E = ⟨.tup [.agg [.int .i64 2, .own 64, .nils, .nils], .int .i64 0], [], [], [.arr 2 (.i .i64 (iotaI n))]⟩) (7, [.int n, .int i, .int 2, .is (iotaI i)]) := by
  refine Rh.go (w23e_7 n i 2 (iotaI i) _) ?_
  obtain ⟨hn0, hn1⟩ := hn
  simp only [o_add, o_sub, o_mul, o_neg, o_conv, o_lt, o_le, o_eq, o_not, o_and, o_or, o_sel, o_isel, o_ssel, o_beq, o_seq, o_slt, o_slen, o_sat, o_scut, o_sadd, o_ilen, o_blen, o_vlen, o_rlen, o_iget, o_bget, o_vget, o_rget, o_iset, o_bset, o_vset, o_iapp, o_bapp, o_vapp, o_rapp, o_icut, o_bcut, o_vcut, o_irep, o_vt, o_vn, o_vs, o_vl, o_imax, o_imin, o_inb, o_sfit, o_cutb, o_fit, o_mkfit, RhQ, decT, decF, true_and, and_true, eq_self, implies_true, forall_const, Bool.not_eq_true', Bool.not_eq_false', Bool.not_true, Bool.not_false, Bool.and_eq_true, Bool.or_eq_true, Bool.and_eq_false_iff, Bool.or_eq_false_iff, Bool.true_and, Bool.and_true, Bool.false_and, Bool.and_false, Bool.or_false, Bool.false_or, Bool.true_or, Bool.or_true, Int.toNat_natCast, VT.eta, not_true, not_false_iff, false_implies, if_true, if_false, Int.toNat_zero, Int.toNat_one, ns0, ns4, iotaI_len, List.length_cons, List.length_nil]
  refine ⟨fun h => ⟨by omega, ?_⟩, fun h => ?_⟩
  · rw [w64 (by omega) (by omega)]
    have e := loop23e n ⟨hn0, hn1⟩ (i + 1) (by omega)
    rw [iotaI_succ] at e
    exact e
  · have : n = (i : Int) := by omega
    subst this; exact rfl
termination_by (n - i).toNat
theorem whenE_inv {p : Prop} {t : T Eff} {Q : Eff → Prop} (h : (whenE p t).sat Q) : p ∧ t.sat Q := h
theorem oke23 : Eff1 Tryz.prog 23 se23 := by
  intro xs hs β F w cs R hp hl hv h
  unfold se23 at h
  split at h
  · rename_i n
    obtain ⟨hn, h⟩ := whenE_inv h
    refine flow_eff (fn := Tryz.f23) (ρ := [.int n]) mixed tbOk (walked okAB2 14) fnsOk (by kernel_rfl) w23eC_ok (e0 := 9999) (by rfl) (by rfl) (ys := [.int .i64 n]) (hs' := []) (by rfl) (by rfl) (by rfl) (by rfl) hp hl hv (K := fun E => E = ⟨.tup [.agg [.int .i64 2, .own 64, .nils, .nils], .int .i64 0], [], [], [.arr 2 (.i .i64 (iotaI n))]⟩) (Rh.go (w23e_9999 n _) ?_) (fun E hE => by subst hE; exact h)
    have e := loop23e n hn 0 (by have := hn.1; omega)
    have e0 : iotaI ((0 : Nat) : Int) = [] := rfl
    rw [e0] at e
    have a2 : rAbs 2 = 2 := by decide
    simp only [o_add, o_sub, o_mul, o_neg, o_conv, o_lt, o_le, o_eq, o_not, o_and, o_or, o_sel, o_isel, o_ssel, o_beq, o_seq, o_slt, o_slen, o_sat, o_scut, o_sadd, o_ilen, o_blen, o_vlen, o_rlen, o_iget, o_bget, o_vget, o_rget, o_iset, o_bset, o_vset, o_iapp, o_bapp, o_vapp, o_rapp, o_icut, o_bcut, o_vcut, o_irep, o_vt, o_vn, o_vs, o_vl, o_imax, o_imin, o_inb, o_sfit, o_cutb, o_fit, o_mkfit, RhQ, decT, decF, true_and, and_true, eq_self, implies_true, forall_const, Bool.not_eq_true', Bool.not_eq_false', Bool.not_true, Bool.not_false, Bool.and_eq_true, Bool.or_eq_true, Bool.and_eq_false_iff, Bool.or_eq_false_iff, Bool.true_and, Bool.and_true, Bool.false_and, Bool.and_false, Bool.or_false, Bool.false_or, Bool.true_or, Bool.or_true, Int.toNat_natCast, VT.eta, not_true, not_false_iff, false_implies, if_true, if_false, Int.toNat_zero, Int.toNat_one, ns0, ns4, a2]
    exact ⟨fun h => absurd h (by have := hn.1; omega), fun _ => ⟨fun h => absurd h (by have := hn.2; omega), fun _ => ⟨fun _ => e, fun h => absurd h (by omega)⟩⟩⟩
  · exact h.elim
/-! ### slices.Reverse -/
def revAt (l : List Int) (i : Nat) : List Int := (List.range l.length).map fun k => if k < i ∨ l.length ≤ k + i then l.getD (l.length - 1 - k) 0 else l.getD k 0
theorem revAt_len (l : List Int) (i : Nat) : (revAt l i).length = l.length := by simp [revAt]
theorem revAt_get (l : List Int) (i k : Nat) (h : k < l.length) : (revAt l i).getD k 0 = if k < i ∨ l.length ≤ k + i then l.getD (l.length - 1 - k) 0 else l.getD k 0 := by
  rw [List.getD_eq_getElem?_getD, List.getElem?_eq_getElem (by rw [revAt_len]; exact h)]
  simp [revAt, -List.getD_eq_getElem?_getD]
theorem ext_getD {a b : List Int} (h : a.length = b.length) (hh : ∀ k, k < a.length → a.getD k 0 = b.getD k 0) : a = b := by
  apply List.ext_getElem h
  intro k h1 h2
  have := hh k h1
  rwa [List.getD_eq_getElem?_getD, List.getElem?_eq_getElem h1, List.getD_eq_getElem?_getD, List.getElem?_eq_getElem h2] at this
theorem revAt_zero (l : List Int) : revAt l 0 = l := ext_getD (revAt_len l 0) fun k hk => by
  rw [revAt_len] at hk; rw [revAt_get l 0 k hk, if_neg (by omega)]
theorem getD_set {l : List Int} {i k : Nat} {x : Int} (hk : k < l.length) : (l.set i x).getD k 0 = if i = k then x else l.getD k 0 := by
  rw [List.getD_eq_getElem?_getD, List.getElem?_eq_getElem (by simpa using hk), List.getD_eq_getElem?_getD, List.getElem?_eq_getElem hk, Option.getD_some, Option.getD_some, List.getElem_set]
theorem revAt_step (l : List Int) (i : Nat) (h : 2 * i + 1 < l.length) : ((revAt l i).set i ((revAt l i).getD (l.length - 1 - i) 0)).set (l.length - 1 - i) ((revAt l i).getD i 0) = revAt l (i + 1) := by
  refine ext_getD (by simp [revAt_len]) fun k hk => ?_
  have hk : k < l.length := by simpa [revAt_len] using hk
  rw [getD_set (by simpa [revAt_len] using hk), getD_set (by rw [revAt_len]; exact hk), revAt_get l (i + 1) k hk, revAt_get l i k hk, revAt_get l i i (by omega), revAt_get l i _ (by omega)]
  by_cases h1 : l.length - 1 - i = k
  · rw [if_pos h1, if_neg (by omega), if_pos (by omega)]; congr 1; omega
  · rw [if_neg h1]
    by_cases h2 : i = k
    · rw [if_pos h2, if_neg (by omega), if_pos (by omega)]; congr 1; omega
    · rw [if_neg h2]
      by_cases h3 : k < i ∨ l.length ≤ k + i
      · rw [if_pos h3, if_pos (by omega)]
      · rw [if_neg h3, if_neg (by omega)]
theorem revAt_end (l : List Int) (i : Nat) (h : l.length ≤ 2 * i + 1) : revAt l i = l.reverse := by
  refine ext_getD (by simp [revAt_len]) fun k hk => ?_
  rw [revAt_len] at hk
  have e : l.reverse.getD k 0 = l.getD (l.length - 1 - k) 0 := by
    rw [List.getD_eq_getElem?_getD, List.getElem?_reverse hk, ← List.getD_eq_getElem?_getD]
  rw [revAt_get l i k hk, e]
  by_cases h3 : k < i ∨ l.length ≤ k + i
  · rw [if_pos h3]
  · rw [if_neg h3]; congr 1; omega
theorem loop39 (l0 l : List Int) (hl : l.length ≤ 1073741824) (i : Nat) (h1 : i ≤ l.length) : Rh (w39eS l0) (fun E => E = ⟨.tup [], [(0, some (.arr 2 (.i .i64 l.reverse)))], [], []⟩) (1, [.int i, .int ((l.length : Int) - 1 - i), .is (revAt l i)]) := by
  refine Rh.go (w39e_1 l0 i _ (revAt l i) _) ?_
  simp only [o_add, o_sub, o_mul, o_neg, o_conv, o_lt, o_le, o_eq, o_not, o_and, o_or, o_sel, o_isel, o_ssel, o_beq, o_seq, o_slt, o_slen, o_sat, o_scut, o_sadd, o_ilen, o_blen, o_vlen, o_rlen, o_iget, o_bget, o_vget, o_rget, o_iset, o_bset, o_vset, o_iapp, o_bapp, o_vapp, o_rapp, o_icut, o_bcut, o_vcut, o_irep, o_vt, o_vn, o_vs, o_vl, o_imax, o_imin, o_inb, o_sfit, o_cutb, o_fit, o_mkfit, RhQ, decT, decF, true_and, and_true, eq_self, implies_true, forall_const, Bool.not_eq_true', Bool.not_eq_false', Bool.not_true, Bool.not_false, Bool.and_eq_true, Bool.or_eq_true, Bool.and_eq_false_iff, Bool.or_eq_false_iff, Bool.true_and, Bool.and_true, Bool.false_and, Bool.and_false, Bool.or_false, Bool.false_or, Bool.true_or, Bool.or_true, Int.toNat_natCast, VT.eta, not_true, not_false_iff, false_implies, if_true, if_false, Int.toNat_zero, Int.toNat_one, ns0, ns4, revAt_len, List.length_set]
  refine ⟨fun h => ?_, fun h => ?_⟩
  · have e := loop39 l0 l hl (i + 1) (by omega)
    rw [← revAt_step l i (by omega)] at e
    have t1 : ((l.length : Int) - 1 - i).toNat = l.length - 1 - i := by omega
    have t2 : (l.length : Int) - 1 - ((i + 1 : Nat) : Int) = (l.length : Int) - 1 - i - 1 := by omega
    rw [t1, w64 (a := (i : Int) + 1) (by omega) (by omega), w64 (by omega) (by omega)]
    rw [t2] at e
    repeat' apply And.intro
    all_goals first | exact e | omega
  · rw [revAt_end l i (by omega)]
termination_by l.length - i
theorem oke39 : Eff1 Tryz.prog 39 se39 := by
  intro xs hs β F w cs R hp hlen hv h
  unfold se39 at h
  split at h
  · rename_i e l
    split at h
    · rename_i he
      have he := Nat.eq_of_beq_eq_true he
      subst he
      obtain ⟨hl, h⟩ := whenE_inv h
      refine flow_eff (fn := Tryz.f39) (ρ := [.is l]) mixed tbOk (walked (PureOk.none _) 14) fnsOk (by kernel_rfl) w39eC_ok (e0 := 9999) (by rfl) (by rfl) (ys := [.own 0]) (hs' := [(0, .arr 2 (.i .i64 l))]) (by rfl) (by rfl) (by rfl) (by rfl) hp hlen hv (K := fun E => E = ⟨.tup [], [(0, some (.arr 2 (.i .i64 l.reverse)))], [], []⟩) (Rh.go (w39e_9999 l l _) ?_) (fun E hE => by subst hE; exact h)
      simp only [o_add, o_sub, o_mul, o_neg, o_conv, o_lt, o_le, o_eq, o_not, o_and, o_or, o_sel, o_isel, o_ssel, o_beq, o_seq, o_slt, o_slen, o_sat, o_scut, o_sadd, o_ilen, o_blen, o_vlen, o_rlen, o_iget, o_bget, o_vget, o_rget, o_iset, o_bset, o_vset, o_iapp, o_bapp, o_vapp, o_rapp, o_icut, o_bcut, o_vcut, o_irep, o_vt, o_vn, o_vs, o_vl, o_imax, o_imin, o_inb, o_sfit, o_cutb, o_fit, o_mkfit, RhQ, decT, decF, true_and, and_true, eq_self, implies_true, forall_const, Bool.not_eq_true', Bool.not_eq_false', Bool.not_true, Bool.not_false, Bool.and_eq_true, Bool.or_eq_true, Bool.and_eq_false_iff, Bool.or_eq_false_iff, Bool.true_and, Bool.and_true, Bool.false_and, Bool.and_false, Bool.or_false, Bool.false_or, Bool.true_or, Bool.or_true, Int.toNat_natCast, VT.eta, not_true, not_false_iff, false_implies, if_true, if_false, Int.toNat_zero, Int.toNat_one, ns0, ns4]
      have e := loop39 l l hl 0 (by omega)
      rw [revAt_zero, show (l.length : Int) - 1 - ((0 : Nat) : Int) = (l.length : Int) - 1 by omega] at e
      rw [w64 (by omega) (by omega)]
      exact e
    · exact h.elim
  · exact h.elim
end Go.Qv
/- Contracts: elements at places; what is turned round, taken, dropped, indexed. No condition. -/
set_option linter.unusedVariables false
set_option linter.unusedSimpArgs false
set_option maxRecDepth 100000
namespace Go.Qv
open Go Go.RowKit Go.Proofs

theorem at1E_ne {v : VT} {x : Int} (h : at1E v x ≠ 0) : (x < 0 ∨ rCount v ≤ x) ∧ at1V v x = .mk 0 [] [] [] := by
  by_cases hh : x < 0 ∨ rCount v ≤ x
  · exact ⟨hh, at1_no hh⟩
  · exact absurd (at1E_yes hh) h
theorem pk_out {v : VT} {x : Int} (h : ¬ (0 ≤ x ∧ x < rCount v)) : at1V v x = .mk 0 [] [] [] ∧ at1E v x = 33 ∧ pkN v x = (nullV v.t).n ∧ pkS v x = (nullV v.t).s := by
  have hh : x < 0 ∨ rCount v ≤ x := by omega
  refine ⟨at1_no hh, at1E_no hh, ?_, ?_⟩
  · unfold pkN; rw [at1E_no hh]; rfl
  · unfold pkS; rw [at1E_no hh]; rfl
theorem pk_in {t n s l} (h1 : 1 ≤ t ∧ t ≤ 5) {x : Int} (hi : 0 ≤ x ∧ x < rCount (.mk t n s l)) : (t = 3 → pkN (.mk t n s l) x = [] ∧ pkS (.mk t n s l) x = [s.getD x.toNat ⟨#[]⟩]) ∧ (t ≠ 3 → pkN (.mk t n s l) x = [n.getD x.toNat 0] ∧ pkS (.mk t n s l) x = []) := by
  obtain ⟨a, b, c⟩ := vec_in (n := n) (s := s) (l := l) h1 hi
  unfold pkN pkS
  rw [a]
  exact ⟨b, c⟩
section
variable {t : Int} {n : List Int} {s : List ByteArray} {l : List VT} {a : List Int}
theorem pick_vec (ht : t ≠ 0) : pickV (.mk t n s l) a = .mk t (a.flatMap (pkN (.mk t n s l))) (a.flatMap (pkS (.mk t n s l))) [] := by
  unfold pickV; rw [if_neg (show ¬ (VT.mk t n s l).t = 0 from ht)]; rfl
theorem pick_list : pickV (.mk 0 n s l) a = ofV (a.map (at1V (.mk 0 n s l))) := rfl
theorem N_len (ht : 1 ≤ t ∧ t ≤ 5) (i : Nat) : ((a.take i).flatMap (pkN (.mk t n s l))).length ≤ a.length := by
  have := flat1 (pkN (.mk t n s l)) (fun x => pkN_len (.mk t n s l) ht x) (a.take i)
  rw [List.length_take] at this; omega
theorem S_len (ht : 1 ≤ t ∧ t ≤ 5) (i : Nat) : ((a.take i).flatMap (pkS (.mk t n s l))).length ≤ a.length := by
  have := flat1 (pkS (.mk t n s l)) (fun x => pkS_len (.mk t n s l) ht x) (a.take i)
  rw [List.length_take] at this; omega
end
attribute [local irreducible] pickOk partP flat9 tilOk cntOk tames tame
/-! ### vec.pick -/
theorem loop40l (n s l) (a : List Int) (hp : pickOk (.mk 0 n s l) a) (hal : a.length ≤ 536870912) (hta : tames (a.map (at1V (.mk 0 n s l)))) (i : Nat) (hi : i ≤ a.length) :
    Rh w40S (Ret (vcl (pickV (.mk 0 n s l) a))) (4, [.is a, .int a.length, .int i, .int 0, .is n, .ss s, .vs l, .int 0, .vs ((a.take i).map (at1V (.mk 0 n s l))), .ss [], .is []]) := by
  refine Rh.go (w40_4 a a.length i 0 n s l 0 _ _ _ _) ?_
  have key : i < a.length → Rh w40S (Ret (vcl (pickV (.mk 0 n s l) a))) (4, [.is a, .int a.length, .int (i + 1 : Nat), .int 0, .is n, .ss s, .vs l, .int 0, .vs ((a.take i).map (at1V (.mk 0 n s l)) ++ [at1V (.mk 0 n s l) (a.getD i 0)]), .ss [], .is []]) := fun h => by
    have e := loop40l n s l a hp hal hta (i + 1) (by omega)
    rw [map_take _ a 0 h] at e
    exact e
  simp only [o_add, o_sub, o_mul, o_neg, o_conv, o_lt, o_le, o_eq, o_not, o_and, o_or, o_sel, o_isel, o_ssel, o_beq, o_seq, o_slt, o_slen, o_sat, o_scut, o_sadd, o_ilen, o_blen, o_vlen, o_rlen, o_iget, o_bget, o_vget, o_rget, o_iset, o_bset, o_vset, o_iapp, o_bapp, o_vapp, o_rapp, o_icut, o_bcut, o_vcut, o_irep, o_vt, o_vn, o_vs, o_vl, o_imax, o_imin, o_inb, o_sfit, o_cutb, o_fit, o_mkfit, RhQ, decT, decF, true_and, and_true, eq_self, implies_true, forall_const, Bool.not_eq_true', Bool.not_eq_false', Bool.not_true, Bool.not_false, Bool.and_eq_true, Bool.or_eq_true, Bool.and_eq_false_iff, Bool.or_eq_false_iff, Bool.true_and, Bool.and_true, Bool.false_and, Bool.and_false, Bool.or_false, Bool.false_or, Bool.true_or, Bool.or_true, Int.toNat_natCast, VT.eta, not_true, not_false_iff, false_implies, if_true, if_false, Int.toNat_zero, Int.toNat_one, ns0, ns4, List.length_map, List.length_take, List.length_cons, List.length_nil]
  have m1 := mlen (show a.length ≤ 1073741824 by omega)
  refine ⟨fun h => ?_, fun h => ?_⟩
  · have hh : i < a.length := by omega
    have e := key hh
    rw [inc m1 hh]
    by_cases hin : 0 ≤ a.getD i 0 ∧ a.getD i 0 < rCount (.mk 0 n s l)
    · have x1 : at1V (.mk 0 n s l) (a.getD i 0) = l.getD (a.getD i 0).toNat default := by rw [at1_yes (by omega), at0_l]
      rw [x1] at e
      rw [cnt_l] at hin ⊢
      exact ⟨⟨by omega, by omega⟩, fun _ => ⟨hin, by omega, e⟩, fun hh => by exfalso; first | omega | exact hh hin | exact absurd (hh hin.1) (by omega) | (rcases hh with hh | hh <;> omega)⟩
    · rw [(pk_out hin).1] at e
      exact ⟨⟨by omega, by omega⟩, fun hh => absurd hh hin, fun hh => ⟨by omega, e⟩⟩
  · rw [List.take_of_length_le (by omega)]
    exact ⟨hta, rfl⟩
termination_by a.length - i
theorem loop40v (t n s l) (ht : 1 ≤ t ∧ t ≤ 5) (a : List Int) (hal : a.length ≤ 536870912) (i : Nat) (hi : i ≤ a.length) :
    Rh w40S (Ret (vcl (pickV (.mk t n s l) a))) (4, [.is a, .int a.length, .int i, .int t, .is n, .ss s, .vs l, .int t, .vs [], .ss ((a.take i).flatMap (pkS (.mk t n s l))), .is ((a.take i).flatMap (pkN (.mk t n s l)))]) := by
  refine Rh.go (w40_4 a a.length i t n s l t _ _ _ _) ?_
  have key : i < a.length → Rh w40S (Ret (vcl (pickV (.mk t n s l) a))) (4, [.is a, .int a.length, .int (i + 1 : Nat), .int t, .is n, .ss s, .vs l, .int t, .vs [], .ss ((a.take i).flatMap (pkS (.mk t n s l)) ++ pkS (.mk t n s l) (a.getD i 0)), .is ((a.take i).flatMap (pkN (.mk t n s l)) ++ pkN (.mk t n s l) (a.getD i 0))]) := fun h => by
    have e := loop40v t n s l ht a hal (i + 1) (by omega)
    rw [flatI_take _ a h, flatI_take _ a h] at e
    exact e
  simp only [o_add, o_sub, o_mul, o_neg, o_conv, o_lt, o_le, o_eq, o_not, o_and, o_or, o_sel, o_isel, o_ssel, o_beq, o_seq, o_slt, o_slen, o_sat, o_scut, o_sadd, o_ilen, o_blen, o_vlen, o_rlen, o_iget, o_bget, o_vget, o_rget, o_iset, o_bset, o_vset, o_iapp, o_bapp, o_vapp, o_rapp, o_icut, o_bcut, o_vcut, o_irep, o_vt, o_vn, o_vs, o_vl, o_imax, o_imin, o_inb, o_sfit, o_cutb, o_fit, o_mkfit, RhQ, decT, decF, true_and, and_true, eq_self, implies_true, forall_const, Bool.not_eq_true', Bool.not_eq_false', Bool.not_true, Bool.not_false, Bool.and_eq_true, Bool.or_eq_true, Bool.and_eq_false_iff, Bool.or_eq_false_iff, Bool.true_and, Bool.and_true, Bool.false_and, Bool.and_false, Bool.or_false, Bool.false_or, Bool.true_or, Bool.or_true, Int.toNat_natCast, VT.eta, not_true, not_false_iff, false_implies, if_true, if_false, Int.toNat_zero, Int.toNat_one, ns0, ns4, List.length_cons, List.length_nil]
  have m1 := mlen (show a.length ≤ 1073741824 by omega)
  have b1 := N_len (a := a) (n := n) (s := s) (l := l) ht i
  have b2 := S_len (a := a) (n := n) (s := s) (l := l) ht i
  have z1 := null_n t
  have z2 := null_s t
  refine ⟨fun h => ?_, fun h => ?_⟩
  · have hh : i < a.length := by omega
    have e := key hh
    rw [inc m1 hh]
    by_cases hin : 0 ≤ a.getD i 0 ∧ a.getD i 0 < rCount (.mk t n s l)
    · obtain ⟨p1, p2⟩ := pk_in (n := n) (s := s) (l := l) ht hin
      by_cases h3 : t = 3
      · obtain ⟨q1, q2⟩ := p1 h3
        rw [q1, q2, List.append_nil] at e
        have hc : rCount (.mk t n s l) = s.length := by subst h3; exact cnt_s
        rw [hc] at hin ⊢
        repeat' (first | apply And.intro | intro _)
        all_goals first | omega | (exfalso; omega) | exact e
      · obtain ⟨q1, q2⟩ := p2 h3
        rw [q1, q2, List.append_nil] at e
        have hc : rCount (.mk t n s l) = n.length := cnt_n h3 ht
        rw [hc] at hin ⊢
        repeat' (first | apply And.intro | intro _)
        all_goals first | omega | (exfalso; omega) | exact e
    · obtain ⟨_, _, q1, q2⟩ := pk_out hin
      rw [q1, q2] at e
      have e : Rh w40S (Ret (vcl (pickV (.mk t n s l) a))) (4, [.is a, .int a.length, .int (i + 1 : Nat), .int t, .is n, .ss s, .vs l, .int t, .vs [], .ss ((a.take i).flatMap (pkS (.mk t n s l)) ++ (nullV t).s), .is ((a.take i).flatMap (pkN (.mk t n s l)) ++ (nullV t).n)]) := e
      repeat' (first | apply And.intro | intro _)
      all_goals first | omega | (exfalso; omega) | exact e
  · rw [List.take_of_length_le (by omega), pick_vec (by omega)]
    exact ⟨fun h0 => by omega, fun _ => rfl⟩
termination_by a.length - i
theorem pickOk_u {v : VT} {a : List Int} (h : pickOk v a) (hh : 0 ≤ v.t ∧ v.t ≤ 5) : a.length ≤ 536870912 ∧ (v.t = 0 → tames (a.map (at1V v))) := by unfold pickOk at h; exact h hh
theorem partP_u {v : VT} (h : partP v) : 0 ≤ v.t ∧ v.t ≤ 5 := by unfold partP at h; exact h
theorem okP40 : PureOk Tryz.prog (PS.also 85 sp85 (PS.also 38 sp38f (PS.also 82 sp82 PS.none))) :=
  PureOk.also ok85 (PureOk.also ok38 (PureOk.also ok82 (PureOk.none _)))
theorem ok40 : Pure1 Tryz.prog 40 sp40 := by
  intro xs F w cs R ha h
  obtain ⟨x, y, v, a, rfl, h1, h2, h⟩ := onVI_inv h
  obtain ⟨ht, h⟩ := when_inv h
  obtain ⟨hpa, h⟩ := when_inv h
  obtain ⟨hp, h⟩ := when_inv h
  have ha := ha.conv2 (fun v => as_V h1) (fun v => as_I h2)
  obtain ⟨t, n, s, l⟩ := v
  have hpa := partP_u hpa
  obtain ⟨p1, p2⟩ := pickOk_u hp hpa
  have hpa : 0 ≤ t ∧ t ≤ 5 := hpa
  refine contract (fn := Tryz.f40) (walked okP40 14) (by kernel_rfl) w40C_ok (by rfl) (by rfl) (by rfl) (by rfl) (by rfl) ha (ρ := [.int t, .is n, .ss s, .vs l, .is a]) (Rh.go (w40_9999 t n s l a _) ?_) h
  simp only [o_add, o_sub, o_mul, o_neg, o_conv, o_lt, o_le, o_eq, o_not, o_and, o_or, o_sel, o_isel, o_ssel, o_beq, o_seq, o_slt, o_slen, o_sat, o_scut, o_sadd, o_ilen, o_blen, o_vlen, o_rlen, o_iget, o_bget, o_vget, o_rget, o_iset, o_bset, o_vset, o_iapp, o_bapp, o_vapp, o_rapp, o_icut, o_bcut, o_vcut, o_irep, o_vt, o_vn, o_vs, o_vl, o_imax, o_imin, o_inb, o_sfit, o_cutb, o_fit, o_mkfit, RhQ, decT, decF, true_and, and_true, eq_self, implies_true, forall_const, Bool.not_eq_true', Bool.not_eq_false', Bool.not_true, Bool.not_false, Bool.and_eq_true, Bool.or_eq_true, Bool.and_eq_false_iff, Bool.or_eq_false_iff, Bool.true_and, Bool.and_true, Bool.false_and, Bool.and_false, Bool.or_false, Bool.false_or, Bool.true_or, Bool.or_true, Int.toNat_natCast, VT.eta, not_true, not_false_iff, false_implies, if_true, if_false, Int.toNat_zero, Int.toNat_one, ns0, ns4]
  by_cases h0 : t = 0
  · subst h0
    exact loop40l n s l a hp p1 (p2 rfl) 0 (by omega)
  · exact loop40v t n s l (by omega) a p1 0 (by omega)
/-! ### R.pick -/
theorem loop43l (n s l) (a : List Int) (ht : tame (.mk 0 n s l)) (hf : flat9 (.mk 0 n s l)) (hal : a.length ≤ 536870912) (hta : tames (a.map (at1V (.mk 0 n s l)))) (i : Nat) (hi : i ≤ a.length) :
    Rh w43S (Ret (vcl (pickV (.mk 0 n s l) a))) (4, [.is a, .int i, .int 0, .is n, .ss s, .vs l, .vs ((a.take i).map (at1V (.mk 0 n s l)))]) := by
  refine Rh.go (w43_4 a i 0 n s l _ _) ?_
  have key : i < a.length → Rh w43S (Ret (vcl (pickV (.mk 0 n s l) a))) (4, [.is a, .int (i + 1 : Nat), .int 0, .is n, .ss s, .vs l, .vs ((a.take i).map (at1V (.mk 0 n s l)) ++ [at1V (.mk 0 n s l) (a.getD i 0)])]) := fun h => by
    have e := loop43l n s l a ht hf hal hta (i + 1) (by omega)
    rw [map_take _ a 0 h] at e
    exact e
  simp only [o_add, o_sub, o_mul, o_neg, o_conv, o_lt, o_le, o_eq, o_not, o_and, o_or, o_sel, o_isel, o_ssel, o_beq, o_seq, o_slt, o_slen, o_sat, o_scut, o_sadd, o_ilen, o_blen, o_vlen, o_rlen, o_iget, o_bget, o_vget, o_rget, o_iset, o_bset, o_vset, o_iapp, o_bapp, o_vapp, o_rapp, o_icut, o_bcut, o_vcut, o_irep, o_vt, o_vn, o_vs, o_vl, o_imax, o_imin, o_inb, o_sfit, o_cutb, o_fit, o_mkfit, RhQ, decT, decF, true_and, and_true, eq_self, implies_true, forall_const, Bool.not_eq_true', Bool.not_eq_false', Bool.not_true, Bool.not_false, Bool.and_eq_true, Bool.or_eq_true, Bool.and_eq_false_iff, Bool.or_eq_false_iff, Bool.true_and, Bool.and_true, Bool.false_and, Bool.and_false, Bool.or_false, Bool.false_or, Bool.true_or, Bool.or_true, Int.toNat_natCast, VT.eta, not_true, not_false_iff, false_implies, if_true, if_false, Int.toNat_zero, Int.toNat_one, ns0, ns4, List.length_map, List.length_take, List.length_cons, List.length_nil]
  have m1 := mlen (show a.length ≤ 1073741824 by omega)
  refine ⟨fun h => ?_, fun h => ?_⟩
  · have hh : i < a.length := by omega
    have e := key hh
    rw [inc m1 hh]
    by_cases hin : at1E (.mk 0 n s l) (a.getD i 0) = 0
    · repeat' (first | apply And.intro | intro _)
      all_goals first | exact e | exact ht | exact hf | omega | (exfalso; omega)
    · rw [(at1E_ne hin).2] at e
      repeat' (first | apply And.intro | intro _)
      all_goals first | exact e | exact ht | exact hf | omega | (exfalso; omega)
  · rw [List.take_of_length_le (by omega)]
    exact ⟨hta, rfl⟩
termination_by a.length - i
theorem loop43v (t n s l) (ht : 1 ≤ t ∧ t ≤ 5) (htm : tame (.mk t n s l)) (hf : flat9 (.mk t n s l)) (a : List Int) (hal : a.length ≤ 536870912) (i : Nat) (hi : i ≤ a.length) :
    Rh w43S (Ret (vcl (pickV (.mk t n s l) a))) (13, [.is a, .int i, .int t, .is n, .ss s, .vs l, .int t, .is ((a.take i).flatMap (pkN (.mk t n s l))), .ss ((a.take i).flatMap (pkS (.mk t n s l)))]) := by
  refine Rh.go (w43_13 a i t n s l t _ _ _) ?_
  have key : i < a.length → Rh w43S (Ret (vcl (pickV (.mk t n s l) a))) (13, [.is a, .int (i + 1 : Nat), .int t, .is n, .ss s, .vs l, .int t, .is ((a.take i).flatMap (pkN (.mk t n s l)) ++ pkN (.mk t n s l) (a.getD i 0)), .ss ((a.take i).flatMap (pkS (.mk t n s l)) ++ pkS (.mk t n s l) (a.getD i 0))]) := fun h => by
    have e := loop43v t n s l ht htm hf a hal (i + 1) (by omega)
    rw [flatI_take _ a h, flatI_take _ a h] at e
    exact e
  simp only [o_add, o_sub, o_mul, o_neg, o_conv, o_lt, o_le, o_eq, o_not, o_and, o_or, o_sel, o_isel, o_ssel, o_beq, o_seq, o_slt, o_slen, o_sat, o_scut, o_sadd, o_ilen, o_blen, o_vlen, o_rlen, o_iget, o_bget, o_vget, o_rget, o_iset, o_bset, o_vset, o_iapp, o_bapp, o_vapp, o_rapp, o_icut, o_bcut, o_vcut, o_irep, o_vt, o_vn, o_vs, o_vl, o_imax, o_imin, o_inb, o_sfit, o_cutb, o_fit, o_mkfit, RhQ, decT, decF, true_and, and_true, eq_self, implies_true, forall_const, Bool.not_eq_true', Bool.not_eq_false', Bool.not_true, Bool.not_false, Bool.and_eq_true, Bool.or_eq_true, Bool.and_eq_false_iff, Bool.or_eq_false_iff, Bool.true_and, Bool.and_true, Bool.false_and, Bool.and_false, Bool.or_false, Bool.false_or, Bool.true_or, Bool.or_true, Int.toNat_natCast, VT.eta, not_true, not_false_iff, false_implies, if_true, if_false, Int.toNat_zero, Int.toNat_one, ns0, ns4, List.length_cons, List.length_nil]
  have m1 := mlen (show a.length ≤ 1073741824 by omega)
  have b1 := N_len (a := a) (n := n) (s := s) (l := l) ht i
  have b2 := S_len (a := a) (n := n) (s := s) (l := l) ht i
  have z1 := null_n t
  have z2 := null_s t
  refine ⟨fun h => ?_, fun h => ?_⟩
  · have hh : i < a.length := by omega
    have e := key hh
    rw [inc m1 hh]
    have y1 := pkN_len (.mk t n s l) ht (a.getD i 0)
    have y2 := pkS_len (.mk t n s l) ht (a.getD i 0)
    by_cases hin : at1E (.mk t n s l) (a.getD i 0) = 0
    · have q1 : pkN (.mk t n s l) (a.getD i 0) = (at1V (.mk t n s l) (a.getD i 0)).n := by unfold pkN; rw [if_pos hin]
      have q2 : pkS (.mk t n s l) (a.getD i 0) = (at1V (.mk t n s l) (a.getD i 0)).s := by unfold pkS; rw [if_pos hin]
      rw [q1, q2] at e
      rw [q1] at y1
      rw [q2] at y2
      repeat' (first | apply And.intro | intro _)
      all_goals first | exact e | exact htm | exact hf | omega | (exfalso; omega)
    · have q1 : pkN (.mk t n s l) (a.getD i 0) = (nullV t).n := by unfold pkN; rw [if_neg hin]; rfl
      have q2 : pkS (.mk t n s l) (a.getD i 0) = (nullV t).s := by unfold pkS; rw [if_neg hin]; rfl
      rw [q1, q2] at e
      repeat' (first | apply And.intro | intro _)
      all_goals first | exact e | exact htm | exact hf | omega | (exfalso; omega)
  · rw [List.take_of_length_le (by omega), pick_vec (by omega)]
    exact rfl
termination_by a.length - i
theorem part_flat {v : VT} (h : 0 ≤ v.t ∧ v.t ≤ 5) : flat9 v := by unfold flat9; omega
theorem ok43 : Pure1 Tryz.prog 43 sp43 := by
  intro xs F w cs R ha h
  obtain ⟨x, y, v, a, rfl, h1, h2, h⟩ := onVI_inv h
  obtain ⟨ht, h⟩ := when_inv h
  obtain ⟨hpa, h⟩ := when_inv h
  obtain ⟨hp, h⟩ := when_inv h
  have ha := ha.conv2 (fun v => as_V h1) (fun v => as_I h2)
  obtain ⟨t, n, s, l⟩ := v
  have hpa := partP_u hpa
  have hf := part_flat hpa
  obtain ⟨p1, p2⟩ := pickOk_u hp hpa
  have hpa : 0 ≤ t ∧ t ≤ 5 := hpa
  refine contract (fn := Tryz.f43) (walked (PureOk.also ok87p (PureOk.also ok88 (PureOk.also ok89 (PureOk.none _)))) 14) (by kernel_rfl) w43C_ok (by rfl) (by rfl) (by rfl) (by rfl) (by rfl) ha (ρ := [.int t, .is n, .ss s, .vs l, .is a]) (Rh.go (w43_9999 t n s l a _) ?_) h
  simp only [o_add, o_sub, o_mul, o_neg, o_conv, o_lt, o_le, o_eq, o_not, o_and, o_or, o_sel, o_isel, o_ssel, o_beq, o_seq, o_slt, o_slen, o_sat, o_scut, o_sadd, o_ilen, o_blen, o_vlen, o_rlen, o_iget, o_bget, o_vget, o_rget, o_iset, o_bset, o_vset, o_iapp, o_bapp, o_vapp, o_rapp, o_icut, o_bcut, o_vcut, o_irep, o_vt, o_vn, o_vs, o_vl, o_imax, o_imin, o_inb, o_sfit, o_cutb, o_fit, o_mkfit, RhQ, decT, decF, true_and, and_true, eq_self, implies_true, forall_const, Bool.not_eq_true', Bool.not_eq_false', Bool.not_true, Bool.not_false, Bool.and_eq_true, Bool.or_eq_true, Bool.and_eq_false_iff, Bool.or_eq_false_iff, Bool.true_and, Bool.and_true, Bool.false_and, Bool.and_false, Bool.or_false, Bool.false_or, Bool.true_or, Bool.or_true, Int.toNat_natCast, VT.eta, not_true, not_false_iff, false_implies, if_true, if_false, Int.toNat_zero, Int.toNat_one, ns0, ns4]
  refine ⟨fun h0 => ?_, fun h0 => ?_⟩
  · subst h0
    exact loop43l n s l a ht hf p1 (p2 rfl) 0 (by omega)
  · exact loop43v t n s l (by omega) ht hf a p1 0 (by omega)
end Go.Qv
/- Contracts: what is turned round, taken, dropped, indexed. No condition. -/
set_option linter.unusedVariables false
set_option linter.unusedSimpArgs false
set_option maxRecDepth 100000
namespace Go.Qv
open Go Go.RowKit Go.Proofs

section
variable {v : VT} {a : List Int} {n : Int}
theorem op_no (h : ¬ (0 ≤ v.t ∧ v.t ≤ 5)) : opV v a = .mk 0 [] [] [] ∧ opE v = 31 := by unfold opV opE; rw [if_neg (show ¬ partP v from h), if_neg (show ¬ partP v from h)]; exact ⟨rfl, rfl⟩
theorem op_yes (h : 0 ≤ v.t ∧ v.t ≤ 5) : opV v a = pickV v a ∧ opE v = 0 := by unfold opV opE; rw [if_pos (show partP v from h), if_pos (show partP v from h)]; exact ⟨rfl, rfl⟩
theorem take_no (h : ¬ (0 ≤ v.t ∧ v.t ≤ 5)) : takeV n v = .mk 0 [] [] [] ∧ takeE n v = 31 := by unfold takeV takeE; rw [if_neg (show ¬ partP v from h), if_neg (show ¬ partP v from h)]; exact ⟨rfl, rfl⟩
theorem take_many (h : 0 ≤ v.t ∧ v.t ≤ 5) (hn : 65536 < n ∨ n < -65536) : takeV n v = .mk 0 [] [] [] ∧ takeE n v = 6 := by unfold takeV takeE; rw [if_pos (show partP v from h), if_pos (show partP v from h), if_pos hn, if_pos hn]; exact ⟨rfl, rfl⟩
theorem take_yes (h : 0 ≤ v.t ∧ v.t ≤ 5) (hn : ¬ (65536 < n ∨ n < -65536)) : takeV n v = pickV v (takeL n v) ∧ takeE n v = 0 := by unfold takeV takeE; rw [if_pos (show partP v from h), if_pos (show partP v from h), if_neg hn, if_neg hn]; exact ⟨rfl, rfl⟩
end
theorem op_ret {t n s l a} (h : ¬ (0 ≤ t ∧ t ≤ 5)) {E : Eff} (h1 : resE E = some (.tup [vcl (.mk 0 [] [] []), .int .i64 31])) : Ret (.tup [vcl (opV (.mk t n s l) a), .int .i64 (opE (.mk t n s l))]) E :=
  Ret.ve (op_no (v := .mk t n s l) (a := a) h).1 (op_no (v := .mk t n s l) (a := a) h).2 h1
theorem take_ret {t n s l x} (h : ¬ (0 ≤ t ∧ t ≤ 5)) {E : Eff} (h1 : resE E = some (.tup [vcl (.mk 0 [] [] []), .int .i64 31])) : Ret (.tup [vcl (takeV x (.mk t n s l)), .int .i64 (takeE x (.mk t n s l))]) E :=
  Ret.ve (take_no (v := .mk t n s l) (n := x) h).1 (take_no (v := .mk t n s l) (n := x) h).2 h1
theorem cnt_u {v : VT} (h : cntOk v) (hh : 0 ≤ v.t ∧ v.t ≤ 5) : 0 ≤ rCount v ∧ rCount v ≤ 65536 := ⟨rCount_nn v, h hh⟩
theorem tilOk_c {v : VT} (h : cntOk v) (hh : 0 ≤ v.t ∧ v.t ≤ 5) : tilOk (rCount v) := cnt_u h hh
theorem ns65 : Int.negSucc 65535 = -65536 := rfl
/-! ### Index -/
theorem ok17 : Pure1 Tryz.prog 17 sp17 := by
  intro xs F w cs R ha h
  obtain ⟨x, y, v, a, rfl, h1, h2, h⟩ := onVI_inv h
  obtain ⟨ht, h⟩ := when_inv h
  obtain ⟨hc, h⟩ := when_inv h
  obtain ⟨hp, h⟩ := when_inv h
  have ha := ha.conv2 (fun v => as_V h1) (fun v => as_I h2)
  obtain ⟨t, n, s, l⟩ := v
  refine contract (fn := Tryz.f17) (walked (PureOk.also ok40 (PureOk.none _)) 14) (by kernel_rfl) w17C_ok (by rfl) (by rfl) (by rfl) (by rfl) (by rfl) ha (ρ := [.int t, .is n, .ss s, .vs l, .is a]) (Rh.go (w17_9999 t n s l a _) ?_) h
  simp only [o_add, o_sub, o_mul, o_neg, o_conv, o_lt, o_le, o_eq, o_not, o_and, o_or, o_sel, o_isel, o_ssel, o_beq, o_seq, o_slt, o_slen, o_sat, o_scut, o_sadd, o_ilen, o_blen, o_vlen, o_rlen, o_iget, o_bget, o_vget, o_rget, o_iset, o_bset, o_vset, o_iapp, o_bapp, o_vapp, o_rapp, o_icut, o_bcut, o_vcut, o_irep, o_vt, o_vn, o_vs, o_vl, o_imax, o_imin, o_inb, o_sfit, o_cutb, o_fit, o_mkfit, RhQ, decT, decF, true_and, and_true, eq_self, implies_true, forall_const, Bool.not_eq_true', Bool.not_eq_false', Bool.not_true, Bool.not_false, Bool.and_eq_true, Bool.or_eq_true, Bool.and_eq_false_iff, Bool.or_eq_false_iff, Bool.true_and, Bool.and_true, Bool.false_and, Bool.and_false, Bool.or_false, Bool.false_or, Bool.true_or, Bool.or_true, Int.toNat_natCast, VT.eta, not_true, not_false_iff, false_implies, if_true, if_false, Int.toNat_zero, Int.toNat_one, ns0, ns4]
  refine ⟨fun h => op_ret (by omega) rfl, fun h => ?_⟩
  have hh : 0 ≤ t ∧ t ≤ 5 := by omega
  rw [(op_yes (v := .mk t n s l) (a := a) hh).1, (op_yes (v := .mk t n s l) (a := a) hh).2]
  exact ⟨ht, hh, hp, rfl⟩
theorem loop18 (t n s l) (a : List Int) (htm : tame (.mk t n s l)) (hpa : partP (.mk t n s l)) (hp : pickOk (.mk t n s l) a) (i : Nat) (hi : i ≤ a.length) :
    Rh w18S (Ret (.tup [vcl (pickV (.mk t n s l) a), .int .i64 0])) (5, [.is a, .int i, .int t, .is n, .ss s, .vs l, .is ((a.take i).map (clampI (rCount (.mk t n s l))))]) := by
  refine Rh.go (w18_5 a i t n s l _ _) ?_
  have hal := (hp hpa).1
  have m1 := mlen (show a.length ≤ 1073741824 by omega)
  have key : i < a.length → Rh w18S (Ret (.tup [vcl (pickV (.mk t n s l) a), .int .i64 0])) (5, [.is a, .int (i + 1 : Nat), .int t, .is n, .ss s, .vs l, .is ((a.take i).map (clampI (rCount (.mk t n s l))) ++ [clampI (rCount (.mk t n s l)) (a.getD i 0)])]) := fun h => by
    have e := loop18 t n s l a htm hpa hp (i + 1) (by omega)
    rw [map_take _ a 0 h] at e
    exact e
  simp only [o_add, o_sub, o_mul, o_neg, o_conv, o_lt, o_le, o_eq, o_not, o_and, o_or, o_sel, o_isel, o_ssel, o_beq, o_seq, o_slt, o_slen, o_sat, o_scut, o_sadd, o_ilen, o_blen, o_vlen, o_rlen, o_iget, o_bget, o_vget, o_rget, o_iset, o_bset, o_vset, o_iapp, o_bapp, o_vapp, o_rapp, o_icut, o_bcut, o_vcut, o_irep, o_vt, o_vn, o_vs, o_vl, o_imax, o_imin, o_inb, o_sfit, o_cutb, o_fit, o_mkfit, RhQ, decT, decF, true_and, and_true, eq_self, implies_true, forall_const, Bool.not_eq_true', Bool.not_eq_false', Bool.not_true, Bool.not_false, Bool.and_eq_true, Bool.or_eq_true, Bool.and_eq_false_iff, Bool.or_eq_false_iff, Bool.true_and, Bool.and_true, Bool.false_and, Bool.and_false, Bool.or_false, Bool.false_or, Bool.true_or, Bool.or_true, Int.toNat_natCast, VT.eta, not_true, not_false_iff, false_implies, if_true, if_false, Int.toNat_zero, Int.toNat_one, ns0, ns4, List.length_map, List.length_take, List.length_cons, List.length_nil]
  refine ⟨fun h => ?_, fun h => ?_⟩
  · have hh : i < a.length := by omega
    have e := key hh
    rw [inc m1 hh]
    unfold clampI at e
    by_cases hin : a.getD i 0 < 0 ∨ rCount (.mk t n s l) ≤ a.getD i 0
    · rw [if_pos hin] at e
      repeat' (first | apply And.intro | intro _)
      all_goals first | omega | (exfalso; omega) | exact e
    · rw [if_neg hin] at e
      repeat' (first | apply And.intro | intro _)
      all_goals first | omega | (exfalso; omega) | exact e
  · rw [List.take_of_length_le (by omega)]
    exact ⟨htm, hpa, pickOk_clamp hp, by rw [pick_clamp]; exact rfl⟩
termination_by a.length - i
theorem ok18 : Pure1 Tryz.prog 18 sp18 := by
  intro xs F w cs R ha h
  obtain ⟨x, y, v, a, rfl, h1, h2, h⟩ := onVI_inv h
  obtain ⟨ht, h⟩ := when_inv h
  obtain ⟨hc, h⟩ := when_inv h
  obtain ⟨hp, h⟩ := when_inv h
  have ha := ha.conv2 (fun v => as_V h1) (fun v => as_I h2)
  obtain ⟨t, n, s, l⟩ := v
  refine contract (fn := Tryz.f18) (walked (PureOk.also ok42 (PureOk.also ok43 (PureOk.none _))) 14) (by kernel_rfl) w18C_ok (by rfl) (by rfl) (by rfl) (by rfl) (by rfl) ha (ρ := [.int t, .is n, .ss s, .vs l, .is a]) (Rh.go (w18_9999 t n s l a _) ?_) h
  simp only [o_add, o_sub, o_mul, o_neg, o_conv, o_lt, o_le, o_eq, o_not, o_and, o_or, o_sel, o_isel, o_ssel, o_beq, o_seq, o_slt, o_slen, o_sat, o_scut, o_sadd, o_ilen, o_blen, o_vlen, o_rlen, o_iget, o_bget, o_vget, o_rget, o_iset, o_bset, o_vset, o_iapp, o_bapp, o_vapp, o_rapp, o_icut, o_bcut, o_vcut, o_irep, o_vt, o_vn, o_vs, o_vl, o_imax, o_imin, o_inb, o_sfit, o_cutb, o_fit, o_mkfit, RhQ, decT, decF, true_and, and_true, eq_self, implies_true, forall_const, Bool.not_eq_true', Bool.not_eq_false', Bool.not_true, Bool.not_false, Bool.and_eq_true, Bool.or_eq_true, Bool.and_eq_false_iff, Bool.or_eq_false_iff, Bool.true_and, Bool.and_true, Bool.false_and, Bool.and_false, Bool.or_false, Bool.false_or, Bool.true_or, Bool.or_true, Int.toNat_natCast, VT.eta, not_true, not_false_iff, false_implies, if_true, if_false, Int.toNat_zero, Int.toNat_one, ns0, ns4]
  refine ⟨fun h => op_ret (by omega) rfl, fun h => ?_⟩
  have hh : 0 ≤ t ∧ t ≤ 5 := by omega
  rw [(op_yes (v := .mk t n s l) (a := a) hh).1, (op_yes (v := .mk t n s l) (a := a) hh).2]
  exact loop18 t n s l a ht hh hp 0 (by omega)
/-! ### Reverse -/
theorem okE9 : EffOk Tryz.prog (ES.also 23 se23 (ES.also 39 se39 ES.none)) := EffOk.also oke23 (EffOk.also oke39 (EffOk.none _))
theorem ok9 : Pure1 Tryz.prog 9 sp9 := by
  intro xs F w cs R ha h
  obtain ⟨x, v, rfl, h1, h⟩ := onV_inv h
  obtain ⟨ht, h⟩ := when_inv h
  obtain ⟨hc, h⟩ := when_inv h
  obtain ⟨hp, h⟩ := when_inv h
  have ha := ha.conv1 (fun v => as_V h1)
  obtain ⟨t, n, s, l⟩ := v
  refine contract (fn := Tryz.f9) (inl_ok mixed tbOk fnsOk (effOrc_ok okE9 (PureOk.also ok38 (PureOk.also ok40 (PureOk.none _)))) 14) (by kernel_rfl) w9C_ok (by rfl) (by rfl) (by rfl) (by rfl) (by rfl) ha (ρ := [.int t, .is n, .ss s, .vs l]) (Rh.go (w9_9999 t n s l _) ?_) h
  simp only [o_add, o_sub, o_mul, o_neg, o_conv, o_lt, o_le, o_eq, o_not, o_and, o_or, o_sel, o_isel, o_ssel, o_beq, o_seq, o_slt, o_slen, o_sat, o_scut, o_sadd, o_ilen, o_blen, o_vlen, o_rlen, o_iget, o_bget, o_vget, o_rget, o_iset, o_bset, o_vset, o_iapp, o_bapp, o_vapp, o_rapp, o_icut, o_bcut, o_vcut, o_irep, o_vt, o_vn, o_vs, o_vl, o_imax, o_imin, o_inb, o_sfit, o_cutb, o_fit, o_mkfit, RhQ, decT, decF, true_and, and_true, eq_self, implies_true, forall_const, Bool.not_eq_true', Bool.not_eq_false', Bool.not_true, Bool.not_false, Bool.and_eq_true, Bool.or_eq_true, Bool.and_eq_false_iff, Bool.or_eq_false_iff, Bool.true_and, Bool.and_true, Bool.false_and, Bool.and_false, Bool.or_false, Bool.false_or, Bool.true_or, Bool.or_true, Int.toNat_natCast, VT.eta, not_true, not_false_iff, false_implies, if_true, if_false, Int.toNat_zero, Int.toNat_one, ns0, ns4]
  refine ⟨fun h => op_ret (by omega) rfl, fun h => ?_⟩
  have hh : 0 ≤ t ∧ t ≤ 5 := by omega
  rw [(op_yes (v := .mk t n s l) hh).1, (op_yes (v := .mk t n s l) (a := []) hh).2]
  have c1 := cnt_u hc hh
  exact ⟨tilOk_c hc hh, Nat.le_trans (Nat.le_of_eq (iotaI_len _)) (by omega), ht, hh, hp, rfl⟩
theorem loop10 (t n s l) (htm : tame (.mk t n s l)) (hpa : partP (.mk t n s l)) (c : Nat) (hc : rCount (.mk t n s l) = c) (hc6 : c ≤ 65536) (hp : pickOk (.mk t n s l) (revL (.mk t n s l))) (k : Nat) (hk : k ≤ c) :
    Rh w10S (Ret (.tup [vcl (pickV (.mk t n s l) (revL (.mk t n s l))), .int .i64 0])) (5, [.int ((k : Int) - 1), .int t, .is n, .ss s, .vs l, .is ((iotaI (c : Int)).drop k).reverse]) := by
  refine Rh.go (w10_5 _ t n s l _ _) ?_
  have hl : ((iotaI (c : Int)).drop k).length ≤ c := by rw [List.length_drop, iotaI_len]; omega
  simp only [o_add, o_sub, o_mul, o_neg, o_conv, o_lt, o_le, o_eq, o_not, o_and, o_or, o_sel, o_isel, o_ssel, o_beq, o_seq, o_slt, o_slen, o_sat, o_scut, o_sadd, o_ilen, o_blen, o_vlen, o_rlen, o_iget, o_bget, o_vget, o_rget, o_iset, o_bset, o_vset, o_iapp, o_bapp, o_vapp, o_rapp, o_icut, o_bcut, o_vcut, o_irep, o_vt, o_vn, o_vs, o_vl, o_imax, o_imin, o_inb, o_sfit, o_cutb, o_fit, o_mkfit, RhQ, decT, decF, true_and, and_true, eq_self, implies_true, forall_const, Bool.not_eq_true', Bool.not_eq_false', Bool.not_true, Bool.not_false, Bool.and_eq_true, Bool.or_eq_true, Bool.and_eq_false_iff, Bool.or_eq_false_iff, Bool.true_and, Bool.and_true, Bool.false_and, Bool.and_false, Bool.or_false, Bool.false_or, Bool.true_or, Bool.or_true, Int.toNat_natCast, VT.eta, not_true, not_false_iff, false_implies, if_true, if_false, Int.toNat_zero, Int.toNat_one, ns0, ns4, List.length_reverse, List.length_cons, List.length_nil]
  refine ⟨fun h => ?_, fun h => ?_⟩
  · have e := loop10 t n s l htm hpa c hc hc6 hp (k - 1) (by omega)
    rw [iotaI_drop c (k - 1) (by omega), List.reverse_cons, show k - 1 + 1 = k by omega, show ((k - 1 : Nat) : Int) = (k : Int) - 1 by omega] at e
    rw [w64 (by omega) (by omega)]
    exact ⟨by omega, e⟩
  · have : k = 0 := by omega
    subst this
    have e : revL (.mk t n s l) = ((iotaI (c : Int)).drop 0).reverse := by unfold revL; rw [hc, List.drop_zero]
    rw [← e]
    exact ⟨htm, hpa, hp, rfl⟩
termination_by k
theorem ok10 : Pure1 Tryz.prog 10 sp10 := by
  intro xs F w cs R ha h
  obtain ⟨x, v, rfl, h1, h⟩ := onV_inv h
  obtain ⟨ht, h⟩ := when_inv h
  obtain ⟨hc, h⟩ := when_inv h
  obtain ⟨hp, h⟩ := when_inv h
  have ha := ha.conv1 (fun v => as_V h1)
  obtain ⟨t, n, s, l⟩ := v
  refine contract (fn := Tryz.f10) (walked (PureOk.also ok42 (PureOk.also ok43 (PureOk.none _))) 14) (by kernel_rfl) w10C_ok (by rfl) (by rfl) (by rfl) (by rfl) (by rfl) ha (ρ := [.int t, .is n, .ss s, .vs l]) (Rh.go (w10_9999 t n s l _) ?_) h
  simp only [o_add, o_sub, o_mul, o_neg, o_conv, o_lt, o_le, o_eq, o_not, o_and, o_or, o_sel, o_isel, o_ssel, o_beq, o_seq, o_slt, o_slen, o_sat, o_scut, o_sadd, o_ilen, o_blen, o_vlen, o_rlen, o_iget, o_bget, o_vget, o_rget, o_iset, o_bset, o_vset, o_iapp, o_bapp, o_vapp, o_rapp, o_icut, o_bcut, o_vcut, o_irep, o_vt, o_vn, o_vs, o_vl, o_imax, o_imin, o_inb, o_sfit, o_cutb, o_fit, o_mkfit, RhQ, decT, decF, true_and, and_true, eq_self, implies_true, forall_const, Bool.not_eq_true', Bool.not_eq_false', Bool.not_true, Bool.not_false, Bool.and_eq_true, Bool.or_eq_true, Bool.and_eq_false_iff, Bool.or_eq_false_iff, Bool.true_and, Bool.and_true, Bool.false_and, Bool.and_false, Bool.or_false, Bool.false_or, Bool.true_or, Bool.or_true, Int.toNat_natCast, VT.eta, not_true, not_false_iff, false_implies, if_true, if_false, Int.toNat_zero, Int.toNat_one, ns0, ns4]
  refine ⟨fun h => op_ret (by omega) rfl, fun h => ?_⟩
  have hh : 0 ≤ t ∧ t ≤ 5 := by omega
  rw [(op_yes (v := .mk t n s l) hh).1, (op_yes (v := .mk t n s l) (a := []) hh).2]
  have c1 := cnt_u hc hh
  obtain ⟨c, hcc⟩ : ∃ c : Nat, rCount (.mk t n s l) = c := ⟨(rCount (.mk t n s l)).toNat, by omega⟩
  have e := loop10 t n s l ht hh c hcc (by omega) hp c (by omega)
  rw [List.drop_of_length_le (by rw [iotaI_len]; omega)] at e
  rw [hcc, w64 (by omega) (by omega)]
  exact e
/-! ### Take -/
theorem lowI_neg {n : Int} (h : ¬ 0 < n) : lowI n = n := by unfold lowI; rw [if_neg h]
theorem lowI_pos {n : Int} (h : 0 < n) : lowI n = 0 := by unfold lowI; rw [if_pos h]
theorem mod_isel {i c : Int} (hc : 0 < c) (hc6 : c ≤ 65536) : (if ¬i.tmod c = 0 ∧ (decide (i.tmod c < 0) == decide (c < 0)) = false then IntKind.i64.wrap (i.tmod c + c) else i.tmod c) = i.fmod c := by
  have h0 : c ≠ 0 := by omega
  rw [Int.tmod_eq_emod, Int.fmod_eq_emod]
  simp only [Int.dvd_iff_emod_eq_zero, beq_eq_false_iff_ne, ne_eq, decide_eq_decide]
  have h1 := Int.emod_nonneg i h0
  have h2 := Int.emod_lt i h0
  generalize i % c = e at *
  by_cases hx : 0 ≤ i ∨ e = 0
  · rw [if_pos hx, if_pos (show 0 ≤ c ∨ e = 0 by omega), if_neg (by omega)]; omega
  · rw [if_neg hx, if_pos (show 0 ≤ c ∨ e = 0 by omega), if_pos (by omega), w64 (by omega) (by omega)]; omega
theorem loop13 (x : Int) (hx : ¬ (65536 < x ∨ x < -65536)) (t n s l) (htm : tame (.mk t n s l)) (hpa : partP (.mk t n s l)) (c : Int) (hc : rCount (.mk t n s l) = c) (hc0 : 0 ≤ c) (hc6 : c ≤ 65536) (hp : pickOk (.mk t n s l) (takeL x (.mk t n s l))) (m : Nat) (hm : m ≤ x.natAbs) :
    Rh w13S (Ret (.tup [vcl (pickV (.mk t n s l) (takeL x (.mk t n s l))), .int .i64 0])) (8, [.int x, .int c, .int (lowI x + m), .int t, .is n, .ss s, .vs l, .is ((takeI x c).take m)]) := by
  refine Rh.go (w13_8 x c _ t n s l _ _) ?_
  have hlow : (0 < x ∧ lowI x = 0) ∨ (¬ 0 < x ∧ lowI x = x) := by
    by_cases h : 0 < x
    · exact .inl ⟨h, lowI_pos h⟩
    · exact .inr ⟨h, lowI_neg h⟩
  have key : m < x.natAbs → Rh w13S (Ret (.tup [vcl (pickV (.mk t n s l) (takeL x (.mk t n s l))), .int .i64 0])) (8, [.int x, .int c, .int (IntKind.i64.wrap (lowI x + m + 1)), .int t, .is n, .ss s, .vs l, .is ((takeI x c).take m ++ [modI (lowI x + m) c])]) := fun h => by
    have e := loop13 x hx t n s l htm hpa c hc hc0 hc6 hp (m + 1) (by omega)
    rw [takeI_take _ _ _ h] at e
    rw [w64 (by omega) (by omega)]
    have : lowI x + (m : Int) + 1 = lowI x + ((m + 1 : Nat) : Int) := by omega
    rw [this]
    exact e
  have hlen := takeI_len x c
  have hmax : (if 0 > x then 0 else x) = max x 0 := by split <;> omega
  simp only [o_add, o_sub, o_mul, o_neg, o_conv, o_lt, o_le, o_eq, o_not, o_and, o_or, o_sel, o_isel, o_ssel, o_beq, o_seq, o_slt, o_slen, o_sat, o_scut, o_sadd, o_ilen, o_blen, o_vlen, o_rlen, o_iget, o_bget, o_vget, o_rget, o_iset, o_bset, o_vset, o_iapp, o_bapp, o_vapp, o_rapp, o_icut, o_bcut, o_vcut, o_irep, o_vt, o_vn, o_vs, o_vl, o_imax, o_imin, o_inb, o_sfit, o_cutb, o_fit, o_mkfit, RhQ, decT, decF, true_and, and_true, eq_self, implies_true, forall_const, Bool.not_eq_true', Bool.not_eq_false', Bool.not_true, Bool.not_false, Bool.and_eq_true, Bool.or_eq_true, Bool.and_eq_false_iff, Bool.or_eq_false_iff, Bool.true_and, Bool.and_true, Bool.false_and, Bool.and_false, Bool.or_false, Bool.false_or, Bool.true_or, Bool.or_true, Int.toNat_natCast, VT.eta, not_true, not_false_iff, false_implies, if_true, if_false, Int.toNat_zero, Int.toNat_one, ns0, ns4, o_rem, o_nz, List.length_take, List.length_cons, List.length_nil, hmax]
  refine ⟨fun h => ?_, fun h => ?_⟩
  · have hh : m < x.natAbs := by omega
    have e := key hh
    unfold modI at e
    by_cases h0 : c = 0
    · rw [if_pos h0] at e
      exact ⟨fun _ => ⟨by omega, e⟩, fun hh => absurd h0 hh⟩
    · rw [if_neg h0] at e
      refine ⟨fun hh => absurd hh h0, fun _ => ?_⟩
      rw [mod_isel (by omega) hc6]
      exact ⟨h0, by omega, e⟩
  · rw [List.take_of_length_le (by omega)]
    have e : takeL x (.mk t n s l) = takeI x c := by unfold takeL; rw [hc]
    rw [← e]
    exact ⟨htm, hpa, hp, rfl⟩
termination_by x.natAbs - m
theorem ok13 : Pure1 Tryz.prog 13 sp13 := by
  intro xs F w cs R ha h
  obtain ⟨n0, x, v, rfl, h1, h⟩ := onnV_inv h
  obtain ⟨ht, h⟩ := when_inv h
  obtain ⟨hc, h⟩ := when_inv h
  obtain ⟨hp, h⟩ := when_inv h
  have ha := ha.conv2 (fun v h => h) (fun v => as_V h1)
  obtain ⟨t, n, s, l⟩ := v
  refine contract (fn := Tryz.f13) (walked (PureOk.also ok38 (PureOk.also ok40 (PureOk.none _))) 14) (by kernel_rfl) w13C_ok (by rfl) (by rfl) (by rfl) (by rfl) (by rfl) ha (ρ := [.int n0, .int t, .is n, .ss s, .vs l]) (Rh.go (w13_9999 n0 t n s l _) ?_) h
  simp only [o_add, o_sub, o_mul, o_neg, o_conv, o_lt, o_le, o_eq, o_not, o_and, o_or, o_sel, o_isel, o_ssel, o_beq, o_seq, o_slt, o_slen, o_sat, o_scut, o_sadd, o_ilen, o_blen, o_vlen, o_rlen, o_iget, o_bget, o_vget, o_rget, o_iset, o_bset, o_vset, o_iapp, o_bapp, o_vapp, o_rapp, o_icut, o_bcut, o_vcut, o_irep, o_vt, o_vn, o_vs, o_vl, o_imax, o_imin, o_inb, o_sfit, o_cutb, o_fit, o_mkfit, RhQ, decT, decF, true_and, and_true, eq_self, implies_true, forall_const, Bool.not_eq_true', Bool.not_eq_false', Bool.not_true, Bool.not_false, Bool.and_eq_true, Bool.or_eq_true, Bool.and_eq_false_iff, Bool.or_eq_false_iff, Bool.true_and, Bool.and_true, Bool.false_and, Bool.and_false, Bool.or_false, Bool.false_or, Bool.true_or, Bool.or_true, Int.toNat_natCast, VT.eta, not_true, not_false_iff, false_implies, if_true, if_false, Int.toNat_zero, Int.toNat_one, ns0, ns4, ns65]
  refine ⟨fun h => take_ret (by omega) rfl, fun h => ?_⟩
  have hh : 0 ≤ t ∧ t ≤ 5 := by omega
  refine ⟨fun h2 => Ret.ve (take_many (v := .mk t n s l) hh h2).1 (take_many (v := .mk t n s l) hh h2).2 rfl, fun h2 => ?_⟩
  have h2 : ¬ (65536 < n0 ∨ n0 < -65536) := by omega
  rw [(take_yes (v := .mk t n s l) hh h2).1, (take_yes (v := .mk t n s l) hh h2).2]
  have c1 := cnt_u hc hh
  have e := loop13 n0 h2 t n s l ht hh _ rfl c1.1 c1.2 (hp h2) 0 (by omega)
  have el : (if 0 < n0 then 0 else n0) = lowI n0 + ((0 : Nat) : Int) := by unfold lowI; omega
  rw [← el] at e
  exact e
theorem loop14b (x : Int) (hx : ¬ (65536 < x ∨ x < -65536)) (t n s l) (htm : tame (.mk t n s l)) (hpa : partP (.mk t n s l)) (c : Int) (hc : rCount (.mk t n s l) = c) (hc0 : 0 ≤ c) (hc6 : c ≤ 65536) (hp : pickOk (.mk t n s l) (takeL x (.mk t n s l))) (m : Nat) (hm : m ≤ x.natAbs) (hs : ¬ 0 < x ∨ m = x.natAbs) (i : Int) (hi : i = if 0 < x then x else x + m) :
    Rh w14S (Ret (.tup [vcl (pickV (.mk t n s l) (takeL x (.mk t n s l))), .int .i64 0])) (14, [.int c, .int i, .int t, .is n, .ss s, .vs l, .is ((takeI x c).take m)]) := by
  refine Rh.go (w14_14 c i t n s l _ _) ?_
  have hlen := takeI_len x c
  simp only [o_add, o_sub, o_mul, o_neg, o_conv, o_lt, o_le, o_eq, o_not, o_and, o_or, o_sel, o_isel, o_ssel, o_beq, o_seq, o_slt, o_slen, o_sat, o_scut, o_sadd, o_ilen, o_blen, o_vlen, o_rlen, o_iget, o_bget, o_vget, o_rget, o_iset, o_bset, o_vset, o_iapp, o_bapp, o_vapp, o_rapp, o_icut, o_bcut, o_vcut, o_irep, o_vt, o_vn, o_vs, o_vl, o_imax, o_imin, o_inb, o_sfit, o_cutb, o_fit, o_mkfit, RhQ, decT, decF, true_and, and_true, eq_self, implies_true, forall_const, Bool.not_eq_true', Bool.not_eq_false', Bool.not_true, Bool.not_false, Bool.and_eq_true, Bool.or_eq_true, Bool.and_eq_false_iff, Bool.or_eq_false_iff, Bool.true_and, Bool.and_true, Bool.false_and, Bool.and_false, Bool.or_false, Bool.false_or, Bool.true_or, Bool.or_true, Int.toNat_natCast, VT.eta, not_true, not_false_iff, false_implies, if_true, if_false, Int.toNat_zero, Int.toNat_one, ns0, ns4, o_rem, o_nz, List.length_take, List.length_cons, List.length_nil]
  refine ⟨fun h => ?_, fun h => ?_⟩
  · have hx0 : ¬ 0 < x := by intro hx; rw [if_pos hx] at hi; omega
    rw [if_neg hx0] at hi
    have hh : m < x.natAbs := by omega
    have e := loop14b x hx t n s l htm hpa c hc hc0 hc6 hp (m + 1) (by omega) (.inl hx0) (i + 1) (by rw [if_neg hx0]; omega)
    rw [takeI_take _ _ _ hh, lowI_neg hx0, ← hi] at e
    unfold modI at e
    rw [w64 (a := i + 1) (by omega) (by omega)]
    by_cases h0 : c = 0
    · rw [if_pos h0] at e
      exact ⟨fun _ => ⟨by omega, e⟩, fun hh => absurd h0 hh⟩
    · rw [if_neg h0] at e
      have hm1 := Int.tmod_nonneg c (show 0 ≤ -i by omega)
      have hm2 := Int.tmod_lt_of_pos (-i) (show 0 < c by omega)
      refine ⟨fun hh => absurd hh h0, fun _ => ?_⟩
      rw [w64 (a := 0 - i) (by omega) (by omega), Int.zero_sub, w64 (by omega) (by omega), modI_neg (by omega) (by omega)]
      exact ⟨h0, h0, by omega, e⟩
  · have hm' : m = x.natAbs := by
      rcases hs with hs | hs
      · rw [if_neg hs] at hi; omega
      · exact hs
    rw [List.take_of_length_le (by omega)]
    have e : takeL x (.mk t n s l) = takeI x c := by unfold takeL; rw [hc]
    rw [← e]
    exact ⟨htm, hpa, hp, rfl⟩
termination_by x.natAbs - m
theorem loop14a (x : Int) (hx : ¬ (65536 < x ∨ x < -65536)) (t n s l) (htm : tame (.mk t n s l)) (hpa : partP (.mk t n s l)) (c : Int) (hc : rCount (.mk t n s l) = c) (hc0 : 0 ≤ c) (hc6 : c ≤ 65536) (hp : pickOk (.mk t n s l) (takeL x (.mk t n s l))) (m : Nat) (hm : m ≤ x.natAbs) (hs : 0 < x ∨ m = 0) :
    Rh w14S (Ret (.tup [vcl (pickV (.mk t n s l) (takeL x (.mk t n s l))), .int .i64 0])) (8, [.int x, .int c, .int m, .int t, .is n, .ss s, .vs l, .is ((takeI x c).take m)]) := by
  refine Rh.go (w14_8 x c m t n s l _ _) ?_
  have hlen := takeI_len x c
  simp only [o_add, o_sub, o_mul, o_neg, o_conv, o_lt, o_le, o_eq, o_not, o_and, o_or, o_sel, o_isel, o_ssel, o_beq, o_seq, o_slt, o_slen, o_sat, o_scut, o_sadd, o_ilen, o_blen, o_vlen, o_rlen, o_iget, o_bget, o_vget, o_rget, o_iset, o_bset, o_vset, o_iapp, o_bapp, o_vapp, o_rapp, o_icut, o_bcut, o_vcut, o_irep, o_vt, o_vn, o_vs, o_vl, o_imax, o_imin, o_inb, o_sfit, o_cutb, o_fit, o_mkfit, RhQ, decT, decF, true_and, and_true, eq_self, implies_true, forall_const, Bool.not_eq_true', Bool.not_eq_false', Bool.not_true, Bool.not_false, Bool.and_eq_true, Bool.or_eq_true, Bool.and_eq_false_iff, Bool.or_eq_false_iff, Bool.true_and, Bool.and_true, Bool.false_and, Bool.and_false, Bool.or_false, Bool.false_or, Bool.true_or, Bool.or_true, Int.toNat_natCast, VT.eta, not_true, not_false_iff, false_implies, if_true, if_false, Int.toNat_zero, Int.toNat_one, ns0, ns4, o_rem, o_nz, List.length_take, List.length_cons, List.length_nil]
  refine ⟨fun h => ?_, fun h => ?_⟩
  · have hx0 : 0 < x := by omega
    have hh : m < x.natAbs := by omega
    have e := loop14a x hx t n s l htm hpa c hc hc0 hc6 hp (m + 1) (by omega) (.inl hx0)
    rw [takeI_take _ _ _ hh, lowI_pos hx0, Int.zero_add] at e
    unfold modI at e
    rw [w64 (by omega) (by omega)]
    by_cases h0 : c = 0
    · rw [if_pos h0] at e
      exact ⟨fun _ => ⟨by omega, e⟩, fun hh => absurd h0 hh⟩
    · rw [if_neg h0, Int.fmod_eq_tmod_of_nonneg (by omega) (by omega)] at e
      exact ⟨fun hh => absurd hh h0, fun _ => ⟨h0, by omega, e⟩⟩
  · by_cases hx0 : 0 < x
    · exact loop14b x hx t n s l htm hpa c hc hc0 hc6 hp m hm (.inr (by omega)) x (by rw [if_pos hx0])
    · have : m = 0 := by omega
      subst this
      exact loop14b x hx t n s l htm hpa c hc hc0 hc6 hp 0 hm (.inl hx0) x (by rw [if_neg hx0]; omega)
termination_by x.natAbs - m
theorem ok14 : Pure1 Tryz.prog 14 sp14 := by
  intro xs F w cs R ha h
  obtain ⟨n0, x, v, rfl, h1, h⟩ := onnV_inv h
  obtain ⟨ht, h⟩ := when_inv h
  obtain ⟨hc, h⟩ := when_inv h
  obtain ⟨hp, h⟩ := when_inv h
  have ha := ha.conv2 (fun v h => h) (fun v => as_V h1)
  obtain ⟨t, n, s, l⟩ := v
  refine contract (fn := Tryz.f14) (walked (PureOk.also ok42 (PureOk.also ok43 (PureOk.none _))) 14) (by kernel_rfl) w14C_ok (by rfl) (by rfl) (by rfl) (by rfl) (by rfl) ha (ρ := [.int n0, .int t, .is n, .ss s, .vs l]) (Rh.go (w14_9999 n0 t n s l _) ?_) h
  simp only [o_add, o_sub, o_mul, o_neg, o_conv, o_lt, o_le, o_eq, o_not, o_and, o_or, o_sel, o_isel, o_ssel, o_beq, o_seq, o_slt, o_slen, o_sat, o_scut, o_sadd, o_ilen, o_blen, o_vlen, o_rlen, o_iget, o_bget, o_vget, o_rget, o_iset, o_bset, o_vset, o_iapp, o_bapp, o_vapp, o_rapp, o_icut, o_bcut, o_vcut, o_irep, o_vt, o_vn, o_vs, o_vl, o_imax, o_imin, o_inb, o_sfit, o_cutb, o_fit, o_mkfit, RhQ, decT, decF, true_and, and_true, eq_self, implies_true, forall_const, Bool.not_eq_true', Bool.not_eq_false', Bool.not_true, Bool.not_false, Bool.and_eq_true, Bool.or_eq_true, Bool.and_eq_false_iff, Bool.or_eq_false_iff, Bool.true_and, Bool.and_true, Bool.false_and, Bool.and_false, Bool.or_false, Bool.false_or, Bool.true_or, Bool.or_true, Int.toNat_natCast, VT.eta, not_true, not_false_iff, false_implies, if_true, if_false, Int.toNat_zero, Int.toNat_one, ns0, ns4, ns65]
  refine ⟨fun h => take_ret (by omega) rfl, fun h => ?_⟩
  have hh : 0 ≤ t ∧ t ≤ 5 := by omega
  refine ⟨fun h2 => Ret.ve (take_many (v := .mk t n s l) hh h2).1 (take_many (v := .mk t n s l) hh h2).2 rfl, fun h2 => ?_⟩
  have h2 : ¬ (65536 < n0 ∨ n0 < -65536) := by omega
  rw [(take_yes (v := .mk t n s l) hh h2).1, (take_yes (v := .mk t n s l) hh h2).2]
  have c1 := cnt_u hc hh
  exact loop14a n0 h2 t n s l ht hh _ rfl c1.1 c1.2 (hp h2) 0 (by omega) (.inr rfl)
/-! ### Drop -/
theorem dropL_c {v : VT} {n : Int} (c : Nat) (hc : rCount v = c) : dropL n v = dropI n c c := by unfold dropL; rw [hc]
theorem loop16 (x : Int) (t n s l) (htm : tame (.mk t n s l)) (hpa : partP (.mk t n s l)) (c : Nat) (hc : rCount (.mk t n s l) = c) (hc6 : c ≤ 65536) (hx : -9223372036854775808 ≤ x ∧ x < 9223372036854775808) (hp : pickOk (.mk t n s l) (dropL x (.mk t n s l))) (i : Nat) (hi : i ≤ c) :
    Rh w16S (Ret (.tup [vcl (pickV (.mk t n s l) (dropL x (.mk t n s l))), .int .i64 0])) (6, [.int x, .int c, .int i, .int t, .is n, .ss s, .vs l, .is (dropI x c i)]) := by
  refine Rh.go (w16_6 x c i t n s l _ _) ?_
  have hl := dropI_len x c i
  have key : i < c → Rh w16S (Ret (.tup [vcl (pickV (.mk t n s l) (dropL x (.mk t n s l))), .int .i64 0])) (6, [.int x, .int c, .int (i + 1 : Nat), .int t, .is n, .ss s, .vs l, .is (dropI x c i ++ (if (0 ≤ x ∧ x ≤ i) ∨ (x < 0 ∧ (i : Int) < c + x) then [(i : Int)] else []))]) := fun h => by
    have e := loop16 x t n s l htm hpa c hc hc6 hx hp (i + 1) (by omega)
    rw [dropI_succ x c i (by omega)] at e
    exact e
  have wc : IntKind.i64.wrap (0 - (c : Int)) = -(c : Int) := by rw [w64 (by omega) (by omega), Int.zero_sub]
  have wx : x < 0 → IntKind.i64.wrap ((c : Int) + x) = (c : Int) + x := fun h => w64 (by omega) (by omega)
  simp only [o_add, o_sub, o_mul, o_neg, o_conv, o_lt, o_le, o_eq, o_not, o_and, o_or, o_sel, o_isel, o_ssel, o_beq, o_seq, o_slt, o_slen, o_sat, o_scut, o_sadd, o_ilen, o_blen, o_vlen, o_rlen, o_iget, o_bget, o_vget, o_rget, o_iset, o_bset, o_vset, o_iapp, o_bapp, o_vapp, o_rapp, o_icut, o_bcut, o_vcut, o_irep, o_vt, o_vn, o_vs, o_vl, o_imax, o_imin, o_inb, o_sfit, o_cutb, o_fit, o_mkfit, RhQ, decT, decF, true_and, and_true, eq_self, implies_true, forall_const, Bool.not_eq_true', Bool.not_eq_false', Bool.not_true, Bool.not_false, Bool.and_eq_true, Bool.or_eq_true, Bool.and_eq_false_iff, Bool.or_eq_false_iff, Bool.true_and, Bool.and_true, Bool.false_and, Bool.and_false, Bool.or_false, Bool.false_or, Bool.true_or, Bool.or_true, Int.toNat_natCast, VT.eta, not_true, not_false_iff, false_implies, if_true, if_false, Int.toNat_zero, Int.toNat_one, ns0, ns4, List.length_cons, List.length_nil, wc]
  refine ⟨fun h => ?_, fun h => ?_⟩
  · have hh : i < c := by omega
    have e := key hh
    rw [w64 (a := (i : Int) + 1) (by omega) (by omega)]
    by_cases hin : (0 ≤ x ∧ x ≤ i) ∨ (x < 0 ∧ (i : Int) < c + x)
    · rw [if_pos hin] at e
      refine ⟨fun _ => ⟨by omega, e⟩, fun hq => ?_⟩
      exfalso
      obtain ⟨q1, q2⟩ := hq
      rcases hin with hin | hin
      · omega
      · rcases q2 with q2 | q2
        · omega
        · rw [wx hin.1] at q2; omega
    · rw [if_neg hin, List.append_nil] at e
      refine ⟨fun hq => ?_, fun _ => e⟩
      exfalso
      rcases hq with hq | hq
      · omega
      · rw [wx hq.1.1] at hq; omega
  · have : i = c := by omega
    subst this
    rw [← dropL_c i hc]
    exact ⟨htm, hpa, hp, rfl⟩
termination_by c - i
end Go.Qv
/- Contracts: what is dropped; sizes. No condition. -/
set_option linter.unusedVariables false
set_option linter.unusedSimpArgs false
set_option maxRecDepth 100000
namespace Go.Qv
open Go Go.RowKit Go.Proofs

theorem til_n (c : Int) : VT.n (tilV c) = iotaI c := rfl
theorem drop_pos {x c : Int} (hx : 0 ≤ x) (hc : 0 ≤ c) : ((iotaI c).drop (if c < x then c else x).toNat).take (c - (if c < x then c else x)).toNat = dropI x c c := by
  unfold dropI
  rw [if_pos hx, List.take_of_length_le (by rw [List.length_drop, iotaI_len]; split <;> omega)]
  split
  · rw [List.drop_of_length_le (by rw [iotaI_len]; omega), List.drop_of_length_le (by rw [iotaI_len]; omega)]
  · rfl
theorem drop_neg {x c : Int} (hx : x < 0) (hc : 0 ≤ c) (m : Int) (hm : m = if 0 > c + (if -c > x then -c else x) then 0 else c + (if -c > x then -c else x)) : ((iotaI c).drop 0).take (m - 0).toNat = dropI x c c := by
  unfold dropI
  rw [if_neg (by omega), List.drop_zero]
  congr 1
  subst hm
  split <;> split <;> omega
theorem dropL_eq (x : Int) (v : VT) : dropL x v = dropI x (rCount v) (rCount v) := rfl
theorem ok15 : Pure1 Tryz.prog 15 sp15 := by
  intro xs F w cs R ha h
  obtain ⟨x, y, v, rfl, h1, h⟩ := onnV_inv h
  obtain ⟨hx, h⟩ := when_inv h
  obtain ⟨ht, h⟩ := when_inv h
  obtain ⟨hc, h⟩ := when_inv h
  obtain ⟨hp, h⟩ := when_inv h
  have ha := ha.conv2 (fun v h => h) (fun v => as_V h1)
  obtain ⟨t, n, s, l⟩ := v
  refine contract (fn := Tryz.f15) (walked (PureOk.also ok38 (PureOk.also ok40 (PureOk.also ok23 (PureOk.none _)))) 14) (by kernel_rfl) w15C_ok (by rfl) (by rfl) (by rfl) (by rfl) (by rfl) ha (ρ := [.int x, .int t, .is n, .ss s, .vs l]) (Rh.go (w15_9999 x t n s l _) ?_) h
  by_cases hh : 0 ≤ t ∧ t ≤ 5
  case neg =>
    simp only [o_add, o_sub, o_mul, o_neg, o_conv, o_lt, o_le, o_eq, o_not, o_and, o_or, o_sel, o_isel, o_ssel, o_beq, o_seq, o_slt, o_slen, o_sat, o_scut, o_sadd, o_ilen, o_blen, o_vlen, o_rlen, o_iget, o_bget, o_vget, o_rget, o_iset, o_bset, o_vset, o_iapp, o_bapp, o_vapp, o_rapp, o_icut, o_bcut, o_vcut, o_irep, o_vt, o_vn, o_vs, o_vl, o_imax, o_imin, o_inb, o_sfit, o_cutb, o_fit, o_mkfit, RhQ, decT, decF, true_and, and_true, eq_self, implies_true, forall_const, Bool.not_eq_true', Bool.not_eq_false', Bool.not_true, Bool.not_false, Bool.and_eq_true, Bool.or_eq_true, Bool.and_eq_false_iff, Bool.or_eq_false_iff, Bool.true_and, Bool.and_true, Bool.false_and, Bool.and_false, Bool.or_false, Bool.false_or, Bool.true_or, Bool.or_true, Int.toNat_natCast, VT.eta, not_true, not_false_iff, false_implies, if_true, if_false, Int.toNat_zero, Int.toNat_one, ns0, ns4]
    exact ⟨fun h => op_ret (by omega) rfl, fun h => absurd (show 0 ≤ t ∧ t ≤ 5 by omega) hh⟩
  have c1 := cnt_u hc hh
  have hlen : ((iotaI (rCount (.mk t n s l))).length : Int) = rCount (.mk t n s l) := by rw [iotaI_len]; omega
  have tk := tilOk_c hc hh
  rw [dropL_eq] at hp ⊢
  generalize hcc : rCount (.mk t n s l) = c at *
  have wc : IntKind.i64.wrap (0 - c) = -c := by rw [w64 (by omega) (by omega), Int.zero_sub]
  obtain ⟨hx0, hx1⟩ := hx
  have wc2 : x < 0 → IntKind.i64.wrap (c + (if -c > x then -c else x)) = c + (if -c > x then -c else x) := fun hneg => by split <;> (rw [w64] <;> omega)
  simp only [o_add, o_sub, o_mul, o_neg, o_conv, o_lt, o_le, o_eq, o_not, o_and, o_or, o_sel, o_isel, o_ssel, o_beq, o_seq, o_slt, o_slen, o_sat, o_scut, o_sadd, o_ilen, o_blen, o_vlen, o_rlen, o_iget, o_bget, o_vget, o_rget, o_iset, o_bset, o_vset, o_iapp, o_bapp, o_vapp, o_rapp, o_icut, o_bcut, o_vcut, o_irep, o_vt, o_vn, o_vs, o_vl, o_imax, o_imin, o_inb, o_sfit, o_cutb, o_fit, o_mkfit, RhQ, decT, decF, true_and, and_true, eq_self, implies_true, forall_const, Bool.not_eq_true', Bool.not_eq_false', Bool.not_true, Bool.not_false, Bool.and_eq_true, Bool.or_eq_true, Bool.and_eq_false_iff, Bool.or_eq_false_iff, Bool.true_and, Bool.and_true, Bool.false_and, Bool.and_false, Bool.or_false, Bool.false_or, Bool.true_or, Bool.or_true, Int.toNat_natCast, VT.eta, not_true, not_false_iff, false_implies, if_true, if_false, Int.toNat_zero, Int.toNat_one, ns0, ns4, til_n, hlen, wc]
  refine ⟨fun h => absurd hh (by omega), fun h => ?_⟩
  rw [(op_yes (v := .mk t n s l) hh).1, (op_yes (v := .mk t n s l) (a := []) hh).2]
  refine ⟨tk, fun h0 => ?_, fun h0 => ?_⟩
  · have e := drop_pos (x := x) (c := c) h0 c1.1
    rw [e]
    have b : 0 ≤ (if c < x then c else x) ∧ (if c < x then c else x) ≤ c := by split <;> omega
    exact ⟨⟨⟨b.1, b.2, Int.le_refl _⟩, ht, hh, hp⟩, rfl⟩
  · rw [wc2 (by omega)]
    have e := drop_neg (x := x) (c := c) (by omega) c1.1 _ rfl
    rw [e]
    have b : 0 ≤ (if 0 > c + (if -c > x then -c else x) then 0 else c + (if -c > x then -c else x)) ∧ (if 0 > c + (if -c > x then -c else x) then 0 else c + (if -c > x then -c else x)) ≤ c := by split <;> split <;> omega
    exact ⟨⟨⟨by omega, b.1, b.2⟩, ht, hh, hp⟩, rfl⟩
theorem ok16 : Pure1 Tryz.prog 16 sp16 := by
  intro xs F w cs R ha h
  obtain ⟨x, y, v, rfl, h1, h⟩ := onnV_inv h
  obtain ⟨hx, h⟩ := when_inv h
  obtain ⟨ht, h⟩ := when_inv h
  obtain ⟨hc, h⟩ := when_inv h
  obtain ⟨hp, h⟩ := when_inv h
  have ha := ha.conv2 (fun v h => h) (fun v => as_V h1)
  obtain ⟨t, n, s, l⟩ := v
  refine contract (fn := Tryz.f16) (walked (PureOk.also ok42 (PureOk.also ok43 (PureOk.none _))) 14) (by kernel_rfl) w16C_ok (by rfl) (by rfl) (by rfl) (by rfl) (by rfl) ha (ρ := [.int x, .int t, .is n, .ss s, .vs l]) (Rh.go (w16_9999 x t n s l _) ?_) h
  simp only [o_add, o_sub, o_mul, o_neg, o_conv, o_lt, o_le, o_eq, o_not, o_and, o_or, o_sel, o_isel, o_ssel, o_beq, o_seq, o_slt, o_slen, o_sat, o_scut, o_sadd, o_ilen, o_blen, o_vlen, o_rlen, o_iget, o_bget, o_vget, o_rget, o_iset, o_bset, o_vset, o_iapp, o_bapp, o_vapp, o_rapp, o_icut, o_bcut, o_vcut, o_irep, o_vt, o_vn, o_vs, o_vl, o_imax, o_imin, o_inb, o_sfit, o_cutb, o_fit, o_mkfit, RhQ, decT, decF, true_and, and_true, eq_self, implies_true, forall_const, Bool.not_eq_true', Bool.not_eq_false', Bool.not_true, Bool.not_false, Bool.and_eq_true, Bool.or_eq_true, Bool.and_eq_false_iff, Bool.or_eq_false_iff, Bool.true_and, Bool.and_true, Bool.false_and, Bool.and_false, Bool.or_false, Bool.false_or, Bool.true_or, Bool.or_true, Int.toNat_natCast, VT.eta, not_true, not_false_iff, false_implies, if_true, if_false, Int.toNat_zero, Int.toNat_one, ns0, ns4]
  refine ⟨fun h => op_ret (by omega) rfl, fun h => ?_⟩
  have hh : 0 ≤ t ∧ t ≤ 5 := by omega
  rw [(op_yes (v := .mk t n s l) hh).1, (op_yes (v := .mk t n s l) (a := []) hh).2]
  have c1 := cnt_u hc hh
  obtain ⟨c, hcc⟩ : ∃ c : Nat, rCount (.mk t n s l) = c := ⟨(rCount (.mk t n s l)).toNat, by omega⟩
  have e := loop16 x t n s l ht hh c hcc (by omega) hx hp 0 (by omega)
  rw [dropI_zero] at e
  rw [hcc]
  exact e
/-! ### R.Size -/
theorem loop7 (m : Nat) (t n s l) (hm : smaller (.mk t n s l) (m + 1)) (hl : l.length ≤ maxLen) (d : Int) (i : Nat) (h1 : i ≤ l.length) : Rh (w7S m) (Ret (.int .i64 (rSizeL (l.drop i) d))) (3, [.int d, .int i, .int t, .is n, .ss s, .vs l]) := by
  refine Rh.go (w7_3 m d i t n s l _) ?_
  simp only [o_add, o_sub, o_mul, o_neg, o_conv, o_lt, o_le, o_eq, o_not, o_and, o_or, o_sel, o_isel, o_ssel, o_beq, o_seq, o_slt, o_slen, o_sat, o_scut, o_sadd, o_ilen, o_blen, o_vlen, o_rlen, o_iget, o_bget, o_vget, o_rget, o_iset, o_bset, o_vset, o_iapp, o_bapp, o_vapp, o_rapp, o_icut, o_bcut, o_vcut, o_irep, o_vt, o_vn, o_vs, o_vl, o_imax, o_imin, o_inb, o_sfit, o_cutb, o_fit, o_mkfit, RhQ, decT, decF, true_and, and_true, eq_self, implies_true, forall_const, Bool.not_eq_true', Bool.not_eq_false', Bool.not_true, Bool.not_false, Bool.and_eq_true, Bool.or_eq_true, Bool.and_eq_false_iff, Bool.or_eq_false_iff, Bool.true_and, Bool.and_true, Bool.false_and, Bool.and_false, Bool.or_false, Bool.false_or, Bool.true_or, Bool.or_true, Int.toNat_natCast, VT.eta, not_true, not_false_iff, false_implies, if_true, if_false, Int.toNat_zero, Int.toNat_one, ns0, ns4]
  refine ⟨fun h => ?_, fun h => ?_⟩
  · have hx := hm.mem (getD_mem l default (i := i) (by omega))
    have e := loop7 m t n s l hm hl (IntKind.i64.wrap (d + rSize (l.getD i default))) (i + 1) (by omega)
    rw [inc hl (by omega), drop_at l default (show i < l.length by omega), rSizeL]
    repeat' apply And.intro
    all_goals first | exact e | exact hx | omega
  · rw [List.drop_of_length_le (by omega)]; exact Ret.int (by simp only [rSizeL])
termination_by l.length - i
theorem ok7n : ∀ n, Pure1 Tryz.prog 7 (sp7 n) := pure_ind (fun xs F w cs R ha h => by
    obtain ⟨x, a, rfl, h1, h⟩ := onV_inv h
    exact (none0 (when_inv h).1).elim) (fun m ih xs F w cs R ha h => by
    obtain ⟨x, a, rfl, h1, h⟩ := onV_inv h
    obtain ⟨hm, h⟩ := when_inv h
    have ha := ha.conv1 (fun v => as_V h1)
    obtain ⟨v, hv⟩ := ha.at 0 rfl
    obtain ⟨t, n, s, l⟩ := a
    refine contract (fn := Tryz.f7) (walked (PureOk.also ih (PureOk.none _)) 14) (by kernel_rfl) w7C_ok (by rfl) (by rfl) (by rfl) (by rfl) (by rfl) ha (ρ := [.int t, .is n, .ss s, .vs l]) (Rh.go (w7_9999 m t n s l _) ?_) h
    simp only [o_add, o_sub, o_mul, o_neg, o_conv, o_lt, o_le, o_eq, o_not, o_and, o_or, o_sel, o_isel, o_ssel, o_beq, o_seq, o_slt, o_slen, o_sat, o_scut, o_sadd, o_ilen, o_blen, o_vlen, o_rlen, o_iget, o_bget, o_vget, o_rget, o_iset, o_bset, o_vset, o_iapp, o_bapp, o_vapp, o_rapp, o_icut, o_bcut, o_vcut, o_irep, o_vt, o_vn, o_vs, o_vl, o_imax, o_imin, o_inb, o_sfit, o_cutb, o_fit, o_mkfit, RhQ, decT, decF, true_and, and_true, eq_self, implies_true, forall_const, Bool.not_eq_true', Bool.not_eq_false', Bool.not_true, Bool.not_false, Bool.and_eq_true, Bool.or_eq_true, Bool.and_eq_false_iff, Bool.or_eq_false_iff, Bool.true_and, Bool.and_true, Bool.false_and, Bool.and_false, Bool.or_false, Bool.false_or, Bool.true_or, Bool.or_true, Int.toNat_natCast, VT.eta, not_true, not_false_iff, false_implies, if_true, if_false, Int.toNat_zero, Int.toNat_one, ns0, ns4]
    rw [rSize]
    exact loop7 m t n s l hm hv.vlen.l _ 0 (by omega))
theorem ok7 : Pure1 Tryz.prog 7 sp7f := pure_all ok7n fun xs Q h => by
  obtain ⟨x, a, rfl, h1, h⟩ := onV_inv h
  exact ⟨a.sz + 1, onV_mk h1 (when_mk (Nat.lt_succ_self _) h)⟩
end Go.Qv
