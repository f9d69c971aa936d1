/- Contracts: sizes, places, elements at places. No condition. -/
import Derived.Test.YteaeogofidakiaaQWd
set_option linter.unusedVariables false
set_option linter.unusedSimpArgs false
set_option maxRecDepth 100000
namespace Go.Qv
open Go Go.RowKit Go.Proofs

/-! ### quiverlaw07.size, right -/
theorem loop25 (m : Nat) (t n s l) (hm : smaller (.mk t n s l) (m + 1)) (hl : l.length ≤ maxLen) (d : Int) (i : Nat) (h1 : i ≤ l.length) : Rh (w25S m) (Ret (.int .i64 (szWs (l.drop i) d))) (3, [.int d, .int i, .int t, .is n, .ss s, .vs l]) := by
  refine Rh.go (w25_3 m d i t n s l _) ?_
  simp only [o_add, o_sub, o_mul, o_neg, o_conv, o_lt, o_le, o_eq, o_not, o_and, o_or, o_sel, o_isel, o_ssel, o_beq, o_seq, o_slt, o_slen, o_sat, o_scut, o_sadd, o_ilen, o_blen, o_vlen, o_rlen, o_iget, o_bget, o_vget, o_rget, o_iset, o_bset, o_vset, o_iapp, o_bapp, o_vapp, o_rapp, o_icut, o_bcut, o_vcut, o_irep, o_vt, o_vn, o_vs, o_vl, o_imax, o_imin, o_inb, o_sfit, o_cutb, o_fit, o_mkfit, RhQ, decT, decF, true_and, and_true, eq_self, implies_true, forall_const, Bool.not_eq_true', Bool.not_eq_false', Bool.not_true, Bool.not_false, Bool.and_eq_true, Bool.or_eq_true, Bool.and_eq_false_iff, Bool.or_eq_false_iff, Bool.true_and, Bool.and_true, Bool.false_and, Bool.and_false, Bool.or_false, Bool.false_or, Bool.true_or, Bool.or_true, Int.toNat_natCast, VT.eta, not_true, not_false_iff, false_implies, if_true, if_false, Int.toNat_zero, Int.toNat_one, ns0, ns4]
  refine ⟨fun h => ⟨⟨by omega, by omega⟩, hm.mem (getD_mem l default (by omega)), ?_⟩, fun h => Ret.int ?_⟩
  · rw [inc hl (by omega), drop_at l default (show i < l.length by omega), szWs, if_pos h.2]
    exact loop25 m t n s l hm hl _ (i + 1) (by omega)
  · rcases Nat.lt_or_ge i l.length with hi | hi
    · rw [drop_at l default hi, szWs, if_neg (by omega)]
    · rw [List.drop_of_length_le hi]; rfl
termination_by l.length - i
theorem ok25n : ∀ n, Pure1 Try.prog 25 (sp25 n) := pure_ind (fun xs F w cs R ha h => by
    obtain ⟨x, a, rfl, h1, h⟩ := onV_inv h
    exact (none0 (when_inv h).1).elim) (fun m ih xs F w cs R ha h => by
    obtain ⟨x, a, rfl, h1, h⟩ := onV_inv h
    obtain ⟨hm, h⟩ := when_inv h
    have ha := ha.conv1 (fun v => as_V h1)
    obtain ⟨v, hv⟩ := ha.at 0 rfl
    obtain ⟨t, n, s, l⟩ := a
    refine contract (fn := Try.f25) (walked (PureOk.also ih (PureOk.none _)) 14) (by kernel_rfl) w25C_ok (by rfl) (by rfl) (by rfl) (by rfl) (by rfl) ha (ρ := [.int t, .is n, .ss s, .vs l]) (Rh.go (w25_9999 m t n s l _) ?_) h
    simp only [o_add, o_sub, o_mul, o_neg, o_conv, o_lt, o_le, o_eq, o_not, o_and, o_or, o_sel, o_isel, o_ssel, o_beq, o_seq, o_slt, o_slen, o_sat, o_scut, o_sadd, o_ilen, o_blen, o_vlen, o_rlen, o_iget, o_bget, o_vget, o_rget, o_iset, o_bset, o_vset, o_iapp, o_bapp, o_vapp, o_rapp, o_icut, o_bcut, o_vcut, o_irep, o_vt, o_vn, o_vs, o_vl, o_imax, o_imin, o_inb, o_sfit, o_cutb, o_fit, o_mkfit, RhQ, decT, decF, true_and, and_true, eq_self, implies_true, forall_const, Bool.not_eq_true', Bool.not_eq_false', Bool.not_true, Bool.not_false, Bool.and_eq_true, Bool.or_eq_true, Bool.and_eq_false_iff, Bool.or_eq_false_iff, Bool.true_and, Bool.and_true, Bool.false_and, Bool.and_false, Bool.or_false, Bool.false_or, Bool.true_or, Bool.or_true, Int.toNat_natCast, VT.eta, not_true, not_false_iff, false_implies, if_true, if_false, Int.toNat_zero, Int.toNat_one, ns0, ns4]
    rw [szW]
    exact loop25 m t n s l hm hv.vlen.l _ 0 (by omega))
theorem ok25 : Pure1 Try.prog 25 sp25f := pure_all ok25n fun xs Q h => by
  obtain ⟨x, a, rfl, h1, h⟩ := onV_inv h
  exact ⟨a.sz + 1, onV_mk h1 (when_mk (Nat.lt_succ_self _) h)⟩
theorem loop7b (l : List VT) (hl : l.length ≤ maxLen) (hf : fines l) (i : Nat) (h1 : i ≤ l.length) : Rh w7S (Ret (.bool (checkB (l.drop i)))) (9, [.vs l, .int i]) := by
  refine Rh.go (w7_9 l i _) ?_
  simp only [o_add, o_sub, o_mul, o_neg, o_conv, o_lt, o_le, o_eq, o_not, o_and, o_or, o_sel, o_isel, o_ssel, o_beq, o_seq, o_slt, o_slen, o_sat, o_scut, o_sadd, o_ilen, o_blen, o_vlen, o_rlen, o_iget, o_bget, o_vget, o_rget, o_iset, o_bset, o_vset, o_iapp, o_bapp, o_vapp, o_rapp, o_icut, o_bcut, o_vcut, o_irep, o_vt, o_vn, o_vs, o_vl, o_imax, o_imin, o_inb, o_sfit, o_cutb, o_fit, o_mkfit, RhQ, decT, decF, true_and, and_true, eq_self, implies_true, forall_const, Bool.not_eq_true', Bool.not_eq_false', Bool.not_true, Bool.not_false, Bool.and_eq_true, Bool.or_eq_true, Bool.and_eq_false_iff, Bool.or_eq_false_iff, Bool.true_and, Bool.and_true, Bool.false_and, Bool.and_false, Bool.or_false, Bool.false_or, Bool.true_or, Bool.or_true, Int.toNat_natCast, VT.eta, not_true, not_false_iff, false_implies, if_true, if_false, Int.toNat_zero, Int.toNat_one, ns0, ns4]
  refine ⟨fun h => ⟨⟨by omega, by omega⟩, hf _ (getD_mem l default (by omega)), fun h2 => ?_, fun h2 => ?_⟩, fun h => ?_⟩
  · rw [drop_at l default (show i < l.length by omega)]
    refine Ret.bool ?_
    unfold checkB
    rw [List.all_cons, decide_eq_false (fun h3 => h2 (by unfold checkV at h3; simpa using h3)), Bool.false_and]
  · rw [inc hl (by omega), drop_at l default (show i < l.length by omega)]
    have e := loop7b l hl hf (i + 1) (by omega)
    have e2 : checkB (l.getD i default :: l.drop (i + 1)) = checkB (l.drop (i + 1)) := by
      unfold checkB
      rw [List.all_cons, decide_eq_true (show checkV (l.getD i default) = 0 by unfold checkV; simpa using h2), Bool.true_and]
    rw [e2]
    exact e
  · rw [List.drop_of_length_le (by omega)]; exact Ret.bool rfl
termination_by l.length - i
theorem loop7a (l : List VT) (hl : l.length ≤ maxLen) (hf : fines l) (d : Int) (i : Nat) (h1 : i ≤ l.length) (hd : szWs l 0 = szWs (l.drop i) d) : Rh w7S (Ret (.bool (rightB l))) (3, [.vs l, .int d, .int i]) := by
  refine Rh.go (w7_3 l d i _) ?_
  simp only [o_add, o_sub, o_mul, o_neg, o_conv, o_lt, o_le, o_eq, o_not, o_and, o_or, o_sel, o_isel, o_ssel, o_beq, o_seq, o_slt, o_slen, o_sat, o_scut, o_sadd, o_ilen, o_blen, o_vlen, o_rlen, o_iget, o_bget, o_vget, o_rget, o_iset, o_bset, o_vset, o_iapp, o_bapp, o_vapp, o_rapp, o_icut, o_bcut, o_vcut, o_irep, o_vt, o_vn, o_vs, o_vl, o_imax, o_imin, o_inb, o_sfit, o_cutb, o_fit, o_mkfit, RhQ, decT, decF, true_and, and_true, eq_self, implies_true, forall_const, Bool.not_eq_true', Bool.not_eq_false', Bool.not_true, Bool.not_false, Bool.and_eq_true, Bool.or_eq_true, Bool.and_eq_false_iff, Bool.or_eq_false_iff, Bool.true_and, Bool.and_true, Bool.false_and, Bool.and_false, Bool.or_false, Bool.false_or, Bool.true_or, Bool.or_true, Int.toNat_natCast, VT.eta, not_true, not_false_iff, false_implies, if_true, if_false, Int.toNat_zero, Int.toNat_one, ns0, ns4]
  refine ⟨fun h => ⟨⟨by omega, by omega⟩, ?_⟩, fun h => ⟨fun h2 => ?_, fun h2 => ?_⟩⟩
  · rw [drop_at l default (show i < l.length by omega), szWs, if_pos h.2] at hd
    rw [inc hl (by omega)]
    exact loop7a l hl hf _ (i + 1) (by omega) hd
  all_goals
    have e : szWs l 0 = d := by
      rcases Nat.lt_or_ge i l.length with hi | hi
      · rw [drop_at l default hi, szWs, if_neg (by omega)] at hd; exact hd
      · rw [List.drop_of_length_le hi] at hd; simpa [szWs] using hd
    unfold rightB
    rw [e]
  · rw [decide_eq_true h2]; exact Ret.bool rfl
  · rw [decide_eq_false h2]; exact loop7b l hl hf 0 (by omega)
termination_by l.length - i
theorem ok7 : Pure1 Try.prog 7 sp7 := by
  intro xs F w cs R ha h
  obtain ⟨x, a, rfl, h1, h⟩ := onVs_inv h
  obtain ⟨hf, h⟩ := when_inv h
  have ha := ha.conv1 (fun v => as_Vs h1)
  obtain ⟨v, hv⟩ := ha.at 0 rfl
  refine contract (fn := Try.f7) (walked (PureOk.also ok25 (PureOk.also ok60 (PureOk.also ok41 (PureOk.none _)))) 14) (by kernel_rfl) w7C_ok (by rfl) (by rfl) (by rfl) (by rfl) (by rfl) ha (ρ := [.vs a]) (Rh.go (w7_9999 a _) ?_) h
  simp only [o_add, o_sub, o_mul, o_neg, o_conv, o_lt, o_le, o_eq, o_not, o_and, o_or, o_sel, o_isel, o_ssel, o_beq, o_seq, o_slt, o_slen, o_sat, o_scut, o_sadd, o_ilen, o_blen, o_vlen, o_rlen, o_iget, o_bget, o_vget, o_rget, o_iset, o_bset, o_vset, o_iapp, o_bapp, o_vapp, o_rapp, o_icut, o_bcut, o_vcut, o_irep, o_vt, o_vn, o_vs, o_vl, o_imax, o_imin, o_inb, o_sfit, o_cutb, o_fit, o_mkfit, RhQ, decT, decF, true_and, and_true, eq_self, implies_true, forall_const, Bool.not_eq_true', Bool.not_eq_false', Bool.not_true, Bool.not_false, Bool.and_eq_true, Bool.or_eq_true, Bool.and_eq_false_iff, Bool.or_eq_false_iff, Bool.true_and, Bool.and_true, Bool.false_and, Bool.and_false, Bool.or_false, Bool.false_or, Bool.true_or, Bool.or_true, Int.toNat_natCast, VT.eta, not_true, not_false_iff, false_implies, if_true, if_false, Int.toNat_zero, Int.toNat_one, ns0, ns4]
  exact loop7a a hv.len hf 0 0 (by omega) rfl
/-! ### nulls -/
theorem null63 : Int.negSucc 9223372036854775807 = -9223372036854775808 := rfl
theorem ns2 : Int.negSucc 2 = -3 := rfl
theorem ok69 : Pure1 Try.prog 69 sp69 := by
  intro xs F w cs R ha h
  obtain ⟨t, rfl, h⟩ := onInt_inv h
  refine contract (fn := Try.f69) (walked (PureOk.also ok56 (PureOk.also ok86 (PureOk.also ok84 (PureOk.none _)))) 14) (by kernel_rfl) w69C_ok (by rfl) (by rfl) (by rfl) (by rfl) (by rfl) ha (ρ := [.int t]) (Rh.go (w69_9999 t _) ?_) h
  simp only [o_add, o_sub, o_mul, o_neg, o_conv, o_lt, o_le, o_eq, o_not, o_and, o_or, o_sel, o_isel, o_ssel, o_beq, o_seq, o_slt, o_slen, o_sat, o_scut, o_sadd, o_ilen, o_blen, o_vlen, o_rlen, o_iget, o_bget, o_vget, o_rget, o_iset, o_bset, o_vset, o_iapp, o_bapp, o_vapp, o_rapp, o_icut, o_bcut, o_vcut, o_irep, o_vt, o_vn, o_vs, o_vl, o_imax, o_imin, o_inb, o_sfit, o_cutb, o_fit, o_mkfit, RhQ, decT, decF, true_and, and_true, eq_self, implies_true, forall_const, Bool.not_eq_true', Bool.not_eq_false', Bool.not_true, Bool.not_false, Bool.and_eq_true, Bool.or_eq_true, Bool.and_eq_false_iff, Bool.or_eq_false_iff, Bool.true_and, Bool.and_true, Bool.false_and, Bool.and_false, Bool.or_false, Bool.false_or, Bool.true_or, Bool.or_true, Int.toNat_natCast, VT.eta, not_true, not_false_iff, false_implies, if_true, if_false, Int.toNat_zero, Int.toNat_one, ns0, ns4, null63, ns2]
  unfold nullV
  refine ⟨fun h => Ret.v (if_pos h) rfl, fun h => ⟨fun h2 => Ret.v (by rw [if_neg h, if_pos h2]) rfl, fun h2 => by rw [if_neg h, if_neg h2]; exact rfl⟩⟩
theorem atomV_nil {t n : Int} (h1 : rAbs t ≠ 1) (h2 : rAbs t ≠ 2) (h4 : rAbs t ≠ 4) (h5 : rAbs t ≠ 5) : atomV t n = .mk 101 [] [] [] := by
  unfold atomV; rw [if_pos (by omega)]
/-! ### vec.Til -/
theorem loop58 (n : Int) (hn : tilOk n) (i : Nat) (h1 : (i : Int) ≤ n) : Rh w58S (Ret (.tup [vcl (tilV n), .int .i64 0])) (7, [.int n, .int i, .int 2, .is (iotaI i)]) := by
  refine Rh.go (w58_7 n i 2 (iotaI i) _) ?_
  obtain ⟨hn0, hn1⟩ := hn
  simp only [o_add, o_sub, o_mul, o_neg, o_conv, o_lt, o_le, o_eq, o_not, o_and, o_or, o_sel, o_isel, o_ssel, o_beq, o_seq, o_slt, o_slen, o_sat, o_scut, o_sadd, o_ilen, o_blen, o_vlen, o_rlen, o_iget, o_bget, o_vget, o_rget, o_iset, o_bset, o_vset, o_iapp, o_bapp, o_vapp, o_rapp, o_icut, o_bcut, o_vcut, o_irep, o_vt, o_vn, o_vs, o_vl, o_imax, o_imin, o_inb, o_sfit, o_cutb, o_fit, o_mkfit, RhQ, decT, decF, true_and, and_true, eq_self, implies_true, forall_const, Bool.not_eq_true', Bool.not_eq_false', Bool.not_true, Bool.not_false, Bool.and_eq_true, Bool.or_eq_true, Bool.and_eq_false_iff, Bool.or_eq_false_iff, Bool.true_and, Bool.and_true, Bool.false_and, Bool.and_false, Bool.or_false, Bool.false_or, Bool.true_or, Bool.or_true, Int.toNat_natCast, VT.eta, not_true, not_false_iff, false_implies, if_true, if_false, Int.toNat_zero, Int.toNat_one, ns0, ns4, iotaI_len, List.length_cons, List.length_nil]
  refine ⟨fun h => ⟨by omega, ?_⟩, fun h => ?_⟩
  · rw [w64 (by omega) (by omega)]
    have e := loop58 n ⟨hn0, hn1⟩ (i + 1) (by omega)
    rw [iotaI_succ] at e
    exact e
  · have : n = (i : Int) := by omega
    subst this; exact rfl
termination_by (n - i).toNat
theorem ok58 : Pure1 Try.prog 58 sp58 := by
  intro xs F w cs R ha h
  obtain ⟨n, rfl, h⟩ := onInt_inv h
  obtain ⟨hn, h⟩ := when_inv h
  refine contract (fn := Try.f58) (walked okAB2 14) (by kernel_rfl) w58C_ok (by rfl) (by rfl) (by rfl) (by rfl) (by rfl) ha (ρ := [.int n]) (Rh.go (w58_9999 n _) ?_) h
  have e := loop58 n hn 0 (by have := hn.1; omega)
  have e0 : iotaI ((0 : Nat) : Int) = [] := rfl
  rw [e0] at e
  have a2 : rAbs 2 = 2 := by decide
  simp only [o_add, o_sub, o_mul, o_neg, o_conv, o_lt, o_le, o_eq, o_not, o_and, o_or, o_sel, o_isel, o_ssel, o_beq, o_seq, o_slt, o_slen, o_sat, o_scut, o_sadd, o_ilen, o_blen, o_vlen, o_rlen, o_iget, o_bget, o_vget, o_rget, o_iset, o_bset, o_vset, o_iapp, o_bapp, o_vapp, o_rapp, o_icut, o_bcut, o_vcut, o_irep, o_vt, o_vn, o_vs, o_vl, o_imax, o_imin, o_inb, o_sfit, o_cutb, o_fit, o_mkfit, RhQ, decT, decF, true_and, and_true, eq_self, implies_true, forall_const, Bool.not_eq_true', Bool.not_eq_false', Bool.not_true, Bool.not_false, Bool.and_eq_true, Bool.or_eq_true, Bool.and_eq_false_iff, Bool.or_eq_false_iff, Bool.true_and, Bool.and_true, Bool.false_and, Bool.and_false, Bool.or_false, Bool.false_or, Bool.true_or, Bool.or_true, Int.toNat_natCast, VT.eta, not_true, not_false_iff, false_implies, if_true, if_false, Int.toNat_zero, Int.toNat_one, ns0, ns4, a2]
  exact ⟨fun h => absurd h (by have := hn.1; omega), fun _ => ⟨fun h => absurd h (by have := hn.2; omega), fun _ => ⟨fun _ => e, fun h => absurd h (by omega)⟩⟩⟩
theorem loop58e (n : Int) (hn : tilOk n) (i : Nat) (h1 : (i : Int) ≤ n) : Rh w58eS (fun E => E = ⟨.tup [.agg [.int .i64 2, .own 64, .nils, .nils], .int .i64 0], [], [], [.arr 2 (.i .i64 (iotaI n))]⟩) (7, [.int n, .int i, .int 2, .is (iotaI i)]) := by
  refine Rh.go (w58e_7 n i 2 (iotaI i) _) ?_
  obtain ⟨hn0, hn1⟩ := hn
  simp only [o_add, o_sub, o_mul, o_neg, o_conv, o_lt, o_le, o_eq, o_not, o_and, o_or, o_sel, o_isel, o_ssel, o_beq, o_seq, o_slt, o_slen, o_sat, o_scut, o_sadd, o_ilen, o_blen, o_vlen, o_rlen, o_iget, o_bget, o_vget, o_rget, o_iset, o_bset, o_vset, o_iapp, o_bapp, o_vapp, o_rapp, o_icut, o_bcut, o_vcut, o_irep, o_vt, o_vn, o_vs, o_vl, o_imax, o_imin, o_inb, o_sfit, o_cutb, o_fit, o_mkfit, RhQ, decT, decF, true_and, and_true, eq_self, implies_true, forall_const, Bool.not_eq_true', Bool.not_eq_false', Bool.not_true, Bool.not_false, Bool.and_eq_true, Bool.or_eq_true, Bool.and_eq_false_iff, Bool.or_eq_false_iff, Bool.true_and, Bool.and_true, Bool.false_and, Bool.and_false, Bool.or_false, Bool.false_or, Bool.true_or, Bool.or_true, Int.toNat_natCast, VT.eta, not_true, not_false_iff, false_implies, if_true, if_false, Int.toNat_zero, Int.toNat_one, ns0, ns4, iotaI_len, List.length_cons, List.length_nil]
  refine ⟨fun h => ⟨by omega, ?_⟩, fun h => ?_⟩
  · rw [w64 (by omega) (by omega)]
    have e := loop58e n ⟨hn0, hn1⟩ (i + 1) (by omega)
    rw [iotaI_succ] at e
    exact e
  · have : n = (i : Int) := by omega
    subst this; exact rfl
termination_by (n - i).toNat
theorem whenE_inv {p : Prop} {t : T Eff} {Q : Eff → Prop} (h : (whenE p t).sat Q) : p ∧ t.sat Q := h
theorem oke58 : Eff1 Try.prog 58 se58 := by
  intro xs hs β F w cs R hp hl hv h
  unfold se58 at h
  split at h
  · rename_i n
    obtain ⟨hn, h⟩ := whenE_inv h
    refine flow_eff (fn := Try.f58) (ρ := [.int n]) mixed tbOk (walked okAB2 14) fnsOk (by kernel_rfl) w58eC_ok (e0 := 9999) (by rfl) (by rfl) (ys := [.int .i64 n]) (hs' := []) (by rfl) (by rfl) (by rfl) (by rfl) hp hl hv (K := fun E => E = ⟨.tup [.agg [.int .i64 2, .own 64, .nils, .nils], .int .i64 0], [], [], [.arr 2 (.i .i64 (iotaI n))]⟩) (Rh.go (w58e_9999 n _) ?_) (fun E hE => by subst hE; exact h)
    have e := loop58e n hn 0 (by have := hn.1; omega)
    have e0 : iotaI ((0 : Nat) : Int) = [] := rfl
    rw [e0] at e
    have a2 : rAbs 2 = 2 := by decide
    simp only [o_add, o_sub, o_mul, o_neg, o_conv, o_lt, o_le, o_eq, o_not, o_and, o_or, o_sel, o_isel, o_ssel, o_beq, o_seq, o_slt, o_slen, o_sat, o_scut, o_sadd, o_ilen, o_blen, o_vlen, o_rlen, o_iget, o_bget, o_vget, o_rget, o_iset, o_bset, o_vset, o_iapp, o_bapp, o_vapp, o_rapp, o_icut, o_bcut, o_vcut, o_irep, o_vt, o_vn, o_vs, o_vl, o_imax, o_imin, o_inb, o_sfit, o_cutb, o_fit, o_mkfit, RhQ, decT, decF, true_and, and_true, eq_self, implies_true, forall_const, Bool.not_eq_true', Bool.not_eq_false', Bool.not_true, Bool.not_false, Bool.and_eq_true, Bool.or_eq_true, Bool.and_eq_false_iff, Bool.or_eq_false_iff, Bool.true_and, Bool.and_true, Bool.false_and, Bool.and_false, Bool.or_false, Bool.false_or, Bool.true_or, Bool.or_true, Int.toNat_natCast, VT.eta, not_true, not_false_iff, false_implies, if_true, if_false, Int.toNat_zero, Int.toNat_one, ns0, ns4, a2]
    exact ⟨fun h => absurd h (by have := hn.1; omega), fun _ => ⟨fun h => absurd h (by have := hn.2; omega), fun _ => ⟨fun _ => e, fun h => absurd h (by omega)⟩⟩⟩
  · exact h.elim
/-! ### slices.Reverse -/
def revAt (l : List Int) (i : Nat) : List Int := (List.range l.length).map fun k => if k < i ∨ l.length ≤ k + i then l.getD (l.length - 1 - k) 0 else l.getD k 0
theorem revAt_len (l : List Int) (i : Nat) : (revAt l i).length = l.length := by simp [revAt]
theorem revAt_get (l : List Int) (i k : Nat) (h : k < l.length) : (revAt l i).getD k 0 = if k < i ∨ l.length ≤ k + i then l.getD (l.length - 1 - k) 0 else l.getD k 0 := by
  rw [List.getD_eq_getElem?_getD, List.getElem?_eq_getElem (by rw [revAt_len]; exact h)]
  simp [revAt, -List.getD_eq_getElem?_getD]
theorem ext_getD {a b : List Int} (h : a.length = b.length) (hh : ∀ k, k < a.length → a.getD k 0 = b.getD k 0) : a = b := by
  apply List.ext_getElem h
  intro k h1 h2
  have := hh k h1
  rwa [List.getD_eq_getElem?_getD, List.getElem?_eq_getElem h1, List.getD_eq_getElem?_getD, List.getElem?_eq_getElem h2] at this
theorem revAt_zero (l : List Int) : revAt l 0 = l := ext_getD (revAt_len l 0) fun k hk => by
  rw [revAt_len] at hk; rw [revAt_get l 0 k hk, if_neg (by omega)]
theorem getD_set {l : List Int} {i k : Nat} {x : Int} (hk : k < l.length) : (l.set i x).getD k 0 = if i = k then x else l.getD k 0 := by
  rw [List.getD_eq_getElem?_getD, List.getElem?_eq_getElem (by simpa using hk), List.getD_eq_getElem?_getD, List.getElem?_eq_getElem hk, Option.getD_some, Option.getD_some, List.getElem_set]
theorem revAt_step (l : List Int) (i : Nat) (h : 2 * i + 1 < l.length) : ((revAt l i).set i ((revAt l i).getD (l.length - 1 - i) 0)).set (l.length - 1 - i) ((revAt l i).getD i 0) = revAt l (i + 1) := by
  refine ext_getD (by simp [revAt_len]) fun k hk => ?_
  have hk : k < l.length := by simpa [revAt_len] using hk
  rw [getD_set (by simpa [revAt_len] using hk), getD_set (by rw [revAt_len]; exact hk), revAt_get l (i + 1) k hk, revAt_get l i k hk, revAt_get l i i (by omega), revAt_get l i _ (by omega)]
  by_cases h1 : l.length - 1 - i = k
  · rw [if_pos h1, if_neg (by omega), if_pos (by omega)]; congr 1; omega
  · rw [if_neg h1]
    by_cases h2 : i = k
    · rw [if_pos h2, if_neg (by omega), if_pos (by omega)]; congr 1; omega
    · rw [if_neg h2]
      by_cases h3 : k < i ∨ l.length ≤ k + i
      · rw [if_pos h3, if_pos (by omega)]
      · rw [if_neg h3, if_neg (by omega)]
theorem revAt_end (l : List Int) (i : Nat) (h : l.length ≤ 2 * i + 1) : revAt l i = l.reverse := by
  refine ext_getD (by simp [revAt_len]) fun k hk => ?_
  rw [revAt_len] at hk
  have e : l.reverse.getD k 0 = l.getD (l.length - 1 - k) 0 := by
    rw [List.getD_eq_getElem?_getD, List.getElem?_reverse hk, ← List.getD_eq_getElem?_getD]
  rw [revAt_get l i k hk, e]
  by_cases h3 : k < i ∨ l.length ≤ k + i
  · rw [if_pos h3]
  · rw [if_neg h3]; congr 1; omega
theorem loop59 (l0 l : List Int) (hl : l.length ≤ 1073741824) (i : Nat) (h1 : i ≤ l.length) : Rh (w59eS l0) (fun E => E = ⟨.tup [], [(0, some (.arr 2 (.i .i64 l.reverse)))], [], []⟩) (1, [.int i, .int ((l.length : Int) - 1 - i), .is (revAt l i)]) := by
  refine Rh.go (w59e_1 l0 i _ (revAt l i) _) ?_
  simp only [o_add, o_sub, o_mul, o_neg, o_conv, o_lt, o_le, o_eq, o_not, o_and, o_or, o_sel, o_isel, o_ssel, o_beq, o_seq, o_slt, o_slen, o_sat, o_scut, o_sadd, o_ilen, o_blen, o_vlen, o_rlen, o_iget, o_bget, o_vget, o_rget, o_iset, o_bset, o_vset, o_iapp, o_bapp, o_vapp, o_rapp, o_icut, o_bcut, o_vcut, o_irep, o_vt, o_vn, o_vs, o_vl, o_imax, o_imin, o_inb, o_sfit, o_cutb, o_fit, o_mkfit, RhQ, decT, decF, true_and, and_true, eq_self, implies_true, forall_const, Bool.not_eq_true', Bool.not_eq_false', Bool.not_true, Bool.not_false, Bool.and_eq_true, Bool.or_eq_true, Bool.and_eq_false_iff, Bool.or_eq_false_iff, Bool.true_and, Bool.and_true, Bool.false_and, Bool.and_false, Bool.or_false, Bool.false_or, Bool.true_or, Bool.or_true, Int.toNat_natCast, VT.eta, not_true, not_false_iff, false_implies, if_true, if_false, Int.toNat_zero, Int.toNat_one, ns0, ns4, revAt_len, List.length_set]
  refine ⟨fun h => ?_, fun h => ?_⟩
  · have e := loop59 l0 l hl (i + 1) (by omega)
    rw [← revAt_step l i (by omega)] at e
    have t1 : ((l.length : Int) - 1 - i).toNat = l.length - 1 - i := by omega
    have t2 : (l.length : Int) - 1 - ((i + 1 : Nat) : Int) = (l.length : Int) - 1 - i - 1 := by omega
    rw [t1, w64 (a := (i : Int) + 1) (by omega) (by omega), w64 (by omega) (by omega)]
    rw [t2] at e
    repeat' apply And.intro
    all_goals first | exact e | omega
  · rw [revAt_end l i (by omega)]
termination_by l.length - i
theorem oke59 : Eff1 Try.prog 59 se59 := by
  intro xs hs β F w cs R hp hlen hv h
  unfold se59 at h
  split at h
  · rename_i e l
    split at h
    · rename_i he
      have he := Nat.eq_of_beq_eq_true he
      subst he
      obtain ⟨hl, h⟩ := whenE_inv h
      refine flow_eff (fn := Try.f59) (ρ := [.is l]) mixed tbOk (walked (PureOk.none _) 14) fnsOk (by kernel_rfl) w59eC_ok (e0 := 9999) (by rfl) (by rfl) (ys := [.own 0]) (hs' := [(0, .arr 2 (.i .i64 l))]) (by rfl) (by rfl) (by rfl) (by rfl) hp hlen hv (K := fun E => E = ⟨.tup [], [(0, some (.arr 2 (.i .i64 l.reverse)))], [], []⟩) (Rh.go (w59e_9999 l l _) ?_) (fun E hE => by subst hE; exact h)
      simp only [o_add, o_sub, o_mul, o_neg, o_conv, o_lt, o_le, o_eq, o_not, o_and, o_or, o_sel, o_isel, o_ssel, o_beq, o_seq, o_slt, o_slen, o_sat, o_scut, o_sadd, o_ilen, o_blen, o_vlen, o_rlen, o_iget, o_bget, o_vget, o_rget, o_iset, o_bset, o_vset, o_iapp, o_bapp, o_vapp, o_rapp, o_icut, o_bcut, o_vcut, o_irep, o_vt, o_vn, o_vs, o_vl, o_imax, o_imin, o_inb, o_sfit, o_cutb, o_fit, o_mkfit, RhQ, decT, decF, true_and, and_true, eq_self, implies_true, forall_const, Bool.not_eq_true', Bool.not_eq_false', Bool.not_true, Bool.not_false, Bool.and_eq_true, Bool.or_eq_true, Bool.and_eq_false_iff, Bool.or_eq_false_iff, Bool.true_and, Bool.and_true, Bool.false_and, Bool.and_false, Bool.or_false, Bool.false_or, Bool.true_or, Bool.or_true, Int.toNat_natCast, VT.eta, not_true, not_false_iff, false_implies, if_true, if_false, Int.toNat_zero, Int.toNat_one, ns0, ns4]
      have e := loop59 l l hl 0 (by omega)
      rw [revAt_zero, show (l.length : Int) - 1 - ((0 : Nat) : Int) = (l.length : Int) - 1 by omega] at e
      rw [w64 (by omega) (by omega)]
      exact e
    · exact h.elim
  · exact h.elim
end Go.Qv
/- Contracts: elements at places; what is turned round, taken, dropped, indexed. No condition. -/
set_option linter.unusedVariables false
set_option linter.unusedSimpArgs false
set_option maxRecDepth 100000
namespace Go.Qv
open Go Go.RowKit Go.Proofs

theorem at1E_ne {v : VT} {x : Int} (h : at1E v x ≠ 0) : (x < 0 ∨ rCount v ≤ x) ∧ at1V v x = .mk 0 [] [] [] := by
  by_cases hh : x < 0 ∨ rCount v ≤ x
  · exact ⟨hh, at1_no hh⟩
  · exact absurd (at1E_yes hh) h
theorem pk_out {v : VT} {x : Int} (h : ¬ (0 ≤ x ∧ x < rCount v)) : at1V v x = .mk 0 [] [] [] ∧ at1E v x = 33 ∧ pkN v x = (nullV v.t).n ∧ pkS v x = (nullV v.t).s := by
  have hh : x < 0 ∨ rCount v ≤ x := by omega
  refine ⟨at1_no hh, at1E_no hh, ?_, ?_⟩
  · unfold pkN; rw [at1E_no hh]; rfl
  · unfold pkS; rw [at1E_no hh]; rfl
theorem pk_in {t n s l} (h1 : 1 ≤ t ∧ t ≤ 5) {x : Int} (hi : 0 ≤ x ∧ x < rCount (.mk t n s l)) : (t = 3 → pkN (.mk t n s l) x = [] ∧ pkS (.mk t n s l) x = [s.getD x.toNat ⟨#[]⟩]) ∧ (t ≠ 3 → pkN (.mk t n s l) x = [n.getD x.toNat 0] ∧ pkS (.mk t n s l) x = []) := by
  obtain ⟨a, b, c⟩ := vec_in (n := n) (s := s) (l := l) h1 hi
  unfold pkN pkS
  rw [a]
  exact ⟨b, c⟩
section
variable {t : Int} {n : List Int} {s : List ByteArray} {l : List VT} {a : List Int}
theorem pick_vec (ht : t ≠ 0) : pickV (.mk t n s l) a = .mk t (a.flatMap (pkN (.mk t n s l))) (a.flatMap (pkS (.mk t n s l))) [] := by
  unfold pickV; rw [if_neg (show ¬ (VT.mk t n s l).t = 0 from ht)]; rfl
theorem pick_list : pickV (.mk 0 n s l) a = ofV (a.map (at1V (.mk 0 n s l))) := rfl
theorem N_len (ht : 1 ≤ t ∧ t ≤ 5) (i : Nat) : ((a.take i).flatMap (pkN (.mk t n s l))).length ≤ a.length := by
  have := flat1 (pkN (.mk t n s l)) (fun x => pkN_len (.mk t n s l) ht x) (a.take i)
  rw [List.length_take] at this; omega
theorem S_len (ht : 1 ≤ t ∧ t ≤ 5) (i : Nat) : ((a.take i).flatMap (pkS (.mk t n s l))).length ≤ a.length := by
  have := flat1 (pkS (.mk t n s l)) (fun x => pkS_len (.mk t n s l) ht x) (a.take i)
  rw [List.length_take] at this; omega
end
attribute [local irreducible] pickOk partP flat9 tilOk cntOk tames tame
/-! ### vec.pick -/
theorem loop43l (n s l) (a : List Int) (hp : pickOk (.mk 0 n s l) a) (hal : a.length ≤ 536870912) (hta : tames (a.map (at1V (.mk 0 n s l)))) (i : Nat) (hi : i ≤ a.length) :
    Rh w43S (Ret (vcl (pickV (.mk 0 n s l) a))) (4, [.is a, .int a.length, .int i, .int 0, .is n, .ss s, .vs l, .int 0, .vs ((a.take i).map (at1V (.mk 0 n s l))), .ss [], .is []]) := by
  refine Rh.go (w43_4 a a.length i 0 n s l 0 _ _ _ _) ?_
  have key : i < a.length → Rh w43S (Ret (vcl (pickV (.mk 0 n s l) a))) (4, [.is a, .int a.length, .int (i + 1 : Nat), .int 0, .is n, .ss s, .vs l, .int 0, .vs ((a.take i).map (at1V (.mk 0 n s l)) ++ [at1V (.mk 0 n s l) (a.getD i 0)]), .ss [], .is []]) := fun h => by
    have e := loop43l n s l a hp hal hta (i + 1) (by omega)
    rw [map_take _ a 0 h] at e
    exact e
  simp only [o_add, o_sub, o_mul, o_neg, o_conv, o_lt, o_le, o_eq, o_not, o_and, o_or, o_sel, o_isel, o_ssel, o_beq, o_seq, o_slt, o_slen, o_sat, o_scut, o_sadd, o_ilen, o_blen, o_vlen, o_rlen, o_iget, o_bget, o_vget, o_rget, o_iset, o_bset, o_vset, o_iapp, o_bapp, o_vapp, o_rapp, o_icut, o_bcut, o_vcut, o_irep, o_vt, o_vn, o_vs, o_vl, o_imax, o_imin, o_inb, o_sfit, o_cutb, o_fit, o_mkfit, RhQ, decT, decF, true_and, and_true, eq_self, implies_true, forall_const, Bool.not_eq_true', Bool.not_eq_false', Bool.not_true, Bool.not_false, Bool.and_eq_true, Bool.or_eq_true, Bool.and_eq_false_iff, Bool.or_eq_false_iff, Bool.true_and, Bool.and_true, Bool.false_and, Bool.and_false, Bool.or_false, Bool.false_or, Bool.true_or, Bool.or_true, Int.toNat_natCast, VT.eta, not_true, not_false_iff, false_implies, if_true, if_false, Int.toNat_zero, Int.toNat_one, ns0, ns4, List.length_map, List.length_take, List.length_cons, List.length_nil]
  have m1 := mlen (show a.length ≤ 1073741824 by omega)
  refine ⟨fun h => ?_, fun h => ?_⟩
  · have hh : i < a.length := by omega
    have e := key hh
    rw [inc m1 hh]
    by_cases hin : 0 ≤ a.getD i 0 ∧ a.getD i 0 < rCount (.mk 0 n s l)
    · have x1 : at1V (.mk 0 n s l) (a.getD i 0) = l.getD (a.getD i 0).toNat default := by rw [at1_yes (by omega), at0_l]
      rw [x1] at e
      rw [cnt_l] at hin ⊢
      exact ⟨⟨by omega, by omega⟩, fun _ => ⟨hin, by omega, e⟩, fun hh => by exfalso; first | omega | exact hh hin | exact absurd (hh hin.1) (by omega) | (rcases hh with hh | hh <;> omega)⟩
    · rw [(pk_out hin).1] at e
      exact ⟨⟨by omega, by omega⟩, fun hh => absurd hh hin, fun hh => ⟨by omega, e⟩⟩
  · rw [List.take_of_length_le (by omega)]
    exact ⟨hta, rfl⟩
termination_by a.length - i
theorem loop43v (t n s l) (ht : 1 ≤ t ∧ t ≤ 5) (a : List Int) (hal : a.length ≤ 536870912) (i : Nat) (hi : i ≤ a.length) :
    Rh w43S (Ret (vcl (pickV (.mk t n s l) a))) (4, [.is a, .int a.length, .int i, .int t, .is n, .ss s, .vs l, .int t, .vs [], .ss ((a.take i).flatMap (pkS (.mk t n s l))), .is ((a.take i).flatMap (pkN (.mk t n s l)))]) := by
  refine Rh.go (w43_4 a a.length i t n s l t _ _ _ _) ?_
  have key : i < a.length → Rh w43S (Ret (vcl (pickV (.mk t n s l) a))) (4, [.is a, .int a.length, .int (i + 1 : Nat), .int t, .is n, .ss s, .vs l, .int t, .vs [], .ss ((a.take i).flatMap (pkS (.mk t n s l)) ++ pkS (.mk t n s l) (a.getD i 0)), .is ((a.take i).flatMap (pkN (.mk t n s l)) ++ pkN (.mk t n s l) (a.getD i 0))]) := fun h => by
    have e := loop43v t n s l ht a hal (i + 1) (by omega)
    rw [flatI_take _ a h, flatI_take _ a h] at e
    exact e
  simp only [o_add, o_sub, o_mul, o_neg, o_conv, o_lt, o_le, o_eq, o_not, o_and, o_or, o_sel, o_isel, o_ssel, o_beq, o_seq, o_slt, o_slen, o_sat, o_scut, o_sadd, o_ilen, o_blen, o_vlen, o_rlen, o_iget, o_bget, o_vget, o_rget, o_iset, o_bset, o_vset, o_iapp, o_bapp, o_vapp, o_rapp, o_icut, o_bcut, o_vcut, o_irep, o_vt, o_vn, o_vs, o_vl, o_imax, o_imin, o_inb, o_sfit, o_cutb, o_fit, o_mkfit, RhQ, decT, decF, true_and, and_true, eq_self, implies_true, forall_const, Bool.not_eq_true', Bool.not_eq_false', Bool.not_true, Bool.not_false, Bool.and_eq_true, Bool.or_eq_true, Bool.and_eq_false_iff, Bool.or_eq_false_iff, Bool.true_and, Bool.and_true, Bool.false_and, Bool.and_false, Bool.or_false, Bool.false_or, Bool.true_or, Bool.or_true, Int.toNat_natCast, VT.eta, not_true, not_false_iff, false_implies, if_true, if_false, Int.toNat_zero, Int.toNat_one, ns0, ns4, List.length_cons, List.length_nil]
  have m1 := mlen (show a.length ≤ 1073741824 by omega)
  have b1 := N_len (a := a) (n := n) (s := s) (l := l) ht i
  have b2 := S_len (a := a) (n := n) (s := s) (l := l) ht i
  have z1 := null_n t
  have z2 := null_s t
  refine ⟨fun h => ?_, fun h => ?_⟩
  · have hh : i < a.length := by omega
    have e := key hh
    rw [inc m1 hh]
    by_cases hin : 0 ≤ a.getD i 0 ∧ a.getD i 0 < rCount (.mk t n s l)
    · obtain ⟨p1, p2⟩ := pk_in (n := n) (s := s) (l := l) ht hin
      by_cases h3 : t = 3
      · obtain ⟨q1, q2⟩ := p1 h3
        rw [q1, q2, List.append_nil] at e
        have hc : rCount (.mk t n s l) = s.length := by subst h3; exact cnt_s
        rw [hc] at hin ⊢
        repeat' (first | apply And.intro | intro _)
        all_goals first | omega | (exfalso; omega) | exact e
      · obtain ⟨q1, q2⟩ := p2 h3
        rw [q1, q2, List.append_nil] at e
        have hc : rCount (.mk t n s l) = n.length := cnt_n h3 ht
        rw [hc] at hin ⊢
        repeat' (first | apply And.intro | intro _)
        all_goals first | omega | (exfalso; omega) | exact e
    · obtain ⟨_, _, q1, q2⟩ := pk_out hin
      rw [q1, q2] at e
      have e : Rh w43S (Ret (vcl (pickV (.mk t n s l) a))) (4, [.is a, .int a.length, .int (i + 1 : Nat), .int t, .is n, .ss s, .vs l, .int t, .vs [], .ss ((a.take i).flatMap (pkS (.mk t n s l)) ++ (nullV t).s), .is ((a.take i).flatMap (pkN (.mk t n s l)) ++ (nullV t).n)]) := e
      repeat' (first | apply And.intro | intro _)
      all_goals first | omega | (exfalso; omega) | exact e
  · rw [List.take_of_length_le (by omega), pick_vec (by omega)]
    exact ⟨fun h0 => by omega, fun _ => rfl⟩
termination_by a.length - i
theorem pickOk_u {v : VT} {a : List Int} (h : pickOk v a) (hh : 0 ≤ v.t ∧ v.t ≤ 5) : a.length ≤ 536870912 ∧ (v.t = 0 → tames (a.map (at1V v))) := by unfold pickOk at h; exact h hh
theorem partP_u {v : VT} (h : partP v) : 0 ≤ v.t ∧ v.t ≤ 5 := by unfold partP at h; exact h
theorem okP43 : PureOk Try.prog (PS.also 69 sp69 (PS.also 29 sp29f (PS.also 35 sp35 PS.none))) :=
  PureOk.also ok69 (PureOk.also ok29 (PureOk.also ok35 (PureOk.none _)))
theorem ok43 : Pure1 Try.prog 43 sp43 := by
  intro xs F w cs R ha h
  obtain ⟨x, y, v, a, rfl, h1, h2, h⟩ := onVI_inv h
  obtain ⟨ht, h⟩ := when_inv h
  obtain ⟨hpa, h⟩ := when_inv h
  obtain ⟨hp, h⟩ := when_inv h
  have ha := ha.conv2 (fun v => as_V h1) (fun v => as_I h2)
  obtain ⟨t, n, s, l⟩ := v
  have hpa := partP_u hpa
  obtain ⟨p1, p2⟩ := pickOk_u hp hpa
  have hpa : 0 ≤ t ∧ t ≤ 5 := hpa
  refine contract (fn := Try.f43) (walked okP43 14) (by kernel_rfl) w43C_ok (by rfl) (by rfl) (by rfl) (by rfl) (by rfl) ha (ρ := [.int t, .is n, .ss s, .vs l, .is a]) (Rh.go (w43_9999 t n s l a _) ?_) h
  simp only [o_add, o_sub, o_mul, o_neg, o_conv, o_lt, o_le, o_eq, o_not, o_and, o_or, o_sel, o_isel, o_ssel, o_beq, o_seq, o_slt, o_slen, o_sat, o_scut, o_sadd, o_ilen, o_blen, o_vlen, o_rlen, o_iget, o_bget, o_vget, o_rget, o_iset, o_bset, o_vset, o_iapp, o_bapp, o_vapp, o_rapp, o_icut, o_bcut, o_vcut, o_irep, o_vt, o_vn, o_vs, o_vl, o_imax, o_imin, o_inb, o_sfit, o_cutb, o_fit, o_mkfit, RhQ, decT, decF, true_and, and_true, eq_self, implies_true, forall_const, Bool.not_eq_true', Bool.not_eq_false', Bool.not_true, Bool.not_false, Bool.and_eq_true, Bool.or_eq_true, Bool.and_eq_false_iff, Bool.or_eq_false_iff, Bool.true_and, Bool.and_true, Bool.false_and, Bool.and_false, Bool.or_false, Bool.false_or, Bool.true_or, Bool.or_true, Int.toNat_natCast, VT.eta, not_true, not_false_iff, false_implies, if_true, if_false, Int.toNat_zero, Int.toNat_one, ns0, ns4]
  by_cases h0 : t = 0
  · subst h0
    exact loop43l n s l a hp p1 (p2 rfl) 0 (by omega)
  · exact loop43v t n s l (by omega) a p1 0 (by omega)
/-! ### R.pick -/
theorem part_flat {v : VT} (h : 0 ≤ v.t ∧ v.t ≤ 5) : flat9 v := by unfold flat9; omega
end Go.Qv
/- Contracts: what is turned round, taken, dropped, indexed. No condition. -/
set_option linter.unusedVariables false
set_option linter.unusedSimpArgs false
set_option maxRecDepth 100000
namespace Go.Qv
open Go Go.RowKit Go.Proofs

section
variable {v : VT} {a : List Int} {n : Int}
theorem op_no (h : ¬ (0 ≤ v.t ∧ v.t ≤ 5)) : opV v a = .mk 0 [] [] [] ∧ opE v = 31 := by unfold opV opE; rw [if_neg (show ¬ partP v from h), if_neg (show ¬ partP v from h)]; exact ⟨rfl, rfl⟩
theorem op_yes (h : 0 ≤ v.t ∧ v.t ≤ 5) : opV v a = pickV v a ∧ opE v = 0 := by unfold opV opE; rw [if_pos (show partP v from h), if_pos (show partP v from h)]; exact ⟨rfl, rfl⟩
theorem take_no (h : ¬ (0 ≤ v.t ∧ v.t ≤ 5)) : takeV n v = .mk 0 [] [] [] ∧ takeE n v = 31 := by unfold takeV takeE; rw [if_neg (show ¬ partP v from h), if_neg (show ¬ partP v from h)]; exact ⟨rfl, rfl⟩
theorem take_many (h : 0 ≤ v.t ∧ v.t ≤ 5) (hn : 65536 < n ∨ n < -65536) : takeV n v = .mk 0 [] [] [] ∧ takeE n v = 6 := by unfold takeV takeE; rw [if_pos (show partP v from h), if_pos (show partP v from h), if_pos hn, if_pos hn]; exact ⟨rfl, rfl⟩
theorem take_yes (h : 0 ≤ v.t ∧ v.t ≤ 5) (hn : ¬ (65536 < n ∨ n < -65536)) : takeV n v = pickV v (takeL n v) ∧ takeE n v = 0 := by unfold takeV takeE; rw [if_pos (show partP v from h), if_pos (show partP v from h), if_neg hn, if_neg hn]; exact ⟨rfl, rfl⟩
end
theorem op_ret {t n s l a} (h : ¬ (0 ≤ t ∧ t ≤ 5)) {E : Eff} (h1 : resE E = some (.tup [vcl (.mk 0 [] [] []), .int .i64 31])) : Ret (.tup [vcl (opV (.mk t n s l) a), .int .i64 (opE (.mk t n s l))]) E :=
  Ret.ve (op_no (v := .mk t n s l) (a := a) h).1 (op_no (v := .mk t n s l) (a := a) h).2 h1
theorem take_ret {t n s l x} (h : ¬ (0 ≤ t ∧ t ≤ 5)) {E : Eff} (h1 : resE E = some (.tup [vcl (.mk 0 [] [] []), .int .i64 31])) : Ret (.tup [vcl (takeV x (.mk t n s l)), .int .i64 (takeE x (.mk t n s l))]) E :=
  Ret.ve (take_no (v := .mk t n s l) (n := x) h).1 (take_no (v := .mk t n s l) (n := x) h).2 h1
theorem cnt_u {v : VT} (h : cntOk v) (hh : 0 ≤ v.t ∧ v.t ≤ 5) : 0 ≤ rCount v ∧ rCount v ≤ 65536 := ⟨rCount_nn v, h hh⟩
theorem tilOk_c {v : VT} (h : cntOk v) (hh : 0 ≤ v.t ∧ v.t ≤ 5) : tilOk (rCount v) := cnt_u h hh
theorem ns65 : Int.negSucc 65535 = -65536 := rfl
/-! ### Index -/
theorem ok24 : Pure1 Try.prog 24 sp24 := by
  intro xs F w cs R ha h
  obtain ⟨x, y, v, a, rfl, h1, h2, h⟩ := onVI_inv h
  obtain ⟨ht, h⟩ := when_inv h
  obtain ⟨hc, h⟩ := when_inv h
  obtain ⟨hp, h⟩ := when_inv h
  have ha := ha.conv2 (fun v => as_V h1) (fun v => as_I h2)
  obtain ⟨t, n, s, l⟩ := v
  refine contract (fn := Try.f24) (walked (PureOk.also ok43 (PureOk.none _)) 14) (by kernel_rfl) w24C_ok (by rfl) (by rfl) (by rfl) (by rfl) (by rfl) ha (ρ := [.int t, .is n, .ss s, .vs l, .is a]) (Rh.go (w24_9999 t n s l a _) ?_) h
  simp only [o_add, o_sub, o_mul, o_neg, o_conv, o_lt, o_le, o_eq, o_not, o_and, o_or, o_sel, o_isel, o_ssel, o_beq, o_seq, o_slt, o_slen, o_sat, o_scut, o_sadd, o_ilen, o_blen, o_vlen, o_rlen, o_iget, o_bget, o_vget, o_rget, o_iset, o_bset, o_vset, o_iapp, o_bapp, o_vapp, o_rapp, o_icut, o_bcut, o_vcut, o_irep, o_vt, o_vn, o_vs, o_vl, o_imax, o_imin, o_inb, o_sfit, o_cutb, o_fit, o_mkfit, RhQ, decT, decF, true_and, and_true, eq_self, implies_true, forall_const, Bool.not_eq_true', Bool.not_eq_false', Bool.not_true, Bool.not_false, Bool.and_eq_true, Bool.or_eq_true, Bool.and_eq_false_iff, Bool.or_eq_false_iff, Bool.true_and, Bool.and_true, Bool.false_and, Bool.and_false, Bool.or_false, Bool.false_or, Bool.true_or, Bool.or_true, Int.toNat_natCast, VT.eta, not_true, not_false_iff, false_implies, if_true, if_false, Int.toNat_zero, Int.toNat_one, ns0, ns4]
  refine ⟨fun h => op_ret (by omega) rfl, fun h => ?_⟩
  have hh : 0 ≤ t ∧ t ≤ 5 := by omega
  rw [(op_yes (v := .mk t n s l) (a := a) hh).1, (op_yes (v := .mk t n s l) (a := a) hh).2]
  exact ⟨ht, hh, hp, rfl⟩
/-! ### Reverse -/
theorem okE23 : EffOk Try.prog (ES.also 58 se58 (ES.also 59 se59 ES.none)) := EffOk.also oke58 (EffOk.also oke59 (EffOk.none _))
theorem ok23 : Pure1 Try.prog 23 sp23 := by
  intro xs F w cs R ha h
  obtain ⟨x, v, rfl, h1, h⟩ := onV_inv h
  obtain ⟨ht, h⟩ := when_inv h
  obtain ⟨hc, h⟩ := when_inv h
  obtain ⟨hp, h⟩ := when_inv h
  have ha := ha.conv1 (fun v => as_V h1)
  obtain ⟨t, n, s, l⟩ := v
  refine contract (fn := Try.f23) (inl_ok mixed tbOk fnsOk (effOrc_ok okE23 (PureOk.also ok29 (PureOk.also ok43 (PureOk.none _)))) 14) (by kernel_rfl) w23C_ok (by rfl) (by rfl) (by rfl) (by rfl) (by rfl) ha (ρ := [.int t, .is n, .ss s, .vs l]) (Rh.go (w23_9999 t n s l _) ?_) h
  simp only [o_add, o_sub, o_mul, o_neg, o_conv, o_lt, o_le, o_eq, o_not, o_and, o_or, o_sel, o_isel, o_ssel, o_beq, o_seq, o_slt, o_slen, o_sat, o_scut, o_sadd, o_ilen, o_blen, o_vlen, o_rlen, o_iget, o_bget, o_vget, o_rget, o_iset, o_bset, o_vset, o_iapp, o_bapp, o_vapp, o_rapp, o_icut, o_bcut, o_vcut, o_irep, o_vt, o_vn, o_vs, o_vl, o_imax, o_imin, o_inb, o_sfit, o_cutb, o_fit, o_mkfit, RhQ, decT, decF, true_and, and_true, eq_self, implies_true, forall_const, Bool.not_eq_true', Bool.not_eq_false', Bool.not_true, Bool.not_false, Bool.and_eq_true, Bool.or_eq_true, Bool.and_eq_false_iff, Bool.or_eq_false_iff, Bool.true_and, Bool.and_true, Bool.false_and, Bool.and_false, Bool.or_false, Bool.false_or, Bool.true_or, Bool.or_true, Int.toNat_natCast, VT.eta, not_true, not_false_iff, false_implies, if_true, if_false, Int.toNat_zero, Int.toNat_one, ns0, ns4]
  refine ⟨fun h => op_ret (by omega) rfl, fun h => ?_⟩
  have hh : 0 ≤ t ∧ t ≤ 5 := by omega
  rw [(op_yes (v := .mk t n s l) hh).1, (op_yes (v := .mk t n s l) (a := []) hh).2]
  have c1 := cnt_u hc hh
  exact ⟨tilOk_c hc hh, Nat.le_trans (Nat.le_of_eq (iotaI_len _)) (by omega), ht, hh, hp, rfl⟩
/-! ### Take -/
theorem lowI_neg {n : Int} (h : ¬ 0 < n) : lowI n = n := by unfold lowI; rw [if_neg h]
theorem lowI_pos {n : Int} (h : 0 < n) : lowI n = 0 := by unfold lowI; rw [if_pos h]
theorem mod_isel {i c : Int} (hc : 0 < c) (hc6 : c ≤ 65536) : (if ¬i.tmod c = 0 ∧ (decide (i.tmod c < 0) == decide (c < 0)) = false then IntKind.i64.wrap (i.tmod c + c) else i.tmod c) = i.fmod c := by
  have h0 : c ≠ 0 := by omega
  rw [Int.tmod_eq_emod, Int.fmod_eq_emod]
  simp only [Int.dvd_iff_emod_eq_zero, beq_eq_false_iff_ne, ne_eq, decide_eq_decide]
  have h1 := Int.emod_nonneg i h0
  have h2 := Int.emod_lt i h0
  generalize i % c = e at *
  by_cases hx : 0 ≤ i ∨ e = 0
  · rw [if_pos hx, if_pos (show 0 ≤ c ∨ e = 0 by omega), if_neg (by omega)]; omega
  · rw [if_neg hx, if_pos (show 0 ≤ c ∨ e = 0 by omega), if_pos (by omega), w64 (by omega) (by omega)]; omega
theorem loop16 (x : Int) (hx : ¬ (65536 < x ∨ x < -65536)) (t n s l) (htm : tame (.mk t n s l)) (hpa : partP (.mk t n s l)) (c : Int) (hc : rCount (.mk t n s l) = c) (hc0 : 0 ≤ c) (hc6 : c ≤ 65536) (hp : pickOk (.mk t n s l) (takeL x (.mk t n s l))) (m : Nat) (hm : m ≤ x.natAbs) :
    Rh w16S (Ret (.tup [vcl (pickV (.mk t n s l) (takeL x (.mk t n s l))), .int .i64 0])) (8, [.int x, .int c, .int (lowI x + m), .int t, .is n, .ss s, .vs l, .is ((takeI x c).take m)]) := by
  refine Rh.go (w16_8 x c _ t n s l _ _) ?_
  have hlow : (0 < x ∧ lowI x = 0) ∨ (¬ 0 < x ∧ lowI x = x) := by
    by_cases h : 0 < x
    · exact .inl ⟨h, lowI_pos h⟩
    · exact .inr ⟨h, lowI_neg h⟩
  have key : m < x.natAbs → Rh w16S (Ret (.tup [vcl (pickV (.mk t n s l) (takeL x (.mk t n s l))), .int .i64 0])) (8, [.int x, .int c, .int (IntKind.i64.wrap (lowI x + m + 1)), .int t, .is n, .ss s, .vs l, .is ((takeI x c).take m ++ [modI (lowI x + m) c])]) := fun h => by
    have e := loop16 x hx t n s l htm hpa c hc hc0 hc6 hp (m + 1) (by omega)
    rw [takeI_take _ _ _ h] at e
    rw [w64 (by omega) (by omega)]
    have : lowI x + (m : Int) + 1 = lowI x + ((m + 1 : Nat) : Int) := by omega
    rw [this]
    exact e
  have hlen := takeI_len x c
  have hmax : (if 0 > x then 0 else x) = max x 0 := by split <;> omega
  simp only [o_add, o_sub, o_mul, o_neg, o_conv, o_lt, o_le, o_eq, o_not, o_and, o_or, o_sel, o_isel, o_ssel, o_beq, o_seq, o_slt, o_slen, o_sat, o_scut, o_sadd, o_ilen, o_blen, o_vlen, o_rlen, o_iget, o_bget, o_vget, o_rget, o_iset, o_bset, o_vset, o_iapp, o_bapp, o_vapp, o_rapp, o_icut, o_bcut, o_vcut, o_irep, o_vt, o_vn, o_vs, o_vl, o_imax, o_imin, o_inb, o_sfit, o_cutb, o_fit, o_mkfit, RhQ, decT, decF, true_and, and_true, eq_self, implies_true, forall_const, Bool.not_eq_true', Bool.not_eq_false', Bool.not_true, Bool.not_false, Bool.and_eq_true, Bool.or_eq_true, Bool.and_eq_false_iff, Bool.or_eq_false_iff, Bool.true_and, Bool.and_true, Bool.false_and, Bool.and_false, Bool.or_false, Bool.false_or, Bool.true_or, Bool.or_true, Int.toNat_natCast, VT.eta, not_true, not_false_iff, false_implies, if_true, if_false, Int.toNat_zero, Int.toNat_one, ns0, ns4, o_rem, o_nz, List.length_take, List.length_cons, List.length_nil, hmax]
  refine ⟨fun h => ?_, fun h => ?_⟩
  · have hh : m < x.natAbs := by omega
    have e := key hh
    unfold modI at e
    by_cases h0 : c = 0
    · rw [if_pos h0] at e
      exact ⟨fun _ => ⟨by omega, e⟩, fun hh => absurd h0 hh⟩
    · rw [if_neg h0] at e
      refine ⟨fun hh => absurd hh h0, fun _ => ?_⟩
      rw [mod_isel (by omega) hc6]
      exact ⟨h0, by omega, e⟩
  · rw [List.take_of_length_le (by omega)]
    have e : takeL x (.mk t n s l) = takeI x c := by unfold takeL; rw [hc]
    rw [← e]
    exact ⟨htm, hpa, hp, rfl⟩
termination_by x.natAbs - m
theorem ok16 : Pure1 Try.prog 16 sp16 := by
  intro xs F w cs R ha h
  obtain ⟨n0, x, v, rfl, h1, h⟩ := onnV_inv h
  obtain ⟨ht, h⟩ := when_inv h
  obtain ⟨hc, h⟩ := when_inv h
  obtain ⟨hp, h⟩ := when_inv h
  have ha := ha.conv2 (fun v h => h) (fun v => as_V h1)
  obtain ⟨t, n, s, l⟩ := v
  refine contract (fn := Try.f16) (walked (PureOk.also ok29 (PureOk.also ok43 (PureOk.none _))) 14) (by kernel_rfl) w16C_ok (by rfl) (by rfl) (by rfl) (by rfl) (by rfl) ha (ρ := [.int n0, .int t, .is n, .ss s, .vs l]) (Rh.go (w16_9999 n0 t n s l _) ?_) h
  simp only [o_add, o_sub, o_mul, o_neg, o_conv, o_lt, o_le, o_eq, o_not, o_and, o_or, o_sel, o_isel, o_ssel, o_beq, o_seq, o_slt, o_slen, o_sat, o_scut, o_sadd, o_ilen, o_blen, o_vlen, o_rlen, o_iget, o_bget, o_vget, o_rget, o_iset, o_bset, o_vset, o_iapp, o_bapp, o_vapp, o_rapp, o_icut, o_bcut, o_vcut, o_irep, o_vt, o_vn, o_vs, o_vl, o_imax, o_imin, o_inb, o_sfit, o_cutb, o_fit, o_mkfit, RhQ, decT, decF, true_and, and_true, eq_self, implies_true, forall_const, Bool.not_eq_true', Bool.not_eq_false', Bool.not_true, Bool.not_false, Bool.and_eq_true, Bool.or_eq_true, Bool.and_eq_false_iff, Bool.or_eq_false_iff, Bool.true_and, Bool.and_true, Bool.false_and, Bool.and_false, Bool.or_false, Bool.false_or, Bool.true_or, Bool.or_true, Int.toNat_natCast, VT.eta, not_true, not_false_iff, false_implies, if_true, if_false, Int.toNat_zero, Int.toNat_one, ns0, ns4, ns65]
  refine ⟨fun h => take_ret (by omega) rfl, fun h => ?_⟩
  have hh : 0 ≤ t ∧ t ≤ 5 := by omega
  refine ⟨fun h2 => Ret.ve (take_many (v := .mk t n s l) hh h2).1 (take_many (v := .mk t n s l) hh h2).2 rfl, fun h2 => ?_⟩
  have h2 : ¬ (65536 < n0 ∨ n0 < -65536) := by omega
  rw [(take_yes (v := .mk t n s l) hh h2).1, (take_yes (v := .mk t n s l) hh h2).2]
  have c1 := cnt_u hc hh
  have e := loop16 n0 h2 t n s l ht hh _ rfl c1.1 c1.2 (hp h2) 0 (by omega)
  have el : (if 0 < n0 then 0 else n0) = lowI n0 + ((0 : Nat) : Int) := by unfold lowI; omega
  rw [← el] at e
  exact e
/-! ### Drop -/
theorem dropL_c {v : VT} {n : Int} (c : Nat) (hc : rCount v = c) : dropL n v = dropI n c c := by unfold dropL; rw [hc]
end Go.Qv
/- Contracts: what is dropped; sizes. No condition. -/
set_option linter.unusedVariables false
set_option linter.unusedSimpArgs false
set_option maxRecDepth 100000
namespace Go.Qv
open Go Go.RowKit Go.Proofs

theorem til_n (c : Int) : VT.n (tilV c) = iotaI c := rfl
theorem drop_pos {x c : Int} (hx : 0 ≤ x) (hc : 0 ≤ c) : ((iotaI c).drop (if c < x then c else x).toNat).take (c - (if c < x then c else x)).toNat = dropI x c c := by
  unfold dropI
  rw [if_pos hx, List.take_of_length_le (by rw [List.length_drop, iotaI_len]; split <;> omega)]
  split
  · rw [List.drop_of_length_le (by rw [iotaI_len]; omega), List.drop_of_length_le (by rw [iotaI_len]; omega)]
  · rfl
theorem drop_neg {x c : Int} (hx : x < 0) (hc : 0 ≤ c) (m : Int) (hm : m = if 0 > c + (if -c > x then -c else x) then 0 else c + (if -c > x then -c else x)) : ((iotaI c).drop 0).take (m - 0).toNat = dropI x c c := by
  unfold dropI
  rw [if_neg (by omega), List.drop_zero]
  congr 1
  subst hm
  split <;> split <;> omega
theorem dropL_eq (x : Int) (v : VT) : dropL x v = dropI x (rCount v) (rCount v) := rfl
theorem ok22 : Pure1 Try.prog 22 sp22 := by
  intro xs F w cs R ha h
  obtain ⟨x, y, v, rfl, h1, h⟩ := onnV_inv h
  obtain ⟨hx, h⟩ := when_inv h
  obtain ⟨ht, h⟩ := when_inv h
  obtain ⟨hc, h⟩ := when_inv h
  obtain ⟨hp, h⟩ := when_inv h
  have ha := ha.conv2 (fun v h => h) (fun v => as_V h1)
  obtain ⟨t, n, s, l⟩ := v
  refine contract (fn := Try.f22) (walked (PureOk.also ok29 (PureOk.also ok43 (PureOk.also ok58 (PureOk.none _)))) 14) (by kernel_rfl) w22C_ok (by rfl) (by rfl) (by rfl) (by rfl) (by rfl) ha (ρ := [.int x, .int t, .is n, .ss s, .vs l]) (Rh.go (w22_9999 x t n s l _) ?_) h
  by_cases hh : 0 ≤ t ∧ t ≤ 5
  case neg =>
    simp only [o_add, o_sub, o_mul, o_neg, o_conv, o_lt, o_le, o_eq, o_not, o_and, o_or, o_sel, o_isel, o_ssel, o_beq, o_seq, o_slt, o_slen, o_sat, o_scut, o_sadd, o_ilen, o_blen, o_vlen, o_rlen, o_iget, o_bget, o_vget, o_rget, o_iset, o_bset, o_vset, o_iapp, o_bapp, o_vapp, o_rapp, o_icut, o_bcut, o_vcut, o_irep, o_vt, o_vn, o_vs, o_vl, o_imax, o_imin, o_inb, o_sfit, o_cutb, o_fit, o_mkfit, RhQ, decT, decF, true_and, and_true, eq_self, implies_true, forall_const, Bool.not_eq_true', Bool.not_eq_false', Bool.not_true, Bool.not_false, Bool.and_eq_true, Bool.or_eq_true, Bool.and_eq_false_iff, Bool.or_eq_false_iff, Bool.true_and, Bool.and_true, Bool.false_and, Bool.and_false, Bool.or_false, Bool.false_or, Bool.true_or, Bool.or_true, Int.toNat_natCast, VT.eta, not_true, not_false_iff, false_implies, if_true, if_false, Int.toNat_zero, Int.toNat_one, ns0, ns4]
    exact ⟨fun h => op_ret (by omega) rfl, fun h => absurd (show 0 ≤ t ∧ t ≤ 5 by omega) hh⟩
  have c1 := cnt_u hc hh
  have hlen : ((iotaI (rCount (.mk t n s l))).length : Int) = rCount (.mk t n s l) := by rw [iotaI_len]; omega
  have tk := tilOk_c hc hh
  rw [dropL_eq] at hp ⊢
  generalize hcc : rCount (.mk t n s l) = c at *
  have wc : IntKind.i64.wrap (0 - c) = -c := by rw [w64 (by omega) (by omega), Int.zero_sub]
  obtain ⟨hx0, hx1⟩ := hx
  have wc2 : x < 0 → IntKind.i64.wrap (c + (if -c > x then -c else x)) = c + (if -c > x then -c else x) := fun hneg => by split <;> (rw [w64] <;> omega)
  simp only [o_add, o_sub, o_mul, o_neg, o_conv, o_lt, o_le, o_eq, o_not, o_and, o_or, o_sel, o_isel, o_ssel, o_beq, o_seq, o_slt, o_slen, o_sat, o_scut, o_sadd, o_ilen, o_blen, o_vlen, o_rlen, o_iget, o_bget, o_vget, o_rget, o_iset, o_bset, o_vset, o_iapp, o_bapp, o_vapp, o_rapp, o_icut, o_bcut, o_vcut, o_irep, o_vt, o_vn, o_vs, o_vl, o_imax, o_imin, o_inb, o_sfit, o_cutb, o_fit, o_mkfit, RhQ, decT, decF, true_and, and_true, eq_self, implies_true, forall_const, Bool.not_eq_true', Bool.not_eq_false', Bool.not_true, Bool.not_false, Bool.and_eq_true, Bool.or_eq_true, Bool.and_eq_false_iff, Bool.or_eq_false_iff, Bool.true_and, Bool.and_true, Bool.false_and, Bool.and_false, Bool.or_false, Bool.false_or, Bool.true_or, Bool.or_true, Int.toNat_natCast, VT.eta, not_true, not_false_iff, false_implies, if_true, if_false, Int.toNat_zero, Int.toNat_one, ns0, ns4, til_n, hlen, wc]
  refine ⟨fun h => absurd hh (by omega), fun h => ?_⟩
  rw [(op_yes (v := .mk t n s l) hh).1, (op_yes (v := .mk t n s l) (a := []) hh).2]
  refine ⟨tk, fun h0 => ?_, fun h0 => ?_⟩
  · have e := drop_pos (x := x) (c := c) h0 c1.1
    rw [e]
    have b : 0 ≤ (if c < x then c else x) ∧ (if c < x then c else x) ≤ c := by split <;> omega
    exact ⟨⟨⟨b.1, b.2, Int.le_refl _⟩, ht, hh, hp⟩, rfl⟩
  · rw [wc2 (by omega)]
    have e := drop_neg (x := x) (c := c) (by omega) c1.1 _ rfl
    rw [e]
    have b : 0 ≤ (if 0 > c + (if -c > x then -c else x) then 0 else c + (if -c > x then -c else x)) ∧ (if 0 > c + (if -c > x then -c else x) then 0 else c + (if -c > x then -c else x)) ≤ c := by split <;> split <;> omega
    exact ⟨⟨⟨by omega, b.1, b.2⟩, ht, hh, hp⟩, rfl⟩
/-! ### R.Size -/
end Go.Qv
