/- Dictionaries: Find, Keys, Values, Make. No condition. -/
import Derived.Test.YtmeagbopnliddaaGreatQDb
set_option linter.unusedVariables false
set_option linter.unusedSimpArgs false
set_option maxRecDepth 100000
namespace Go.Qv
open Go Go.RowKit Go.Proofs
theorem isD_yes {t n s l} (h : isD (.mk t n s l) = true) : t = 99 ∧ partB (l.getD 0 default) = true := by
  rw [isD_mk, Bool.and_eq_true, decide_eq_true_eq] at h; exact h
theorem side_yes {d : VT} (i : Nat) (h : isD d = true) : sideV d i = d.l.getD i default ∧ findDE d = 0 := by unfold sideV findDE; rw [h]; exact ⟨rfl, rfl⟩
theorem side_no {d : VT} (i : Nat) (h : isD d = false) : sideV d i = .mk 0 [] [] [] ∧ findDE d = 31 := by unfold sideV findDE; rw [h]; exact ⟨rfl, rfl⟩
theorem fd_yes {d x : VT} (h : isD d = true) : findDI d x = findI (d.l.getD 0 default) x := by unfold findDI; rw [h]; rfl
theorem fd_no {d x : VT} (h : isD d = false) : findDI d x = 0 := by unfold findDI; rw [h]; rfl
theorem ok16 : Pure1 Tryz.prog 16 spFindD := by
  intro xs F w cs R ha h
  obtain ⟨x, y, a, b, rfl, h1, h2, h⟩ := onVV_inv h
  obtain ⟨ho, h⟩ := when_inv h
  obtain ⟨ht, h⟩ := when_inv h
  have ha := ha.conv2 (fun v => as_V h1) (fun v => as_V h2)
  obtain ⟨t, n, s, l⟩ := a
  obtain ⟨zt, zn, zs, zl⟩ := b
  refine contract (fn := Tryz.f16) (walked (PureOk.also ok46 (PureOk.also ok57 (PureOk.none _))) 14) (by kernel_rfl) w16C_ok (by rfl) (by rfl) (by rfl) (by rfl) (by rfl) ha (ρ := [.int t, .is n, .ss s, .vs l, .int zt, .is zn, .ss zs, .vs zl]) (Rh.go (w16_9999 t n s l zt zn zs zl _) ?_) h
  simp only [o_add, o_sub, o_mul, o_neg, o_conv, o_lt, o_le, o_eq, o_not, o_and, o_or, o_sel, o_isel, o_ssel, o_beq, o_seq, o_slt, o_slen, o_sat, o_scut, o_sadd, o_ilen, o_blen, o_vlen, o_rlen, o_iget, o_bget, o_vget, o_rget, o_iset, o_bset, o_vset, o_iapp, o_bapp, o_vapp, o_rapp, o_icut, o_bcut, o_vcut, o_irep, o_vt, o_vn, o_vs, o_vl, o_imax, o_imin, o_inb, o_sfit, o_cutb, o_fit, o_mkfit, RhQ, decT, decF, true_and, and_true, eq_self, implies_true, forall_const, Bool.not_eq_true', Bool.not_eq_false', Bool.not_true, Bool.not_false, Bool.and_eq_true, Bool.or_eq_true, Bool.and_eq_false_iff, Bool.or_eq_false_iff, Bool.true_and, Bool.and_true, Bool.false_and, Bool.and_false, Bool.or_false, Bool.false_or, Bool.true_or, Bool.or_true, Int.toNat_natCast, VT.eta, not_true, not_false_iff, false_implies, if_true, if_false, Int.toNat_zero, Int.toNat_one, ns0, ns4]
  refine ⟨ho, fun hp => ?_, fun hp => ?_⟩
  · rw [fd_no hp, (side_no 0 hp).2]; rfl
  · obtain ⟨e1, e2⟩ := isD_yes hp
    have hl : l.length = 2 := ho e1
    rw [fd_yes hp, (side_yes 0 hp).2]
    refine ⟨⟨⟨by omega, by omega⟩, ht.mem (getD_mem l default (by omega))⟩, ?_⟩
    rw [(find_yes (x := .mk zt zn zs zl) e2).2]; rfl
theorem ok26 : Pure1 Tryz.prog 26 spFindD := by
  intro xs F w cs R ha h
  obtain ⟨x, y, a, b, rfl, h1, h2, h⟩ := onVV_inv h
  obtain ⟨ho, h⟩ := when_inv h
  obtain ⟨ht, h⟩ := when_inv h
  have ha := ha.conv2 (fun v => as_V h1) (fun v => as_V h2)
  obtain ⟨t, n, s, l⟩ := a
  obtain ⟨zt, zn, zs, zl⟩ := b
  refine contract (fn := Tryz.f26) (walked (PureOk.also ok29 (PureOk.also ok65 (PureOk.none _))) 14) (by kernel_rfl) w26C_ok (by rfl) (by rfl) (by rfl) (by rfl) (by rfl) ha (ρ := [.int t, .is n, .ss s, .vs l, .int zt, .is zn, .ss zs, .vs zl]) (Rh.go (w26_9999 t n s l zt zn zs zl _) ?_) h
  simp only [o_add, o_sub, o_mul, o_neg, o_conv, o_lt, o_le, o_eq, o_not, o_and, o_or, o_sel, o_isel, o_ssel, o_beq, o_seq, o_slt, o_slen, o_sat, o_scut, o_sadd, o_ilen, o_blen, o_vlen, o_rlen, o_iget, o_bget, o_vget, o_rget, o_iset, o_bset, o_vset, o_iapp, o_bapp, o_vapp, o_rapp, o_icut, o_bcut, o_vcut, o_irep, o_vt, o_vn, o_vs, o_vl, o_imax, o_imin, o_inb, o_sfit, o_cutb, o_fit, o_mkfit, RhQ, decT, decF, true_and, and_true, eq_self, implies_true, forall_const, Bool.not_eq_true', Bool.not_eq_false', Bool.not_true, Bool.not_false, Bool.and_eq_true, Bool.or_eq_true, Bool.and_eq_false_iff, Bool.or_eq_false_iff, Bool.true_and, Bool.and_true, Bool.false_and, Bool.and_false, Bool.or_false, Bool.false_or, Bool.true_or, Bool.or_true, Int.toNat_natCast, VT.eta, not_true, not_false_iff, false_implies, if_true, if_false, Int.toNat_zero, Int.toNat_one, ns0, ns4]
  refine ⟨ho, fun hp => ?_, fun hp => ?_⟩
  · rw [fd_no hp, (side_no 0 hp).2]; rfl
  · obtain ⟨e1, e2⟩ := isD_yes hp
    have hl : l.length = 2 := ho e1
    rw [fd_yes hp, (side_yes 0 hp).2]
    refine ⟨⟨⟨by omega, by omega⟩, ht.mem (getD_mem l default (by omega))⟩, ?_⟩
    rw [(find_yes (x := .mk zt zn zs zl) e2).2]; rfl
theorem ok17 : Pure1 Tryz.prog 17 spKeysD := by
  intro xs F w cs R ha h
  obtain ⟨x, a, rfl, h1, h⟩ := onV_inv h
  obtain ⟨ho, h⟩ := when_inv h
  obtain ⟨ht, h⟩ := when_inv h
  have ha := ha.conv1 (fun v => as_V h1)
  obtain ⟨t, n, s, l⟩ := a
  refine contract (fn := Tryz.f17) (walked (PureOk.also ok46 (PureOk.also ok50 (PureOk.none _))) 14) (by kernel_rfl) w17C_ok (by rfl) (by rfl) (by rfl) (by rfl) (by rfl) ha (ρ := [.int t, .is n, .ss s, .vs l]) (Rh.go (w17_9999 t n s l _) ?_) h
  simp only [o_add, o_sub, o_mul, o_neg, o_conv, o_lt, o_le, o_eq, o_not, o_and, o_or, o_sel, o_isel, o_ssel, o_beq, o_seq, o_slt, o_slen, o_sat, o_scut, o_sadd, o_ilen, o_blen, o_vlen, o_rlen, o_iget, o_bget, o_vget, o_rget, o_iset, o_bset, o_vset, o_iapp, o_bapp, o_vapp, o_rapp, o_icut, o_bcut, o_vcut, o_irep, o_vt, o_vn, o_vs, o_vl, o_imax, o_imin, o_inb, o_sfit, o_cutb, o_fit, o_mkfit, RhQ, decT, decF, true_and, and_true, eq_self, implies_true, forall_const, Bool.not_eq_true', Bool.not_eq_false', Bool.not_true, Bool.not_false, Bool.and_eq_true, Bool.or_eq_true, Bool.and_eq_false_iff, Bool.or_eq_false_iff, Bool.true_and, Bool.and_true, Bool.false_and, Bool.and_false, Bool.or_false, Bool.false_or, Bool.true_or, Bool.or_true, Int.toNat_natCast, VT.eta, not_true, not_false_iff, false_implies, if_true, if_false, Int.toNat_zero, Int.toNat_one, ns0, ns4]
  refine ⟨ho, fun hp => ?_, fun hp => ?_⟩
  · obtain ⟨e1, e2⟩ := side_no 0 hp; exact Ret.ve e1 e2 rfl
  · obtain ⟨q1, q2⟩ := isD_yes hp
    have hl : l.length = 2 := ho q1
    obtain ⟨e1, e2⟩ := side_yes 0 hp
    exact ⟨⟨by omega, by omega⟩, ht.mem (getD_mem l default (by omega)), Ret.ve e1 e2 rfl⟩
theorem ok21 : Pure1 Tryz.prog 21 spKeysD := by
  intro xs F w cs R ha h
  obtain ⟨x, a, rfl, h1, h⟩ := onV_inv h
  obtain ⟨ho, h⟩ := when_inv h
  obtain ⟨ht, h⟩ := when_inv h
  have ha := ha.conv1 (fun v => as_V h1)
  obtain ⟨t, n, s, l⟩ := a
  refine contract (fn := Tryz.f21) (walked (PureOk.also ok29 (PureOk.also ok12 (PureOk.none _))) 14) (by kernel_rfl) w21C_ok (by rfl) (by rfl) (by rfl) (by rfl) (by rfl) ha (ρ := [.int t, .is n, .ss s, .vs l]) (Rh.go (w21_9999 t n s l _) ?_) h
  simp only [o_add, o_sub, o_mul, o_neg, o_conv, o_lt, o_le, o_eq, o_not, o_and, o_or, o_sel, o_isel, o_ssel, o_beq, o_seq, o_slt, o_slen, o_sat, o_scut, o_sadd, o_ilen, o_blen, o_vlen, o_rlen, o_iget, o_bget, o_vget, o_rget, o_iset, o_bset, o_vset, o_iapp, o_bapp, o_vapp, o_rapp, o_icut, o_bcut, o_vcut, o_irep, o_vt, o_vn, o_vs, o_vl, o_imax, o_imin, o_inb, o_sfit, o_cutb, o_fit, o_mkfit, RhQ, decT, decF, true_and, and_true, eq_self, implies_true, forall_const, Bool.not_eq_true', Bool.not_eq_false', Bool.not_true, Bool.not_false, Bool.and_eq_true, Bool.or_eq_true, Bool.and_eq_false_iff, Bool.or_eq_false_iff, Bool.true_and, Bool.and_true, Bool.false_and, Bool.and_false, Bool.or_false, Bool.false_or, Bool.true_or, Bool.or_true, Int.toNat_natCast, VT.eta, not_true, not_false_iff, false_implies, if_true, if_false, Int.toNat_zero, Int.toNat_one, ns0, ns4]
  refine ⟨ho, fun hp => ?_, fun hp => ?_⟩
  · obtain ⟨e1, e2⟩ := side_no 0 hp; exact Ret.ve e1 e2 rfl
  · obtain ⟨q1, q2⟩ := isD_yes hp
    have hl : l.length = 2 := ho q1
    obtain ⟨e1, e2⟩ := side_yes 0 hp
    exact ⟨⟨by omega, by omega⟩, ht.mem (getD_mem l default (by omega)), Ret.ve e1 e2 rfl⟩
theorem ok22 : Pure1 Tryz.prog 22 spValuesD := by
  intro xs F w cs R ha h
  obtain ⟨x, a, rfl, h1, h⟩ := onV_inv h
  obtain ⟨ho, h⟩ := when_inv h
  obtain ⟨ht, h⟩ := when_inv h
  have ha := ha.conv1 (fun v => as_V h1)
  obtain ⟨t, n, s, l⟩ := a
  refine contract (fn := Tryz.f22) (walked (PureOk.also ok46 (PureOk.also ok50 (PureOk.none _))) 14) (by kernel_rfl) w22C_ok (by rfl) (by rfl) (by rfl) (by rfl) (by rfl) ha (ρ := [.int t, .is n, .ss s, .vs l]) (Rh.go (w22_9999 t n s l _) ?_) h
  simp only [o_add, o_sub, o_mul, o_neg, o_conv, o_lt, o_le, o_eq, o_not, o_and, o_or, o_sel, o_isel, o_ssel, o_beq, o_seq, o_slt, o_slen, o_sat, o_scut, o_sadd, o_ilen, o_blen, o_vlen, o_rlen, o_iget, o_bget, o_vget, o_rget, o_iset, o_bset, o_vset, o_iapp, o_bapp, o_vapp, o_rapp, o_icut, o_bcut, o_vcut, o_irep, o_vt, o_vn, o_vs, o_vl, o_imax, o_imin, o_inb, o_sfit, o_cutb, o_fit, o_mkfit, RhQ, decT, decF, true_and, and_true, eq_self, implies_true, forall_const, Bool.not_eq_true', Bool.not_eq_false', Bool.not_true, Bool.not_false, Bool.and_eq_true, Bool.or_eq_true, Bool.and_eq_false_iff, Bool.or_eq_false_iff, Bool.true_and, Bool.and_true, Bool.false_and, Bool.and_false, Bool.or_false, Bool.false_or, Bool.true_or, Bool.or_true, Int.toNat_natCast, VT.eta, not_true, not_false_iff, false_implies, if_true, if_false, Int.toNat_zero, Int.toNat_one, ns0, ns4]
  refine ⟨ho, fun hp => ?_, fun hp => ?_⟩
  · obtain ⟨e1, e2⟩ := side_no 1 hp; exact Ret.ve e1 e2 rfl
  · obtain ⟨q1, q2⟩ := isD_yes hp
    have hl : l.length = 2 := ho q1
    obtain ⟨e1, e2⟩ := side_yes 1 hp
    exact ⟨⟨by omega, by omega⟩, ht.mem (getD_mem l default (by omega)), Ret.ve e1 e2 rfl⟩
theorem ok23 : Pure1 Tryz.prog 23 spValuesD := by
  intro xs F w cs R ha h
  obtain ⟨x, a, rfl, h1, h⟩ := onV_inv h
  obtain ⟨ho, h⟩ := when_inv h
  obtain ⟨ht, h⟩ := when_inv h
  have ha := ha.conv1 (fun v => as_V h1)
  obtain ⟨t, n, s, l⟩ := a
  refine contract (fn := Tryz.f23) (walked (PureOk.also ok29 (PureOk.also ok12 (PureOk.none _))) 14) (by kernel_rfl) w23C_ok (by rfl) (by rfl) (by rfl) (by rfl) (by rfl) ha (ρ := [.int t, .is n, .ss s, .vs l]) (Rh.go (w23_9999 t n s l _) ?_) h
  simp only [o_add, o_sub, o_mul, o_neg, o_conv, o_lt, o_le, o_eq, o_not, o_and, o_or, o_sel, o_isel, o_ssel, o_beq, o_seq, o_slt, o_slen, o_sat, o_scut, o_sadd, o_ilen, o_blen, o_vlen, o_rlen, o_iget, o_bget, o_vget, o_rget, o_iset, o_bset, o_vset, o_iapp, o_bapp, o_vapp, o_rapp, o_icut, o_bcut, o_vcut, o_irep, o_vt, o_vn, o_vs, o_vl, o_imax, o_imin, o_inb, o_sfit, o_cutb, o_fit, o_mkfit, RhQ, decT, decF, true_and, and_true, eq_self, implies_true, forall_const, Bool.not_eq_true', Bool.not_eq_false', Bool.not_true, Bool.not_false, Bool.and_eq_true, Bool.or_eq_true, Bool.and_eq_false_iff, Bool.or_eq_false_iff, Bool.true_and, Bool.and_true, Bool.false_and, Bool.and_false, Bool.or_false, Bool.false_or, Bool.true_or, Bool.or_true, Int.toNat_natCast, VT.eta, not_true, not_false_iff, false_implies, if_true, if_false, Int.toNat_zero, Int.toNat_one, ns0, ns4]
  refine ⟨ho, fun hp => ?_, fun hp => ?_⟩
  · obtain ⟨e1, e2⟩ := side_no 1 hp; exact Ret.ve e1 e2 rfl
  · obtain ⟨q1, q2⟩ := isD_yes hp
    have hl : l.length = 2 := ho q1
    obtain ⟨e1, e2⟩ := side_yes 1 hp
    exact ⟨⟨by omega, by omega⟩, ht.mem (getD_mem l default (by omega)), Ret.ve e1 e2 rfl⟩
theorem make_bad {k v : VT} (h : partB k = false ∨ partB v = false) : makeV k v = .mk 0 [] [] [] ∧ makeE k v = 31 := by
  unfold makeV makeE
  have e : (!partB k || !partB v) = true := by rcases h with h | h <;> rw [h] <;> simp
  rw [if_pos e, if_pos e]; exact ⟨rfl, rfl⟩
theorem make_len {k v : VT} (h : ¬ (partB k = false ∨ partB v = false)) (h2 : rCount k ≠ rCount v) : makeV k v = .mk 0 [] [] [] ∧ makeE k v = 32 := by
  unfold makeV makeE
  have e : ¬ (!partB k || !partB v) = true := by simpa using h
  rw [if_neg e, if_neg e, if_pos h2, if_pos h2]; exact ⟨rfl, rfl⟩
theorem make_deep {k v : VT} (h : ¬ (partB k = false ∨ partB v = false)) (h2 : ¬ rCount k ≠ rCount v) (h3 : 32 < rDepth (pairV k v)) : makeV k v = .mk 0 [] [] [] ∧ makeE k v = 6 := by
  unfold makeV makeE
  have e : ¬ (!partB k || !partB v) = true := by simpa using h
  rw [if_neg e, if_neg e, if_neg h2, if_neg h2, if_pos h3, if_pos h3]; exact ⟨rfl, rfl⟩
theorem make_yes {k v : VT} (h : ¬ (partB k = false ∨ partB v = false)) (h2 : ¬ rCount k ≠ rCount v) (h3 : ¬ 32 < rDepth (pairV k v)) : makeV k v = pairV k v ∧ makeE k v = 0 := by
  unfold makeV makeE
  have e : ¬ (!partB k || !partB v) = true := by simpa using h
  rw [if_neg e, if_neg e, if_neg h2, if_neg h2, if_neg h3, if_neg h3]; exact ⟨rfl, rfl⟩
theorem ok19 : Pure1 Tryz.prog 19 spMakeD := by
  intro xs F w cs R ha h
  obtain ⟨x, y, a, b, rfl, h1, h2, h⟩ := onVV_inv h
  obtain ⟨ho, h⟩ := when_inv h
  obtain ⟨ht, h⟩ := when_inv h
  have ha := ha.conv2 (fun v => as_V h1) (fun v => as_V h2)
  obtain ⟨t, n, s, l⟩ := a
  obtain ⟨zt, zn, zs, zl⟩ := b
  refine contract (fn := Tryz.f19) (walked (PureOk.also ok59 (PureOk.also ok47 (PureOk.also ok50 (PureOk.also ok86 (PureOk.none _))))) 14) (by kernel_rfl) w19C_ok (by rfl) (by rfl) (by rfl) (by rfl) (by rfl) ha (ρ := [.int t, .is n, .ss s, .vs l, .int zt, .is zn, .ss zs, .vs zl]) (Rh.go (w19_9999 t n s l zt zn zs zl _) ?_) h
  simp only [o_add, o_sub, o_mul, o_neg, o_conv, o_lt, o_le, o_eq, o_not, o_and, o_or, o_sel, o_isel, o_ssel, o_beq, o_seq, o_slt, o_slen, o_sat, o_scut, o_sadd, o_ilen, o_blen, o_vlen, o_rlen, o_iget, o_bget, o_vget, o_rget, o_iset, o_bset, o_vset, o_iapp, o_bapp, o_vapp, o_rapp, o_icut, o_bcut, o_vcut, o_irep, o_vt, o_vn, o_vs, o_vl, o_imax, o_imin, o_inb, o_sfit, o_cutb, o_fit, o_mkfit, RhQ, decT, decF, true_and, and_true, eq_self, implies_true, forall_const, Bool.not_eq_true', Bool.not_eq_false', Bool.not_true, Bool.not_false, Bool.and_eq_true, Bool.or_eq_true, Bool.and_eq_false_iff, Bool.or_eq_false_iff, Bool.true_and, Bool.and_true, Bool.false_and, Bool.and_false, Bool.or_false, Bool.false_or, Bool.true_or, Bool.or_true, Int.toNat_natCast, VT.eta, not_true, not_false_iff, false_implies, if_true, if_false, Int.toNat_zero, Int.toNat_one, ns0, ns4]
  refine ⟨fun hb => ?_, fun hb => ⟨fun hc => ?_, fun hc => ⟨ht, fun hd => ?_, fun hd => ?_⟩⟩⟩
  · obtain ⟨e1, e2⟩ := make_bad hb; exact Ret.ve e1 e2 rfl
  · obtain ⟨e1, e2⟩ := make_len (fun h => by rcases h with h | h <;> simp_all) hc; exact Ret.ve e1 e2 rfl
  · obtain ⟨e1, e2⟩ := make_deep (k := .mk t n s l) (v := .mk zt zn zs zl) (fun h => by rcases h with h | h <;> simp_all) (fun h => h hc) hd; exact Ret.ve e1 e2 rfl
  · obtain ⟨e1, e2⟩ := make_yes (k := .mk t n s l) (v := .mk zt zn zs zl) (fun h => by rcases h with h | h <;> simp_all) (fun h => h hc) hd; exact Ret.ve e1 e2 rfl
theorem ok20 : Pure1 Tryz.prog 20 spMakeD := by
  intro xs F w cs R ha h
  obtain ⟨x, y, a, b, rfl, h1, h2, h⟩ := onVV_inv h
  obtain ⟨ho, h⟩ := when_inv h
  obtain ⟨ht, h⟩ := when_inv h
  have ha := ha.conv2 (fun v => as_V h1) (fun v => as_V h2)
  obtain ⟨t, n, s, l⟩ := a
  obtain ⟨zt, zn, zs, zl⟩ := b
  refine contract (fn := Tryz.f20) (walked (PureOk.also ok60 (PureOk.also ok18 (PureOk.also ok12 (PureOk.also ok83 (PureOk.also ok84 (PureOk.none _)))))) 14) (by kernel_rfl) w20C_ok (by rfl) (by rfl) (by rfl) (by rfl) (by rfl) ha (ρ := [.int t, .is n, .ss s, .vs l, .int zt, .is zn, .ss zs, .vs zl]) (Rh.go (w20_9999 t n s l zt zn zs zl _) ?_) h
  simp only [o_add, o_sub, o_mul, o_neg, o_conv, o_lt, o_le, o_eq, o_not, o_and, o_or, o_sel, o_isel, o_ssel, o_beq, o_seq, o_slt, o_slen, o_sat, o_scut, o_sadd, o_ilen, o_blen, o_vlen, o_rlen, o_iget, o_bget, o_vget, o_rget, o_iset, o_bset, o_vset, o_iapp, o_bapp, o_vapp, o_rapp, o_icut, o_bcut, o_vcut, o_irep, o_vt, o_vn, o_vs, o_vl, o_imax, o_imin, o_inb, o_sfit, o_cutb, o_fit, o_mkfit, RhQ, decT, decF, true_and, and_true, eq_self, implies_true, forall_const, Bool.not_eq_true', Bool.not_eq_false', Bool.not_true, Bool.not_false, Bool.and_eq_true, Bool.or_eq_true, Bool.and_eq_false_iff, Bool.or_eq_false_iff, Bool.true_and, Bool.and_true, Bool.false_and, Bool.and_false, Bool.or_false, Bool.false_or, Bool.true_or, Bool.or_true, Int.toNat_natCast, VT.eta, not_true, not_false_iff, false_implies, if_true, if_false, Int.toNat_zero, Int.toNat_one, ns0, ns4]
  refine ⟨fun hb => ?_, fun hb => ⟨fun hc => ?_, fun hc => ?_⟩⟩
  · obtain ⟨e1, e2⟩ := make_bad hb; exact Ret.ve e1 e2 rfl
  · obtain ⟨e1, e2⟩ := make_len (fun h => by rcases h with h | h <;> simp_all) hc; exact Ret.ve e1 e2 rfl
  · have hP : rParts (.mk 99 [] [] [.mk t n s l, .mk zt zn zs zl]) 1048576 = 0 := ho.2 hb.1 hb.2 hc
    refine ⟨ht, ho.1, fun hd => ?_, fun hd => ?_⟩
    · have hd' : 32 < rDepth (pairV (.mk t n s l) (.mk zt zn zs zl)) := Classical.byContradiction fun hn => hd (by rw [if_neg (fun h => hn h.2)]; exact hP)
      obtain ⟨e1, e2⟩ := make_deep (k := .mk t n s l) (v := .mk zt zn zs zl) (fun h => by rcases h with h | h <;> simp_all) (fun h => h hc) hd'; exact Ret.ve e1 e2 rfl
    · have hd' : ¬ 32 < rDepth (pairV (.mk t n s l) (.mk zt zn zs zl)) := fun hn => by rw [if_pos ⟨hP, hn⟩] at hd; omega
      obtain ⟨e1, e2⟩ := make_yes (k := .mk t n s l) (v := .mk zt zn zs zl) (fun h => by rcases h with h | h <;> simp_all) (fun h => h hc) hd'; exact Ret.ve e1 e2 rfl
end Go.Qv
