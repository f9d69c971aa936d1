/- quiverlaw10.DictMakes: the law over contracts. No condition. -/
import Derived.Test.YtmeagbopnliddaaGreatQXbM
import Derived.Test.YtmeagbopnliddaaGreatQDg
import Derived.Test.YtmeagbopnliddaaGreatQDl
set_option linter.unusedVariables false
set_option linter.unusedSimpArgs false
set_option maxRecDepth 100000
namespace Go.Qv
open Go Go.RowKit Go.Proofs
theorem loop4 (x : List VT) (hx : ∀ y ∈ x, May y) (hl : x.length ≤ 30) (t n s l) (hd : May (.mk t n s l)) (i : Nat) (hi : i ≤ x.length) :
    Rh w4S IsTrue (15, [.vs x, .int i, .int t, .is n, .ss s, .vs l, .int t, .is n, .ss s, .vs l]) := by
  refine Rh.go (w4_15 x i t n s l t n s l _) ?_
  simp only [o_add, o_sub, o_mul, o_neg, o_conv, o_lt, o_le, o_eq, o_not, o_and, o_or, o_sel, o_isel, o_ssel, o_beq, o_seq, o_slt, o_slen, o_sat, o_scut, o_sadd, o_ilen, o_blen, o_vlen, o_rlen, o_iget, o_bget, o_vget, o_rget, o_iset, o_bset, o_vset, o_iapp, o_bapp, o_vapp, o_rapp, o_icut, o_bcut, o_vcut, o_irep, o_vt, o_vn, o_vs, o_vl, o_imax, o_imin, o_inb, o_sfit, o_cutb, o_fit, o_mkfit, RhQ, decT, decF, true_and, and_true, eq_self, implies_true, forall_const, Bool.not_eq_true', Bool.not_eq_false', Bool.not_true, Bool.not_false, Bool.and_eq_true, Bool.or_eq_true, Bool.and_eq_false_iff, Bool.or_eq_false_iff, Bool.true_and, Bool.and_true, Bool.false_and, Bool.and_false, Bool.or_false, Bool.false_or, Bool.true_or, Bool.or_true, Int.toNat_natCast, VT.eta, not_true, not_false_iff, false_implies, if_true, if_false, Int.toNat_zero, Int.toNat_one, ns0, ns4, veq_self, not_true, or_self, or_false, false_or, false_implies, ne_eq, not_false_eq_true, and_self]
  have ho := may_dOk hd.good
  have ht := hd.tame
  refine ⟨fun h => ?_, fun _ => IsTrue.of rfl⟩
  have hi' : i < x.length := by omega
  have e := loop4 x hx hl t n s l hd (i + 1) (by omega)
  rw [inc (n := x.length) (mlen (by omega)) hi']
  have htx := (hx _ (getD_mem x default hi')).tame
  repeat' apply And.intro
  all_goals first | exact e | omega | exact ho | exact ht | exact htx | skip
termination_by x.length - i
theorem makesL (t n s l t' n' s' l' t2 n2 s2 l2) (x : List VT) (f0 : (VT.mk t n s l).Fine) (f1 : (VT.mk t' n' s' l').Fine) (f2 : (VT.mk t2 n2 s2 l2).Fine) (fx : fines x) :
    Rh w4S IsTrue (9999, [.int t, .is n, .ss s, .vs l, .int t', .is n', .ss s', .vs l', .int t2, .is n2, .ss s2, .vs l2, .vs x]) := by
  refine Rh.go (w4_9999 t n s l t' n' s' l' t2 n2 s2 l2 x _) ?_
  simp only [o_add, o_sub, o_mul, o_neg, o_conv, o_lt, o_le, o_eq, o_not, o_and, o_or, o_sel, o_isel, o_ssel, o_beq, o_seq, o_slt, o_slen, o_sat, o_scut, o_sadd, o_ilen, o_blen, o_vlen, o_rlen, o_iget, o_bget, o_vget, o_rget, o_iset, o_bset, o_vset, o_iapp, o_bapp, o_vapp, o_rapp, o_icut, o_bcut, o_vcut, o_irep, o_vt, o_vn, o_vs, o_vl, o_imax, o_imin, o_inb, o_sfit, o_cutb, o_fit, o_mkfit, RhQ, decT, decF, true_and, and_true, eq_self, implies_true, forall_const, Bool.not_eq_true', Bool.not_eq_false', Bool.not_true, Bool.not_false, Bool.and_eq_true, Bool.or_eq_true, Bool.and_eq_false_iff, Bool.or_eq_false_iff, Bool.true_and, Bool.and_true, Bool.false_and, Bool.and_false, Bool.or_false, Bool.false_or, Bool.true_or, Bool.or_true, Int.toNat_natCast, VT.eta, not_true, not_false_iff, false_implies, if_true, if_false, Int.toNat_zero, Int.toNat_one, ns0, ns4, veq_self, not_true, or_self, or_false, false_or, false_implies, ne_eq, not_false_eq_true, and_self]
  have h3 : fines [VT.mk t n s l, .mk t' n' s' l', .mk t2 n2 s2 l2] := fun y hy => by
    simp only [List.mem_cons, List.not_mem_nil, or_false] at hy
    rcases hy with rfl | rfl | rfl
    · exact f0
    · exact f1
    · exact f2
  refine ⟨h3, fun _ => fx, fun _ => IsTrue.of rfl, fun hh => ?_⟩
  obtain ⟨hb, hx⟩ := hh
  obtain ⟨m, _⟩ := mayB_of h3 hb
  obtain ⟨mx, hl⟩ := mayB_of fx hx
  have m0 := m _ (List.mem_cons_self)
  have m1 := m _ (List.mem_cons_of_mem _ List.mem_cons_self)
  have m2 := m _ (List.mem_cons_of_mem _ (List.mem_cons_of_mem _ List.mem_cons_self))
  obtain ⟨k1, k2⟩ := may_mkOk f0 f1 m0 m1
  have d2 := may_dOk m2.good
  have g2 := may_getOk m2 hl
  exact ⟨⟨m0.tame, m1.tame, k1, k2⟩, k1, k2, m2.tame, d2, m2.tame, d2, m2.tame, d2, m2.tame, d2, m2.tame, ⟨mays_tames mx hl, g2⟩, g2, loop4 x mx hl t2 n2 s2 l2 m2 0 (Nat.zero_le _)⟩
theorem makesOrc : OrcOk Tryz.prog (inl O.real Go.Qv.tbF Go.Qv.fns (pureOrc (PS.also 9 spMay (PS.also 12 sp12f (PS.also 19 spMakeD (PS.also 20 spMakeD (PS.also 17 spKeysD (PS.also 21 spKeysD (PS.also 22 spValuesD (PS.also 23 spValuesD (PS.also 24 spClones (PS.also 14 spGetD (PS.also 25 spGetD (PS.also 15 sp15f (PS.also 16 spFindD (PS.also 26 spFindD (PS.also 10 spLive PS.none)))))))))))))))) (fun f => Nat.beq f 9 || Nat.beq f 12 || Nat.beq f 19 || Nat.beq f 20 || Nat.beq f 17 || Nat.beq f 21 || Nat.beq f 22 || Nat.beq f 23 || Nat.beq f 24 || Nat.beq f 14 || Nat.beq f 25 || Nat.beq f 15 || Nat.beq f 16 || Nat.beq f 26 || Nat.beq f 10) (fun _ => false) 300 14) (fun _ => True) :=
  inl_ok mixed tbF_ok fnsOk (pureOrc_ok (PureOk.also okMay (PureOk.also ok12 (PureOk.also ok19 (PureOk.also ok20 (PureOk.also ok17 (PureOk.also ok21 (PureOk.also ok22 (PureOk.also ok23 (PureOk.also okClones (PureOk.also ok14 (PureOk.also ok25 (PureOk.also ok15 (PureOk.also ok16 (PureOk.also ok26 (PureOk.also okLive (PureOk.none _))))))))))))))))) 14
end Go.Qv
