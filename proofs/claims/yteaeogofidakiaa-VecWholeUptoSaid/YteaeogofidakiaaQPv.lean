/- quiverlaw07.VecJoins: the law over contracts. No condition. -/
import Derived.Test.YteaeogofidakiaaQPtM
import Derived.Test.YteaeogofidakiaaQPe
set_option linter.unusedVariables false
set_option linter.unusedSimpArgs false
set_option maxRecDepth 100000
namespace Go.Qv
open Go Go.RowKit Go.Proofs
noncomputable def closedF : Orc := inl O.real tbF fns noOrc noKnown shutM 300 14
theorem closedF_ok : OrcOk Try.prog closedF (fun _ => True) := inl_ok mixed tbF_ok fnsOk (noOrc_ok _ _) 14
noncomputable def closedL : Orc := inl O.real tbF fns (pureOrc (PS.also 27 (runP closedF 27) PS.none)) (fun f => Nat.beq f 27) shutM 300 14
theorem closedL_ok : OrcOk Try.prog closedL (fun _ => True) := inl_ok mixed tbF_ok fnsOk (pureOrc_ok (PureOk.also (runP_ok closedF_ok 27) (PureOk.none _))) 14
theorem live8 : (closedL 8 0 [] []).okB (fun E => isT E && E.hw.isEmpty && E.frz.isEmpty && E.new.isEmpty) = true := by kernel_rfl
theorem okLive : Pure1 Try.prog 8 spLive := ok_live closedL_ok live8
theorem veq_self (v : VT) : veq v v = true := veq_iff.2 rfl
theorem joins (l : List VT) (hf : fines l) (hb : bks l ≤ 1048576) : Rh w3S IsTrue (9999, [.vs l]) := by
  have ho : joinOk l := by unfold joinOk; omega
  refine Rh.go (w3_9999 l _) ?_
  simp only [o_add, o_sub, o_mul, o_neg, o_conv, o_lt, o_le, o_eq, o_not, o_and, o_or, o_sel, o_isel, o_ssel, o_beq, o_seq, o_slt, o_slen, o_sat, o_scut, o_sadd, o_ilen, o_blen, o_vlen, o_rlen, o_iget, o_bget, o_vget, o_rget, o_iset, o_bset, o_vset, o_iapp, o_bapp, o_vapp, o_rapp, o_icut, o_bcut, o_vcut, o_irep, o_vt, o_vn, o_vs, o_vl, o_imax, o_imin, o_inb, o_sfit, o_cutb, o_fit, o_mkfit, RhQ, decT, decF, true_and, and_true, eq_self, implies_true, forall_const, Bool.not_eq_true', Bool.not_eq_false', Bool.not_true, Bool.not_false, Bool.and_eq_true, Bool.or_eq_true, Bool.and_eq_false_iff, Bool.or_eq_false_iff, Bool.true_and, Bool.and_true, Bool.false_and, Bool.and_false, Bool.or_false, Bool.false_or, Bool.true_or, Bool.or_true, Int.toNat_natCast, VT.eta, not_true, not_false_iff, false_implies, if_true, if_false, Int.toNat_zero, Int.toNat_one, ns0, ns4, veq_self]
  exact ⟨fun _ => hf, fun _ => IsTrue.of rfl, fun _ => ⟨ho, ho, IsTrue.of rfl⟩⟩
theorem joinsOrc : OrcOk Try.prog (inl O.real Go.Qv.tb Go.Qv.fns (pureOrc (PS.also 8 spLive (PS.also 7 sp7 (PS.also 9 spJoin (PS.also 10 spJoin (PS.also 11 sp11f PS.none)))))) (fun f => Nat.beq f 8 || Nat.beq f 7 || Nat.beq f 9 || Nat.beq f 10 || Nat.beq f 11) (fun _ => false) 300 14) (fun _ => True) :=
  walked (PureOk.also okLive (PureOk.also ok7 (PureOk.also ok9 (PureOk.also ok10 (PureOk.also ok11 (PureOk.none _)))))) 14
end Go.Qv
