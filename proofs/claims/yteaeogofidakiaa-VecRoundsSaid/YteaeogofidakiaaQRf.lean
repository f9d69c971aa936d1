/- vec.Do on two ints answers so. No condition. -/
import Derived.Test.YteaeogofidakiaaQRe
set_option linter.unusedVariables false
set_option linter.unusedSimpArgs false
set_option maxRecDepth 100000
namespace Go.Qv
open Go Go.RowKit Go.Proofs
def hdI (a : List Int) : Int := a.getD 0 0
def one1 (a : List Int) : Prop := a.length = 1
noncomputable def sp18 : List AV → T AV
  | [.int .i64 o, .agg [.int .i64 t, .sl (.i .i64 a), .sl (.s []), .sl (.v [])], .agg [.int .i64 u, .sl (.i .i64 b), .sl (.s []), .sl (.v [])]] => when_ ((o = 3 ∨ o = 4) ∧ t = -2 ∧ u = -2 ∧ one1 a ∧ one1 b ∧ isI (hdI a) ∧ isI (hdI b))
      (.leaf (.tup [.agg [.int .i64 (-2), .sl (.i .i64 [oneQ o (hdI a) (hdI b)]), .sl (.s []), .sl (.v [])], .int .i64 0]))
  | _ => .stuck "sp18"
theorem run18a (a b : List Int) (h1 : one1 a) (h2 : one1 b) (h3 : isI (hdI a)) (h4 : isI (hdI b)) : Rh w18aS (Ret (.tup [.agg [.int .i64 (-2), .sl (.i .i64 [oneQ 3 (hdI a) (hdI b)]), .sl (.s []), .sl (.v [])], .int .i64 0])) (9999, [.is a, .is b]) := by
  have last : Rh w18aS (Ret (.tup [.agg [.int .i64 (-2), .sl (.i .i64 [oneQ 3 (hdI a) (hdI b)]), .sl (.s []), .sl (.v [])], .int .i64 0])) (15, [.int 1, .is a, .ss [], .vs [], .is b, .ss [], .vs [], .is [oneQ 3 (hdI a) (hdI b)]]) := by
    refine Rh.go (w18a_15 1 a [] [] b [] [] _ _) ?_
    simp only [o_add, o_sub, o_mul, o_neg, o_conv, o_lt, o_le, o_eq, o_not, o_and, o_or, o_sel, o_isel, o_ssel, o_beq, o_seq, o_slt, o_slen, o_sat, o_scut, o_sadd, o_ilen, o_blen, o_vlen, o_rlen, o_iget, o_bget, o_vget, o_rget, o_iset, o_bset, o_vset, o_iapp, o_bapp, o_vapp, o_rapp, o_icut, o_bcut, o_vcut, o_irep, o_vt, o_vn, o_vs, o_vl, o_imax, o_imin, o_inb, o_sfit, o_cutb, o_fit, o_mkfit, RhQ, decT, decF, true_and, and_true, eq_self, implies_true, forall_const, Bool.not_eq_true', Bool.not_eq_false', Bool.not_true, Bool.not_false, Bool.and_eq_true, Bool.or_eq_true, Bool.and_eq_false_iff, Bool.or_eq_false_iff, Bool.true_and, Bool.and_true, Bool.false_and, Bool.and_false, Bool.or_false, Bool.false_or, Bool.true_or, Bool.or_true, Int.toNat_natCast, VT.eta, not_true, not_false_iff, false_implies, if_true, if_false, Int.toNat_zero, Int.toNat_one, ns0, ns4]
    exact ⟨fun h => by omega, fun _ => rfl⟩
  refine Rh.go (w18a_9999 a b _) ?_
  simp only [o_add, o_sub, o_mul, o_neg, o_conv, o_lt, o_le, o_eq, o_not, o_and, o_or, o_sel, o_isel, o_ssel, o_beq, o_seq, o_slt, o_slen, o_sat, o_scut, o_sadd, o_ilen, o_blen, o_vlen, o_rlen, o_iget, o_bget, o_vget, o_rget, o_iset, o_bset, o_vset, o_iapp, o_bapp, o_vapp, o_rapp, o_icut, o_bcut, o_vcut, o_irep, o_vt, o_vn, o_vs, o_vl, o_imax, o_imin, o_inb, o_sfit, o_cutb, o_fit, o_mkfit, RhQ, decT, decF, true_and, and_true, eq_self, implies_true, forall_const, Bool.not_eq_true', Bool.not_eq_false', Bool.not_true, Bool.not_false, Bool.and_eq_true, Bool.or_eq_true, Bool.and_eq_false_iff, Bool.or_eq_false_iff, Bool.true_and, Bool.and_true, Bool.false_and, Bool.and_false, Bool.or_false, Bool.false_or, Bool.true_or, Bool.or_true, Int.toNat_natCast, VT.eta, not_true, not_false_iff, false_implies, if_true, if_false, Int.toNat_zero, Int.toNat_one, ns0, ns4]
  refine Rh.go (w18a_15 0 a [] [] b [] [] [] _) ?_
  unfold one1 at h1 h2
  have e : IntKind.i64.wrap (0 + 1) = 1 := by decide
  simp only [o_add, o_sub, o_mul, o_neg, o_conv, o_lt, o_le, o_eq, o_not, o_and, o_or, o_sel, o_isel, o_ssel, o_beq, o_seq, o_slt, o_slen, o_sat, o_scut, o_sadd, o_ilen, o_blen, o_vlen, o_rlen, o_iget, o_bget, o_vget, o_rget, o_iset, o_bset, o_vset, o_iapp, o_bapp, o_vapp, o_rapp, o_icut, o_bcut, o_vcut, o_irep, o_vt, o_vn, o_vs, o_vl, o_imax, o_imin, o_inb, o_sfit, o_cutb, o_fit, o_mkfit, RhQ, decT, decF, true_and, and_true, eq_self, implies_true, forall_const, Bool.not_eq_true', Bool.not_eq_false', Bool.not_true, Bool.not_false, Bool.and_eq_true, Bool.or_eq_true, Bool.and_eq_false_iff, Bool.or_eq_false_iff, Bool.true_and, Bool.and_true, Bool.false_and, Bool.and_false, Bool.or_false, Bool.false_or, Bool.true_or, Bool.or_true, Int.toNat_natCast, VT.eta, not_true, not_false_iff, false_implies, if_true, if_false, Int.toNat_zero, Int.toNat_one, ns0, ns4, List.nil_append, List.length_nil, List.length_singleton, h1, h2, e]
  exact ⟨fun _ => ⟨⟨⟨by decide, by decide⟩, ⟨by decide, by decide⟩, .inl trivial, h3, h4⟩, by decide, last⟩, fun h => by omega⟩
theorem run18b (a b : List Int) (h1 : one1 a) (h2 : one1 b) (h3 : isI (hdI a)) (h4 : isI (hdI b)) : Rh w18bS (Ret (.tup [.agg [.int .i64 (-2), .sl (.i .i64 [oneQ 4 (hdI a) (hdI b)]), .sl (.s []), .sl (.v [])], .int .i64 0])) (9999, [.is a, .is b]) := by
  have last : Rh w18bS (Ret (.tup [.agg [.int .i64 (-2), .sl (.i .i64 [oneQ 4 (hdI a) (hdI b)]), .sl (.s []), .sl (.v [])], .int .i64 0])) (15, [.int 1, .is a, .ss [], .vs [], .is b, .ss [], .vs [], .is [oneQ 4 (hdI a) (hdI b)]]) := by
    refine Rh.go (w18b_15 1 a [] [] b [] [] _ _) ?_
    simp only [o_add, o_sub, o_mul, o_neg, o_conv, o_lt, o_le, o_eq, o_not, o_and, o_or, o_sel, o_isel, o_ssel, o_beq, o_seq, o_slt, o_slen, o_sat, o_scut, o_sadd, o_ilen, o_blen, o_vlen, o_rlen, o_iget, o_bget, o_vget, o_rget, o_iset, o_bset, o_vset, o_iapp, o_bapp, o_vapp, o_rapp, o_icut, o_bcut, o_vcut, o_irep, o_vt, o_vn, o_vs, o_vl, o_imax, o_imin, o_inb, o_sfit, o_cutb, o_fit, o_mkfit, RhQ, decT, decF, true_and, and_true, eq_self, implies_true, forall_const, Bool.not_eq_true', Bool.not_eq_false', Bool.not_true, Bool.not_false, Bool.and_eq_true, Bool.or_eq_true, Bool.and_eq_false_iff, Bool.or_eq_false_iff, Bool.true_and, Bool.and_true, Bool.false_and, Bool.and_false, Bool.or_false, Bool.false_or, Bool.true_or, Bool.or_true, Int.toNat_natCast, VT.eta, not_true, not_false_iff, false_implies, if_true, if_false, Int.toNat_zero, Int.toNat_one, ns0, ns4]
    exact ⟨fun h => by omega, fun _ => rfl⟩
  refine Rh.go (w18b_9999 a b _) ?_
  simp only [o_add, o_sub, o_mul, o_neg, o_conv, o_lt, o_le, o_eq, o_not, o_and, o_or, o_sel, o_isel, o_ssel, o_beq, o_seq, o_slt, o_slen, o_sat, o_scut, o_sadd, o_ilen, o_blen, o_vlen, o_rlen, o_iget, o_bget, o_vget, o_rget, o_iset, o_bset, o_vset, o_iapp, o_bapp, o_vapp, o_rapp, o_icut, o_bcut, o_vcut, o_irep, o_vt, o_vn, o_vs, o_vl, o_imax, o_imin, o_inb, o_sfit, o_cutb, o_fit, o_mkfit, RhQ, decT, decF, true_and, and_true, eq_self, implies_true, forall_const, Bool.not_eq_true', Bool.not_eq_false', Bool.not_true, Bool.not_false, Bool.and_eq_true, Bool.or_eq_true, Bool.and_eq_false_iff, Bool.or_eq_false_iff, Bool.true_and, Bool.and_true, Bool.false_and, Bool.and_false, Bool.or_false, Bool.false_or, Bool.true_or, Bool.or_true, Int.toNat_natCast, VT.eta, not_true, not_false_iff, false_implies, if_true, if_false, Int.toNat_zero, Int.toNat_one, ns0, ns4]
  refine Rh.go (w18b_15 0 a [] [] b [] [] [] _) ?_
  unfold one1 at h1 h2
  have e : IntKind.i64.wrap (0 + 1) = 1 := by decide
  simp only [o_add, o_sub, o_mul, o_neg, o_conv, o_lt, o_le, o_eq, o_not, o_and, o_or, o_sel, o_isel, o_ssel, o_beq, o_seq, o_slt, o_slen, o_sat, o_scut, o_sadd, o_ilen, o_blen, o_vlen, o_rlen, o_iget, o_bget, o_vget, o_rget, o_iset, o_bset, o_vset, o_iapp, o_bapp, o_vapp, o_rapp, o_icut, o_bcut, o_vcut, o_irep, o_vt, o_vn, o_vs, o_vl, o_imax, o_imin, o_inb, o_sfit, o_cutb, o_fit, o_mkfit, RhQ, decT, decF, true_and, and_true, eq_self, implies_true, forall_const, Bool.not_eq_true', Bool.not_eq_false', Bool.not_true, Bool.not_false, Bool.and_eq_true, Bool.or_eq_true, Bool.and_eq_false_iff, Bool.or_eq_false_iff, Bool.true_and, Bool.and_true, Bool.false_and, Bool.and_false, Bool.or_false, Bool.false_or, Bool.true_or, Bool.or_true, Int.toNat_natCast, VT.eta, not_true, not_false_iff, false_implies, if_true, if_false, Int.toNat_zero, Int.toNat_one, ns0, ns4, List.nil_append, List.length_nil, List.length_singleton, h1, h2, e]
  exact ⟨fun _ => ⟨⟨⟨by decide, by decide⟩, ⟨by decide, by decide⟩, .inr trivial, h3, h4⟩, by decide, last⟩, fun h => by omega⟩
theorem ok18 : Pure1 Try.prog 18 sp18 := by
  intro xs F w cs R ha h
  unfold sp18 at h
  split at h
  · rename_i o t a u b
    obtain ⟨⟨ho, rfl, rfl, h1, h2, h3, h4⟩, h⟩ := h
    rcases ho with rfl | rfl
    · exact contract (fn := Try.f18) (walked (PureOk.also ok49 (PureOk.none _)) 14) (by kernel_rfl) w18aC_ok (by rfl) (by rfl) (by rfl) (by rfl) (by rfl) ha (run18a a b h1 h2 h3 h4) h
    · exact contract (fn := Try.f18) (walked (PureOk.also ok49 (PureOk.none _)) 14) (by kernel_rfl) w18bC_ok (by rfl) (by rfl) (by rfl) (by rfl) (by rfl) ha (run18b a b h1 h2 h3 h4) h
  · exact h.elim
noncomputable def closedF : Orc := inl O.real tbF fns noOrc noKnown shutM 300 14
theorem closedF_ok : OrcOk Try.prog closedF (fun _ => True) := inl_ok mixed tbF_ok fnsOk (noOrc_ok _ _) 14
noncomputable def closedL : Orc := inl O.real tbF fns (pureOrc (PS.also 27 (runP closedF 27) PS.none)) (fun f => Nat.beq f 27) shutM 300 14
theorem closedL_ok : OrcOk Try.prog closedL (fun _ => True) := inl_ok mixed tbF_ok fnsOk (pureOrc_ok (PureOk.also (runP_ok closedF_ok 27) (PureOk.none _))) 14
theorem live8 : (closedL 8 0 [] []).okB (fun E => isT E && E.hw.isEmpty && E.frz.isEmpty && E.new.isEmpty) = true := by kernel_rfl
theorem okLive : Pure1 Try.prog 8 spLive := ok_live closedL_ok live8
end Go.Qv
