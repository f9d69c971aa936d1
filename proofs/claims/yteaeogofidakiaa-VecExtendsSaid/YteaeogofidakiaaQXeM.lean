/- One operation on two numbers; the type of an answer; texts compared: there is an answer. No condition. -/
import Derived.Test.YteaeogofidakiaaQXdM
import Derived.Laws.Externs
set_option linter.unusedVariables false
set_option linter.unusedSimpArgs false
set_option maxRecDepth 100000
namespace Go.Qv
open Go Go.RowKit Go.Proofs
section
attribute [local irreducible] isU isI dvOk ordBase
theorem one_ex0 {x tx y ty : Int} (hx : isI x) (hy : isI y) : Rn w49_0S EX2 (9999, [.int x, .int tx, .int y, .int ty]) := by
  refine Rn.go (w49_0_9999 x tx y ty _) (by kernel_rfl) ?_
  simp only [o_add, o_sub, o_mul, o_neg, o_conv, o_lt, o_le, o_eq, o_not, o_and, o_or, o_sel, o_isel, o_ssel, o_beq, o_seq, o_slt, o_slen, o_sat, o_scut, o_sadd, o_ilen, o_blen, o_vlen, o_rlen, o_iget, o_bget, o_vget, o_rget, o_iset, o_bset, o_vset, o_iapp, o_bapp, o_vapp, o_rapp, o_icut, o_bcut, o_vcut, o_irep, o_vt, o_vn, o_vs, o_vl, o_imax, o_imin, o_inb, o_sfit, o_cutb, o_fit, o_mkfit, RhQ, decT, decF, true_and, and_true, eq_self, implies_true, forall_const, Bool.not_eq_true', Bool.not_eq_false', Bool.not_true, Bool.not_false, Bool.and_eq_true, Bool.or_eq_true, Bool.and_eq_false_iff, Bool.or_eq_false_iff, Bool.true_and, Bool.and_true, Bool.false_and, Bool.and_false, Bool.or_false, Bool.false_or, Bool.true_or, Bool.or_true, Int.toNat_natCast, VT.eta, not_true, not_false_iff, false_implies, if_true, if_false, Int.toNat_zero, Int.toNat_one, ns0, ns4, RnQ, null63, o_nz]
  repeat' (first | apply And.intro | intro _)
  all_goals first | exact hx | exact hy | exact ⟨_, _, rfl⟩ | exact isI_lit (by omega) | omega | exact Int.NonNeg.mk _ | exact trivial
theorem one_ex1 {x tx y ty : Int} (hx : isI x) (hy : isI y) : Rn w49_1S EX2 (9999, [.int x, .int tx, .int y, .int ty]) := by
  refine Rn.go (w49_1_9999 x tx y ty _) (by kernel_rfl) ?_
  simp only [o_add, o_sub, o_mul, o_neg, o_conv, o_lt, o_le, o_eq, o_not, o_and, o_or, o_sel, o_isel, o_ssel, o_beq, o_seq, o_slt, o_slen, o_sat, o_scut, o_sadd, o_ilen, o_blen, o_vlen, o_rlen, o_iget, o_bget, o_vget, o_rget, o_iset, o_bset, o_vset, o_iapp, o_bapp, o_vapp, o_rapp, o_icut, o_bcut, o_vcut, o_irep, o_vt, o_vn, o_vs, o_vl, o_imax, o_imin, o_inb, o_sfit, o_cutb, o_fit, o_mkfit, RhQ, decT, decF, true_and, and_true, eq_self, implies_true, forall_const, Bool.not_eq_true', Bool.not_eq_false', Bool.not_true, Bool.not_false, Bool.and_eq_true, Bool.or_eq_true, Bool.and_eq_false_iff, Bool.or_eq_false_iff, Bool.true_and, Bool.and_true, Bool.false_and, Bool.and_false, Bool.or_false, Bool.false_or, Bool.true_or, Bool.or_true, Int.toNat_natCast, VT.eta, not_true, not_false_iff, false_implies, if_true, if_false, Int.toNat_zero, Int.toNat_one, ns0, ns4, RnQ, null63, o_nz]
  repeat' (first | apply And.intro | intro _)
  all_goals first | exact hx | exact hy | exact ⟨_, _, rfl⟩ | exact isI_lit (by omega) | omega | exact Int.NonNeg.mk _ | exact trivial
theorem one_ex2 {x tx y ty : Int} (hx : isI x) (hy : isI y) : Rn w49_2S EX2 (9999, [.int x, .int tx, .int y, .int ty]) := by
  refine Rn.go (w49_2_9999 x tx y ty _) (by kernel_rfl) ?_
  simp only [o_add, o_sub, o_mul, o_neg, o_conv, o_lt, o_le, o_eq, o_not, o_and, o_or, o_sel, o_isel, o_ssel, o_beq, o_seq, o_slt, o_slen, o_sat, o_scut, o_sadd, o_ilen, o_blen, o_vlen, o_rlen, o_iget, o_bget, o_vget, o_rget, o_iset, o_bset, o_vset, o_iapp, o_bapp, o_vapp, o_rapp, o_icut, o_bcut, o_vcut, o_irep, o_vt, o_vn, o_vs, o_vl, o_imax, o_imin, o_inb, o_sfit, o_cutb, o_fit, o_mkfit, RhQ, decT, decF, true_and, and_true, eq_self, implies_true, forall_const, Bool.not_eq_true', Bool.not_eq_false', Bool.not_true, Bool.not_false, Bool.and_eq_true, Bool.or_eq_true, Bool.and_eq_false_iff, Bool.or_eq_false_iff, Bool.true_and, Bool.and_true, Bool.false_and, Bool.and_false, Bool.or_false, Bool.false_or, Bool.true_or, Bool.or_true, Int.toNat_natCast, VT.eta, not_true, not_false_iff, false_implies, if_true, if_false, Int.toNat_zero, Int.toNat_one, ns0, ns4, RnQ, null63, o_nz]
  repeat' (first | apply And.intro | intro _)
  all_goals first | exact hx | exact hy | exact ⟨_, _, rfl⟩ | exact isI_lit (by omega) | omega | exact Int.NonNeg.mk _ | exact trivial
theorem one_ex3 {x tx y ty : Int} (hx : isI x) (hy : isI y) : Rn w49_3S EX2 (9999, [.int x, .int tx, .int y, .int ty]) := by
  refine Rn.go (w49_3_9999 x tx y ty _) (by kernel_rfl) ?_
  simp only [o_add, o_sub, o_mul, o_neg, o_conv, o_lt, o_le, o_eq, o_not, o_and, o_or, o_sel, o_isel, o_ssel, o_beq, o_seq, o_slt, o_slen, o_sat, o_scut, o_sadd, o_ilen, o_blen, o_vlen, o_rlen, o_iget, o_bget, o_vget, o_rget, o_iset, o_bset, o_vset, o_iapp, o_bapp, o_vapp, o_rapp, o_icut, o_bcut, o_vcut, o_irep, o_vt, o_vn, o_vs, o_vl, o_imax, o_imin, o_inb, o_sfit, o_cutb, o_fit, o_mkfit, RhQ, decT, decF, true_and, and_true, eq_self, implies_true, forall_const, Bool.not_eq_true', Bool.not_eq_false', Bool.not_true, Bool.not_false, Bool.and_eq_true, Bool.or_eq_true, Bool.and_eq_false_iff, Bool.or_eq_false_iff, Bool.true_and, Bool.and_true, Bool.false_and, Bool.and_false, Bool.or_false, Bool.false_or, Bool.true_or, Bool.or_true, Int.toNat_natCast, VT.eta, not_true, not_false_iff, false_implies, if_true, if_false, Int.toNat_zero, Int.toNat_one, ns0, ns4, RnQ, null63, o_nz]
  repeat' (first | apply And.intro | intro _)
  all_goals first | exact hx | exact hy | exact ⟨_, _, rfl⟩ | exact isI_lit (by omega) | omega | exact Int.NonNeg.mk _ | exact trivial
theorem one_ex4 {x tx y ty : Int} (hx : isI x) (hy : isI y) : Rn w49_4S EX2 (9999, [.int x, .int tx, .int y, .int ty]) := by
  refine Rn.go (w49_4_9999 x tx y ty _) (by kernel_rfl) ?_
  simp only [o_add, o_sub, o_mul, o_neg, o_conv, o_lt, o_le, o_eq, o_not, o_and, o_or, o_sel, o_isel, o_ssel, o_beq, o_seq, o_slt, o_slen, o_sat, o_scut, o_sadd, o_ilen, o_blen, o_vlen, o_rlen, o_iget, o_bget, o_vget, o_rget, o_iset, o_bset, o_vset, o_iapp, o_bapp, o_vapp, o_rapp, o_icut, o_bcut, o_vcut, o_irep, o_vt, o_vn, o_vs, o_vl, o_imax, o_imin, o_inb, o_sfit, o_cutb, o_fit, o_mkfit, RhQ, decT, decF, true_and, and_true, eq_self, implies_true, forall_const, Bool.not_eq_true', Bool.not_eq_false', Bool.not_true, Bool.not_false, Bool.and_eq_true, Bool.or_eq_true, Bool.and_eq_false_iff, Bool.or_eq_false_iff, Bool.true_and, Bool.and_true, Bool.false_and, Bool.and_false, Bool.or_false, Bool.false_or, Bool.true_or, Bool.or_true, Int.toNat_natCast, VT.eta, not_true, not_false_iff, false_implies, if_true, if_false, Int.toNat_zero, Int.toNat_one, ns0, ns4, RnQ, null63, o_nz]
  repeat' (first | apply And.intro | intro _)
  all_goals first | exact hx | exact hy | exact ⟨_, _, rfl⟩ | exact isI_lit (by omega) | omega | exact Int.NonNeg.mk _ | exact trivial
theorem one_ex5 {x tx y ty : Int} (hx : isI x) (hy : isI y) : Rn w49_5S EX2 (9999, [.int x, .int tx, .int y, .int ty]) := by
  refine Rn.go (w49_5_9999 x tx y ty _) (by kernel_rfl) ?_
  simp only [o_add, o_sub, o_mul, o_neg, o_conv, o_lt, o_le, o_eq, o_not, o_and, o_or, o_sel, o_isel, o_ssel, o_beq, o_seq, o_slt, o_slen, o_sat, o_scut, o_sadd, o_ilen, o_blen, o_vlen, o_rlen, o_iget, o_bget, o_vget, o_rget, o_iset, o_bset, o_vset, o_iapp, o_bapp, o_vapp, o_rapp, o_icut, o_bcut, o_vcut, o_irep, o_vt, o_vn, o_vs, o_vl, o_imax, o_imin, o_inb, o_sfit, o_cutb, o_fit, o_mkfit, RhQ, decT, decF, true_and, and_true, eq_self, implies_true, forall_const, Bool.not_eq_true', Bool.not_eq_false', Bool.not_true, Bool.not_false, Bool.and_eq_true, Bool.or_eq_true, Bool.and_eq_false_iff, Bool.or_eq_false_iff, Bool.true_and, Bool.and_true, Bool.false_and, Bool.and_false, Bool.or_false, Bool.false_or, Bool.true_or, Bool.or_true, Int.toNat_natCast, VT.eta, not_true, not_false_iff, false_implies, if_true, if_false, Int.toNat_zero, Int.toNat_one, ns0, ns4, RnQ, null63, o_nz]
  repeat' (first | apply And.intro | intro _)
  all_goals first | exact hx | exact hy | exact ⟨_, _, rfl⟩ | exact isI_lit (by omega) | omega | exact Int.NonNeg.mk _ | exact trivial
theorem one_ex6 {x tx y ty : Int} (hx : isI x) (hy : isI y) : Rn w49_6S EX2 (9999, [.int x, .int tx, .int y, .int ty]) := by
  refine Rn.go (w49_6_9999 x tx y ty _) (by kernel_rfl) ?_
  simp only [o_add, o_sub, o_mul, o_neg, o_conv, o_lt, o_le, o_eq, o_not, o_and, o_or, o_sel, o_isel, o_ssel, o_beq, o_seq, o_slt, o_slen, o_sat, o_scut, o_sadd, o_ilen, o_blen, o_vlen, o_rlen, o_iget, o_bget, o_vget, o_rget, o_iset, o_bset, o_vset, o_iapp, o_bapp, o_vapp, o_rapp, o_icut, o_bcut, o_vcut, o_irep, o_vt, o_vn, o_vs, o_vl, o_imax, o_imin, o_inb, o_sfit, o_cutb, o_fit, o_mkfit, RhQ, decT, decF, true_and, and_true, eq_self, implies_true, forall_const, Bool.not_eq_true', Bool.not_eq_false', Bool.not_true, Bool.not_false, Bool.and_eq_true, Bool.or_eq_true, Bool.and_eq_false_iff, Bool.or_eq_false_iff, Bool.true_and, Bool.and_true, Bool.false_and, Bool.and_false, Bool.or_false, Bool.false_or, Bool.true_or, Bool.or_true, Int.toNat_natCast, VT.eta, not_true, not_false_iff, false_implies, if_true, if_false, Int.toNat_zero, Int.toNat_one, ns0, ns4, RnQ, null63, o_nz]
  repeat' (first | apply And.intro | intro _)
  all_goals first | exact hx | exact hy | exact ⟨_, _, rfl⟩ | exact isI_lit (by omega) | omega | exact Int.NonNeg.mk _ | exact trivial
theorem one_ex7 {x tx y ty : Int} (hx : isI x) (hy : isI y) : Rn w49_7S EX2 (9999, [.int x, .int tx, .int y, .int ty]) := by
  refine Rn.go (w49_7_9999 x tx y ty _) (by kernel_rfl) ?_
  simp only [o_add, o_sub, o_mul, o_neg, o_conv, o_lt, o_le, o_eq, o_not, o_and, o_or, o_sel, o_isel, o_ssel, o_beq, o_seq, o_slt, o_slen, o_sat, o_scut, o_sadd, o_ilen, o_blen, o_vlen, o_rlen, o_iget, o_bget, o_vget, o_rget, o_iset, o_bset, o_vset, o_iapp, o_bapp, o_vapp, o_rapp, o_icut, o_bcut, o_vcut, o_irep, o_vt, o_vn, o_vs, o_vl, o_imax, o_imin, o_inb, o_sfit, o_cutb, o_fit, o_mkfit, RhQ, decT, decF, true_and, and_true, eq_self, implies_true, forall_const, Bool.not_eq_true', Bool.not_eq_false', Bool.not_true, Bool.not_false, Bool.and_eq_true, Bool.or_eq_true, Bool.and_eq_false_iff, Bool.or_eq_false_iff, Bool.true_and, Bool.and_true, Bool.false_and, Bool.and_false, Bool.or_false, Bool.false_or, Bool.true_or, Bool.or_true, Int.toNat_natCast, VT.eta, not_true, not_false_iff, false_implies, if_true, if_false, Int.toNat_zero, Int.toNat_one, ns0, ns4, RnQ, null63, o_nz]
  repeat' (first | apply And.intro | intro _)
  all_goals first | exact hx | exact hy | exact ⟨_, _, rfl⟩ | exact isI_lit (by omega) | omega | exact Int.NonNeg.mk _ | exact trivial
theorem one_ex8 {x tx y ty : Int} (hx : isI x) (hy : isI y) : Rn w49_8S EX2 (9999, [.int x, .int tx, .int y, .int ty]) := by
  refine Rn.go (w49_8_9999 x tx y ty _) (by kernel_rfl) ?_
  simp only [o_add, o_sub, o_mul, o_neg, o_conv, o_lt, o_le, o_eq, o_not, o_and, o_or, o_sel, o_isel, o_ssel, o_beq, o_seq, o_slt, o_slen, o_sat, o_scut, o_sadd, o_ilen, o_blen, o_vlen, o_rlen, o_iget, o_bget, o_vget, o_rget, o_iset, o_bset, o_vset, o_iapp, o_bapp, o_vapp, o_rapp, o_icut, o_bcut, o_vcut, o_irep, o_vt, o_vn, o_vs, o_vl, o_imax, o_imin, o_inb, o_sfit, o_cutb, o_fit, o_mkfit, RhQ, decT, decF, true_and, and_true, eq_self, implies_true, forall_const, Bool.not_eq_true', Bool.not_eq_false', Bool.not_true, Bool.not_false, Bool.and_eq_true, Bool.or_eq_true, Bool.and_eq_false_iff, Bool.or_eq_false_iff, Bool.true_and, Bool.and_true, Bool.false_and, Bool.and_false, Bool.or_false, Bool.false_or, Bool.true_or, Bool.or_true, Int.toNat_natCast, VT.eta, not_true, not_false_iff, false_implies, if_true, if_false, Int.toNat_zero, Int.toNat_one, ns0, ns4, RnQ, null63, o_nz]
  repeat' (first | apply And.intro | intro _)
  all_goals first | exact hx | exact hy | exact ⟨_, _, rfl⟩ | exact isI_lit (by omega) | omega | exact Int.NonNeg.mk _ | exact trivial
theorem one_ex9 {x tx y ty : Int} (hx : isI x) (hy : isI y) : Rn w49_9S EX2 (9999, [.int x, .int tx, .int y, .int ty]) := by
  refine Rn.go (w49_9_9999 x tx y ty _) (by kernel_rfl) ?_
  simp only [o_add, o_sub, o_mul, o_neg, o_conv, o_lt, o_le, o_eq, o_not, o_and, o_or, o_sel, o_isel, o_ssel, o_beq, o_seq, o_slt, o_slen, o_sat, o_scut, o_sadd, o_ilen, o_blen, o_vlen, o_rlen, o_iget, o_bget, o_vget, o_rget, o_iset, o_bset, o_vset, o_iapp, o_bapp, o_vapp, o_rapp, o_icut, o_bcut, o_vcut, o_irep, o_vt, o_vn, o_vs, o_vl, o_imax, o_imin, o_inb, o_sfit, o_cutb, o_fit, o_mkfit, RhQ, decT, decF, true_and, and_true, eq_self, implies_true, forall_const, Bool.not_eq_true', Bool.not_eq_false', Bool.not_true, Bool.not_false, Bool.and_eq_true, Bool.or_eq_true, Bool.and_eq_false_iff, Bool.or_eq_false_iff, Bool.true_and, Bool.and_true, Bool.false_and, Bool.and_false, Bool.or_false, Bool.false_or, Bool.true_or, Bool.or_true, Int.toNat_natCast, VT.eta, not_true, not_false_iff, false_implies, if_true, if_false, Int.toNat_zero, Int.toNat_one, ns0, ns4, RnQ, null63, o_nz]
  repeat' (first | apply And.intro | intro _)
  all_goals first | exact hx | exact hy | exact ⟨_, _, rfl⟩ | exact isI_lit (by omega) | omega | exact Int.NonNeg.mk _ | exact trivial
end
noncomputable def stepO (o : Int) : Nat × List Lf → T Gt := if o = 0 then w49_0S else if o = 1 then w49_1S else if o = 2 then w49_2S else if o = 3 then w49_3S else if o = 4 then w49_4S else if o = 5 then w49_5S else if o = 6 then w49_6S else if o = 7 then w49_7S else if o = 8 then w49_8S else w49_9S
def opOk (o : Int) : Prop := 0 ≤ o ∧ o ≤ 9
noncomputable def onP (o x tx y ty : Int) : Int × Bool := Classical.epsilon fun p => Rh (stepO o) (Ret (.tup [.int .i64 p.1, .bool p.2])) (9999, [.int x, .int tx, .int y, .int ty])
noncomputable def onN (o x tx y ty : Int) : Int := (onP o x tx y ty).1
noncomputable def onB (o x tx y ty : Int) : Bool := (onP o x tx y ty).2
theorem on_run {o x tx y ty : Int} (h : Rn (stepO o) EX2 (9999, [.int x, .int tx, .int y, .int ty])) : Rh (stepO o) (Ret (.tup [.int .i64 (onN o x tx y ty), .bool (onB o x tx y ty)])) (9999, [.int x, .int tx, .int y, .int ty]) := by
  obtain ⟨E, ⟨q, r, hE⟩, n, hn⟩ := h.one
  have : ∃ p : Int × Bool, Rh (stepO o) (Ret (.tup [.int .i64 p.1, .bool p.2])) (9999, [.int x, .int tx, .int y, .int ty]) := ⟨(q, r), n, FS.imp' (fun E' h => by subst h; exact hE) hn⟩
  exact Classical.epsilon_spec this
def rOk (p : Int) : Prop := p = 0 ∨ p = 1 ∨ p = 2 ∨ p = 4 ∨ p = 5
def EX5 (E : Eff) : Prop := ∃ q, resE E = some (.int .i64 q) ∧ rOk q
theorem res_ex {o ta tb : Int} (hm : ¬ ((ta = 3 ∧ tb ≠ 3) ∨ (ta ≠ 3 ∧ tb = 3))) : Rn w44xS EX5 (9999, [.int o, .int ta, .int tb]) := by
  refine Rn.go (w44x_9999 o ta tb _) (by kernel_rfl) ?_
  simp only [o_add, o_sub, o_mul, o_neg, o_conv, o_lt, o_le, o_eq, o_not, o_and, o_or, o_sel, o_isel, o_ssel, o_beq, o_seq, o_slt, o_slen, o_sat, o_scut, o_sadd, o_ilen, o_blen, o_vlen, o_rlen, o_iget, o_bget, o_vget, o_rget, o_iset, o_bset, o_vset, o_iapp, o_bapp, o_vapp, o_rapp, o_icut, o_bcut, o_vcut, o_irep, o_vt, o_vn, o_vs, o_vl, o_imax, o_imin, o_inb, o_sfit, o_cutb, o_fit, o_mkfit, RhQ, decT, decF, true_and, and_true, eq_self, implies_true, forall_const, Bool.not_eq_true', Bool.not_eq_false', Bool.not_true, Bool.not_false, Bool.and_eq_true, Bool.or_eq_true, Bool.and_eq_false_iff, Bool.or_eq_false_iff, Bool.true_and, Bool.and_true, Bool.false_and, Bool.and_false, Bool.or_false, Bool.false_or, Bool.true_or, Bool.or_true, Int.toNat_natCast, VT.eta, not_true, not_false_iff, false_implies, if_true, if_false, Int.toNat_zero, Int.toNat_one, ns0, ns4, RnQ]
  repeat' (first | apply And.intro | intro _)
  all_goals first | exact ⟨_, rfl, by unfold rOk; omega⟩ | exact trivial
theorem res_mix {o ta tb : Int} (h : (ta = 3 ∧ tb ≠ 3) ∨ (ta ≠ 3 ∧ tb = 3)) : Rh w44xS (Ret (.int .i64 0)) (9999, [.int o, .int ta, .int tb]) := by
  refine Rh.go (w44x_9999 o ta tb _) ?_
  simp only [o_add, o_sub, o_mul, o_neg, o_conv, o_lt, o_le, o_eq, o_not, o_and, o_or, o_sel, o_isel, o_ssel, o_beq, o_seq, o_slt, o_slen, o_sat, o_scut, o_sadd, o_ilen, o_blen, o_vlen, o_rlen, o_iget, o_bget, o_vget, o_rget, o_iset, o_bset, o_vset, o_iapp, o_bapp, o_vapp, o_rapp, o_icut, o_bcut, o_vcut, o_irep, o_vt, o_vn, o_vs, o_vl, o_imax, o_imin, o_inb, o_sfit, o_cutb, o_fit, o_mkfit, RhQ, decT, decF, true_and, and_true, eq_self, implies_true, forall_const, Bool.not_eq_true', Bool.not_eq_false', Bool.not_true, Bool.not_false, Bool.and_eq_true, Bool.or_eq_true, Bool.and_eq_false_iff, Bool.or_eq_false_iff, Bool.true_and, Bool.and_true, Bool.false_and, Bool.and_false, Bool.or_false, Bool.false_or, Bool.true_or, Bool.or_true, Int.toNat_natCast, VT.eta, not_true, not_false_iff, false_implies, if_true, if_false, Int.toNat_zero, Int.toNat_one, ns0, ns4]
  repeat' (first | apply And.intro | intro _)
  all_goals first | exact Ret.int rfl | exact trivial | (exfalso; omega)
noncomputable def resT (o ta tb : Int) : Int := @ite _ ((ta = 3 ∧ tb ≠ 3) ∨ (ta ≠ 3 ∧ tb = 3)) (Classical.propDecidable _) 0 (Classical.epsilon fun p => Rh w44xS (Ret (.int .i64 p)) (9999, [.int o, .int ta, .int tb]) ∧ rOk p)
theorem res_zero {o ta tb : Int} (h : (ta = 3 ∧ tb ≠ 3) ∨ (ta ≠ 3 ∧ tb = 3)) : resT o ta tb = 0 := by unfold resT; rw [if_pos h]
theorem res_both (o ta tb : Int) : Rh w44xS (Ret (.int .i64 (resT o ta tb))) (9999, [.int o, .int ta, .int tb]) ∧ rOk (resT o ta tb) := by
  by_cases hm : (ta = 3 ∧ tb ≠ 3) ∨ (ta ≠ 3 ∧ tb = 3)
  · rw [res_zero hm]; exact ⟨res_mix hm, .inl rfl⟩
  · unfold resT
    rw [if_neg hm]
    obtain ⟨E, ⟨q, hE, hq⟩, n, hn⟩ := (res_ex (o := o) hm).one
    have : ∃ p : Int, Rh w44xS (Ret (.int .i64 p)) (9999, [.int o, .int ta, .int tb]) ∧ rOk p := ⟨q, ⟨n, FS.imp' (fun E' h => by subst h; exact hE) hn⟩, hq⟩
    exact Classical.epsilon_spec this
theorem res_run (o ta tb : Int) : Rh w44xS (Ret (.int .i64 (resT o ta tb))) (9999, [.int o, .int ta, .int tb]) := (res_both o ta tb).1
def strC (a b : ByteArray) : Int := Extern.BytealgCompare.cmp a b
noncomputable def sp49x : List AV → T AV
  | [.int .i64 o, .agg [.int .i64 x, .int .i64 tx], .agg [.int .i64 y, .int .i64 ty]] => when_ (opOk o ∧ isI x ∧ isI y) (.leaf (.tup [.int .i64 (onN o x tx y ty), .bool (onB o x tx y ty)]))
  | _ => .stuck "sp49x"
noncomputable def sp44x : List AV → T AV
  | [.int .i64 o, .int .i64 ta, .int .i64 tb] => .leaf (.int .i64 (resT o ta tb))
  | _ => .stuck "sp44x"
noncomputable def sp87x : List AV → T AV
  | [.str a, .str b] => .leaf (.int .i64 (strC a b))
  | _ => .stuck "sp87x"

theorem ok44x : Pure1 Try.prog 44 sp44x := by
  intro xs F w cs R ha h
  unfold sp44x at h
  split at h
  · rename_i o ta tb
    exact contract (fn := Try.f44) (walked (PureOk.none _) 14) (by kernel_rfl) w44xC_ok (by rfl) (by rfl) (by rfl) (by rfl) (by rfl) ha (res_run o ta tb) h
  · exact h.elim
theorem okO : PureOk Try.prog (PS.also 94 sp94x (PS.also 72 sp72x (PS.also 90 sp90x PS.none))) := PureOk.also ok94x (PureOk.also ok72x (PureOk.also ok90x (PureOk.none _)))
theorem ok49x : Pure1 Try.prog 49 sp49x := by
  intro xs F w cs R ha h
  unfold sp49x at h
  split at h
  · rename_i o x tx y ty
    obtain ⟨⟨ho, h1, h2⟩, h⟩ := when_inv h
    obtain ⟨o1, o2⟩ := ho
    have hc : o = 0 ∨ o = 1 ∨ o = 2 ∨ o = 3 ∨ o = 4 ∨ o = 5 ∨ o = 6 ∨ o = 7 ∨ o = 8 ∨ o = 9 := by omega
    rcases hc with rfl | rfl | rfl | rfl | rfl | rfl | rfl | rfl | rfl | rfl
    · have e : stepO 0 = w49_0S := rfl
      have r := on_run (o := 0) (tx := tx) (ty := ty) (by rw [e]; exact one_ex0 h1 h2)
      rw [e] at r
      exact contract (fn := Try.f49) (walked okO 14) (by kernel_rfl) w49_0C_ok (by rfl) (by rfl) (by rfl) (by rfl) (by rfl) ha r h
    · have e : stepO 1 = w49_1S := rfl
      have r := on_run (o := 1) (tx := tx) (ty := ty) (by rw [e]; exact one_ex1 h1 h2)
      rw [e] at r
      exact contract (fn := Try.f49) (walked okO 14) (by kernel_rfl) w49_1C_ok (by rfl) (by rfl) (by rfl) (by rfl) (by rfl) ha r h
    · have e : stepO 2 = w49_2S := rfl
      have r := on_run (o := 2) (tx := tx) (ty := ty) (by rw [e]; exact one_ex2 h1 h2)
      rw [e] at r
      exact contract (fn := Try.f49) (walked okO 14) (by kernel_rfl) w49_2C_ok (by rfl) (by rfl) (by rfl) (by rfl) (by rfl) ha r h
    · have e : stepO 3 = w49_3S := rfl
      have r := on_run (o := 3) (tx := tx) (ty := ty) (by rw [e]; exact one_ex3 h1 h2)
      rw [e] at r
      exact contract (fn := Try.f49) (walked okO 14) (by kernel_rfl) w49_3C_ok (by rfl) (by rfl) (by rfl) (by rfl) (by rfl) ha r h
    · have e : stepO 4 = w49_4S := rfl
      have r := on_run (o := 4) (tx := tx) (ty := ty) (by rw [e]; exact one_ex4 h1 h2)
      rw [e] at r
      exact contract (fn := Try.f49) (walked okO 14) (by kernel_rfl) w49_4C_ok (by rfl) (by rfl) (by rfl) (by rfl) (by rfl) ha r h
    · have e : stepO 5 = w49_5S := rfl
      have r := on_run (o := 5) (tx := tx) (ty := ty) (by rw [e]; exact one_ex5 h1 h2)
      rw [e] at r
      exact contract (fn := Try.f49) (walked okO 14) (by kernel_rfl) w49_5C_ok (by rfl) (by rfl) (by rfl) (by rfl) (by rfl) ha r h
    · have e : stepO 6 = w49_6S := rfl
      have r := on_run (o := 6) (tx := tx) (ty := ty) (by rw [e]; exact one_ex6 h1 h2)
      rw [e] at r
      exact contract (fn := Try.f49) (walked okO 14) (by kernel_rfl) w49_6C_ok (by rfl) (by rfl) (by rfl) (by rfl) (by rfl) ha r h
    · have e : stepO 7 = w49_7S := rfl
      have r := on_run (o := 7) (tx := tx) (ty := ty) (by rw [e]; exact one_ex7 h1 h2)
      rw [e] at r
      exact contract (fn := Try.f49) (walked okO 14) (by kernel_rfl) w49_7C_ok (by rfl) (by rfl) (by rfl) (by rfl) (by rfl) ha r h
    · have e : stepO 8 = w49_8S := rfl
      have r := on_run (o := 8) (tx := tx) (ty := ty) (by rw [e]; exact one_ex8 h1 h2)
      rw [e] at r
      exact contract (fn := Try.f49) (walked okO 14) (by kernel_rfl) w49_8C_ok (by rfl) (by rfl) (by rfl) (by rfl) (by rfl) ha r h
    · have e : stepO 9 = w49_9S := rfl
      have r := on_run (o := 9) (tx := tx) (ty := ty) (by rw [e]; exact one_ex9 h1 h2)
      rw [e] at r
      exact contract (fn := Try.f49) (walked okO 14) (by kernel_rfl) w49_9C_ok (by rfl) (by rfl) (by rfl) (by rfl) (by rfl) ha r h
  · exact h.elim
theorem ok87x : Pure1 Try.prog 87 sp87x := by
  intro xs F w cs R ha h
  unfold sp87x at h
  split at h
  · rename_i a b
    obtain ⟨hF, hl, hv⟩ := ha
    have hcs : cs = #[.string a, .string b] := by
      apply Array.ext
      · simpa using hl
      · intro i h1 h2
        match i, h2 with
        | 0, _ =>
          have := hv 0 _ _ (Array.getElem?_eq_getElem h1) rfl
          generalize cs[0] = v at this
          cases this; rfl
        | 1, _ =>
          have := hv 1 _ _ (Array.getElem?_eq_getElem h1) rfl
          generalize cs[1] = v at this
          cases this; rfl
    subst hcs
    have hf : Try.prog.funcs[87]? = some Try.f87 := Try.func87
    have e1 := run_callFunc_extern (P := Try.prog) (f := 87) (e := Extern.BytealgCompare.compare) hf (by rfl) (by rfl) (by rfl) (by rfl) #[.string a, .string b] w
    have e2 : (Extern.BytealgCompare.compare #[.string a, .string b]).run Try.prog w = .ok (.int .i64 (strC a b)) w := rfl
    unfold Goes
    rw [e1, e2]
    exact h _ F w ⟨.int _ _, fun _ h => h, hF, fun _ h => .inl h, fun _ _ => rfl, rfl, rfl, rfl, Nat.le_refl _⟩
  · exact h.elim
end Go.Qv
/- Walks of operations, 5. (Printed.) -/
set_option linter.unusedVariables false
set_option maxRecDepth 100000
namespace Go.Qv
open Go Go.RowKit
noncomputable def w31xC : List Cut := [(⟨9999, ⟨[(0, (.agg [(.int .i64), (.sl (.i .i64)), (.sl .s), (.sl .v)]))], [], 0, 11⟩, [It.code (bodyOf Go.Proofs.Try.f31)], []⟩ : Cut)]
theorem w31xC_ok : cutsOk w31xC = true := by kernel_rfl
noncomputable def w31xS  : Nat × List Lf → T Gt := stepX O.real Go.Qv.tb (inl O.real Go.Qv.tb Go.Qv.fns (pureOrc PS.none) (fun f => false) (fun _ => false) 300 14) Go.Proofs.Try.f31.results ([]) 0 w31xC
theorem w31x_9999  (t0 : Int) (t0_1 : List Int) (t0_2 : List ByteArray) (t0_3 : List VT) (Q : Gt → Prop) : T.ob noB Q (.B (.S .E) (.S .E)) (w31xS  (9999, [Lf.int t0, Lf.is t0_1, Lf.ss t0_2, Lf.vs t0_3])) =
  (((O.real.lt t0 (0 : Int)) = true → Q (.inr ⟨(AV.int IntKind.i64 (O.real.neg IntKind.i64 t0)), [], [], []⟩)) ∧ ((O.real.lt t0 (0 : Int)) = false → Q (.inr ⟨(AV.int IntKind.i64 t0), [], [], []⟩))) := by kernel_rfl

noncomputable def w45xC : List Cut := [(⟨9999, ⟨[(0, (.agg [(.int .i64), (.sl (.i .i64)), (.sl .s), (.sl .v)]))], [], 0, 11⟩, [It.code (bodyOf Go.Proofs.Try.f45)], []⟩ : Cut)]
theorem w45xC_ok : cutsOk w45xC = true := by kernel_rfl
noncomputable def w45xS  : Nat × List Lf → T Gt := stepX O.real Go.Qv.tb (inl O.real Go.Qv.tb Go.Qv.fns (pureOrc PS.none) (fun f => false) (fun _ => false) 300 14) Go.Proofs.Try.f45.results ([]) 0 w45xC
theorem w45x_9999  (t0 : Int) (t0_1 : List Int) (t0_2 : List ByteArray) (t0_3 : List VT) (Q : Gt → Prop) : T.ob noB Q (.D 1 (.S (.D 1 (.S (.D 1 (.S (.S .E))))))) (w45xS  (9999, [Lf.int t0, Lf.is t0_1, Lf.ss t0_2, Lf.vs t0_3])) =
  ((((O.real.lt t0 (0 : Int)) = Bool.true) → True) ∧ ((((O.real.lt t0 (0 : Int)) = Bool.true) → True) ∧ ((((O.real.lt t0 (0 : Int)) = Bool.true) → True) ∧ Q (.inr ⟨(AV.bool (O.real.and (O.real.lt t0 (0 : Int)) (O.real.le (Int.negSucc 4) t0))), [], [], []⟩)))) := by kernel_rfl

noncomputable def w47xC : List Cut := [(⟨9999, ⟨[(0, (.one (.int IntKind.i64))), (1, (.one (.int IntKind.i64)))], [], 0, 28⟩, [It.code (bodyOf Go.Proofs.Try.f47)], []⟩ : Cut)]
theorem w47xC_ok : cutsOk w47xC = true := by kernel_rfl
noncomputable def w47xS  : Nat × List Lf → T Gt := stepX O.real Go.Qv.tb (inl O.real Go.Qv.tb Go.Qv.fns (pureOrc PS.none) (fun f => false) (fun _ => false) 300 14) Go.Proofs.Try.f47.results ([]) 0 w47xC
theorem w47x_9999  (t0 : Int) (t1 : Int) (Q : Gt → Prop) : T.ob noB Q (.D 1 (.S (.D 1 (.S (.D 1 (.S (.D 1 (.S (.D 1 (.S (.D 1 (.S (.D 1 (.S (.D 1 (.S (.D 1 (.S (.D 1 (.S (.D 1 (.S (.D 1 (.S (.D 1 (.S (.D 1 (.S (.S (.S (.S .E))))))))))))))))))))))))))))))) (w47xS  (9999, [Lf.int t0, Lf.int t1])) =
  ((((O.real.eq t0 (7 : Int)) = Bool.true) → True) ∧ ((((O.real.eq t0 (7 : Int)) = Bool.true) → True) ∧ ((((O.real.and (O.real.eq t0 (7 : Int)) (O.real.eq t1 (0 : Int))) = Bool.false) → True) ∧ ((((O.real.and (O.real.eq t0 (7 : Int)) (O.real.eq t1 (0 : Int))) = Bool.false) → True) ∧ ((((O.real.and (O.real.eq t0 (7 : Int)) (O.real.eq t1 (0 : Int))) = Bool.false) → True) ∧ ((((O.real.eq t0 (8 : Int)) = Bool.true) → (((O.real.and (O.real.eq t0 (7 : Int)) (O.real.eq t1 (0 : Int))) = Bool.false) → True)) ∧ ((((O.real.eq t0 (8 : Int)) = Bool.true) → (((O.real.and (O.real.eq t0 (7 : Int)) (O.real.eq t1 (0 : Int))) = Bool.false) → True)) ∧ ((((O.real.and (O.real.eq t0 (7 : Int)) (O.real.eq t1 (0 : Int))) = Bool.false) → True) ∧ ((((O.real.or (O.real.and (O.real.eq t0 (7 : Int)) (O.real.eq t1 (0 : Int))) (O.real.and (O.real.eq t0 (8 : Int)) (O.real.lt t1 (0 : Int)))) = Bool.false) → True) ∧ ((((O.real.or (O.real.and (O.real.eq t0 (7 : Int)) (O.real.eq t1 (0 : Int))) (O.real.and (O.real.eq t0 (8 : Int)) (O.real.lt t1 (0 : Int)))) = Bool.false) → True) ∧ ((((O.real.or (O.real.and (O.real.eq t0 (7 : Int)) (O.real.eq t1 (0 : Int))) (O.real.and (O.real.eq t0 (8 : Int)) (O.real.lt t1 (0 : Int)))) = Bool.false) → True) ∧ ((((O.real.eq t0 (9 : Int)) = Bool.true) → (((O.real.or (O.real.and (O.real.eq t0 (7 : Int)) (O.real.eq t1 (0 : Int))) (O.real.and (O.real.eq t0 (8 : Int)) (O.real.lt t1 (0 : Int)))) = Bool.false) → True)) ∧ ((((O.real.eq t0 (9 : Int)) = Bool.true) → (((O.real.or (O.real.and (O.real.eq t0 (7 : Int)) (O.real.eq t1 (0 : Int))) (O.real.and (O.real.eq t0 (8 : Int)) (O.real.lt t1 (0 : Int)))) = Bool.false) → True)) ∧ ((((O.real.or (O.real.and (O.real.eq t0 (7 : Int)) (O.real.eq t1 (0 : Int))) (O.real.and (O.real.eq t0 (8 : Int)) (O.real.lt t1 (0 : Int)))) = Bool.false) → True) ∧ ((((O.real.or (O.real.or (O.real.and (O.real.eq t0 (7 : Int)) (O.real.eq t1 (0 : Int))) (O.real.and (O.real.eq t0 (8 : Int)) (O.real.lt t1 (0 : Int)))) (O.real.and (O.real.eq t0 (9 : Int)) (O.real.lt (0 : Int) t1))) = Bool.true) → True) ∧ ((((O.real.or (O.real.or (O.real.and (O.real.eq t0 (7 : Int)) (O.real.eq t1 (0 : Int))) (O.real.and (O.real.eq t0 (8 : Int)) (O.real.lt t1 (0 : Int)))) (O.real.and (O.real.eq t0 (9 : Int)) (O.real.lt (0 : Int) t1))) = Bool.false) → True) ∧ Q (.inr ⟨(AV.int IntKind.i64 (O.real.isel (O.real.or (O.real.or (O.real.and (O.real.eq t0 (7 : Int)) (O.real.eq t1 (0 : Int))) (O.real.and (O.real.eq t0 (8 : Int)) (O.real.lt t1 (0 : Int)))) (O.real.and (O.real.eq t0 (9 : Int)) (O.real.lt (0 : Int) t1))) (1 : Int) (0 : Int))), [], [], []⟩))))))))))))))))) := by kernel_rfl

noncomputable def w50xC : List Cut := [(⟨9999, ⟨[(0, (.one (.int IntKind.i64)))], [], 0, 6⟩, [It.code (bodyOf Go.Proofs.Try.f50)], []⟩ : Cut)]
theorem w50xC_ok : cutsOk w50xC = true := by kernel_rfl
noncomputable def w50xS  : Nat × List Lf → T Gt := stepX O.real Go.Qv.tb (inl O.real Go.Qv.tb Go.Qv.fns (pureOrc PS.none) (fun f => false) (fun _ => false) 300 14) Go.Proofs.Try.f50.results ([]) 0 w50xC
theorem w50x_9999  (t0 : Int) (Q : Gt → Prop) : T.ob noB Q (.B (.S .E) (.S .E)) (w50xS  (9999, [Lf.int t0])) =
  (((O.real.eq t0 (1 : Int)) = true → Q (.inr ⟨(AV.int IntKind.i64 (2 : Int)), [], [], []⟩)) ∧ ((O.real.eq t0 (1 : Int)) = false → Q (.inr ⟨(AV.int IntKind.i64 t0), [], [], []⟩))) := by kernel_rfl

noncomputable def w46xC : List Cut := [(⟨9999, ⟨[(0, (.agg [(.int .i64), (.sl (.i .i64)), (.sl .s), (.sl .v)])), (1, (.one (.int IntKind.i64)))], [], 0, 8⟩, [It.code (bodyOf Go.Proofs.Try.f46)], []⟩ : Cut)]
theorem w46xC_ok : cutsOk w46xC = true := by kernel_rfl
noncomputable def w46xS  : Nat × List Lf → T Gt := stepX O.real Go.Qv.tb (inl O.real Go.Qv.tb Go.Qv.fns (pureOrc PS.none) (fun f => false) (fun _ => false) 300 14) Go.Proofs.Try.f46.results ([]) 0 w46xC
theorem w46x_9999  (t0 : Int) (t0_1 : List Int) (t0_2 : List ByteArray) (t0_3 : List VT) (t1 : Int) (Q : Gt → Prop) : T.ob noB Q (.D 1 (.S (.D 1 (.S (.D 1 (.S (.B (.S .E) (.S .E)))))))) (w46xS  (9999, [Lf.int t0, Lf.is t0_1, Lf.ss t0_2, Lf.vs t0_3, Lf.int t1])) =
  ((((O.real.lt t0 (0 : Int)) = Bool.true) → True) ∧ ((((O.real.lt t0 (0 : Int)) = Bool.true) → True) ∧ ((((O.real.lt t0 (0 : Int)) = Bool.true) → True) ∧ (((O.real.and (O.real.lt t0 (0 : Int)) (O.real.le (Int.negSucc 4) t0)) = true → Q (.inr ⟨(AV.int IntKind.i64 (0 : Int)), [], [], []⟩)) ∧ ((O.real.and (O.real.lt t0 (0 : Int)) (O.real.le (Int.negSucc 4) t0)) = false → Q (.inr ⟨(AV.int IntKind.i64 t1), [], [], []⟩)))))) := by kernel_rfl

noncomputable def w30xC : List Cut := [(⟨9999, ⟨[(0, (.agg [(.int .i64), (.sl (.i .i64)), (.sl .s), (.sl .v)]))], [], 0, 21⟩, [It.code (bodyOf Go.Proofs.Try.f30)], []⟩ : Cut)]
theorem w30xC_ok : cutsOk w30xC = true := by kernel_rfl
noncomputable def w30xS  : Nat × List Lf → T Gt := stepX O.real Go.Qv.tb (inl O.real Go.Qv.tb Go.Qv.fns (pureOrc PS.none) (fun f => false) (fun _ => false) 300 14) Go.Proofs.Try.f30.results ([]) 0 w30xC
theorem w30x_9999  (t0 : Int) (t0_1 : List Int) (t0_2 : List ByteArray) (t0_3 : List VT) (Q : Gt → Prop) : T.ob noB Q (.S (.S (.D 1 (.S (.D 1 (.S (.D 1 (.S (.D 1 (.S (.D 1 (.S (.D 1 (.S (.D 1 (.S (.D 1 (.S (.D 1 (.S (.S .E))))))))))))))))))))) (w30xS  (9999, [Lf.int t0, Lf.is t0_1, Lf.ss t0_2, Lf.vs t0_3])) =
  ((((O.real.lt t0 (0 : Int)) = Bool.true) → True) ∧ ((((O.real.lt t0 (0 : Int)) = Bool.false) → True) ∧ ((((O.real.le (1 : Int) (O.real.isel (O.real.lt t0 (0 : Int)) (O.real.neg IntKind.i64 t0) t0)) = Bool.true) → True) ∧ ((((O.real.le (1 : Int) (O.real.isel (O.real.lt t0 (0 : Int)) (O.real.neg IntKind.i64 t0) t0)) = Bool.true) → True) ∧ ((((O.real.and (O.real.le (1 : Int) (O.real.isel (O.real.lt t0 (0 : Int)) (O.real.neg IntKind.i64 t0) t0)) (O.real.le (O.real.isel (O.real.lt t0 (0 : Int)) (O.real.neg IntKind.i64 t0) t0) (5 : Int))) = Bool.true) → True) ∧ ((((O.real.and (O.real.le (1 : Int) (O.real.isel (O.real.lt t0 (0 : Int)) (O.real.neg IntKind.i64 t0) t0)) (O.real.le (O.real.isel (O.real.lt t0 (0 : Int)) (O.real.neg IntKind.i64 t0) t0) (5 : Int))) = Bool.true) → True) ∧ ((((O.real.and (O.real.le (1 : Int) (O.real.isel (O.real.lt t0 (0 : Int)) (O.real.neg IntKind.i64 t0) t0)) (O.real.le (O.real.isel (O.real.lt t0 (0 : Int)) (O.real.neg IntKind.i64 t0) t0) (5 : Int))) = Bool.true) → True) ∧ ((((O.real.and (O.real.le (1 : Int) (O.real.isel (O.real.lt t0 (0 : Int)) (O.real.neg IntKind.i64 t0) t0)) (O.real.le (O.real.isel (O.real.lt t0 (0 : Int)) (O.real.neg IntKind.i64 t0) t0) (5 : Int))) = Bool.true) → True) ∧ ((((O.real.lt (0 : Int) t0) = Bool.false) → (((O.real.and (O.real.le (1 : Int) (O.real.isel (O.real.lt t0 (0 : Int)) (O.real.neg IntKind.i64 t0) t0)) (O.real.le (O.real.isel (O.real.lt t0 (0 : Int)) (O.real.neg IntKind.i64 t0) t0) (5 : Int))) = Bool.true) → True)) ∧ ((((O.real.lt (0 : Int) t0) = Bool.false) → (((O.real.and (O.real.le (1 : Int) (O.real.isel (O.real.lt t0 (0 : Int)) (O.real.neg IntKind.i64 t0) t0)) (O.real.le (O.real.isel (O.real.lt t0 (0 : Int)) (O.real.neg IntKind.i64 t0) t0) (5 : Int))) = Bool.true) → ((Bool.true = Bool.true) ∧ ((((O.real.lt t0 (0 : Int)) = Bool.true) → True) ∧ ((Bool.true = Bool.true) ∧ ((((O.real.lt t0 (0 : Int)) = Bool.true) → True) ∧ ((Bool.true = Bool.true) ∧ ((((O.real.lt t0 (0 : Int)) = Bool.true) → True) ∧ True)))))))) ∧ ((((O.real.and (O.real.le (1 : Int) (O.real.isel (O.real.lt t0 (0 : Int)) (O.real.neg IntKind.i64 t0) t0)) (O.real.le (O.real.isel (O.real.lt t0 (0 : Int)) (O.real.neg IntKind.i64 t0) t0) (5 : Int))) = Bool.true) → True) ∧ Q (.inr ⟨(AV.bool (O.real.and (O.real.and (O.real.le (1 : Int) (O.real.isel (O.real.lt t0 (0 : Int)) (O.real.neg IntKind.i64 t0) t0)) (O.real.le (O.real.isel (O.real.lt t0 (0 : Int)) (O.real.neg IntKind.i64 t0) t0) (5 : Int))) (O.real.or (O.real.lt (0 : Int) t0) (O.real.and (O.real.lt t0 (0 : Int)) (O.real.le (Int.negSucc 4) t0))))), [], [], []⟩)))))))))))) := by kernel_rfl

noncomputable def w51xC : List Cut := [(⟨9999, ⟨[(0, (.agg [(.int .i64), (.sl (.i .i64)), (.sl .s), (.sl .v)])), (1, (.one .bool))], [], 0, 11⟩, [It.code (bodyOf Go.Proofs.Try.f51)], []⟩ : Cut)]
theorem w51xC_ok : cutsOk w51xC = true := by kernel_rfl
noncomputable def w51xS  : Nat × List Lf → T Gt := stepX O.real Go.Qv.tb (inl O.real Go.Qv.tb Go.Qv.fns (pureOrc PS.none) (fun f => false) (fun _ => false) 300 14) Go.Proofs.Try.f51.results ([]) 0 w51xC
theorem w51x_9999  (t0 : Int) (t0_1 : List Int) (t0_2 : List ByteArray) (t0_3 : List VT) (t1 : Bool) (Q : Gt → Prop) : T.ob noB Q (.B (.S .E) (.S .E)) (w51xS  (9999, [Lf.int t0, Lf.is t0_1, Lf.ss t0_2, Lf.vs t0_3, Lf.bool t1])) =
  ((t1 = true → Q (.inr ⟨(AV.agg [(AV.int IntKind.i64 (O.real.neg IntKind.i64 t0)), (AV.sl (LS.i IntKind.i64 t0_1)), (AV.sl (LS.s t0_2)), (AV.sl (LS.v t0_3))]), [], [], []⟩)) ∧ (t1 = false → Q (.inr ⟨(AV.agg [(AV.int IntKind.i64 t0), (AV.sl (LS.i IntKind.i64 t0_1)), (AV.sl (LS.s t0_2)), (AV.sl (LS.v t0_3))]), [], [], []⟩))) := by kernel_rfl
end Go.Qv
