/- quiverlaw07.VecRounds: the law on two ints. No condition. -/
import Derived.Test.YteaeogofidakiaaQRg
set_option linter.unusedVariables false
set_option linter.unusedSimpArgs false
set_option maxRecDepth 100000
namespace Go.Qv
open Go Go.RowKit Go.Proofs
theorem hd1 (a : Int) : hdI [a] = a := rfl
theorem on1 (a : Int) : one1 [a] := rfl
theorem rounds (a b : Int) (ha : isI a) (hb : isI b) : Rh w5S IsTrue (9999, [.int a, .int b]) := by
  refine Rh.go (w5_9999 a b _) ?_
  simp only [o_add, o_sub, o_mul, o_neg, o_conv, o_lt, o_le, o_eq, o_not, o_and, o_or, o_sel, o_isel, o_ssel, o_beq, o_seq, o_slt, o_slen, o_sat, o_scut, o_sadd, o_ilen, o_blen, o_vlen, o_rlen, o_iget, o_bget, o_vget, o_rget, o_iset, o_bset, o_vset, o_iapp, o_bapp, o_vapp, o_rapp, o_icut, o_bcut, o_vcut, o_irep, o_vt, o_vn, o_vs, o_vl, o_imax, o_imin, o_inb, o_sfit, o_cutb, o_fit, o_mkfit, RhQ, decT, decF, true_and, and_true, eq_self, implies_true, forall_const, Bool.not_eq_true', Bool.not_eq_false', Bool.not_true, Bool.not_false, Bool.and_eq_true, Bool.or_eq_true, Bool.and_eq_false_iff, Bool.or_eq_false_iff, Bool.true_and, Bool.and_true, Bool.false_and, Bool.and_false, Bool.or_false, Bool.false_or, Bool.true_or, Bool.or_true, Int.toNat_natCast, VT.eta, not_true, not_false_iff, false_implies, if_true, if_false, Int.toNat_zero, Int.toNat_one, ns0, ns4, hd1, nul, on1, List.length_singleton]
  have g3 : [oneQ 3 a b].getD 0 0 = oneQ 3 a b := rfl
  have g4 : [oneQ 4 a b].getD 0 0 = oneQ 4 a b := rfl
  rw [g3, g4]
  refine ⟨fun h => ⟨⟨.inl trivial, ha, hb⟩, ⟨by decide, by decide⟩, IsTrue.of ?_⟩, fun h => ⟨⟨.inl trivial, ha, hb⟩, ⟨.inr trivial, ha, hb⟩, fun h => by omega, fun _ => ⟨⟨by decide, by decide⟩, ⟨by decide, by decide⟩, IsTrue.of ?_⟩⟩⟩
  · unfold oneQ; rw [if_pos (by omega)]; rfl
  · have e3 : oneQ 3 a b = a.fdiv b := by unfold oneQ; rw [if_neg (by omega), if_pos rfl]
    have e4 : oneQ 4 a b = a.fmod b := by unfold oneQ; rw [if_neg (by omega), if_neg (by omega)]
    rw [e3, e4]
    have k0 := Int.fmod_def a b
    have k : a.fdiv b * b + a.fmod b = a := by rw [Int.mul_comm]; omega
    have k1 : 0 < b → 0 ≤ a.fmod b ∧ a.fmod b < b := fun h0 => ⟨Int.fmod_nonneg_of_pos a h0, Int.fmod_lt_of_pos a h0⟩
    have k2 : b < 0 → a.fmod b ≤ 0 ∧ b < a.fmod b := fun h0 => by
      rw [Int.fmod_eq_emod]
      simp only [Int.dvd_iff_emod_eq_zero]
      have h1 := Int.emod_nonneg a h.2
      have h2 := Int.emod_lt a h.2
      generalize a % b = e at *
      split <;> omega
    unfold isI at ha hb
    clear k0 e3 e4 g3 g4
    generalize a.fmod b = r at *
    generalize a.fdiv b * b = x at *
    have e : IntKind.i64.wrap (IntKind.i64.wrap x + r) = a := by rw [IntKind.wrap_i64, IntKind.wrap_i64]; omega
    rw [e]
    simp only [Bool.and_eq_true, Bool.or_eq_true, decide_eq_true_eq, decT]
    exact ⟨trivial, by omega⟩
end Go.Qv
