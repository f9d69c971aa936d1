/- A quotient, and a rest, of two ints. No condition. -/
import Derived.Test.YteaeogofidakiaaQRc
set_option linter.unusedVariables false
set_option linter.unusedSimpArgs false
set_option maxRecDepth 100000
namespace Go.Qv
open Go Go.RowKit Go.Proofs
theorem absU_u {a : Int} (h : isI a) : isU (absU a) := by unfold isI at h; unfold isU absU; split <;> omega
theorem absU_one : absU 1 = 1 := by decide
theorem neg_lt (a b : Bool) : (!(a == b)) = xor a b := by cases a <;> cases b <;> rfl
theorem fdiv_abs {a d : Int} (hd : d ≠ 0) : Int.fdiv a d = if decide (a < 0) = decide (d < 0) then absU a / absU d else if absU a % absU d = 0 then -(absU a / absU d) else -(absU a / absU d + 1) := by
  unfold absU
  by_cases ha : a < 0
  · by_cases hb : d < 0
    · simp only [ha, hb, if_true]
      have := Int.neg_fdiv_neg a d
      rw [← this, Int.fdiv_eq_ediv_of_nonneg _ (by omega)]
    · simp only [ha, hb, if_true, if_false, decide_true, decide_false]
      rw [Int.fdiv_eq_ediv_of_nonneg _ (by omega), if_neg (by simp)]
      obtain ⟨m, rfl⟩ : ∃ m, a = -m := ⟨-a, by omega⟩
      rw [Int.neg_neg]
      have e1 := Int.emod_add_mul_ediv m d
      have e2 := Int.emod_nonneg m hd
      have e3 := Int.emod_lt_of_pos m (show 0 < d by omega)
      split
      · rename_i h0
        rw [Int.neg_ediv_of_dvd (Int.dvd_of_emod_eq_zero h0)]
      · rename_i h0
        have : -m = (d - m % d) + d * (-(m / d + 1)) := by rw [Int.mul_neg, Int.mul_add, Int.mul_one]; omega
        rw [this, Int.add_mul_ediv_left _ _ hd, Int.ediv_eq_zero_of_lt (by omega) (by omega)]; omega
  · by_cases hb : d < 0
    · simp only [ha, hb, if_true, if_false, decide_true, decide_false]
      rw [if_neg (by simp)]
      obtain ⟨e, rfl⟩ : ∃ e, d = -e := ⟨-d, by omega⟩
      rw [Int.neg_neg]
      have e0 : a.fdiv (-e) = (-a).fdiv e := by
        have := Int.neg_fdiv_neg (-a) e
        rw [Int.neg_neg] at this; exact this
      rw [e0, Int.fdiv_eq_ediv_of_nonneg _ (by omega)]
      have e1 := Int.emod_add_mul_ediv a e
      have e2 := Int.emod_nonneg a (show e ≠ 0 by omega)
      have e3 := Int.emod_lt_of_pos a (show 0 < e by omega)
      split
      · rename_i h0
        rw [Int.neg_ediv_of_dvd (Int.dvd_of_emod_eq_zero h0)]
      · rename_i h0
        have : -a = (e - a % e) + e * (-(a / e + 1)) := by rw [Int.mul_neg, Int.mul_add, Int.mul_one]; omega
        rw [this, Int.add_mul_ediv_left _ _ (by omega), Int.ediv_eq_zero_of_lt (by omega) (by omega)]; omega
    · simp only [ha, hb, if_true, if_false]
      rw [Int.fdiv_eq_ediv_of_nonneg _ (by omega)]
theorem ok94 : Pure1 Try.prog 94 sp94 := by
  intro xs F w cs R ha h
  unfold sp94 at h
  split at h
  · rename_i a b d
    obtain ⟨⟨h1, hb, h2, h3, h4⟩, h⟩ := h
    subst hb
    suffices hr : Rh w94S (Ret (.tup [.int .i64 (qfl a d), .bool true])) (9999, [.int a, .int 1, .int d]) from contract (fn := Try.f94) (walked (PureOk.also ok105 (PureOk.also ok106 (PureOk.also ok107 (PureOk.none _)))) 14) (by kernel_rfl) w94C_ok (by rfl) (by rfl) (by rfl) (by rfl) (by rfl) ha hr h
    refine Rh.go (w94_9999 a 1 d _) ?_
    have hA := absU_u h1
    have hD := absU_u h2
    have hA' : absU a ≤ 9223372036854775807 := by unfold isI at h1; unfold absU; split <;> omega
    have hD0 : 0 < absU d := by unfold absU; split <;> omega
    have e1 : mulHi (absU a) 1 = 0 := by unfold mulHi; unfold isU at hA; rw [Int.mul_one]; omega
    have e2 : mulLo (absU a) 1 = absU a := by unfold mulLo; unfold isU at hA; rw [Int.mul_one]; omega
    have f := fdiv_abs (a := a) h4
    have q0 : 0 ≤ absU a / absU d := Int.ediv_nonneg hA.1 (by omega)
    have q1 : absU a / absU d ≤ absU a := Int.ediv_le_self _ hA.1
    have q2 : absU a % absU d ≠ 0 → absU a / absU d + 1 ≤ 4611686018427387904 := fun hz => by
      have hd2 : 2 ≤ absU d := by
        by_cases h : absU d = 1
        · rw [h, Int.emod_one] at hz; exact absurd rfl hz
        · omega
      have k1 := Int.emod_add_mul_ediv (absU a) (absU d)
      have k2 := Int.emod_nonneg (absU a) (show absU d ≠ 0 by omega)
      have k3 : 2 * (absU a / absU d) ≤ absU d * (absU a / absU d) := Int.mul_le_mul_of_nonneg_right hd2 q0
      omega
    simp only [o_add, o_sub, o_mul, o_neg, o_conv, o_lt, o_le, o_eq, o_not, o_and, o_or, o_sel, o_isel, o_ssel, o_beq, o_seq, o_slt, o_slen, o_sat, o_scut, o_sadd, o_ilen, o_blen, o_vlen, o_rlen, o_iget, o_bget, o_vget, o_rget, o_iset, o_bset, o_vset, o_iapp, o_bapp, o_vapp, o_rapp, o_icut, o_bcut, o_vcut, o_irep, o_vt, o_vn, o_vs, o_vl, o_imax, o_imin, o_inb, o_sfit, o_cutb, o_fit, o_mkfit, RhQ, decT, decF, true_and, and_true, eq_self, implies_true, forall_const, Bool.not_eq_true', Bool.not_eq_false', Bool.not_true, Bool.not_false, Bool.and_eq_true, Bool.or_eq_true, Bool.and_eq_false_iff, Bool.or_eq_false_iff, Bool.true_and, Bool.and_true, Bool.false_and, Bool.and_false, Bool.or_false, Bool.false_or, Bool.true_or, Bool.or_true, Int.toNat_natCast, VT.eta, not_true, not_false_iff, false_implies, if_true, if_false, Int.toNat_zero, Int.toNat_one, ns0, ns4, absU_one, e1, e2, neg_lt]
    refine ⟨h1, ⟨by decide, by decide⟩, ⟨hA, ⟨by decide, by decide⟩⟩, h2, fun h => by omega, fun _ => ⟨⟨hA, hD, fun h => by omega⟩, ?_⟩⟩
    unfold uquo urem qfl
    generalize absU a / absU d = q at *
    generalize absU a % absU d = m at *
    have w1 : m ≠ 0 → IntKind.u64.wrap (q + 1) = q + 1 := fun h => wu (by omega) (by have := q2 h; omega)
    by_cases hs : decide (a < 0) = decide (d < 0)
    · rw [if_pos hs] at f
      have e : (decide (a < 0) ^^ decide ((1 : Int) < 0) ^^ decide (d < 0)) = false := by rw [hs]; cases decide (d < 0) <;> rfl
      rw [e, f]
      refine ⟨fun h => by simp at h, fun _ => ⟨fun h => by omega, fun _ => ⟨fun h => by simp at h, fun _ => Ret.tb ?_ rfl⟩⟩⟩
      rw [w64] <;> omega
    · rw [if_neg hs] at f
      have e : (decide (a < 0) ^^ decide ((1 : Int) < 0) ^^ decide (d < 0)) = true := by
        have h0 : decide ((1 : Int) < 0) = false := rfl
        rw [h0]; revert hs; cases decide (a < 0) <;> cases decide (d < 0) <;> simp
      rw [e, f]
      refine ⟨fun h => ⟨fun hh => ?_, fun _ => ⟨fun _ => Ret.tb ?_ rfl, fun h => by simp at h⟩⟩, fun h => ⟨fun hh => by omega, fun _ => ⟨fun _ => Ret.tb ?_ rfl, fun h => by simp at h⟩⟩⟩
      · rw [w1 h.2] at hh; have := q2 h.2; omega
      · have := q2 h.2
        rw [if_neg h.2, w1 h.2, w64 (a := q + 1) (by omega) (by omega), w64] <;> omega
      · have hm : m = 0 := by rcases h with h | h; cases h; exact h
        rw [if_pos hm, w64 (a := q) (by omega) (by omega), w64] <;> omega
  · exact h.elim
theorem nul : Int.negSucc 9223372036854775807 = -9223372036854775808 := rfl
theorem okNo {f : FuncId} : Pure1 Try.prog f spNo := by
  intro xs F w cs R ha h
  exact h.elim
theorem rest_eq {x y : Int} (hy : y ≠ 0) : (if ¬x.tmod y = 0 ∧ (decide (x.tmod y < 0) == decide (y < 0)) = false then x.tmod y + y else x.tmod y) = x.fmod y := by
  rw [Int.tmod_eq_emod, Int.fmod_eq_emod]
  simp only [Int.dvd_iff_emod_eq_zero, beq_eq_false_iff_ne, ne_eq, decide_eq_decide]
  have h1 := Int.emod_nonneg x hy
  have h2 := Int.emod_lt x hy
  generalize x % y = e at *
  by_cases hx : 0 ≤ x ∨ e = 0
  · rw [if_pos hx]
    by_cases hz : 0 ≤ y ∨ e = 0
    · rw [if_pos hz, if_neg (by omega)]; omega
    · rw [if_neg hz, if_pos (by omega)]; omega
  · rw [if_neg hx]
    by_cases hz : 0 ≤ y ∨ e = 0
    · rw [if_pos hz, if_pos (by omega)]; omega
    · rw [if_neg hz, if_neg (by omega)]; omega
theorem rest_small {x y : Int} (hy : isI y) (h0 : y ≠ 0) (hx : isI x) : isI (x.tmod y) ∧ (¬x.tmod y = 0 ∧ (decide (x.tmod y < 0) == decide (y < 0)) = false → isI (x.tmod y + y)) := by
  rw [Int.tmod_eq_emod]
  simp only [beq_eq_false_iff_ne, ne_eq, decide_eq_decide]
  have h1 := Int.emod_nonneg x h0
  have h2 := Int.emod_lt x h0
  unfold isI at *
  generalize x % y = e at *
  split <;> omega
theorem ok49 : Pure1 Try.prog 49 sp49 := by
  intro xs F w cs R ha h
  unfold sp49 at h
  split at h
  · rename_i o x tx y ty
    obtain ⟨⟨ho, h1, h2, rfl, rfl⟩, h⟩ := h
    have n3 : Int.NonNeg 3 := .mk 3
    have n4 : Int.NonNeg 4 := .mk 4
    have n2 : Int.NonNeg 2 := .mk 2
    rcases ho with rfl | rfl
    · suffices hr : Rh w49aS (Ret (.tup [.int .i64 (oneQ 3 x y), .bool true])) (9999, [.int x, .int 2, .int y, .int 2]) from contract (fn := Try.f49) (walked (PureOk.also ok94 (PureOk.also okNo (PureOk.none _))) 14) (by kernel_rfl) w49aC_ok (by rfl) (by rfl) (by rfl) (by rfl) (by rfl) ha hr h
      refine Rh.go (w49a_9999 x 2 y 2 _) ?_
      simp only [o_add, o_sub, o_mul, o_neg, o_conv, o_lt, o_le, o_eq, o_not, o_and, o_or, o_sel, o_isel, o_ssel, o_beq, o_seq, o_slt, o_slen, o_sat, o_scut, o_sadd, o_ilen, o_blen, o_vlen, o_rlen, o_iget, o_bget, o_vget, o_rget, o_iset, o_bset, o_vset, o_iapp, o_bapp, o_vapp, o_rapp, o_icut, o_bcut, o_vcut, o_irep, o_vt, o_vn, o_vs, o_vl, o_imax, o_imin, o_inb, o_sfit, o_cutb, o_fit, o_mkfit, RhQ, decT, decF, true_and, and_true, eq_self, implies_true, forall_const, Bool.not_eq_true', Bool.not_eq_false', Bool.not_true, Bool.not_false, Bool.and_eq_true, Bool.or_eq_true, Bool.and_eq_false_iff, Bool.or_eq_false_iff, Bool.true_and, Bool.and_true, Bool.false_and, Bool.and_false, Bool.or_false, Bool.false_or, Bool.true_or, Bool.or_true, Int.toNat_natCast, VT.eta, not_true, not_false_iff, false_implies, if_true, if_false, Int.toNat_zero, Int.toNat_one, ns0, ns4, nul]
      refine ⟨fun h => Ret.tb ?_ rfl, fun hn => ⟨fun hy => Ret.tb ?_ rfl, fun hy => ⟨⟨⟨n3, n3⟩, fun h => by omega, fun _ => ⟨h1, h2, fun h => hn.1 h, hy⟩⟩, Ret.tb ?_ (by split <;> rfl)⟩⟩⟩
      · unfold oneQ; rw [if_pos (by omega)]
      · unfold oneQ; rw [if_pos (by omega)]
      · unfold oneQ qfl; rw [if_neg (by omega), if_pos rfl, if_neg (by omega)]
    · suffices hr : Rh w49bS (Ret (.tup [.int .i64 (oneQ 4 x y), .bool true])) (9999, [.int x, .int 2, .int y, .int 2]) from contract (fn := Try.f49) (walked (PureOk.also ok94 (PureOk.also okNo (PureOk.none _))) 14) (by kernel_rfl) w49bC_ok (by rfl) (by rfl) (by rfl) (by rfl) (by rfl) ha hr h
      refine Rh.go (w49b_9999 x 2 y 2 _) ?_
      simp only [o_add, o_sub, o_mul, o_neg, o_conv, o_lt, o_le, o_eq, o_not, o_and, o_or, o_sel, o_isel, o_ssel, o_beq, o_seq, o_slt, o_slen, o_sat, o_scut, o_sadd, o_ilen, o_blen, o_vlen, o_rlen, o_iget, o_bget, o_vget, o_rget, o_iset, o_bset, o_vset, o_iapp, o_bapp, o_vapp, o_rapp, o_icut, o_bcut, o_vcut, o_irep, o_vt, o_vn, o_vs, o_vl, o_imax, o_imin, o_inb, o_sfit, o_cutb, o_fit, o_mkfit, RhQ, decT, decF, true_and, and_true, eq_self, implies_true, forall_const, Bool.not_eq_true', Bool.not_eq_false', Bool.not_true, Bool.not_false, Bool.and_eq_true, Bool.or_eq_true, Bool.and_eq_false_iff, Bool.or_eq_false_iff, Bool.true_and, Bool.and_true, Bool.false_and, Bool.and_false, Bool.or_false, Bool.false_or, Bool.true_or, Bool.or_true, Int.toNat_natCast, VT.eta, not_true, not_false_iff, false_implies, if_true, if_false, Int.toNat_zero, Int.toNat_one, ns0, ns4, o_nz, o_rem, nul]
      refine ⟨fun h => Ret.tb ?_ rfl, fun hn => ⟨fun hy => Ret.tb ?_ rfl, fun hy => ⟨⟨⟨n4, n2⟩, hy⟩, Ret.tb ?_ rfl⟩⟩⟩
      · unfold oneQ; rw [if_pos (by omega)]
      · unfold oneQ; rw [if_pos (by omega)]
      · unfold oneQ; rw [if_neg (by omega), if_neg (by omega), ← rest_eq hy]
        have k := rest_small h2 hy h1
        split
        · rename_i hc
          exact (wI (k.2 hc)).symm
        · rfl
  · exact h.elim
end Go.Qv
