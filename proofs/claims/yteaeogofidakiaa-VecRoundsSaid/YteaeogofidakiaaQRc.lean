/- Products and quotients: the functions answer so. No condition. -/
import Derived.Test.YteaeogofidakiaaQRb
import Derived.Laws.Bits64
set_option linter.unusedVariables false
set_option linter.unusedSimpArgs false
set_option maxRecDepth 100000
namespace Go.Qv
open Go Go.RowKit Go.Proofs
theorem wu {a : Int} (h1 : 0 ≤ a) (h2 : a < 18446744073709551616) : IntKind.u64.wrap a = a := by rw [IntKind.wrap_u64]; omega
theorem wI {a : Int} (h : isI a) : IntKind.i64.wrap a = a := by unfold isI at h; rw [w64] <;> omega
theorem Ret.two {k k' : IntKind} {a b a' b' : Int} (h : a = a') (h' : b = b') : Ret (.tup [.int k a, .int k' b]) ⟨.tup [.int k a', .int k' b'], [], [], []⟩ := by subst h; subst h'; rfl
theorem Ret.tb {k : IntKind} {a a' : Int} {b b' : Bool} (h : a = a') (h' : b = b') : Ret (.tup [.int k a, .bool b]) ⟨.tup [.int k a', .bool b'], [], [], []⟩ := by subst h; subst h'; rfl
theorem w0 {kn md : FuncId → Bool} : OrcOk Try.prog (inl O.real tb fns (pureOrc PS.none) kn md 300 14) (fun _ => True) := walked (PureOk.none _) 14
theorem ok106 : Pure1 Try.prog 106 sp106 := by
  intro xs F w cs R ha h
  unfold sp106 at h
  split at h
  · rename_i n
    obtain ⟨hn, h⟩ := h
    suffices hr : Rh w106S (Ret (.int .u64 (absU n))) (9999, [.int n]) from contract (fn := Try.f106) w0 (by kernel_rfl) w106C_ok (by rfl) (by rfl) (by rfl) (by rfl) (by rfl) ha hr h
    refine Rh.go (w106_9999 n _) ?_
    have hn : isI n := hn
    unfold isI at hn
    simp only [o_add, o_sub, o_mul, o_neg, o_conv, o_lt, o_le, o_eq, o_not, o_and, o_or, o_sel, o_isel, o_ssel, o_beq, o_seq, o_slt, o_slen, o_sat, o_scut, o_sadd, o_ilen, o_blen, o_vlen, o_rlen, o_iget, o_bget, o_vget, o_rget, o_iset, o_bset, o_vset, o_iapp, o_bapp, o_vapp, o_rapp, o_icut, o_bcut, o_vcut, o_irep, o_vt, o_vn, o_vs, o_vl, o_imax, o_imin, o_inb, o_sfit, o_cutb, o_fit, o_mkfit, RhQ, decT, decF, true_and, and_true, eq_self, implies_true, forall_const, Bool.not_eq_true', Bool.not_eq_false', Bool.not_true, Bool.not_false, Bool.and_eq_true, Bool.or_eq_true, Bool.and_eq_false_iff, Bool.or_eq_false_iff, Bool.true_and, Bool.and_true, Bool.false_and, Bool.and_false, Bool.or_false, Bool.false_or, Bool.true_or, Bool.or_true, Int.toNat_natCast, VT.eta, not_true, not_false_iff, false_implies, if_true, if_false, Int.toNat_zero, Int.toNat_one, ns0, ns4]
    refine ⟨fun h => Ret.int ?_, fun h => Ret.int ?_⟩
    · unfold absU; rw [if_pos h, IntKind.wrap_u64, IntKind.wrap_u64]; omega
    · unfold absU; rw [if_neg h, IntKind.wrap_u64]; omega
  · exact h.elim
theorem land32 {a : Int} (h : isU a) : IntKind.u64.wrap (BitVec.ofInt IntKind.u64.bits a &&& BitVec.ofInt IntKind.u64.bits 4294967295).toNat = a % 4294967296 := by
  unfold isU at h
  have e : (BitVec.ofInt IntKind.u64.bits a &&& BitVec.ofInt IntKind.u64.bits 4294967295).toNat = a.toNat % 4294967296 := by
    have h1 : (BitVec.ofInt IntKind.u64.bits a).toNat = a.toNat := by
      rw [BitVec.toNat_ofInt]; simp only [IntKind.bits]; omega
    have h2 : (BitVec.ofInt IntKind.u64.bits 4294967295).toNat = 2 ^ 32 - 1 := by decide
    rw [BitVec.toNat_and, h1, h2, Nat.and_two_pow_sub_one_eq_mod]
  rw [e, wu] <;> omega
theorem shr32 {a : Int} : a.fdiv (2 ^ (32 : Int).toNat) = a / 4294967296 := by
  show a.fdiv 4294967296 = a / 4294967296
  rw [Int.fdiv_eq_ediv_of_nonneg]; omega
theorem mul_le_ {a b A B : Int} (ha : 0 ≤ a) (hb : 0 ≤ b) (h1 : a ≤ A) (h2 : b ≤ B) : a * b ≤ A * B := Int.mul_le_mul h1 h2 hb (by omega)
theorem ok105 : Pure1 Try.prog 105 sp105 := by
  intro xs F w cs R ha h
  unfold sp105 at h
  split at h
  · rename_i x y
    obtain ⟨⟨hx, hy⟩, h⟩ := h
    suffices hr : Rh w105S (Ret (.tup [.int .u64 (mulHi x y), .int .u64 (mulLo x y)])) (9999, [.int x, .int y]) from contract (fn := Try.f105) w0 (by kernel_rfl) w105C_ok (by rfl) (by rfl) (by rfl) (by rfl) (by rfl) ha hr h
    refine Rh.go (w105_9999 x y _) ?_
    simp only [o_add, o_sub, o_mul, o_neg, o_conv, o_lt, o_le, o_eq, o_not, o_and, o_or, o_sel, o_isel, o_ssel, o_beq, o_seq, o_slt, o_slen, o_sat, o_scut, o_sadd, o_ilen, o_blen, o_vlen, o_rlen, o_iget, o_bget, o_vget, o_rget, o_iset, o_bset, o_vset, o_iapp, o_bapp, o_vapp, o_rapp, o_icut, o_bcut, o_vcut, o_irep, o_vt, o_vn, o_vs, o_vl, o_imax, o_imin, o_inb, o_sfit, o_cutb, o_fit, o_mkfit, RhQ, decT, decF, true_and, and_true, eq_self, implies_true, forall_const, Bool.not_eq_true', Bool.not_eq_false', Bool.not_true, Bool.not_false, Bool.and_eq_true, Bool.or_eq_true, Bool.and_eq_false_iff, Bool.or_eq_false_iff, Bool.true_and, Bool.and_true, Bool.false_and, Bool.and_false, Bool.or_false, Bool.false_or, Bool.true_or, Bool.or_true, Int.toNat_natCast, VT.eta, not_true, not_false_iff, false_implies, if_true, if_false, Int.toNat_zero, Int.toNat_one, ns0, ns4, o_iand, o_shr, land32 hx, land32 hy, shr32]
    unfold isU at hx hy
    obtain ⟨x1, x0, rfl, hx0, hx1⟩ : ∃ x1 x0 : Int, x = x1 * 4294967296 + x0 ∧ (0 ≤ x0 ∧ x0 < 4294967296) ∧ 0 ≤ x1 ∧ x1 < 4294967296 := ⟨x / 4294967296, x % 4294967296, by omega, by omega, by omega⟩
    obtain ⟨y1, y0, rfl, hy0, hy1⟩ : ∃ x1 x0 : Int, y = x1 * 4294967296 + x0 ∧ (0 ≤ x0 ∧ x0 < 4294967296) ∧ 0 ≤ x1 ∧ x1 < 4294967296 := ⟨y / 4294967296, y % 4294967296, by omega, by omega, by omega⟩
    have e1 : (x1 * 4294967296 + x0) / 4294967296 = x1 := by omega
    have e2 : (x1 * 4294967296 + x0) % 4294967296 = x0 := by omega
    have e3 : (y1 * 4294967296 + y0) / 4294967296 = y1 := by omega
    have e4 : (y1 * 4294967296 + y0) % 4294967296 = y0 := by omega
    rw [e1, e2, e3, e4]
    have p1 := mul_le_ hx0.1 hy0.1 (show x0 ≤ 4294967295 by omega) (show y0 ≤ 4294967295 by omega)
    have p2 := mul_le_ hx1.1 hy0.1 (show x1 ≤ 4294967295 by omega) (show y0 ≤ 4294967295 by omega)
    have p3 := mul_le_ hx0.1 hy1.1 (show x0 ≤ 4294967295 by omega) (show y1 ≤ 4294967295 by omega)
    have p4 := mul_le_ hx1.1 hy1.1 (show x1 ≤ 4294967295 by omega) (show y1 ≤ 4294967295 by omega)
    have q1 := Int.mul_nonneg hx0.1 hy0.1
    have q2 := Int.mul_nonneg hx1.1 hy0.1
    have q3 := Int.mul_nonneg hx0.1 hy1.1
    have q4 := Int.mul_nonneg hx1.1 hy1.1
    have ex : (x1 * 4294967296 + x0) * (y1 * 4294967296 + y0) = x1 * y1 * 18446744073709551616 + (x1 * y0 + x0 * y1) * 4294967296 + x0 * y0 := by
      simp only [Int.mul_add, Int.add_mul]
      have a1 : x1 * 4294967296 * (y1 * 4294967296) = x1 * y1 * 18446744073709551616 := by
        rw [Int.mul_assoc, Int.mul_left_comm 4294967296, ← Int.mul_assoc]; rfl
      have a2 : x1 * 4294967296 * y0 = x1 * y0 * 4294967296 := by rw [Int.mul_assoc, Int.mul_comm 4294967296, ← Int.mul_assoc]
      have a3 : x0 * (y1 * 4294967296) = x0 * y1 * 4294967296 := by rw [Int.mul_assoc]
      omega
    unfold mulHi mulLo
    rw [ex]
    generalize x0 * y0 = r at *
    generalize x1 * y0 = p at *
    generalize x0 * y1 = q at *
    generalize x1 * y1 = s at *
    have lnd : ∀ a : Int, 0 ≤ a → a < 18446744073709551616 → IntKind.u64.wrap (BitVec.ofInt IntKind.u64.bits a &&& BitVec.ofInt IntKind.u64.bits 4294967295).toNat = a % 4294967296 := fun a h1 h2 => land32 ⟨h1, h2⟩
    have v1 : IntKind.u64.wrap r = r := wu (by omega) (by omega)
    have v2 : IntKind.u64.wrap p = p := wu (by omega) (by omega)
    have v3 : IntKind.u64.wrap q = q := wu (by omega) (by omega)
    have v4 : IntKind.u64.wrap s = s := wu (by omega) (by omega)
    rw [v1, v2, v3, v4]
    have v5 : IntKind.u64.wrap (p + r / 4294967296) = p + r / 4294967296 := wu (by omega) (by omega)
    rw [v5, lnd _ (by omega) (by omega)]
    have v6 : IntKind.u64.wrap ((p + r / 4294967296) % 4294967296 + q) = (p + r / 4294967296) % 4294967296 + q := wu (by omega) (by omega)
    rw [v6]
    refine Ret.two ?_ ?_
    · rw [wu (a := s + _) (by omega) (by omega), wu (by omega) (by omega)]; omega
    · rw [IntKind.wrap_u64]
  · exact h.elim
theorem ok107 : Pure1 Try.prog 107 sp107 := by
  intro xs F w cs R ha h
  unfold sp107 at h
  split at h
  · rename_i z l y
    obtain ⟨⟨hz, hl, hy, hy0⟩, h⟩ := h
    subst hz
    suffices hr : Rh w107S (Ret (.tup [.int .u64 (uquo l y), .int .u64 (urem l y)])) (9999, [.int l, .int y]) from contract (fn := Try.f107) w0 (by kernel_rfl) w107C_ok (by rfl) (by rfl) (by rfl) (by rfl) (by rfl) ha hr h
    refine Rh.go (w107_9999 l y _) ?_
    unfold isU at hl hy
    simp only [o_add, o_sub, o_mul, o_neg, o_conv, o_lt, o_le, o_eq, o_not, o_and, o_or, o_sel, o_isel, o_ssel, o_beq, o_seq, o_slt, o_slen, o_sat, o_scut, o_sadd, o_ilen, o_blen, o_vlen, o_rlen, o_iget, o_bget, o_vget, o_rget, o_iset, o_bset, o_vset, o_iapp, o_bapp, o_vapp, o_rapp, o_icut, o_bcut, o_vcut, o_irep, o_vt, o_vn, o_vs, o_vl, o_imax, o_imin, o_inb, o_sfit, o_cutb, o_fit, o_mkfit, RhQ, decT, decF, true_and, and_true, eq_self, implies_true, forall_const, Bool.not_eq_true', Bool.not_eq_false', Bool.not_true, Bool.not_false, Bool.and_eq_true, Bool.or_eq_true, Bool.and_eq_false_iff, Bool.or_eq_false_iff, Bool.true_and, Bool.and_true, Bool.false_and, Bool.and_false, Bool.or_false, Bool.false_or, Bool.true_or, Bool.or_true, Int.toNat_natCast, VT.eta, not_true, not_false_iff, false_implies, if_true, if_false, Int.toNat_zero, Int.toNat_one, ns0, ns4, o_nz, o_quo, o_rem]
    refine ⟨fun h => absurd h hy0, fun _ => ⟨fun h => by omega, fun _ => ⟨⟨hy0, hy0⟩, ?_⟩⟩⟩
    unfold uquo urem
    refine Ret.two ?_ ?_
    · rw [Int.tdiv_eq_ediv_of_nonneg hl.1]
      have h1 := Int.ediv_le_self y hl.1
      have h2 := Int.ediv_nonneg hl.1 hy.1
      rw [wu h2 (by omega)]
    · rw [Int.tmod_eq_emod_of_nonneg hl.1]
  · exact h.elim
end Go.Qv
