/- Products and quotients of 128 bits. No condition. -/
import Derived.Test.YteaeogofidakiaaGreatQYw1
set_option linter.unusedVariables false
set_option linter.unusedSimpArgs false
set_option maxRecDepth 100000
namespace Go.Qv
open Go Go.RowKit Go.Proofs
theorem wu {a : Int} (h1 : 0 ≤ a) (h2 : a < 18446744073709551616) : IntKind.u64.wrap a = a := by rw [IntKind.wrap_u64]; omega
theorem wI {a : Int} (h : isI a) : IntKind.i64.wrap a = a := by unfold isI at h; rw [w64] <;> omega
theorem Ret.two {k k' : IntKind} {a b a' b' : Int} (h : a = a') (h' : b = b') : Ret (.tup [.int k a, .int k' b]) ⟨.tup [.int k a', .int k' b'], [], [], []⟩ := by subst h; subst h'; rfl
theorem Ret.tb {k : IntKind} {a a' : Int} {b b' : Bool} (h : a = a') (h' : b = b') : Ret (.tup [.int k a, .bool b]) ⟨.tup [.int k a', .bool b'], [], [], []⟩ := by subst h; subst h'; rfl
theorem w0 {kn md : FuncId → Bool} : OrcOk Tryz.prog (inl O.real tb fns (pureOrc PS.none) kn md 300 14) (fun _ => True) := walked (PureOk.none _) 14
theorem ok93x : Pure1 Tryz.prog 93 sp93x := by
  intro xs F w cs R ha h
  unfold sp93x at h
  split at h
  · rename_i n
    obtain ⟨hn, h⟩ := h
    suffices hr : Rh w93xS (Ret (.int .u64 (absU n))) (9999, [.int n]) from contract (fn := Tryz.f93) w0 (by kernel_rfl) w93xC_ok (by rfl) (by rfl) (by rfl) (by rfl) (by rfl) ha hr h
    refine Rh.go (w93x_9999 n _) ?_
    have hn : isI n := hn
    unfold isI at hn
    simp only [o_add, o_sub, o_mul, o_neg, o_conv, o_lt, o_le, o_eq, o_not, o_and, o_or, o_sel, o_isel, o_ssel, o_beq, o_seq, o_slt, o_slen, o_sat, o_scut, o_sadd, o_ilen, o_blen, o_vlen, o_rlen, o_iget, o_bget, o_vget, o_rget, o_iset, o_bset, o_vset, o_iapp, o_bapp, o_vapp, o_rapp, o_icut, o_bcut, o_vcut, o_irep, o_vt, o_vn, o_vs, o_vl, o_imax, o_imin, o_inb, o_sfit, o_cutb, o_fit, o_mkfit, RhQ, decT, decF, true_and, and_true, eq_self, implies_true, forall_const, Bool.not_eq_true', Bool.not_eq_false', Bool.not_true, Bool.not_false, Bool.and_eq_true, Bool.or_eq_true, Bool.and_eq_false_iff, Bool.or_eq_false_iff, Bool.true_and, Bool.and_true, Bool.false_and, Bool.and_false, Bool.or_false, Bool.false_or, Bool.true_or, Bool.or_true, Int.toNat_natCast, VT.eta, not_true, not_false_iff, false_implies, if_true, if_false, Int.toNat_zero, Int.toNat_one, ns0, ns4]
    refine ⟨fun h => Ret.int ?_, fun h => Ret.int ?_⟩
    · unfold absU; rw [if_pos h, IntKind.wrap_u64, IntKind.wrap_u64]; omega
    · unfold absU; rw [if_neg h, IntKind.wrap_u64]; omega
  · exact h.elim
theorem ok96x : Pure1 Tryz.prog 96 sp93x := by
  intro xs F w cs R ha h
  unfold sp93x at h
  split at h
  · rename_i n
    obtain ⟨hn, h⟩ := h
    suffices hr : Rh w96xS (Ret (.int .u64 (absU n))) (9999, [.int n]) from contract (fn := Tryz.f96) w0 (by kernel_rfl) w96xC_ok (by rfl) (by rfl) (by rfl) (by rfl) (by rfl) ha hr h
    refine Rh.go (w96x_9999 n _) ?_
    have hn : isI n := hn
    unfold isI at hn
    simp only [o_add, o_sub, o_mul, o_neg, o_conv, o_lt, o_le, o_eq, o_not, o_and, o_or, o_sel, o_isel, o_ssel, o_beq, o_seq, o_slt, o_slen, o_sat, o_scut, o_sadd, o_ilen, o_blen, o_vlen, o_rlen, o_iget, o_bget, o_vget, o_rget, o_iset, o_bset, o_vset, o_iapp, o_bapp, o_vapp, o_rapp, o_icut, o_bcut, o_vcut, o_irep, o_vt, o_vn, o_vs, o_vl, o_imax, o_imin, o_inb, o_sfit, o_cutb, o_fit, o_mkfit, RhQ, decT, decF, true_and, and_true, eq_self, implies_true, forall_const, Bool.not_eq_true', Bool.not_eq_false', Bool.not_true, Bool.not_false, Bool.and_eq_true, Bool.or_eq_true, Bool.and_eq_false_iff, Bool.or_eq_false_iff, Bool.true_and, Bool.and_true, Bool.false_and, Bool.and_false, Bool.or_false, Bool.false_or, Bool.true_or, Bool.or_true, Int.toNat_natCast, VT.eta, not_true, not_false_iff, false_implies, if_true, if_false, Int.toNat_zero, Int.toNat_one, ns0, ns4]
    refine ⟨fun h => Ret.int ?_, fun h => Ret.int ?_⟩
    · unfold absU; rw [if_pos h, w64 (a := n + 1) (by omega) (by omega), w64 (a := 0 - (n + 1)) (by omega) (by omega), wu (a := 0 - (n + 1)) (by omega) (by omega), wu (by omega) (by omega)]; omega
    · unfold absU; rw [if_neg h, IntKind.wrap_u64]; omega
  · exact h.elim
theorem land32 {a : Int} (h : isU a) : IntKind.u64.wrap (BitVec.ofInt IntKind.u64.bits a &&& BitVec.ofInt IntKind.u64.bits 4294967295).toNat = a % 4294967296 := by
  unfold isU at h
  have e : (BitVec.ofInt IntKind.u64.bits a &&& BitVec.ofInt IntKind.u64.bits 4294967295).toNat = a.toNat % 4294967296 := by
    have h1 : (BitVec.ofInt IntKind.u64.bits a).toNat = a.toNat := by
      rw [BitVec.toNat_ofInt]; simp only [IntKind.bits]; omega
    have h2 : (BitVec.ofInt IntKind.u64.bits 4294967295).toNat = 2 ^ 32 - 1 := by decide
    rw [BitVec.toNat_and, h1, h2, Nat.and_two_pow_sub_one_eq_mod]
  rw [e, wu] <;> omega
theorem land1 {a : Int} (h : isU a) : IntKind.u64.wrap (BitVec.ofInt IntKind.u64.bits a &&& BitVec.ofInt IntKind.u64.bits 1).toNat = a % 2 := by
  unfold isU at h
  have e : (BitVec.ofInt IntKind.u64.bits a &&& BitVec.ofInt IntKind.u64.bits 1).toNat = a.toNat % 2 := by
    have h1 : (BitVec.ofInt IntKind.u64.bits a).toNat = a.toNat := by
      rw [BitVec.toNat_ofInt]; simp only [IntKind.bits]; omega
    have h2 : (BitVec.ofInt IntKind.u64.bits 1).toNat = 2 ^ 1 - 1 := by decide
    rw [BitVec.toNat_and, h1, h2, Nat.and_two_pow_sub_one_eq_mod]
  rw [e, wu] <;> omega
theorem lor1 {x y : Int} (h : isU (2 * x)) (hy : 0 ≤ y ∧ y ≤ 1) : IntKind.u64.wrap (BitVec.ofInt IntKind.u64.bits (2 * x) ||| BitVec.ofInt IntKind.u64.bits y).toNat = 2 * x + y := by
  unfold isU at h
  have e : (BitVec.ofInt IntKind.u64.bits (2 * x) ||| BitVec.ofInt IntKind.u64.bits y).toNat = 2 * x.toNat + y.toNat := by
    have h1 : (BitVec.ofInt IntKind.u64.bits (2 * x)).toNat = 2 * x.toNat := by
      rw [BitVec.toNat_ofInt]; simp only [IntKind.bits]; omega
    have h2 : (BitVec.ofInt IntKind.u64.bits y).toNat = y.toNat := by
      rw [BitVec.toNat_ofInt]; simp only [IntKind.bits]; omega
    rw [BitVec.toNat_or, h1, h2]
    have := Nat.two_pow_add_eq_or_of_lt (i := 1) (b := y.toNat) (by omega) x.toNat
    rw [Nat.pow_one] at this
    exact this.symm
  rw [e, wu] <;> omega
theorem shr32 {a : Int} : a.fdiv (2 ^ (32 : Int).toNat) = a / 4294967296 := by
  show a.fdiv 4294967296 = a / 4294967296
  rw [Int.fdiv_eq_ediv_of_nonneg]; omega
theorem shr63 {a : Int} : a.fdiv (2 ^ (63 : Int).toNat) = a / 9223372036854775808 := by
  show a.fdiv 9223372036854775808 = a / 9223372036854775808
  rw [Int.fdiv_eq_ediv_of_nonneg]; omega
theorem shrN {a : Int} (n : Nat) : a.fdiv (2 ^ n) = a / 2 ^ n := by
  rw [Int.fdiv_eq_ediv_of_nonneg]
  exact Int.le_of_lt (Int.pow_pos (by omega))
theorem shl1 {a : Int} : a * 2 ^ (1 : Int).toNat = 2 * a := by
  show a * 2 = 2 * a
  omega
theorem p1_ {a : Int} : a * 2 ^ 1 = 2 * a := by
  show a * 2 = 2 * a
  omega
theorem p63 {a : Int} : a / 2 ^ Int.toNat 63 = a / 9223372036854775808 := rfl
theorem mul_le_ {a b A B : Int} (ha : 0 ≤ a) (hb : 0 ≤ b) (h1 : a ≤ A) (h2 : b ≤ B) : a * b ≤ A * B := Int.mul_le_mul h1 h2 hb (by omega)
theorem ok92x : Pure1 Tryz.prog 92 sp92x := by
  intro xs F w cs R ha h
  unfold sp92x at h
  split at h
  · rename_i x y
    obtain ⟨⟨hx, hy⟩, h⟩ := h
    suffices hr : Rh w92xS (Ret (.tup [.int .u64 (mulHi x y), .int .u64 (mulLo x y)])) (9999, [.int x, .int y]) from contract (fn := Tryz.f92) w0 (by kernel_rfl) w92xC_ok (by rfl) (by rfl) (by rfl) (by rfl) (by rfl) ha hr h
    refine Rh.go (w92x_9999 x y _) ?_
    simp only [o_add, o_sub, o_mul, o_neg, o_conv, o_lt, o_le, o_eq, o_not, o_and, o_or, o_sel, o_isel, o_ssel, o_beq, o_seq, o_slt, o_slen, o_sat, o_scut, o_sadd, o_ilen, o_blen, o_vlen, o_rlen, o_iget, o_bget, o_vget, o_rget, o_iset, o_bset, o_vset, o_iapp, o_bapp, o_vapp, o_rapp, o_icut, o_bcut, o_vcut, o_irep, o_vt, o_vn, o_vs, o_vl, o_imax, o_imin, o_inb, o_sfit, o_cutb, o_fit, o_mkfit, RhQ, decT, decF, true_and, and_true, eq_self, implies_true, forall_const, Bool.not_eq_true', Bool.not_eq_false', Bool.not_true, Bool.not_false, Bool.and_eq_true, Bool.or_eq_true, Bool.and_eq_false_iff, Bool.or_eq_false_iff, Bool.true_and, Bool.and_true, Bool.false_and, Bool.and_false, Bool.or_false, Bool.false_or, Bool.true_or, Bool.or_true, Int.toNat_natCast, VT.eta, not_true, not_false_iff, false_implies, if_true, if_false, Int.toNat_zero, Int.toNat_one, ns0, ns4, o_iand, o_shr, land32 hx, land32 hy, shr32]
    unfold isU at hx hy
    obtain ⟨x1, x0, rfl, hx0, hx1⟩ : ∃ x1 x0 : Int, x = x1 * 4294967296 + x0 ∧ (0 ≤ x0 ∧ x0 < 4294967296) ∧ 0 ≤ x1 ∧ x1 < 4294967296 := ⟨x / 4294967296, x % 4294967296, by omega, by omega, by omega⟩
    obtain ⟨y1, y0, rfl, hy0, hy1⟩ : ∃ x1 x0 : Int, y = x1 * 4294967296 + x0 ∧ (0 ≤ x0 ∧ x0 < 4294967296) ∧ 0 ≤ x1 ∧ x1 < 4294967296 := ⟨y / 4294967296, y % 4294967296, by omega, by omega, by omega⟩
    have e1 : (x1 * 4294967296 + x0) / 4294967296 = x1 := by omega
    have e2 : (x1 * 4294967296 + x0) % 4294967296 = x0 := by omega
    have e3 : (y1 * 4294967296 + y0) / 4294967296 = y1 := by omega
    have e4 : (y1 * 4294967296 + y0) % 4294967296 = y0 := by omega
    rw [e1, e2, e3, e4]
    have p1 := mul_le_ hx0.1 hy0.1 (show x0 ≤ 4294967295 by omega) (show y0 ≤ 4294967295 by omega)
    have p2 := mul_le_ hx1.1 hy0.1 (show x1 ≤ 4294967295 by omega) (show y0 ≤ 4294967295 by omega)
    have p3 := mul_le_ hx0.1 hy1.1 (show x0 ≤ 4294967295 by omega) (show y1 ≤ 4294967295 by omega)
    have p4 := mul_le_ hx1.1 hy1.1 (show x1 ≤ 4294967295 by omega) (show y1 ≤ 4294967295 by omega)
    have q1 := Int.mul_nonneg hx0.1 hy0.1
    have q2 := Int.mul_nonneg hx1.1 hy0.1
    have q3 := Int.mul_nonneg hx0.1 hy1.1
    have q4 := Int.mul_nonneg hx1.1 hy1.1
    have ex : (x1 * 4294967296 + x0) * (y1 * 4294967296 + y0) = x1 * y1 * 18446744073709551616 + (x1 * y0 + x0 * y1) * 4294967296 + x0 * y0 := by
      simp only [Int.mul_add, Int.add_mul]
      have a1 : x1 * 4294967296 * (y1 * 4294967296) = x1 * y1 * 18446744073709551616 := by
        rw [Int.mul_assoc, Int.mul_left_comm 4294967296, ← Int.mul_assoc]; rfl
      have a2 : x1 * 4294967296 * y0 = x1 * y0 * 4294967296 := by rw [Int.mul_assoc, Int.mul_comm 4294967296, ← Int.mul_assoc]
      have a3 : x0 * (y1 * 4294967296) = x0 * y1 * 4294967296 := by rw [Int.mul_assoc]
      omega
    unfold mulHi mulLo
    rw [ex]
    generalize x0 * y0 = r at *
    generalize x1 * y0 = p at *
    generalize x0 * y1 = q at *
    generalize x1 * y1 = s at *
    have lnd : ∀ a : Int, 0 ≤ a → a < 18446744073709551616 → IntKind.u64.wrap (BitVec.ofInt IntKind.u64.bits a &&& BitVec.ofInt IntKind.u64.bits 4294967295).toNat = a % 4294967296 := fun a h1 h2 => land32 ⟨h1, h2⟩
    have v1 : IntKind.u64.wrap r = r := wu (by omega) (by omega)
    have v2 : IntKind.u64.wrap p = p := wu (by omega) (by omega)
    have v3 : IntKind.u64.wrap q = q := wu (by omega) (by omega)
    have v4 : IntKind.u64.wrap s = s := wu (by omega) (by omega)
    rw [v1, v2, v3, v4]
    have v5 : IntKind.u64.wrap (p + r / 4294967296) = p + r / 4294967296 := wu (by omega) (by omega)
    rw [v5, lnd _ (by omega) (by omega)]
    have v6 : IntKind.u64.wrap ((p + r / 4294967296) % 4294967296 + q) = (p + r / 4294967296) % 4294967296 + q := wu (by omega) (by omega)
    rw [v6]
    refine Ret.two ?_ ?_
    · rw [wu (a := s + _) (by omega) (by omega), wu (by omega) (by omega)]; omega
    · rw [IntKind.wrap_u64]
  · exact h.elim
theorem ok94x : Pure1 Tryz.prog 94 sp94x := by
  intro xs F w cs R ha h
  unfold sp94x at h
  split at h
  · rename_i x l y
    obtain ⟨⟨h0, hl, h1, hy⟩, h⟩ := h
    suffices hr : Rh w94xS (Ret (.tup [.int .u64 (dvQ l y), .int .u64 (dvR l y)])) (9999, [.int x, .int l, .int y]) from contract (fn := Tryz.f94) (walked (PureOk.also (f0 := 119) (s := spNo) (fun xs F w cs R ha h => h.elim) (PureOk.none _)) 14) (by kernel_rfl) w94xC_ok (by rfl) (by rfl) (by rfl) (by rfl) (by rfl) ha hr h
    refine Rh.go (w94x_9999 x l y _) ?_
    unfold isU at hl hy
    subst h0
    simp only [o_add, o_sub, o_mul, o_neg, o_conv, o_lt, o_le, o_eq, o_not, o_and, o_or, o_sel, o_isel, o_ssel, o_beq, o_seq, o_slt, o_slen, o_sat, o_scut, o_sadd, o_ilen, o_blen, o_vlen, o_rlen, o_iget, o_bget, o_vget, o_rget, o_iset, o_bset, o_vset, o_iapp, o_bapp, o_vapp, o_rapp, o_icut, o_bcut, o_vcut, o_irep, o_vt, o_vn, o_vs, o_vl, o_imax, o_imin, o_inb, o_sfit, o_cutb, o_fit, o_mkfit, RhQ, decT, decF, true_and, and_true, eq_self, implies_true, forall_const, Bool.not_eq_true', Bool.not_eq_false', Bool.not_true, Bool.not_false, Bool.and_eq_true, Bool.or_eq_true, Bool.and_eq_false_iff, Bool.or_eq_false_iff, Bool.true_and, Bool.and_true, Bool.false_and, Bool.and_false, Bool.or_false, Bool.false_or, Bool.true_or, Bool.or_true, Int.toNat_natCast, VT.eta, not_true, not_false_iff, false_implies, if_true, if_false, Int.toNat_zero, Int.toNat_one, ns0, ns4, o_nz, o_quo, o_rem]
    have d1 := Int.ediv_nonneg hl.1 hy.1
    have d2 := Int.ediv_le_self y hl.1
    have e1 : l.tdiv y = l / y := Int.tdiv_eq_ediv_of_nonneg hl.1
    have e2 : l.tmod y = l % y := Int.tmod_eq_emod_of_nonneg hl.1
    refine ⟨fun h => absurd h (by omega), fun h => ⟨fun h => absurd h (by omega), fun h3 => ?_⟩⟩
    repeat' apply And.intro
    all_goals first | exact h | exact Ret.two (by unfold dvQ; rw [e1, wu (by omega) (by omega)]) (by unfold dvR; rw [e2]) | omega
  · exact h.elim
/-! ### R.mul -/
theorem pow_step (a : Int) (j : Nat) : a / 2 ^ j = 2 * (a / 2 ^ (j + 1)) + a / 2 ^ j % 2 := by
  rw [Int.pow_succ, ← Int.ediv_ediv_of_nonneg (Int.le_of_lt (Int.pow_pos (by omega)))]
  omega
theorem div_pow_bd {a : Int} (h : isU a) (j : Nat) : 0 ≤ a / 2 ^ j ∧ a / 2 ^ j < 18446744073709551616 := by
  have hp : (0 : Int) < 2 ^ j := Int.pow_pos (by omega)
  have := Int.ediv_nonneg h.1 (Int.le_of_lt hp)
  have := Int.ediv_le_self (2 ^ j) h.1
  have := h.2
  omega
theorem shok_ {j : Nat} (h : j < 64) : (O.real.shok IntKind.u64 (IntKind.u64.wrap (j : Int))).p := by
  rw [wu (by omega) (by omega), o_shok]
  simp only [IntKind.bits]; omega
theorem loop95 (a b : Int) (ha : isU a) (hb : isU b) : ∀ j : Nat, j ≤ 64 → Rh w95xS (Ret (.tup [.int .u64 (mulHi a b), .int .u64 (mulLo a b)])) (3, [.int a, .int b, .int (mulHi (a / 2 ^ j) b), .int (mulLo (a / 2 ^ j) b), .int ((j : Int) - 1)])
  | 0, _ => by
    refine Rh.go (w95x_3 a b _ _ _ _) ?_
    simp only [o_add, o_sub, o_mul, o_neg, o_conv, o_lt, o_le, o_eq, o_not, o_and, o_or, o_sel, o_isel, o_ssel, o_beq, o_seq, o_slt, o_slen, o_sat, o_scut, o_sadd, o_ilen, o_blen, o_vlen, o_rlen, o_iget, o_bget, o_vget, o_rget, o_iset, o_bset, o_vset, o_iapp, o_bapp, o_vapp, o_rapp, o_icut, o_bcut, o_vcut, o_irep, o_vt, o_vn, o_vs, o_vl, o_imax, o_imin, o_inb, o_sfit, o_cutb, o_fit, o_mkfit, RhQ, decT, decF, true_and, and_true, eq_self, implies_true, forall_const, Bool.not_eq_true', Bool.not_eq_false', Bool.not_true, Bool.not_false, Bool.and_eq_true, Bool.or_eq_true, Bool.and_eq_false_iff, Bool.or_eq_false_iff, Bool.true_and, Bool.and_true, Bool.false_and, Bool.and_false, Bool.or_false, Bool.false_or, Bool.true_or, Bool.or_true, Int.toNat_natCast, VT.eta, not_true, not_false_iff, false_implies, if_true, if_false, Int.toNat_zero, Int.toNat_one, ns0, ns4]
    refine ⟨fun h => absurd h (by omega), fun _ => ?_⟩
    have : a / 2 ^ 0 = a := by show a / 1 = a; omega
    rw [this]; exact rfl
  | j + 1, hj => by
    have ih := loop95 a b ha hb j (by omega)
    refine Rh.go (w95x_3 a b _ _ _ _) ?_
    have e1 : ((j + 1 : Nat) : Int) - 1 = (j : Int) := by omega
    rw [e1]
    have w1 : IntKind.u64.wrap (j : Int) = (j : Int) := wu (by omega) (by omega)
    have w2 : IntKind.i64.wrap ((j : Int) - 1) = (j : Int) - 1 := w64 (by omega) (by omega)
    have bd := div_pow_bd ha j
    have st := pow_step a j
    have sk := shok_ (j := j) (by omega)
    have A0 := div_pow_bd ha (j + 1)
    generalize a / 2 ^ (j + 1) = A at *
    have hP0 : 0 ≤ A * b := Int.mul_nonneg A0.1 hb.1
    have hP1 := mul_le_ A0.1 hb.1 (show A ≤ 9223372036854775807 by omega) (show b ≤ 18446744073709551615 by have := hb.2; omega)
    have lA : ∀ m : Int, 0 ≤ m → m < 18446744073709551616 → IntKind.u64.wrap (BitVec.ofInt IntKind.u64.bits m &&& BitVec.ofInt IntKind.u64.bits 1).toNat = m % 2 := fun m h1 h2 => land1 ⟨h1, h2⟩
    simp only [o_add, o_sub, o_mul, o_neg, o_conv, o_lt, o_le, o_eq, o_not, o_and, o_or, o_sel, o_isel, o_ssel, o_beq, o_seq, o_slt, o_slen, o_sat, o_scut, o_sadd, o_ilen, o_blen, o_vlen, o_rlen, o_iget, o_bget, o_vget, o_rget, o_iset, o_bset, o_vset, o_iapp, o_bapp, o_vapp, o_rapp, o_icut, o_bcut, o_vcut, o_irep, o_vt, o_vn, o_vs, o_vl, o_imax, o_imin, o_inb, o_sfit, o_cutb, o_fit, o_mkfit, RhQ, decT, decF, true_and, and_true, eq_self, implies_true, forall_const, Bool.not_eq_true', Bool.not_eq_false', Bool.not_true, Bool.not_false, Bool.and_eq_true, Bool.or_eq_true, Bool.and_eq_false_iff, Bool.or_eq_false_iff, Bool.true_and, Bool.and_true, Bool.false_and, Bool.and_false, Bool.or_false, Bool.false_or, Bool.true_or, Bool.or_true, Int.toNat_natCast, VT.eta, not_true, not_false_iff, false_implies, if_true, if_false, Int.toNat_zero, Int.toNat_one, ns0, ns4, o_iand, o_shr, o_shl, o_ior, shl1, p1_, p63, shr63, w1, w2, shrN, Int.toNat_natCast] at sk ⊢
    rw [lA _ bd.1 bd.2]
    have hm : mulHi (a / 2 ^ j) b = (2 * (A * b) + (a / 2 ^ j % 2) * b) / 18446744073709551616 := by
      unfold mulHi; rw [st, Int.add_mul, Int.mul_assoc]; congr 3; omega
    have hl : mulLo (a / 2 ^ j) b = (2 * (A * b) + (a / 2 ^ j % 2) * b) % 18446744073709551616 := by
      unfold mulLo; rw [st, Int.add_mul, Int.mul_assoc]; congr 3; omega
    rw [hm, hl] at ih
    clear hm hl
    have f1 : mulHi A b = A * b / 18446744073709551616 := rfl
    have f2 : mulLo A b = A * b % 18446744073709551616 := rfl
    rw [f1, f2]
    generalize A * b = P at *
    have g1 : IntKind.u64.wrap (2 * (P / 18446744073709551616)) = 2 * (P / 18446744073709551616) := wu (by omega) (by omega)
    have g2 : IntKind.u64.wrap (2 * (P % 18446744073709551616)) = (2 * P) % 18446744073709551616 := by rw [IntKind.wrap_u64]; omega
    have hb0 := hb.1
    have hb1 := hb.2
    rw [g1, g2, lor1 (x := P / 18446744073709551616) ⟨by omega, by omega⟩ (by omega)]
    refine ⟨fun _ => ⟨sk, fun hb1 => ?_, fun hb1 => ?_⟩, fun h => absurd h (by omega)⟩
    · rw [hb1, Int.one_mul] at ih
      rw [IntKind.wrap_u64 (2 * P % 18446744073709551616 + b)]
      refine ⟨fun hc => ?_, fun hc => ?_⟩
      · rw [IntKind.wrap_u64]
        have t1 : (2 * P + b) / 18446744073709551616 = (2 * (P / 18446744073709551616) + P % 18446744073709551616 / 9223372036854775808 + 1) % 18446744073709551616 := by omega
        have t2 : (2 * P + b) % 18446744073709551616 = (2 * P % 18446744073709551616 + b) % 18446744073709551616 := by omega
        rw [t1, t2] at ih; exact ih
      · have t1 : (2 * P + b) / 18446744073709551616 = 2 * (P / 18446744073709551616) + P % 18446744073709551616 / 9223372036854775808 := by omega
        have t2 : (2 * P + b) % 18446744073709551616 = (2 * P % 18446744073709551616 + b) % 18446744073709551616 := by omega
        rw [t1, t2] at ih; exact ih
    · have hz : a / 2 ^ j % 2 = 0 := by omega
      rw [hz, Int.zero_mul, Int.add_zero] at ih
      have t1 : (2 * P) / 18446744073709551616 = 2 * (P / 18446744073709551616) + P % 18446744073709551616 / 9223372036854775808 := by omega
      rw [t1] at ih; exact ih
theorem ok95x : Pure1 Tryz.prog 95 sp92x := by
  intro xs F w cs R ha h
  unfold sp92x at h
  split at h
  · rename_i x y
    obtain ⟨⟨hx, hy⟩, h⟩ := h
    suffices hr : Rh w95xS (Ret (.tup [.int .u64 (mulHi x y), .int .u64 (mulLo x y)])) (9999, [.int x, .int y]) from contract (fn := Tryz.f95) w0 (by kernel_rfl) w95xC_ok (by rfl) (by rfl) (by rfl) (by rfl) (by rfl) ha hr h
    refine Rh.go (w95x_9999 x y _) ?_
    have e := loop95 x y hx hy 64 (by omega)
    have e0 : x / 2 ^ 64 = 0 := by have := hx.1; have := hx.2; omega
    have e1 : mulHi 0 y = 0 := by unfold mulHi; rw [Int.zero_mul]; rfl
    have e2 : mulLo 0 y = 0 := by unfold mulLo; rw [Int.zero_mul]; rfl
    rw [e0, e1, e2] at e
    simp only [o_add, o_sub, o_mul, o_neg, o_conv, o_lt, o_le, o_eq, o_not, o_and, o_or, o_sel, o_isel, o_ssel, o_beq, o_seq, o_slt, o_slen, o_sat, o_scut, o_sadd, o_ilen, o_blen, o_vlen, o_rlen, o_iget, o_bget, o_vget, o_rget, o_iset, o_bset, o_vset, o_iapp, o_bapp, o_vapp, o_rapp, o_icut, o_bcut, o_vcut, o_irep, o_vt, o_vn, o_vs, o_vl, o_imax, o_imin, o_inb, o_sfit, o_cutb, o_fit, o_mkfit, RhQ, decT, decF, true_and, and_true, eq_self, implies_true, forall_const, Bool.not_eq_true', Bool.not_eq_false', Bool.not_true, Bool.not_false, Bool.and_eq_true, Bool.or_eq_true, Bool.and_eq_false_iff, Bool.or_eq_false_iff, Bool.true_and, Bool.and_true, Bool.false_and, Bool.and_false, Bool.or_false, Bool.false_or, Bool.true_or, Bool.or_true, Int.toNat_natCast, VT.eta, not_true, not_false_iff, false_implies, if_true, if_false, Int.toNat_zero, Int.toNat_one, ns0, ns4]
    exact e
  · exact h.elim
/-! ### R.by -/
theorem dm {M d q r : Int} (h : M = q * d + r) (h0 : 0 ≤ r) (h1 : r < d) : M / d = q ∧ M % d = r :=
  (Int.ediv_emod_unique (by omega)).2 ⟨by rw [h, Int.mul_comm, Int.add_comm], h0, h1⟩
theorem pow_split (n m : Nat) : (2 : Int) ^ (n + m) = 2 ^ n * 2 ^ m := Int.pow_add 2 n m
theorem big_hi {h l : Int} (hl : isU l) (k : Nat) : (h * 18446744073709551616 + l) / 2 ^ (64 + k) = h / 2 ^ k := by
  have e : (2 : Int) ^ 64 = 18446744073709551616 := rfl
  have hl0 := hl.1
  have hl1 := hl.2
  rw [pow_split, ← Int.ediv_ediv_of_nonneg (by omega), e]
  congr 1; omega
theorem big_lo {h l : Int} (k : Nat) (hk : k < 64) : (h * 18446744073709551616 + l) / 2 ^ k % 2 = l / 2 ^ k % 2 := by
  obtain ⟨m, hm⟩ : ∃ m, 63 = m + k := ⟨63 - k, by omega⟩
  have hp : (2 : Int) ^ k ≠ 0 := by have : (0 : Int) < 2 ^ k := Int.pow_pos (by omega); omega
  have e1 : (18446744073709551616 : Int) = 2 * 2 ^ m * 2 ^ k := by
    have : (2 : Int) ^ (m + k) = 9223372036854775808 := by rw [← hm]; rfl
    rw [Int.mul_assoc, ← pow_split, this]; rfl
  rw [e1, ← Int.mul_assoc, Int.add_comm, Int.add_mul_ediv_right _ _ hp, ← Int.mul_assoc, Int.mul_comm h 2, Int.mul_assoc 2 h]
  omega
theorem big_bd {h l : Int} (hh : isU h) (hl : isU l) (j : Nat) : 0 ≤ (h * 18446744073709551616 + l) / 2 ^ (j + 1) ∧ (h * 18446744073709551616 + l) / 2 ^ (j + 1) < 170141183460469231731687303715884105728 := by
  have h0 := hh.1
  have h1 := hh.2
  have l0 := hl.1
  have l1 := hl.2
  have hp : (0 : Int) < 2 ^ j := Int.pow_pos (by omega)
  rw [show j + 1 = 1 + j by omega, pow_split, ← Int.ediv_ediv_of_nonneg (by omega)]
  generalize hN : h * 18446744073709551616 + l = N
  have e : N / 2 ^ 1 = N / 2 := rfl
  rw [e]
  have a1 := Int.ediv_nonneg (show 0 ≤ N / 2 by omega) (Int.le_of_lt hp)
  have a2 := Int.ediv_le_self (2 ^ j) (show 0 ≤ N / 2 by omega)
  omega
/-- One step of the long division. -/
theorem long {M d b : Int} (hd : 0 < d) : (d ≤ 2 * (M % d) + b → (0 ≤ b ∧ b ≤ 1) → (2 * M + b) / d = 2 * (M / d) + 1 ∧ (2 * M + b) % d = 2 * (M % d) + b - d) ∧ (¬ d ≤ 2 * (M % d) + b → (0 ≤ b ∧ b ≤ 1) → (2 * M + b) / d = 2 * (M / d) ∧ (2 * M + b) % d = 2 * (M % d) + b) := by
  have h1 := Int.emod_nonneg M (show d ≠ 0 by omega)
  have h2 := Int.emod_lt_of_pos M hd
  have h3 := Int.emod_add_mul_ediv M d
  have e1 : (2 * (M / d) + 1) * d = 2 * (d * (M / d)) + d := by rw [Int.add_mul, Int.one_mul, Int.mul_assoc, Int.mul_comm (M / d) d]
  have e2 : 2 * (M / d) * d = 2 * (d * (M / d)) := by rw [Int.mul_assoc, Int.mul_comm (M / d) d]
  exact ⟨fun h hb => dm (by rw [e1]; omega) (by omega) (by omega), fun h hb => dm (by rw [e2]; omega) (by omega) (by omega)⟩
theorem loop97 (h l d : Int) (hh : isU h) (hl : isU l) (hd0 : 0 < d) (hd1 : d ≤ 9223372036854775808) : ∀ j : Nat, j ≤ 128 → Rh w97xS (Ret (.tup [.int .u64 (byH h l d), .int .u64 (byL h l d), .int .u64 (byR h l d)]))
    (3, [.int h, .int l, .int d, .int ((h * 18446744073709551616 + l) / 2 ^ j / d / 18446744073709551616), .int ((h * 18446744073709551616 + l) / 2 ^ j / d % 18446744073709551616), .int ((h * 18446744073709551616 + l) / 2 ^ j % d), .int ((j : Int) - 1)])
  | 0, _ => by
    refine Rh.go (w97x_3 h l d _ _ _ _ _) ?_
    simp only [o_add, o_sub, o_mul, o_neg, o_conv, o_lt, o_le, o_eq, o_not, o_and, o_or, o_sel, o_isel, o_ssel, o_beq, o_seq, o_slt, o_slen, o_sat, o_scut, o_sadd, o_ilen, o_blen, o_vlen, o_rlen, o_iget, o_bget, o_vget, o_rget, o_iset, o_bset, o_vset, o_iapp, o_bapp, o_vapp, o_rapp, o_icut, o_bcut, o_vcut, o_irep, o_vt, o_vn, o_vs, o_vl, o_imax, o_imin, o_inb, o_sfit, o_cutb, o_fit, o_mkfit, RhQ, decT, decF, true_and, and_true, eq_self, implies_true, forall_const, Bool.not_eq_true', Bool.not_eq_false', Bool.not_true, Bool.not_false, Bool.and_eq_true, Bool.or_eq_true, Bool.and_eq_false_iff, Bool.or_eq_false_iff, Bool.true_and, Bool.and_true, Bool.false_and, Bool.and_false, Bool.or_false, Bool.false_or, Bool.true_or, Bool.or_true, Int.toNat_natCast, VT.eta, not_true, not_false_iff, false_implies, if_true, if_false, Int.toNat_zero, Int.toNat_one, ns0, ns4]
    refine ⟨fun h => absurd h (by omega), fun _ => ?_⟩
    have : (h * 18446744073709551616 + l) / 2 ^ 0 = h * 18446744073709551616 + l := by
      generalize h * 18446744073709551616 + l = N
      show N / 1 = N; omega
    rw [this]; exact rfl
  | j + 1, hj => by
    have ih := loop97 h l d hh hl hd0 hd1 j (by omega)
    refine Rh.go (w97x_3 h l d _ _ _ _ _) ?_
    have e1 : ((j + 1 : Nat) : Int) - 1 = (j : Int) := by omega
    rw [e1]
    have w2 : IntKind.i64.wrap ((j : Int) - 1) = (j : Int) - 1 := w64 (by omega) (by omega)
    have bd := big_bd hh hl j
    have st := pow_step (h * 18446744073709551616 + l) j
    have lA : ∀ m : Int, 0 ≤ m → m < 18446744073709551616 → IntKind.u64.wrap (BitVec.ofInt IntKind.u64.bits m &&& BitVec.ofInt IntKind.u64.bits 1).toNat = m % 2 := fun m h1 h2 => land1 ⟨h1, h2⟩
    have key : ∀ b : Int, (h * 18446744073709551616 + l) / 2 ^ j % 2 = b → (0 ≤ b ∧ b ≤ 1) ∧ (d ≤ 2 * ((h * 18446744073709551616 + l) / 2 ^ (j + 1) % d) + b → (h * 18446744073709551616 + l) / 2 ^ j / d = 2 * ((h * 18446744073709551616 + l) / 2 ^ (j + 1) / d) + 1 ∧ (h * 18446744073709551616 + l) / 2 ^ j % d = 2 * ((h * 18446744073709551616 + l) / 2 ^ (j + 1) % d) + b - d) ∧
        (¬ d ≤ 2 * ((h * 18446744073709551616 + l) / 2 ^ (j + 1) % d) + b → (h * 18446744073709551616 + l) / 2 ^ j / d = 2 * ((h * 18446744073709551616 + l) / 2 ^ (j + 1) / d) ∧ (h * 18446744073709551616 + l) / 2 ^ j % d = 2 * ((h * 18446744073709551616 + l) / 2 ^ (j + 1) % d) + b) := by
      intro b hb
      rw [hb] at st
      have hb2 : 0 ≤ b ∧ b ≤ 1 := by omega
      rw [st]
      have L := long (M := (h * 18446744073709551616 + l) / 2 ^ (j + 1)) (b := b) hd0
      exact ⟨hb2, fun h => L.1 h hb2, fun h => L.2 h hb2⟩
    clear st
    have hq0 := Int.ediv_nonneg bd.1 (Int.le_of_lt hd0)
    have hq1 := Int.ediv_le_self d bd.1
    have hr0 := Int.emod_nonneg ((h * 18446744073709551616 + l) / 2 ^ (j + 1)) (show d ≠ 0 by omega)
    have hr1 := Int.emod_lt_of_pos ((h * 18446744073709551616 + l) / 2 ^ (j + 1)) hd0
    have shl_ := fun (k : Nat) (hk : j = 64 + k) => (show (h * 18446744073709551616 + l) / 2 ^ j % 2 = h / 2 ^ k % 2 by rw [hk, big_hi hl])
    have slo_ := fun (hk : j < 64) => big_lo (h := h) (l := l) j hk
    simp only [o_add, o_sub, o_mul, o_neg, o_conv, o_lt, o_le, o_eq, o_not, o_and, o_or, o_sel, o_isel, o_ssel, o_beq, o_seq, o_slt, o_slen, o_sat, o_scut, o_sadd, o_ilen, o_blen, o_vlen, o_rlen, o_iget, o_bget, o_vget, o_rget, o_iset, o_bset, o_vset, o_iapp, o_bapp, o_vapp, o_rapp, o_icut, o_bcut, o_vcut, o_irep, o_vt, o_vn, o_vs, o_vl, o_imax, o_imin, o_inb, o_sfit, o_cutb, o_fit, o_mkfit, RhQ, decT, decF, true_and, and_true, eq_self, implies_true, forall_const, Bool.not_eq_true', Bool.not_eq_false', Bool.not_true, Bool.not_false, Bool.and_eq_true, Bool.or_eq_true, Bool.and_eq_false_iff, Bool.or_eq_false_iff, Bool.true_and, Bool.and_true, Bool.false_and, Bool.and_false, Bool.or_false, Bool.false_or, Bool.true_or, Bool.or_true, Int.toNat_natCast, VT.eta, not_true, not_false_iff, false_implies, if_true, if_false, Int.toNat_zero, Int.toNat_one, ns0, ns4, o_iand, o_shr, o_shl, o_ior, shl1, p1_, p63, shr63, w2, shrN, Int.toNat_natCast]
    generalize (h * 18446744073709551616 + l) / 2 ^ (j + 1) / d = q at *
    generalize (h * 18446744073709551616 + l) / 2 ^ (j + 1) % d = r at *
    generalize (h * 18446744073709551616 + l) / 2 ^ (j + 1) = M at *
    have g1 : IntKind.u64.wrap (2 * (q / 18446744073709551616)) = 2 * (q / 18446744073709551616) := wu (by omega) (by omega)
    have g2 : IntKind.u64.wrap (2 * (q % 18446744073709551616)) = 2 * (q % 9223372036854775808) := by rw [IntKind.wrap_u64]; omega
    have g3 : IntKind.u64.wrap (2 * r) = 2 * r := wu (by omega) (by omega)
    have g4 : r / 9223372036854775808 = 0 := by omega
    rw [g1, g2, g3, g4, lor1 (x := q / 18446744073709551616) ⟨by omega, by omega⟩ (by omega), lor1 (x := q % 9223372036854775808) (y := 1) ⟨by omega, by omega⟩ (by omega)]
    have fin : ∀ b : Int, (h * 18446744073709551616 + l) / 2 ^ j % 2 = b → IntKind.u64.wrap (BitVec.ofInt IntKind.u64.bits (2 * r) ||| BitVec.ofInt IntKind.u64.bits b).toNat = 2 * r + b ∧
        (d ≤ 2 * r + b → Rh w97xS (Ret (.tup [.int .u64 (byH h l d), .int .u64 (byL h l d), .int .u64 (byR h l d)])) (3, [.int h, .int l, .int d, .int (2 * (q / 18446744073709551616) + q % 18446744073709551616 / 9223372036854775808), .int (2 * (q % 9223372036854775808) + 1), .int (IntKind.u64.wrap (2 * r + b - d)), .int ((j : Int) - 1)])) ∧
        (¬ d ≤ 2 * r + b → Rh w97xS (Ret (.tup [.int .u64 (byH h l d), .int .u64 (byL h l d), .int .u64 (byR h l d)])) (3, [.int h, .int l, .int d, .int (2 * (q / 18446744073709551616) + q % 18446744073709551616 / 9223372036854775808), .int (2 * (q % 9223372036854775808)), .int (2 * r + b), .int ((j : Int) - 1)])) := by
      intro b hb
      obtain ⟨hb2, k1, k2⟩ := key b hb
      refine ⟨lor1 ⟨by omega, by omega⟩ hb2, fun hc => ?_, fun hc => ?_⟩
      · obtain ⟨x1, x2⟩ := k1 hc
        rw [x1, x2] at ih
        have t1 : (2 * q + 1) / 18446744073709551616 = 2 * (q / 18446744073709551616) + q % 18446744073709551616 / 9223372036854775808 := by omega
        have t2 : (2 * q + 1) % 18446744073709551616 = 2 * (q % 9223372036854775808) + 1 := by omega
        rw [t1, t2] at ih
        rw [wu (by omega) (by omega)]
        exact ih
      · obtain ⟨x1, x2⟩ := k2 hc
        rw [x1, x2] at ih
        have t1 : (2 * q) / 18446744073709551616 = 2 * (q / 18446744073709551616) + q % 18446744073709551616 / 9223372036854775808 := by omega
        have t2 : (2 * q) % 18446744073709551616 = 2 * (q % 9223372036854775808) := by omega
        rw [t1, t2] at ih
        exact ih
    refine ⟨fun _ => ⟨fun h64 => ?_, fun h64 => ?_⟩, fun h => absurd h (by omega)⟩
    · obtain ⟨k, rfl⟩ : ∃ k, j = 64 + k := ⟨j - 64, by omega⟩
      have e2 : ((64 + k : Nat) : Int) - 64 = (k : Int) := by omega
      have w1 : IntKind.u64.wrap (IntKind.i64.wrap (k : Int)) = (k : Int) := by rw [w64 (by omega) (by omega), wu (by omega) (by omega)]
      have sk := shok_ (j := k) (by omega)
      rw [wu (by omega) (by omega)] at sk
      have hbd := div_pow_bd hh k
      rw [e2, w1, Int.toNat_natCast, lA _ hbd.1 hbd.2]
      obtain ⟨f0, f1, f2⟩ := fin _ (shl_ k rfl)
      rw [f0]
      exact ⟨sk, fun hc => f1 (by omega), fun hc => f2 (by omega)⟩
    · have sk := shok_ (j := j) (by omega)
      have w1 : IntKind.u64.wrap (j : Int) = (j : Int) := wu (by omega) (by omega)
      rw [w1] at sk
      have hbd := div_pow_bd hl j
      rw [w1, Int.toNat_natCast, lA _ hbd.1 hbd.2]
      obtain ⟨f0, f1, f2⟩ := fin _ (slo_ (by omega))
      rw [f0]
      exact ⟨sk, fun hc => f1 (by omega), fun hc => f2 (by omega)⟩
theorem ok97x : Pure1 Tryz.prog 97 sp97x := by
  intro xs F w cs R ha h
  unfold sp97x at h
  split at h
  · rename_i x l y
    obtain ⟨⟨hx, hl, h0, h1⟩, h⟩ := h
    suffices hr : Rh w97xS (Ret (.tup [.int .u64 (byH x l y), .int .u64 (byL x l y), .int .u64 (byR x l y)])) (9999, [.int x, .int l, .int y]) from contract (fn := Tryz.f97) w0 (by kernel_rfl) w97xC_ok (by rfl) (by rfl) (by rfl) (by rfl) (by rfl) ha hr h
    refine Rh.go (w97x_9999 x l y _) ?_
    have e := loop97 x l y hx hl h0 h1 128 (by omega)
    have e0 : (x * 18446744073709551616 + l) / 2 ^ 128 = 0 := by have := hx.1; have := hx.2; have := hl.1; have := hl.2; omega
    rw [e0] at e
    have e1 : (0 : Int) / y = 0 := Int.zero_ediv y
    have e2 : (0 : Int) % y = 0 := Int.zero_emod y
    rw [e1, e2] at e
    simp only [o_add, o_sub, o_mul, o_neg, o_conv, o_lt, o_le, o_eq, o_not, o_and, o_or, o_sel, o_isel, o_ssel, o_beq, o_seq, o_slt, o_slen, o_sat, o_scut, o_sadd, o_ilen, o_blen, o_vlen, o_rlen, o_iget, o_bget, o_vget, o_rget, o_iset, o_bset, o_vset, o_iapp, o_bapp, o_vapp, o_rapp, o_icut, o_bcut, o_vcut, o_irep, o_vt, o_vn, o_vs, o_vl, o_imax, o_imin, o_inb, o_sfit, o_cutb, o_fit, o_mkfit, RhQ, decT, decF, true_and, and_true, eq_self, implies_true, forall_const, Bool.not_eq_true', Bool.not_eq_false', Bool.not_true, Bool.not_false, Bool.and_eq_true, Bool.or_eq_true, Bool.and_eq_false_iff, Bool.or_eq_false_iff, Bool.true_and, Bool.and_true, Bool.false_and, Bool.and_false, Bool.or_false, Bool.false_or, Bool.true_or, Bool.or_true, Int.toNat_natCast, VT.eta, not_true, not_false_iff, false_implies, if_true, if_false, Int.toNat_zero, Int.toNat_one, ns0, ns4]
    exact e
  · exact h.elim
theorem ok98x : Pure1 Tryz.prog 98 sp98x := by
  intro xs F w cs R ha h
  unfold sp98x at h
  split at h
  · rename_i n x l
    obtain ⟨hl, h⟩ := when_inv h
    have hl : 0 ≤ l ∧ l < 18446744073709551616 := hl
    suffices hr : Rh w98xS (Ret (.tup [.int .i64 (fitN n x l), .bool (fitB x l)])) (9999, [.bool n, .int x, .int l]) from contract (fn := Tryz.f98) w0 (by kernel_rfl) w98xC_ok (by rfl) (by rfl) (by rfl) (by rfl) (by rfl) ha hr h
    refine Rh.go (w98x_9999 n x l _) ?_
    have hb : fitB x l = true ↔ x = 0 ∧ l ≤ 9223372036854775807 := by unfold fitB; rw [Bool.and_eq_true, decide_eq_true_iff, decide_eq_true_iff]
    have hb' : fitB x l = false ↔ ¬ (x = 0 ∧ l ≤ 9223372036854775807) := by rw [← hb]; simp
    unfold fitN
    simp only [o_add, o_sub, o_mul, o_neg, o_conv, o_lt, o_le, o_eq, o_not, o_and, o_or, o_sel, o_isel, o_ssel, o_beq, o_seq, o_slt, o_slen, o_sat, o_scut, o_sadd, o_ilen, o_blen, o_vlen, o_rlen, o_iget, o_bget, o_vget, o_rget, o_iset, o_bset, o_vset, o_iapp, o_bapp, o_vapp, o_rapp, o_icut, o_bcut, o_vcut, o_irep, o_vt, o_vn, o_vs, o_vl, o_imax, o_imin, o_inb, o_sfit, o_cutb, o_fit, o_mkfit, RhQ, decT, decF, true_and, and_true, eq_self, implies_true, forall_const, Bool.not_eq_true', Bool.not_eq_false', Bool.not_true, Bool.not_false, Bool.and_eq_true, Bool.or_eq_true, Bool.and_eq_false_iff, Bool.or_eq_false_iff, Bool.true_and, Bool.and_true, Bool.false_and, Bool.and_false, Bool.or_false, Bool.false_or, Bool.true_or, Bool.or_true, Int.toNat_natCast, VT.eta, not_true, not_false_iff, false_implies, if_true, if_false, Int.toNat_zero, Int.toNat_one, ns0, ns4]
    refine ⟨fun h => ?_, fun h => ?_⟩
    · have : fitB x l = false := hb'.2 (by intro hh; rcases h with h | h <;> omega)
      rw [this]; exact rfl
    · have : fitB x l = true := hb.2 (by obtain ⟨h1, h2⟩ := h; constructor <;> omega)
      rw [this]
      refine ⟨fun hn => ?_, fun hn => ?_⟩
      · subst hn; exact Ret.tb (by simp only [if_true]; rw [w64 (a := l) (by omega) (by omega), w64 (by omega) (by omega)]; omega) rfl
      · subst hn; exact Ret.tb (by simp only [if_true, Bool.false_eq_true, if_false]; rw [w64 (by omega) (by omega)]) rfl
  · exact h.elim
end Go.Qv
/- Walks of operations on one value, 2. (Printed.) -/
set_option linter.unusedVariables false
set_option maxRecDepth 100000
namespace Go.Qv
open Go Go.RowKit
noncomputable def w62xC : List Cut := [(⟨9999, ⟨[(0, (.one (.int IntKind.i64))), (1, (.one (.int IntKind.i64))), (2, (.one (.int IntKind.i64)))], [], 0, 57⟩, [It.code (bodyOf Go.Proofs.Tryz.f62)], []⟩ : Cut)]
theorem w62xC_ok : cutsOk w62xC = true := by kernel_rfl
noncomputable def w62xS  : Nat × List Lf → T Gt := stepX O.real Go.Qv.tb (inl O.real Go.Qv.tb Go.Qv.fns (pureOrc (PS.also 92 sp92x (PS.also 93 sp93x (PS.also 94 sp94x PS.none)))) (fun f => Nat.beq f 92 || Nat.beq f 93 || Nat.beq f 94) (fun _ => false) 300 14) Go.Proofs.Tryz.f62.results ([]) 0 w62xC
theorem w62x_9999  (t0 : Int) (t1 : Int) (t2 : Int) (Q : Gt → Prop) : T.ob noB Q (.S (.S (.S (.S (.B (.S .E) (.S (.D 1 (.S (.D 1 (.S (.B (.B (.S .E) (.B (.S .E) (.S .E))) (.B (.S .E) (.B (.S .E) (.S .E)))))))))))))) (w62xS  (9999, [Lf.int t0, Lf.int t1, Lf.int t2])) =
  ((isI t0) ∧ ((isI t1) ∧ (((isU (absU t0)) ∧ (isU (absU t1))) ∧ ((isI t2) ∧ (((O.real.le (absU t2) (mulHi (absU t0) (absU t1))) = true → Q (.inr ⟨(AV.tup [(AV.int IntKind.i64 (0 : Int)), (AV.bool Bool.false)]), [], [], []⟩)) ∧ ((O.real.le (absU t2) (mulHi (absU t0) (absU t1))) = false → ((dvOk (mulHi (absU t0) (absU t1)) (mulLo (absU t0) (absU t1)) (absU t2)) ∧ ((((O.real.not (O.real.beq (O.real.not (O.real.beq (O.real.lt t0 (0 : Int)) (O.real.lt t1 (0 : Int)))) (O.real.lt t2 (0 : Int)))) = Bool.true) → True) ∧ ((((O.real.not (O.real.beq (O.real.not (O.real.beq (O.real.lt t0 (0 : Int)) (O.real.lt t1 (0 : Int)))) (O.real.lt t2 (0 : Int)))) = Bool.true) → True) ∧ (((O.real.and (O.real.not (O.real.beq (O.real.not (O.real.beq (O.real.lt t0 (0 : Int)) (O.real.lt t1 (0 : Int)))) (O.real.lt t2 (0 : Int)))) (O.real.not (O.real.eq (dvR (mulLo (absU t0) (absU t1)) (absU t2)) (0 : Int)))) = true → (((O.real.lt (9223372036854775807 : Int) (O.real.add IntKind.u64 (dvQ (mulLo (absU t0) (absU t1)) (absU t2)) (1 : Int))) = true → Q (.inr ⟨(AV.tup [(AV.int IntKind.i64 (0 : Int)), (AV.bool Bool.false)]), [], [], []⟩)) ∧ ((O.real.lt (9223372036854775807 : Int) (O.real.add IntKind.u64 (dvQ (mulLo (absU t0) (absU t1)) (absU t2)) (1 : Int))) = false → (((O.real.not (O.real.beq (O.real.not (O.real.beq (O.real.lt t0 (0 : Int)) (O.real.lt t1 (0 : Int)))) (O.real.lt t2 (0 : Int)))) = true → Q (.inr ⟨(AV.tup [(AV.int IntKind.i64 (O.real.neg IntKind.i64 (O.real.conv IntKind.i64 (O.real.add IntKind.u64 (dvQ (mulLo (absU t0) (absU t1)) (absU t2)) (1 : Int))))), (AV.bool Bool.true)]), [], [], []⟩)) ∧ ((O.real.not (O.real.beq (O.real.not (O.real.beq (O.real.lt t0 (0 : Int)) (O.real.lt t1 (0 : Int)))) (O.real.lt t2 (0 : Int)))) = false → Q (.inr ⟨(AV.tup [(AV.int IntKind.i64 (O.real.conv IntKind.i64 (O.real.add IntKind.u64 (dvQ (mulLo (absU t0) (absU t1)) (absU t2)) (1 : Int)))), (AV.bool Bool.true)]), [], [], []⟩)))))) ∧ ((O.real.and (O.real.not (O.real.beq (O.real.not (O.real.beq (O.real.lt t0 (0 : Int)) (O.real.lt t1 (0 : Int)))) (O.real.lt t2 (0 : Int)))) (O.real.not (O.real.eq (dvR (mulLo (absU t0) (absU t1)) (absU t2)) (0 : Int)))) = false → (((O.real.lt (9223372036854775807 : Int) (dvQ (mulLo (absU t0) (absU t1)) (absU t2))) = true → Q (.inr ⟨(AV.tup [(AV.int IntKind.i64 (0 : Int)), (AV.bool Bool.false)]), [], [], []⟩)) ∧ ((O.real.lt (9223372036854775807 : Int) (dvQ (mulLo (absU t0) (absU t1)) (absU t2))) = false → (((O.real.not (O.real.beq (O.real.not (O.real.beq (O.real.lt t0 (0 : Int)) (O.real.lt t1 (0 : Int)))) (O.real.lt t2 (0 : Int)))) = true → Q (.inr ⟨(AV.tup [(AV.int IntKind.i64 (O.real.neg IntKind.i64 (O.real.conv IntKind.i64 (dvQ (mulLo (absU t0) (absU t1)) (absU t2))))), (AV.bool Bool.true)]), [], [], []⟩)) ∧ ((O.real.not (O.real.beq (O.real.not (O.real.beq (O.real.lt t0 (0 : Int)) (O.real.lt t1 (0 : Int)))) (O.real.lt t2 (0 : Int)))) = false → Q (.inr ⟨(AV.tup [(AV.int IntKind.i64 (O.real.conv IntKind.i64 (dvQ (mulLo (absU t0) (absU t1)) (absU t2)))), (AV.bool Bool.true)]), [], [], []⟩)))))))))))))))) := by kernel_rfl

noncomputable def w63xC : List Cut := [(⟨9999, ⟨[(0, (.one (.int IntKind.i64))), (1, (.one (.int IntKind.i64))), (2, (.one (.int IntKind.u64))), (3, (.one (.int IntKind.i64)))], [], 0, 85⟩, [It.code (bodyOf Go.Proofs.Tryz.f63)], []⟩ : Cut)]
theorem w63xC_ok : cutsOk w63xC = true := by kernel_rfl
noncomputable def w63xS  : Nat × List Lf → T Gt := stepX O.real Go.Qv.tb (inl O.real Go.Qv.tb Go.Qv.fns (pureOrc (PS.also 95 sp92x (PS.also 96 sp93x (PS.also 97 sp97x (PS.also 98 sp98x PS.none))))) (fun f => Nat.beq f 95 || Nat.beq f 96 || Nat.beq f 97 || Nat.beq f 98) (fun _ => false) 300 14) Go.Proofs.Tryz.f63.results ([]) 0 w63xC
theorem w63x_9999  (t0 : Int) (t1 : Int) (t2 : Int) (t3 : Int) (Q : Gt → Prop) : T.ob noB Q (.S (.S (.S (.S (.S (.D 1 (.S (.D 1 (.S (.D 1 (.S (.D 1 (.S (.D 1 (.S (.B (.S .E) (.S (.S (.D 1 (.S (.D 1 (.S (.B (.B (.S (.S .E)) (.S (.S .E))) (.S (.S .E))))))))))))))))))))))))) (w63xS  (9999, [Lf.int t0, Lf.int t1, Lf.int t2, Lf.int t3])) =
  ((isI t0) ∧ ((isI t1) ∧ (((isU (absU t0)) ∧ (isU (absU t1))) ∧ (((isU (mulLo (absU t0) (absU t1))) ∧ (isU t2)) ∧ (((isU (mulHi (absU t0) (absU t1))) ∧ (isU t2)) ∧ ((((O.real.not (O.real.eq (mulHi (mulHi (absU t0) (absU t1)) t2) (0 : Int))) = Bool.false) → True) ∧ ((((O.real.not (O.real.eq (mulHi (mulHi (absU t0) (absU t1)) t2) (0 : Int))) = Bool.false) → True) ∧ ((((O.real.not (O.real.eq (mulHi (mulHi (absU t0) (absU t1)) t2) (0 : Int))) = Bool.false) → True) ∧ ((((O.real.not (O.real.eq (mulHi (mulHi (absU t0) (absU t1)) t2) (0 : Int))) = Bool.false) → True) ∧ ((((O.real.not (O.real.eq (mulHi (mulHi (absU t0) (absU t1)) t2) (0 : Int))) = Bool.false) → True) ∧ (((O.real.or (O.real.not (O.real.eq (mulHi (mulHi (absU t0) (absU t1)) t2) (0 : Int))) (O.real.lt (O.real.add IntKind.u64 (mulLo (mulHi (absU t0) (absU t1)) t2) (mulHi (mulLo (absU t0) (absU t1)) t2)) (mulLo (mulHi (absU t0) (absU t1)) t2))) = true → Q (.inr ⟨(AV.tup [(AV.int IntKind.i64 (0 : Int)), (AV.bool Bool.false)]), [], [], []⟩)) ∧ ((O.real.or (O.real.not (O.real.eq (mulHi (mulHi (absU t0) (absU t1)) t2) (0 : Int))) (O.real.lt (O.real.add IntKind.u64 (mulLo (mulHi (absU t0) (absU t1)) t2) (mulHi (mulLo (absU t0) (absU t1)) t2)) (mulLo (mulHi (absU t0) (absU t1)) t2))) = false → ((isI t3) ∧ ((byOk (O.real.add IntKind.u64 (mulLo (mulHi (absU t0) (absU t1)) t2) (mulHi (mulLo (absU t0) (absU t1)) t2)) (mulLo (mulLo (absU t0) (absU t1)) t2) (absU t3)) ∧ ((((O.real.not (O.real.beq (O.real.not (O.real.beq (O.real.lt t0 (0 : Int)) (O.real.lt t1 (0 : Int)))) (O.real.lt t3 (0 : Int)))) = Bool.true) → True) ∧ ((((O.real.not (O.real.beq (O.real.not (O.real.beq (O.real.lt t0 (0 : Int)) (O.real.lt t1 (0 : Int)))) (O.real.lt t3 (0 : Int)))) = Bool.true) → True) ∧ (((O.real.and (O.real.not (O.real.beq (O.real.not (O.real.beq (O.real.lt t0 (0 : Int)) (O.real.lt t1 (0 : Int)))) (O.real.lt t3 (0 : Int)))) (O.real.not (O.real.eq (byR (O.real.add IntKind.u64 (mulLo (mulHi (absU t0) (absU t1)) t2) (mulHi (mulLo (absU t0) (absU t1)) t2)) (mulLo (mulLo (absU t0) (absU t1)) t2) (absU t3)) (0 : Int)))) = true → (((O.real.eq (O.real.add IntKind.u64 (byL (O.real.add IntKind.u64 (mulLo (mulHi (absU t0) (absU t1)) t2) (mulHi (mulLo (absU t0) (absU t1)) t2)) (mulLo (mulLo (absU t0) (absU t1)) t2) (absU t3)) (1 : Int)) (0 : Int)) = true → ((isU (O.real.add IntKind.u64 (byL (O.real.add IntKind.u64 (mulLo (mulHi (absU t0) (absU t1)) t2) (mulHi (mulLo (absU t0) (absU t1)) t2)) (mulLo (mulLo (absU t0) (absU t1)) t2) (absU t3)) (1 : Int))) ∧ Q (.inr ⟨(AV.tup [(AV.int IntKind.i64 (fitN (O.real.not (O.real.beq (O.real.not (O.real.beq (O.real.lt t0 (0 : Int)) (O.real.lt t1 (0 : Int)))) (O.real.lt t3 (0 : Int)))) (O.real.add IntKind.u64 (byH (O.real.add IntKind.u64 (mulLo (mulHi (absU t0) (absU t1)) t2) (mulHi (mulLo (absU t0) (absU t1)) t2)) (mulLo (mulLo (absU t0) (absU t1)) t2) (absU t3)) (1 : Int)) (O.real.add IntKind.u64 (byL (O.real.add IntKind.u64 (mulLo (mulHi (absU t0) (absU t1)) t2) (mulHi (mulLo (absU t0) (absU t1)) t2)) (mulLo (mulLo (absU t0) (absU t1)) t2) (absU t3)) (1 : Int)))), (AV.bool (fitB (O.real.add IntKind.u64 (byH (O.real.add IntKind.u64 (mulLo (mulHi (absU t0) (absU t1)) t2) (mulHi (mulLo (absU t0) (absU t1)) t2)) (mulLo (mulLo (absU t0) (absU t1)) t2) (absU t3)) (1 : Int)) (O.real.add IntKind.u64 (byL (O.real.add IntKind.u64 (mulLo (mulHi (absU t0) (absU t1)) t2) (mulHi (mulLo (absU t0) (absU t1)) t2)) (mulLo (mulLo (absU t0) (absU t1)) t2) (absU t3)) (1 : Int))))]), [], [], []⟩))) ∧ ((O.real.eq (O.real.add IntKind.u64 (byL (O.real.add IntKind.u64 (mulLo (mulHi (absU t0) (absU t1)) t2) (mulHi (mulLo (absU t0) (absU t1)) t2)) (mulLo (mulLo (absU t0) (absU t1)) t2) (absU t3)) (1 : Int)) (0 : Int)) = false → ((isU (O.real.add IntKind.u64 (byL (O.real.add IntKind.u64 (mulLo (mulHi (absU t0) (absU t1)) t2) (mulHi (mulLo (absU t0) (absU t1)) t2)) (mulLo (mulLo (absU t0) (absU t1)) t2) (absU t3)) (1 : Int))) ∧ Q (.inr ⟨(AV.tup [(AV.int IntKind.i64 (fitN (O.real.not (O.real.beq (O.real.not (O.real.beq (O.real.lt t0 (0 : Int)) (O.real.lt t1 (0 : Int)))) (O.real.lt t3 (0 : Int)))) (byH (O.real.add IntKind.u64 (mulLo (mulHi (absU t0) (absU t1)) t2) (mulHi (mulLo (absU t0) (absU t1)) t2)) (mulLo (mulLo (absU t0) (absU t1)) t2) (absU t3)) (O.real.add IntKind.u64 (byL (O.real.add IntKind.u64 (mulLo (mulHi (absU t0) (absU t1)) t2) (mulHi (mulLo (absU t0) (absU t1)) t2)) (mulLo (mulLo (absU t0) (absU t1)) t2) (absU t3)) (1 : Int)))), (AV.bool (fitB (byH (O.real.add IntKind.u64 (mulLo (mulHi (absU t0) (absU t1)) t2) (mulHi (mulLo (absU t0) (absU t1)) t2)) (mulLo (mulLo (absU t0) (absU t1)) t2) (absU t3)) (O.real.add IntKind.u64 (byL (O.real.add IntKind.u64 (mulLo (mulHi (absU t0) (absU t1)) t2) (mulHi (mulLo (absU t0) (absU t1)) t2)) (mulLo (mulLo (absU t0) (absU t1)) t2) (absU t3)) (1 : Int))))]), [], [], []⟩))))) ∧ ((O.real.and (O.real.not (O.real.beq (O.real.not (O.real.beq (O.real.lt t0 (0 : Int)) (O.real.lt t1 (0 : Int)))) (O.real.lt t3 (0 : Int)))) (O.real.not (O.real.eq (byR (O.real.add IntKind.u64 (mulLo (mulHi (absU t0) (absU t1)) t2) (mulHi (mulLo (absU t0) (absU t1)) t2)) (mulLo (mulLo (absU t0) (absU t1)) t2) (absU t3)) (0 : Int)))) = false → ((isU (byL (O.real.add IntKind.u64 (mulLo (mulHi (absU t0) (absU t1)) t2) (mulHi (mulLo (absU t0) (absU t1)) t2)) (mulLo (mulLo (absU t0) (absU t1)) t2) (absU t3))) ∧ Q (.inr ⟨(AV.tup [(AV.int IntKind.i64 (fitN (O.real.not (O.real.beq (O.real.not (O.real.beq (O.real.lt t0 (0 : Int)) (O.real.lt t1 (0 : Int)))) (O.real.lt t3 (0 : Int)))) (byH (O.real.add IntKind.u64 (mulLo (mulHi (absU t0) (absU t1)) t2) (mulHi (mulLo (absU t0) (absU t1)) t2)) (mulLo (mulLo (absU t0) (absU t1)) t2) (absU t3)) (byL (O.real.add IntKind.u64 (mulLo (mulHi (absU t0) (absU t1)) t2) (mulHi (mulLo (absU t0) (absU t1)) t2)) (mulLo (mulLo (absU t0) (absU t1)) t2) (absU t3)))), (AV.bool (fitB (byH (O.real.add IntKind.u64 (mulLo (mulHi (absU t0) (absU t1)) t2) (mulHi (mulLo (absU t0) (absU t1)) t2)) (mulLo (mulLo (absU t0) (absU t1)) t2) (absU t3)) (byL (O.real.add IntKind.u64 (mulLo (mulHi (absU t0) (absU t1)) t2) (mulHi (mulLo (absU t0) (absU t1)) t2)) (mulLo (mulLo (absU t0) (absU t1)) t2) (absU t3))))]), [], [], []⟩)))))))))))))))))))) := by kernel_rfl
end Go.Qv
