/- Products, sizes, quotients of 128 bits: the functions answer. No condition. -/
import Derived.Test.YteaeogofidakiaaQXw1
import Derived.Laws.Bits64
set_option linter.unusedVariables false
set_option linter.unusedSimpArgs false
set_option maxRecDepth 100000
namespace Go.Qv
open Go Go.RowKit Go.Proofs
theorem wu {a : Int} (h1 : 0 ≤ a) (h2 : a < 18446744073709551616) : IntKind.u64.wrap a = a := by rw [IntKind.wrap_u64]; omega
theorem wI {a : Int} (h : isI a) : IntKind.i64.wrap a = a := by unfold isI at h; rw [w64] <;> omega
theorem Ret.two {k k' : IntKind} {a b a' b' : Int} (h : a = a') (h' : b = b') : Ret (.tup [.int k a, .int k' b]) ⟨.tup [.int k a', .int k' b'], [], [], []⟩ := by subst h; subst h'; rfl
theorem Ret.tb {k : IntKind} {a a' : Int} {b b' : Bool} (h : a = a') (h' : b = b') : Ret (.tup [.int k a, .bool b]) ⟨.tup [.int k a', .bool b'], [], [], []⟩ := by subst h; subst h'; rfl
theorem w0 {kn md : FuncId → Bool} : OrcOk Try.prog (inl O.real tb fns (pureOrc PS.none) kn md 300 14) (fun _ => True) := walked (PureOk.none _) 14
theorem ok106 : Pure1 Try.prog 106 sp106 := by
  intro xs F w cs R ha h
  unfold sp106 at h
  split at h
  · rename_i n
    obtain ⟨hn, h⟩ := h
    suffices hr : Rh w106S (Ret (.int .u64 (absU n))) (9999, [.int n]) from contract (fn := Try.f106) w0 (by kernel_rfl) w106C_ok (by rfl) (by rfl) (by rfl) (by rfl) (by rfl) ha hr h
    refine Rh.go (w106_9999 n _) ?_
    have hn : isI n := hn
    unfold isI at hn
    simp only [o_add, o_sub, o_mul, o_neg, o_conv, o_lt, o_le, o_eq, o_not, o_and, o_or, o_sel, o_isel, o_ssel, o_beq, o_seq, o_slt, o_slen, o_sat, o_scut, o_sadd, o_ilen, o_blen, o_vlen, o_rlen, o_iget, o_bget, o_vget, o_rget, o_iset, o_bset, o_vset, o_iapp, o_bapp, o_vapp, o_rapp, o_icut, o_bcut, o_vcut, o_irep, o_vt, o_vn, o_vs, o_vl, o_imax, o_imin, o_inb, o_sfit, o_cutb, o_fit, o_mkfit, RhQ, decT, decF, true_and, and_true, eq_self, implies_true, forall_const, Bool.not_eq_true', Bool.not_eq_false', Bool.not_true, Bool.not_false, Bool.and_eq_true, Bool.or_eq_true, Bool.and_eq_false_iff, Bool.or_eq_false_iff, Bool.true_and, Bool.and_true, Bool.false_and, Bool.and_false, Bool.or_false, Bool.false_or, Bool.true_or, Bool.or_true, Int.toNat_natCast, VT.eta, not_true, not_false_iff, false_implies, if_true, if_false, Int.toNat_zero, Int.toNat_one, ns0, ns4]
    refine ⟨fun h => Ret.int ?_, fun h => Ret.int ?_⟩
    · unfold absU; rw [if_pos h, IntKind.wrap_u64, IntKind.wrap_u64]; omega
    · unfold absU; rw [if_neg h, IntKind.wrap_u64]; omega
  · exact h.elim
theorem land32 {a : Int} (h : isU a) : IntKind.u64.wrap (BitVec.ofInt IntKind.u64.bits a &&& BitVec.ofInt IntKind.u64.bits 4294967295).toNat = a % 4294967296 := by
  unfold isU at h
  have e : (BitVec.ofInt IntKind.u64.bits a &&& BitVec.ofInt IntKind.u64.bits 4294967295).toNat = a.toNat % 4294967296 := by
    have h1 : (BitVec.ofInt IntKind.u64.bits a).toNat = a.toNat := by
      rw [BitVec.toNat_ofInt]; simp only [IntKind.bits]; omega
    have h2 : (BitVec.ofInt IntKind.u64.bits 4294967295).toNat = 2 ^ 32 - 1 := by decide
    rw [BitVec.toNat_and, h1, h2, Nat.and_two_pow_sub_one_eq_mod]
  rw [e, wu] <;> omega
theorem shr32 {a : Int} : a.fdiv (2 ^ (32 : Int).toNat) = a / 4294967296 := by
  show a.fdiv 4294967296 = a / 4294967296
  rw [Int.fdiv_eq_ediv_of_nonneg]; omega
theorem mul_le_ {a b A B : Int} (ha : 0 ≤ a) (hb : 0 ≤ b) (h1 : a ≤ A) (h2 : b ≤ B) : a * b ≤ A * B := Int.mul_le_mul h1 h2 hb (by omega)
theorem ok105 : Pure1 Try.prog 105 sp105 := by
  intro xs F w cs R ha h
  unfold sp105 at h
  split at h
  · rename_i x y
    obtain ⟨⟨hx, hy⟩, h⟩ := h
    suffices hr : Rh w105S (Ret (.tup [.int .u64 (mulHi x y), .int .u64 (mulLo x y)])) (9999, [.int x, .int y]) from contract (fn := Try.f105) w0 (by kernel_rfl) w105C_ok (by rfl) (by rfl) (by rfl) (by rfl) (by rfl) ha hr h
    refine Rh.go (w105_9999 x y _) ?_
    simp only [o_add, o_sub, o_mul, o_neg, o_conv, o_lt, o_le, o_eq, o_not, o_and, o_or, o_sel, o_isel, o_ssel, o_beq, o_seq, o_slt, o_slen, o_sat, o_scut, o_sadd, o_ilen, o_blen, o_vlen, o_rlen, o_iget, o_bget, o_vget, o_rget, o_iset, o_bset, o_vset, o_iapp, o_bapp, o_vapp, o_rapp, o_icut, o_bcut, o_vcut, o_irep, o_vt, o_vn, o_vs, o_vl, o_imax, o_imin, o_inb, o_sfit, o_cutb, o_fit, o_mkfit, RhQ, decT, decF, true_and, and_true, eq_self, implies_true, forall_const, Bool.not_eq_true', Bool.not_eq_false', Bool.not_true, Bool.not_false, Bool.and_eq_true, Bool.or_eq_true, Bool.and_eq_false_iff, Bool.or_eq_false_iff, Bool.true_and, Bool.and_true, Bool.false_and, Bool.and_false, Bool.or_false, Bool.false_or, Bool.true_or, Bool.or_true, Int.toNat_natCast, VT.eta, not_true, not_false_iff, false_implies, if_true, if_false, Int.toNat_zero, Int.toNat_one, ns0, ns4, o_iand, o_shr, land32 hx, land32 hy, shr32]
    unfold isU at hx hy
    obtain ⟨x1, x0, rfl, hx0, hx1⟩ : ∃ x1 x0 : Int, x = x1 * 4294967296 + x0 ∧ (0 ≤ x0 ∧ x0 < 4294967296) ∧ 0 ≤ x1 ∧ x1 < 4294967296 := ⟨x / 4294967296, x % 4294967296, by omega, by omega, by omega⟩
    obtain ⟨y1, y0, rfl, hy0, hy1⟩ : ∃ x1 x0 : Int, y = x1 * 4294967296 + x0 ∧ (0 ≤ x0 ∧ x0 < 4294967296) ∧ 0 ≤ x1 ∧ x1 < 4294967296 := ⟨y / 4294967296, y % 4294967296, by omega, by omega, by omega⟩
    have e1 : (x1 * 4294967296 + x0) / 4294967296 = x1 := by omega
    have e2 : (x1 * 4294967296 + x0) % 4294967296 = x0 := by omega
    have e3 : (y1 * 4294967296 + y0) / 4294967296 = y1 := by omega
    have e4 : (y1 * 4294967296 + y0) % 4294967296 = y0 := by omega
    rw [e1, e2, e3, e4]
    have p1 := mul_le_ hx0.1 hy0.1 (show x0 ≤ 4294967295 by omega) (show y0 ≤ 4294967295 by omega)
    have p2 := mul_le_ hx1.1 hy0.1 (show x1 ≤ 4294967295 by omega) (show y0 ≤ 4294967295 by omega)
    have p3 := mul_le_ hx0.1 hy1.1 (show x0 ≤ 4294967295 by omega) (show y1 ≤ 4294967295 by omega)
    have p4 := mul_le_ hx1.1 hy1.1 (show x1 ≤ 4294967295 by omega) (show y1 ≤ 4294967295 by omega)
    have q1 := Int.mul_nonneg hx0.1 hy0.1
    have q2 := Int.mul_nonneg hx1.1 hy0.1
    have q3 := Int.mul_nonneg hx0.1 hy1.1
    have q4 := Int.mul_nonneg hx1.1 hy1.1
    have ex : (x1 * 4294967296 + x0) * (y1 * 4294967296 + y0) = x1 * y1 * 18446744073709551616 + (x1 * y0 + x0 * y1) * 4294967296 + x0 * y0 := by
      simp only [Int.mul_add, Int.add_mul]
      have a1 : x1 * 4294967296 * (y1 * 4294967296) = x1 * y1 * 18446744073709551616 := by
        rw [Int.mul_assoc, Int.mul_left_comm 4294967296, ← Int.mul_assoc]; rfl
      have a2 : x1 * 4294967296 * y0 = x1 * y0 * 4294967296 := by rw [Int.mul_assoc, Int.mul_comm 4294967296, ← Int.mul_assoc]
      have a3 : x0 * (y1 * 4294967296) = x0 * y1 * 4294967296 := by rw [Int.mul_assoc]
      omega
    unfold mulHi mulLo
    rw [ex]
    generalize x0 * y0 = r at *
    generalize x1 * y0 = p at *
    generalize x0 * y1 = q at *
    generalize x1 * y1 = s at *
    have lnd : ∀ a : Int, 0 ≤ a → a < 18446744073709551616 → IntKind.u64.wrap (BitVec.ofInt IntKind.u64.bits a &&& BitVec.ofInt IntKind.u64.bits 4294967295).toNat = a % 4294967296 := fun a h1 h2 => land32 ⟨h1, h2⟩
    have v1 : IntKind.u64.wrap r = r := wu (by omega) (by omega)
    have v2 : IntKind.u64.wrap p = p := wu (by omega) (by omega)
    have v3 : IntKind.u64.wrap q = q := wu (by omega) (by omega)
    have v4 : IntKind.u64.wrap s = s := wu (by omega) (by omega)
    rw [v1, v2, v3, v4]
    have v5 : IntKind.u64.wrap (p + r / 4294967296) = p + r / 4294967296 := wu (by omega) (by omega)
    rw [v5, lnd _ (by omega) (by omega)]
    have v6 : IntKind.u64.wrap ((p + r / 4294967296) % 4294967296 + q) = (p + r / 4294967296) % 4294967296 + q := wu (by omega) (by omega)
    rw [v6]
    refine Ret.two ?_ ?_
    · rw [wu (a := s + _) (by omega) (by omega), wu (by omega) (by omega)]; omega
    · rw [IntKind.wrap_u64]
  · exact h.elim
/-! ### leading zeros -/
theorem goes_of_calls {f : FuncId} {fn : Func} (hf : fns f = some fn) {cs : Array Value} {w : World} {R : Value → World → Prop} (h : Calls Try.prog f cs w fun e w' => ∃ v, e = .returned v ∧ R v w') : Goes Try.prog f cs w R := by
  obtain ⟨h1, h2, h3⟩ := fnsOk f fn hf
  obtain ⟨c, hc⟩ := Option.isSome_iff_exists.1 h3
  have hgo : (callFunc f cs).run Try.prog w = .ok (.enter f cs) w := by
    simp [callFunc, Sem.run_bind, h1, h2, hc]
  unfold Goes
  rw [hgo]
  exact h
theorem PPost.same {F : Nat → Prop} {w : World} {y : AV} {v : Value} (hF : ∀ b, F b → b < w.heap.size) (h : VR noβ F w v y) : PPost F w y v F w :=
  ⟨h, fun _ h => h, hF, fun _ h => .inl h, fun _ _ => rfl, rfl, rfl, rfl, Nat.le_refl _⟩
theorem ok108 : Pure1 Try.prog 108 sp108x := by
  intro xs F w cs R ha h
  unfold sp108x at h
  split at h
  · rename_i y
    obtain ⟨hy, h⟩ := when_inv h
    obtain ⟨hF, hl, hv⟩ := ha
    have hcs : cs = #[.int .u64 y] := by
      apply Array.ext
      · simpa using hl
      · intro i h1 h2
        match i, h2 with
        | 0, _ =>
          have := hv 0 _ _ (Array.getElem?_eq_getElem h1) rfl
          generalize cs[0] = v at this
          cases this; rfl
    subst hcs
    refine goes_of_calls (fn := Try.f108) (by kernel_rfl) ((Try.bits_LeadingZeros64 y w hy.1 (by have := hy.2; omega)).mono fun e w' ⟨h1, h2⟩ => ?_)
    subst h2
    exact ⟨_, h1, h _ F _ (PPost.same hF (.int _ _))⟩
  · exact h.elim
theorem lz_facts {y : Int} (h0 : 0 < y) (h1 : y < 18446744073709551616) : 0 ≤ lzF y ∧ lzF y ≤ 63 ∧ 9223372036854775808 ≤ y * 2 ^ (lzF y).toNat ∧ y * 2 ^ (lzF y).toNat < 18446744073709551616 := by
  obtain ⟨x, rfl⟩ : ∃ x : Nat, y = x := ⟨y.toNat, by omega⟩
  have b := Lib.bitLenAux_bounds 64 x (by omega) (by omega)
  have l := Lib.bitLen_le x 64 (by omega) (by omega)
  unfold lzF
  rw [show ((x : Nat) : Int).toNat = x by omega]
  change 1 ≤ Lib.bitLen x ∧ 2 ^ (Lib.bitLen x - 1) ≤ x ∧ x < 2 ^ Lib.bitLen x at b
  generalize Lib.bitLen x = k at *
  obtain ⟨b0, b1, b2⟩ := b
  have e : (64 - (k : Int)).toNat = 64 - k := by omega
  rw [e]
  have p1 : 2 ^ (k - 1) * 2 ^ (64 - k) = 2 ^ 63 := by rw [← Nat.pow_add]; congr 1; omega
  have p2 : 2 ^ k * 2 ^ (64 - k) = 2 ^ 64 := by rw [← Nat.pow_add]; congr 1; omega
  have q1 : 2 ^ (k - 1) * 2 ^ (64 - k) ≤ x * 2 ^ (64 - k) := Nat.mul_le_mul_right _ b1
  have q2 : x * 2 ^ (64 - k) < 2 ^ k * 2 ^ (64 - k) := Nat.mul_lt_mul_of_pos_right b2 (Nat.pow_pos (by omega))
  have c : ((x : Int) * 2 ^ (64 - k)) = ((x * 2 ^ (64 - k) : Nat) : Int) := by push_cast; rfl
  refine ⟨by omega, by omega, ?_, ?_⟩
  · rw [c]; omega
  · rw [c]; omega
/-! ### quotients of 128 bits: there is an answer -/
def EX (E : Eff) : Prop := ∃ q r, resE E = some (.tup [.int .u64 q, .int .u64 r])
def u64r (a : Int) : Prop := 0 ≤ a ∧ a < 18446744073709551616
theorem wrap_r (a : Int) : u64r (IntKind.u64.wrap a) := by unfold u64r; rw [IntKind.wrap_u64]; omega
section
variable (t2 t8 t9 t10 : Int) (h8 : 0 ≤ t8 ∧ t8.toNat ≤ 64) (h9 : 0 < t9 ∧ t9 < 4294967296)
include h8 h9
theorem loop24 (t14 t15 t17 : Int) (m : Nat) : ∀ (t16 t18 : Int), u64r t16 → (t16 < 4294967296 → (4294967296 - t16).toNat ≤ m) → (4294967296 ≤ t16 → 4294967297 ≤ m) → Rn w107xS EX (24, [.int t2, .int t8, .int t9, .int t10, .int t14, .int t15, .int t16, .int t17, .int t18]) := by
  induction m with
  | zero => intro t16 t18 hu h1 h2; exfalso; by_cases h : t16 < 4294967296 <;> omega
  | succ m ih =>
    intro t16 t18 hu h1 h2
    refine Rn.go (w107x_24 t2 t8 t9 t10 t14 t15 t16 t17 t18 _) (by kernel_rfl) ?_
    simp only [o_add, o_sub, o_mul, o_neg, o_conv, o_lt, o_le, o_eq, o_not, o_and, o_or, o_sel, o_isel, o_ssel, o_beq, o_seq, o_slt, o_slen, o_sat, o_scut, o_sadd, o_ilen, o_blen, o_vlen, o_rlen, o_iget, o_bget, o_vget, o_rget, o_iset, o_bset, o_vset, o_iapp, o_bapp, o_vapp, o_rapp, o_icut, o_bcut, o_vcut, o_irep, o_vt, o_vn, o_vs, o_vl, o_imax, o_imin, o_inb, o_sfit, o_cutb, o_fit, o_mkfit, RhQ, decT, decF, true_and, and_true, eq_self, implies_true, forall_const, Bool.not_eq_true', Bool.not_eq_false', Bool.not_true, Bool.not_false, Bool.and_eq_true, Bool.or_eq_true, Bool.and_eq_false_iff, Bool.or_eq_false_iff, Bool.true_and, Bool.and_true, Bool.false_and, Bool.and_false, Bool.or_false, Bool.false_or, Bool.true_or, Bool.or_true, Int.toNat_natCast, VT.eta, not_true, not_false_iff, false_implies, if_true, if_false, Int.toNat_zero, Int.toNat_one, ns0, ns4, RnQ, o_shok, IntKind.bits]
    refine ⟨fun _ => ⟨fun _ => ⟨h8, _, _, rfl⟩, fun hlt => ?_⟩, fun _ => ⟨h8, _, _, rfl⟩⟩
    have hr := wrap_r (t16 + t9)
    refine ih _ _ hr (fun _ => ?_) (fun h => absurd h hlt)
    unfold u64r at hu hr
    rw [IntKind.wrap_u64] at hlt ⊢
    by_cases hs : t16 < 4294967296
    · have := h1 hs; omega
    · have := h2 (by omega); omega
theorem loop17 (t11 t13 t14 : Int) (m : Nat) : ∀ (t15 t16 : Int), u64r t16 → (t16 < 4294967296 → (4294967296 - t16).toNat ≤ m) → (4294967296 ≤ t16 → 4294967297 ≤ m) → Rn w107xS EX (17, [.int t2, .int t8, .int t9, .int t10, .int t11, .int t13, .int t14, .int t15, .int t16]) := by
  induction m with
  | zero => intro t15 t16 hu h1 h2; exfalso; by_cases h : t16 < 4294967296 <;> omega
  | succ m ih =>
    intro t15 t16 hu h1 h2
    have nx : ∀ (a b c d : Int), Rn w107xS EX (24, [.int t2, .int t8, .int t9, .int t10, .int t14, .int a, .int (IntKind.u64.wrap b), .int c, .int d]) := fun a b c d => by
      have hr := wrap_r b
      exact loop24 t2 t8 t9 t10 h8 h9 t14 a c 4294967297 _ d hr (fun _ => by unfold u64r at hr; omega) (fun _ => Nat.le_refl _)
    refine Rn.go (w107x_17 t2 t8 t9 t10 t11 t13 t14 t15 t16 _) (by kernel_rfl) ?_
    simp only [o_add, o_sub, o_mul, o_neg, o_conv, o_lt, o_le, o_eq, o_not, o_and, o_or, o_sel, o_isel, o_ssel, o_beq, o_seq, o_slt, o_slen, o_sat, o_scut, o_sadd, o_ilen, o_blen, o_vlen, o_rlen, o_iget, o_bget, o_vget, o_rget, o_iset, o_bset, o_vset, o_iapp, o_bapp, o_vapp, o_rapp, o_icut, o_bcut, o_vcut, o_irep, o_vt, o_vn, o_vs, o_vl, o_imax, o_imin, o_inb, o_sfit, o_cutb, o_fit, o_mkfit, RhQ, decT, decF, true_and, and_true, eq_self, implies_true, forall_const, Bool.not_eq_true', Bool.not_eq_false', Bool.not_true, Bool.not_false, Bool.and_eq_true, Bool.or_eq_true, Bool.and_eq_false_iff, Bool.or_eq_false_iff, Bool.true_and, Bool.and_true, Bool.false_and, Bool.and_false, Bool.or_false, Bool.false_or, Bool.true_or, Bool.or_true, Int.toNat_natCast, VT.eta, not_true, not_false_iff, false_implies, if_true, if_false, Int.toNat_zero, Int.toNat_one, ns0, ns4, RnQ, o_nz]
    refine ⟨fun _ => ⟨fun _ => ⟨by omega, nx _ _ _ _⟩, fun hlt => ?_⟩, fun _ => ⟨by omega, nx _ _ _ _⟩⟩
    have hr := wrap_r (t16 + t9)
    refine ih _ _ hr (fun _ => ?_) (fun h => absurd h hlt)
    unfold u64r at hu hr
    rw [IntKind.wrap_u64] at hlt ⊢
    by_cases hs : t16 < 4294967296
    · have := h1 hs; omega
    · have := h2 (by omega); omega
theorem start17 (t11 t13 t14 a b : Int) : Rn w107xS EX (17, [.int t2, .int t8, .int t9, .int t10, .int t11, .int t13, .int t14, .int a, .int (IntKind.u64.wrap b)]) := by
  have hr := wrap_r b
  exact loop17 t2 t8 t9 t10 h8 h9 t11 t13 t14 4294967297 a _ hr (fun _ => by unfold u64r at hr; omega) (fun _ => Nat.le_refl _)
end
def dvOk (h l y : Int) : Prop := isU h ∧ isU l ∧ isU y ∧ h < y
theorem div_ex {h l y : Int} (hk : dvOk h l y) : Rn w107xS EX (9999, [.int h, .int l, .int y]) := by
  obtain ⟨hh, hl, hy, hlt⟩ := hk
  have y0 : 0 < y := by have := hh.1; omega
  obtain ⟨z0, z1, z2, z3⟩ := lz_facts y0 hy.2
  refine Rn.go (w107x_9999 h l y _) (by kernel_rfl) ?_
  have ec : IntKind.u64.wrap (lzF y) = lzF y := wu z0 (by omega)
  have ed : IntKind.u64.wrap (64 - lzF y) = 64 - lzF y := wu (by omega) (by omega)
  have es : IntKind.u64.wrap (y * 2 ^ (lzF y).toNat) = y * 2 ^ (lzF y).toNat := wu (by omega) z3
  simp only [o_add, o_sub, o_mul, o_neg, o_conv, o_lt, o_le, o_eq, o_not, o_and, o_or, o_sel, o_isel, o_ssel, o_beq, o_seq, o_slt, o_slen, o_sat, o_scut, o_sadd, o_ilen, o_blen, o_vlen, o_rlen, o_iget, o_bget, o_vget, o_rget, o_iset, o_bset, o_vset, o_iapp, o_bapp, o_vapp, o_rapp, o_icut, o_bcut, o_vcut, o_irep, o_vt, o_vn, o_vs, o_vl, o_imax, o_imin, o_inb, o_sfit, o_cutb, o_fit, o_mkfit, RhQ, decT, decF, true_and, and_true, eq_self, implies_true, forall_const, Bool.not_eq_true', Bool.not_eq_false', Bool.not_true, Bool.not_false, Bool.and_eq_true, Bool.or_eq_true, Bool.and_eq_false_iff, Bool.or_eq_false_iff, Bool.true_and, Bool.and_true, Bool.false_and, Bool.and_false, Bool.or_false, Bool.false_or, Bool.true_or, Bool.or_true, Int.toNat_natCast, VT.eta, not_true, not_false_iff, false_implies, if_true, if_false, Int.toNat_zero, Int.toNat_one, ns0, ns4, RnQ, o_shok, o_nz, o_shr, o_shl, IntKind.bits, ec, ed, es, shr32]
  generalize y * 2 ^ (lzF y).toNat = Y at *
  have hY : 0 < Y / 4294967296 ∧ Y / 4294967296 < 4294967296 := by omega
  refine ⟨fun h => by omega, fun _ => ⟨fun h => by omega, fun _ => ⟨fun _ => ?_, fun _ => ?_⟩⟩⟩
  · exact ⟨⟨by omega, by omega⟩, _, _, rfl⟩
  · refine ⟨hy, ⟨z0, by omega⟩, ⟨z0, by omega⟩, ⟨by omega, by omega⟩, ⟨z0, by omega⟩, by omega, ?_⟩
    exact start17 _ _ _ _ ⟨z0, by omega⟩ hY _ _ _ _ _
noncomputable def dvP (h l y : Int) : Int × Int := Classical.epsilon fun p => Rh w107xS (Ret (.tup [.int .u64 p.1, .int .u64 p.2])) (9999, [.int h, .int l, .int y])
noncomputable def dvQ (h l y : Int) : Int := (dvP h l y).1
noncomputable def dvR (h l y : Int) : Int := (dvP h l y).2
theorem div_run {h l y : Int} (hk : dvOk h l y) : Rh w107xS (Ret (.tup [.int .u64 (dvQ h l y), .int .u64 (dvR h l y)])) (9999, [.int h, .int l, .int y]) := by
  obtain ⟨E, ⟨q, r, hE⟩, n, hn⟩ := (div_ex hk).one
  have : ∃ p : Int × Int, Rh w107xS (Ret (.tup [.int .u64 p.1, .int .u64 p.2])) (9999, [.int h, .int l, .int y]) := ⟨(q, r), n, FS.imp' (fun E' h => by subst h; exact hE) hn⟩
  exact Classical.epsilon_spec this
noncomputable def sp107x : List AV → T AV
  | [.int .u64 h, .int .u64 l, .int .u64 y] => when_ (dvOk h l y) (.leaf (.tup [.int .u64 (dvQ h l y), .int .u64 (dvR h l y)]))
  | _ => .stuck "sp107x"
theorem ok107x : Pure1 Try.prog 107 sp107x := by
  intro xs F w cs R ha h
  unfold sp107x at h
  split at h
  · rename_i a l y
    obtain ⟨hk, h⟩ := when_inv h
    exact contract (fn := Try.f107) (walked (PureOk.also ok108 (PureOk.none _)) 14) (by kernel_rfl) w107xC_ok (by rfl) (by rfl) (by rfl) (by rfl) (by rfl) ha (div_run hk) h
  · exact h.elim
end Go.Qv
/- Walks of operations, 2. (Printed.) -/
set_option linter.unusedVariables false
set_option maxRecDepth 100000
namespace Go.Qv
open Go Go.RowKit
noncomputable def w94xC : List Cut := [(⟨9999, ⟨[(0, (.one (.int IntKind.i64))), (1, (.one (.int IntKind.i64))), (2, (.one (.int IntKind.i64)))], [], 0, 57⟩, [It.code (bodyOf Go.Proofs.Try.f94)], []⟩ : Cut)]
theorem w94xC_ok : cutsOk w94xC = true := by kernel_rfl
noncomputable def w94xS  : Nat × List Lf → T Gt := stepX O.real Go.Qv.tb (inl O.real Go.Qv.tb Go.Qv.fns (pureOrc (PS.also 105 sp105 (PS.also 106 sp106 (PS.also 107 sp107x PS.none)))) (fun f => Nat.beq f 105 || Nat.beq f 106 || Nat.beq f 107) (fun _ => false) 300 14) Go.Proofs.Try.f94.results ([]) 0 w94xC
theorem w94x_9999  (t0 : Int) (t1 : Int) (t2 : Int) (Q : Gt → Prop) : T.ob noB Q (.S (.S (.S (.S (.B (.S .E) (.S (.D 1 (.S (.D 1 (.S (.B (.B (.S .E) (.B (.S .E) (.S .E))) (.B (.S .E) (.B (.S .E) (.S .E)))))))))))))) (w94xS  (9999, [Lf.int t0, Lf.int t1, Lf.int t2])) =
  ((isI t0) ∧ ((isI t1) ∧ (((isU (absU t0)) ∧ (isU (absU t1))) ∧ ((isI t2) ∧ (((O.real.le (absU t2) (mulHi (absU t0) (absU t1))) = true → Q (.inr ⟨(AV.tup [(AV.int IntKind.i64 (0 : Int)), (AV.bool Bool.false)]), [], [], []⟩)) ∧ ((O.real.le (absU t2) (mulHi (absU t0) (absU t1))) = false → ((dvOk (mulHi (absU t0) (absU t1)) (mulLo (absU t0) (absU t1)) (absU t2)) ∧ ((((O.real.not (O.real.beq (O.real.not (O.real.beq (O.real.lt t0 (0 : Int)) (O.real.lt t1 (0 : Int)))) (O.real.lt t2 (0 : Int)))) = Bool.true) → True) ∧ ((((O.real.not (O.real.beq (O.real.not (O.real.beq (O.real.lt t0 (0 : Int)) (O.real.lt t1 (0 : Int)))) (O.real.lt t2 (0 : Int)))) = Bool.true) → True) ∧ (((O.real.and (O.real.not (O.real.beq (O.real.not (O.real.beq (O.real.lt t0 (0 : Int)) (O.real.lt t1 (0 : Int)))) (O.real.lt t2 (0 : Int)))) (O.real.not (O.real.eq (dvR (mulHi (absU t0) (absU t1)) (mulLo (absU t0) (absU t1)) (absU t2)) (0 : Int)))) = true → (((O.real.lt (9223372036854775807 : Int) (O.real.add IntKind.u64 (dvQ (mulHi (absU t0) (absU t1)) (mulLo (absU t0) (absU t1)) (absU t2)) (1 : Int))) = true → Q (.inr ⟨(AV.tup [(AV.int IntKind.i64 (0 : Int)), (AV.bool Bool.false)]), [], [], []⟩)) ∧ ((O.real.lt (9223372036854775807 : Int) (O.real.add IntKind.u64 (dvQ (mulHi (absU t0) (absU t1)) (mulLo (absU t0) (absU t1)) (absU t2)) (1 : Int))) = false → (((O.real.not (O.real.beq (O.real.not (O.real.beq (O.real.lt t0 (0 : Int)) (O.real.lt t1 (0 : Int)))) (O.real.lt t2 (0 : Int)))) = true → Q (.inr ⟨(AV.tup [(AV.int IntKind.i64 (O.real.neg IntKind.i64 (O.real.conv IntKind.i64 (O.real.add IntKind.u64 (dvQ (mulHi (absU t0) (absU t1)) (mulLo (absU t0) (absU t1)) (absU t2)) (1 : Int))))), (AV.bool Bool.true)]), [], [], []⟩)) ∧ ((O.real.not (O.real.beq (O.real.not (O.real.beq (O.real.lt t0 (0 : Int)) (O.real.lt t1 (0 : Int)))) (O.real.lt t2 (0 : Int)))) = false → Q (.inr ⟨(AV.tup [(AV.int IntKind.i64 (O.real.conv IntKind.i64 (O.real.add IntKind.u64 (dvQ (mulHi (absU t0) (absU t1)) (mulLo (absU t0) (absU t1)) (absU t2)) (1 : Int)))), (AV.bool Bool.true)]), [], [], []⟩)))))) ∧ ((O.real.and (O.real.not (O.real.beq (O.real.not (O.real.beq (O.real.lt t0 (0 : Int)) (O.real.lt t1 (0 : Int)))) (O.real.lt t2 (0 : Int)))) (O.real.not (O.real.eq (dvR (mulHi (absU t0) (absU t1)) (mulLo (absU t0) (absU t1)) (absU t2)) (0 : Int)))) = false → (((O.real.lt (9223372036854775807 : Int) (dvQ (mulHi (absU t0) (absU t1)) (mulLo (absU t0) (absU t1)) (absU t2))) = true → Q (.inr ⟨(AV.tup [(AV.int IntKind.i64 (0 : Int)), (AV.bool Bool.false)]), [], [], []⟩)) ∧ ((O.real.lt (9223372036854775807 : Int) (dvQ (mulHi (absU t0) (absU t1)) (mulLo (absU t0) (absU t1)) (absU t2))) = false → (((O.real.not (O.real.beq (O.real.not (O.real.beq (O.real.lt t0 (0 : Int)) (O.real.lt t1 (0 : Int)))) (O.real.lt t2 (0 : Int)))) = true → Q (.inr ⟨(AV.tup [(AV.int IntKind.i64 (O.real.neg IntKind.i64 (O.real.conv IntKind.i64 (dvQ (mulHi (absU t0) (absU t1)) (mulLo (absU t0) (absU t1)) (absU t2))))), (AV.bool Bool.true)]), [], [], []⟩)) ∧ ((O.real.not (O.real.beq (O.real.not (O.real.beq (O.real.lt t0 (0 : Int)) (O.real.lt t1 (0 : Int)))) (O.real.lt t2 (0 : Int)))) = false → Q (.inr ⟨(AV.tup [(AV.int IntKind.i64 (O.real.conv IntKind.i64 (dvQ (mulHi (absU t0) (absU t1)) (mulLo (absU t0) (absU t1)) (absU t2)))), (AV.bool Bool.true)]), [], [], []⟩)))))))))))))))) := by kernel_rfl

noncomputable def w72bC : List Cut := [(⟨9999, ⟨[(0, (.one (.int IntKind.i64))), (1, (.one (.int IntKind.i64))), (2, (.one (.int IntKind.i64))), (3, (.one (.int IntKind.i64)))], [], 0, 55⟩, [It.code (bodyOf Go.Proofs.Try.f72)], []⟩ : Cut)]
theorem w72bC_ok : cutsOk w72bC = true := by kernel_rfl
noncomputable def w72bS  : Nat × List Lf → T Gt := stepX O.real Go.Qv.tb (inl O.real Go.Qv.tb Go.Qv.fns (pureOrc (PS.also 72 spNo PS.none)) (fun f => Nat.beq f 72) (fun _ => false) 300 14) Go.Proofs.Try.f72.results ([]) 0 w72bC
theorem w72b_9999  (t0 : Int) (t1 : Int) (t2 : Int) (t3 : Int) (Q : Gt → Prop) : T.ob noB Q (.D 1 (.S (.D 1 (.S (.D 1 (.S (.D 1 (.S (.D 1 (.S (.B (.B (.S .E) (.B (.S .E) (.S .E))) (.B .E (.D 2 (.B (.B (.B (.S .E) (.B (.S .E) (.S .E))) (.B (.S .E) (.B (.S .E) (.S .E)))) (.B (.B (.S .E) (.B (.S .E) (.S .E))) (.B (.S .E) (.B (.S .E) (.S .E)))))))))))))))))) (w72bS  (9999, [Lf.int t0, Lf.int t1, Lf.int t2, Lf.int t3])) =
  ((((O.real.eq t0 (Int.negSucc 9223372036854775807)) = Bool.false) → True) ∧ ((((O.real.eq t0 (Int.negSucc 9223372036854775807)) = Bool.false) → True) ∧ ((((O.real.or (O.real.eq t0 (Int.negSucc 9223372036854775807)) (O.real.eq t2 (Int.negSucc 9223372036854775807))) = Bool.false) → True) ∧ ((((O.real.or (O.real.eq t0 (Int.negSucc 9223372036854775807)) (O.real.eq t2 (Int.negSucc 9223372036854775807))) = Bool.false) → True) ∧ ((((O.real.or (O.real.eq t0 (Int.negSucc 9223372036854775807)) (O.real.eq t2 (Int.negSucc 9223372036854775807))) = Bool.false) → True) ∧ (((O.real.or (O.real.or (O.real.eq t0 (Int.negSucc 9223372036854775807)) (O.real.eq t2 (Int.negSucc 9223372036854775807))) (O.real.eq t1 t3)) = true → (((O.real.lt t0 t2) = true → Q (.inr ⟨(AV.int IntKind.i64 (Int.negSucc 0)), [], [], []⟩)) ∧ ((O.real.lt t0 t2) = false → (((O.real.lt t2 t0) = true → Q (.inr ⟨(AV.int IntKind.i64 (1 : Int)), [], [], []⟩)) ∧ ((O.real.lt t2 t0) = false → Q (.inr ⟨(AV.int IntKind.i64 (0 : Int)), [], [], []⟩)))))) ∧ ((O.real.or (O.real.or (O.real.eq t0 (Int.negSucc 9223372036854775807)) (O.real.eq t2 (Int.negSucc 9223372036854775807))) (O.real.eq t1 t3)) = false → (((O.real.eq t1 (2 : Int)) = true → (Bool.false = Bool.true)) ∧ ((O.real.eq t1 (2 : Int)) = false → (((O.real.lt (O.real.rem t0 (10000 : Int)) (0 : Int)) = true → (((O.real.not (O.real.eq (O.real.sub IntKind.i64 (O.real.quo IntKind.i64 t0 (10000 : Int)) (1 : Int)) t2)) = true → (((O.real.lt (O.real.sub IntKind.i64 (O.real.quo IntKind.i64 t0 (10000 : Int)) (1 : Int)) t2) = true → Q (.inr ⟨(AV.int IntKind.i64 (Int.negSucc 0)), [], [], []⟩)) ∧ ((O.real.lt (O.real.sub IntKind.i64 (O.real.quo IntKind.i64 t0 (10000 : Int)) (1 : Int)) t2) = false → (((O.real.lt t2 (O.real.sub IntKind.i64 (O.real.quo IntKind.i64 t0 (10000 : Int)) (1 : Int))) = true → Q (.inr ⟨(AV.int IntKind.i64 (1 : Int)), [], [], []⟩)) ∧ ((O.real.lt t2 (O.real.sub IntKind.i64 (O.real.quo IntKind.i64 t0 (10000 : Int)) (1 : Int))) = false → Q (.inr ⟨(AV.int IntKind.i64 (0 : Int)), [], [], []⟩)))))) ∧ ((O.real.not (O.real.eq (O.real.sub IntKind.i64 (O.real.quo IntKind.i64 t0 (10000 : Int)) (1 : Int)) t2)) = false → (((O.real.lt (O.real.add IntKind.i64 (O.real.rem t0 (10000 : Int)) (10000 : Int)) (0 : Int)) = true → Q (.inr ⟨(AV.int IntKind.i64 (Int.negSucc 0)), [], [], []⟩)) ∧ ((O.real.lt (O.real.add IntKind.i64 (O.real.rem t0 (10000 : Int)) (10000 : Int)) (0 : Int)) = false → (((O.real.lt (0 : Int) (O.real.add IntKind.i64 (O.real.rem t0 (10000 : Int)) (10000 : Int))) = true → Q (.inr ⟨(AV.int IntKind.i64 (1 : Int)), [], [], []⟩)) ∧ ((O.real.lt (0 : Int) (O.real.add IntKind.i64 (O.real.rem t0 (10000 : Int)) (10000 : Int))) = false → Q (.inr ⟨(AV.int IntKind.i64 (0 : Int)), [], [], []⟩)))))))) ∧ ((O.real.lt (O.real.rem t0 (10000 : Int)) (0 : Int)) = false → (((O.real.not (O.real.eq (O.real.quo IntKind.i64 t0 (10000 : Int)) t2)) = true → (((O.real.lt (O.real.quo IntKind.i64 t0 (10000 : Int)) t2) = true → Q (.inr ⟨(AV.int IntKind.i64 (Int.negSucc 0)), [], [], []⟩)) ∧ ((O.real.lt (O.real.quo IntKind.i64 t0 (10000 : Int)) t2) = false → (((O.real.lt t2 (O.real.quo IntKind.i64 t0 (10000 : Int))) = true → Q (.inr ⟨(AV.int IntKind.i64 (1 : Int)), [], [], []⟩)) ∧ ((O.real.lt t2 (O.real.quo IntKind.i64 t0 (10000 : Int))) = false → Q (.inr ⟨(AV.int IntKind.i64 (0 : Int)), [], [], []⟩)))))) ∧ ((O.real.not (O.real.eq (O.real.quo IntKind.i64 t0 (10000 : Int)) t2)) = false → (((O.real.lt (O.real.rem t0 (10000 : Int)) (0 : Int)) = true → Q (.inr ⟨(AV.int IntKind.i64 (Int.negSucc 0)), [], [], []⟩)) ∧ ((O.real.lt (O.real.rem t0 (10000 : Int)) (0 : Int)) = false → (((O.real.lt (0 : Int) (O.real.rem t0 (10000 : Int))) = true → Q (.inr ⟨(AV.int IntKind.i64 (1 : Int)), [], [], []⟩)) ∧ ((O.real.lt (0 : Int) (O.real.rem t0 (10000 : Int))) = false → Q (.inr ⟨(AV.int IntKind.i64 (0 : Int)), [], [], []⟩)))))))))))))))))) := by kernel_rfl
end Go.Qv
