/- Numbers scaled up and down by 10000. No condition. -/
import Derived.Test.YteaeogofidakiaaGreatQYbM
import Derived.Laws.BitsLemmas
set_option linter.unusedVariables false
set_option linter.unusedSimpArgs false
set_option maxRecDepth 100000
namespace Go.Qv
open Go Go.RowKit Go.Proofs
noncomputable def sp62x : List AV → T AV
  | [.int .i64 a, .int .i64 b, .int .i64 d] => when_ (scOk a b d) (.leaf (.tup [.int .i64 (scN a b d), .bool (scB a b d)]))
  | _ => .stuck "sp62x"
noncomputable def sp63x : List AV → T AV
  | [.int .i64 a, .int .i64 c, .int .u64 k, .int .i64 d] => when_ (scOk a k d ∧ isOne c) (.leaf (.tup [.int .i64 (scN a k d), .bool (scB a k d)]))
  | _ => .stuck "sp63x"
theorem scN_in {a b d q : Int} (h : a * b / d = q) (h0 : -9223372036854775807 ≤ q ∧ q ≤ 9223372036854775807) : scN a b d = q ∧ scB a b d = true := by
  have hb : scB a b d = true := by unfold scB; rw [h, Bool.and_eq_true, decide_eq_true_iff, decide_eq_true_iff]; exact h0
  exact ⟨by unfold scN; rw [hb, if_pos rfl, h], hb⟩
theorem scN_out {a b d q : Int} (h : a * b / d = q) (h0 : ¬ (-9223372036854775807 ≤ q ∧ q ≤ 9223372036854775807)) : scN a b d = 0 ∧ scB a b d = false := by
  have hb : scB a b d = false := by unfold scB; rw [h, Bool.and_eq_false_iff, decide_eq_false_iff_not, decide_eq_false_iff_not]; omega
  exact ⟨by unfold scN; rw [hb, if_neg (by simp)], hb⟩
theorem Ret.sc {a b d q : Int} (h : a * b / d = q) (h0 : -9223372036854775807 ≤ q ∧ q ≤ 9223372036854775807) {n : Int} {x : Bool} (hn : n = q) (hx : x = true) : Ret (.tup [.int .i64 (scN a b d), .bool (scB a b d)]) ⟨.tup [.int .i64 n, .bool x], [], [], []⟩ := by
  obtain ⟨h1, h2⟩ := scN_in h h0; rw [h1, h2]; subst hn; subst hx; rfl
theorem Ret.scF {a b d q : Int} (h : a * b / d = q) (h0 : ¬ (-9223372036854775807 ≤ q ∧ q ≤ 9223372036854775807)) {n : Int} {x : Bool} (hn : n = 0) (hx : x = false) : Ret (.tup [.int .i64 (scN a b d), .bool (scB a b d)]) ⟨.tup [.int .i64 n, .bool x], [], [], []⟩ := by
  obtain ⟨h1, h2⟩ := scN_out h h0; rw [h1, h2]; subst hn; subst hx; rfl
theorem absU_u {a : Int} (h : isI a) : isU (absU a) := by unfold isI at h; unfold isU absU; split <;> omega
theorem absU_le {a : Int} (h : isI a) : 0 ≤ absU a ∧ absU a ≤ 9223372036854775808 := by unfold isI at h; unfold absU; split <;> omega
theorem abs1 : absU 1 = 1 := rfl
theorem abs4 : absU 10000 = 10000 := rfl
theorem Bx1 : ((!true == false) == false) = false := rfl
theorem Bx2 : ((!false == false) == false) = true := rfl
theorem sc_run {a b d : Int} (h : scOk a b d) : Rh w62xS (Ret (.tup [.int .i64 (scN a b d), .bool (scB a b d)])) (9999, [.int a, .int b, .int d]) := by
  obtain ⟨ha, h⟩ := h
  have ha' : -9223372036854775808 ≤ a ∧ a < 9223372036854775808 := ha
  refine Rh.go (w62x_9999 a b d _) ?_
  rcases h with ⟨rfl, rfl⟩ | ⟨rfl, rfl⟩
  all_goals
    rcases Int.lt_or_le a 0 with hs | hs
    all_goals
      have hA : absU a = if a < 0 then -a else a := rfl
      first | rw [if_pos hs] at hA | rw [if_neg (by omega)] at hA
      have i1 : isI 10000 := by unfold isI; omega
      have i2 : isI 1 := by unfold isI; omega
      have u1 : isU (absU a) := by unfold isU; omega
      have u2 : isU 10000 := by unfold isU; omega
      have u3 : isU 1 := by unfold isU; omega
      have d1 : decide (a < 0) = true ∨ decide (a < 0) = false := by cases decide (a < 0) <;> simp
      first | (have d2 : decide (a < 0) = true := decide_eq_true hs) | (have d2 : decide (a < 0) = false := decide_eq_false (by omega))
      have d3 : decide ((10000 : Int) < 0) = false := rfl
      have d4 : decide ((1 : Int) < 0) = false := rfl
      simp only [o_add, o_sub, o_mul, o_neg, o_conv, o_lt, o_le, o_eq, o_not, o_and, o_or, o_sel, o_isel, o_ssel, o_beq, o_seq, o_slt, o_slen, o_sat, o_scut, o_sadd, o_ilen, o_blen, o_vlen, o_rlen, o_iget, o_bget, o_vget, o_rget, o_iset, o_bset, o_vset, o_iapp, o_bapp, o_vapp, o_rapp, o_icut, o_bcut, o_vcut, o_irep, o_vt, o_vn, o_vs, o_vl, o_imax, o_imin, o_inb, o_sfit, o_cutb, o_fit, o_mkfit, RhQ, decT, decF, true_and, and_true, eq_self, implies_true, forall_const, Bool.not_eq_true', Bool.not_eq_false', Bool.not_true, Bool.not_false, Bool.and_eq_true, Bool.or_eq_true, Bool.and_eq_false_iff, Bool.or_eq_false_iff, Bool.true_and, Bool.and_true, Bool.false_and, Bool.and_false, Bool.or_false, Bool.false_or, Bool.true_or, Bool.or_true, Int.toNat_natCast, VT.eta, not_true, not_false_iff, false_implies, if_true, if_false, Int.toNat_zero, Int.toNat_one, ns0, ns4, d2, d3, d4, Bx1, Bx2, abs1, abs4, mulHi, mulLo, dvQ, dvR, IntKind.wrap_u64, i1, i2, u1, u2, u3, ha, true_and, and_true]
      simp only [Bool.false_eq_true, Bool.true_eq_false, reduceCtorEq, false_and, true_and, false_or, true_or, false_implies, and_true, forall_const, true_implies, implies_true]
      rw [hA]
      have c0 := Int.ediv_nonneg (a := absU a * 10000) (b := 18446744073709551616) (by omega) (by omega)
      have c1 : absU a * 1 / 18446744073709551616 = 0 := by omega
      have c2 : absU a * 1 % 18446744073709551616 = absU a := by omega
      have c3 : (absU a / 10000 + 1) % 18446744073709551616 = absU a / 10000 + 1 := by have := hA; omega
      rw [hA] at c0 c1 c2 c3
      try simp only [c1, c2, c3]
      repeat' (first | apply And.intro | intro _)
      all_goals first
        | omega
        | exact Ret.sc rfl (by omega) (by simp only [IntKind.wrap_i64]; omega) rfl
        | exact Ret.scF rfl (by omega) rfl rfl
theorem ok62x : Pure1 Tryz.prog 62 sp62x := by
  intro xs F w cs R ha h
  unfold sp62x at h
  split at h
  · rename_i a b d
    obtain ⟨h1, h⟩ := when_inv h
    exact contract (fn := Tryz.f62) (walked (PureOk.also ok92x (PureOk.also ok93x (PureOk.also ok94x (PureOk.none _)))) 14) (by kernel_rfl) w62xC_ok (by rfl) (by rfl) (by rfl) (by rfl) (by rfl) ha (sc_run h1) h
  · exact h.elim
theorem Ret.fit {a b d q : Int} {n : Bool} {h l : Int} (hq : a * b / d = q) (H : (h = 0 ∧ l ≤ 9223372036854775807) ↔ (-9223372036854775807 ≤ q ∧ q ≤ 9223372036854775807)) (hv : h = 0 → l ≤ 9223372036854775807 → (if n then -l else l) = q) :
    Ret (.tup [.int .i64 (scN a b d), .bool (scB a b d)]) ⟨.tup [.int .i64 (fitN n h l), .bool (fitB h l)], [], [], []⟩ := by
  have hb : fitB h l = true ↔ h = 0 ∧ l ≤ 9223372036854775807 := by unfold fitB; rw [Bool.and_eq_true, decide_eq_true_iff, decide_eq_true_iff]
  by_cases hx : h = 0 ∧ l ≤ 9223372036854775807
  · have h2 := hb.2 hx
    exact Ret.sc hq (H.1 hx) (by unfold fitN; rw [h2, if_pos rfl]; exact hv hx.1 hx.2) h2
  · have h2 : fitB h l = false := by cases e : fitB h l; rfl; exact absurd (hb.1 e) hx
    exact Ret.scF hq (fun hh => hx (H.2 hh)) (by unfold fitN; rw [h2]; rfl) h2
theorem byH0 (A : Int) (h : 0 ≤ A) (h1 : A < 18446744073709551616) : byH 0 A 10000 = 0 := by unfold byH; omega
theorem byL0 (A : Int) (h : 0 ≤ A) (h1 : A < 18446744073709551616) : byL 0 A 10000 = A / 10000 := by unfold byL; omega
theorem byR0 (A : Int) : byR 0 A 10000 = A % 10000 := by unfold byR; omega
theorem byH1 (h l : Int) (h1 : 0 ≤ l) (h2 : l < 18446744073709551616) : byH h l 1 = h := by unfold byH; omega
theorem byL1 (h l : Int) (h1 : 0 ≤ l) (h2 : l < 18446744073709551616) : byL h l 1 = l := by unfold byL; omega
theorem byR1 (h l : Int) : byR h l 1 = 0 := by unfold byR; omega
theorem sc_run2 {a c b d : Int} (h : scOk a b d) (hc : isOne c) : Rh w63xS (Ret (.tup [.int .i64 (scN a b d), .bool (scB a b d)])) (9999, [.int a, .int c, .int b, .int d]) := by
  obtain ⟨ha, h⟩ := h
  have hc : c = 1 := hc
  subst hc
  have ha' : -9223372036854775808 ≤ a ∧ a < 9223372036854775808 := ha
  refine Rh.go (w63x_9999 a 1 b d _) ?_
  have hA : absU a = if a < 0 then -a else a := rfl
  have hA0 := absU_u ha
  have z1 : mulHi (absU a) 1 = 0 := by unfold mulHi; have := hA0.1; have := hA0.2; omega
  have z2 : mulLo (absU a) 1 = absU a := by unfold mulLo; have := hA0.1; have := hA0.2; omega
  have z3 : ∀ x, mulHi 0 x = 0 := fun x => by unfold mulHi; rw [Int.zero_mul]; rfl
  have z4 : ∀ x, mulLo 0 x = 0 := fun x => by unfold mulLo; rw [Int.zero_mul]; rfl
  have i1 : isI 10000 := by unfold isI; omega
  have i2 : isI 1 := by unfold isI; omega
  have u2 : isU 10000 := by unfold isU; omega
  have u3 : isU 1 := by unfold isU; omega
  have u4 : isU 0 := by unfold isU; omega
  have b1 : byOk 0 (absU a) 10000 := ⟨u4, hA0, by omega, by omega⟩
  have d3 : decide ((10000 : Int) < 0) = false := rfl
  have d4 : decide ((1 : Int) < 0) = false := rfl
  rcases h with ⟨rfl, rfl⟩ | ⟨rfl, rfl⟩
  · have m1 : mulHi (absU a) 10000 = absU a * 10000 / 18446744073709551616 := rfl
    have m2 : mulLo (absU a) 10000 = absU a * 10000 % 18446744073709551616 := rfl
    have b2 : byOk (mulHi (absU a) 10000) (mulLo (absU a) 10000) 1 := by
      have := hA0.1; have := hA0.2
      rw [m1, m2]; refine ⟨⟨by omega, by omega⟩, ⟨by omega, by omega⟩, by omega, by omega⟩
    have x1 := byH1 (mulHi (absU a) 10000) (mulLo (absU a) 10000) b2.2.1.1 b2.2.1.2
    have x2 := byL1 (mulHi (absU a) 10000) (mulLo (absU a) 10000) b2.2.1.1 b2.2.1.2
    have x3 := byR1 (mulHi (absU a) 10000) (mulLo (absU a) 10000)
    have x4 : IntKind.u64.wrap (0 + mulHi (absU a) 10000) = mulHi (absU a) 10000 := by rw [Int.zero_add]; exact wu b2.1.1 b2.1.2
    simp only [o_add, o_sub, o_mul, o_neg, o_conv, o_lt, o_le, o_eq, o_not, o_and, o_or, o_sel, o_isel, o_ssel, o_beq, o_seq, o_slt, o_slen, o_sat, o_scut, o_sadd, o_ilen, o_blen, o_vlen, o_rlen, o_iget, o_bget, o_vget, o_rget, o_iset, o_bset, o_vset, o_iapp, o_bapp, o_vapp, o_rapp, o_icut, o_bcut, o_vcut, o_irep, o_vt, o_vn, o_vs, o_vl, o_imax, o_imin, o_inb, o_sfit, o_cutb, o_fit, o_mkfit, RhQ, decT, decF, true_and, and_true, eq_self, implies_true, forall_const, Bool.not_eq_true', Bool.not_eq_false', Bool.not_true, Bool.not_false, Bool.and_eq_true, Bool.or_eq_true, Bool.and_eq_false_iff, Bool.or_eq_false_iff, Bool.true_and, Bool.and_true, Bool.false_and, Bool.and_false, Bool.or_false, Bool.false_or, Bool.true_or, Bool.or_true, Int.toNat_natCast, VT.eta, not_true, not_false_iff, false_implies, if_true, if_false, Int.toNat_zero, Int.toNat_one, ns0, ns4, d3, d4, abs1, abs4, z1, z2, z3, z4, x4, x1, x2, x3, b2, i1, i2, u2, u3, u4, hA0, b2.2.1, ha, true_and, and_true, not_true, not_false_iff, false_and, and_false, or_false, false_or, false_implies, true_implies]
    have hlt : ¬ mulHi (absU a) 10000 < 0 := by have := b2.1.1; omega
    refine ⟨fun h => absurd h hlt, fun _ => ?_⟩
    repeat' (first | apply And.intro | intro _)
    all_goals
      refine Ret.fit rfl ?_ ?_
      · rw [m1, m2, hA]
        have := hA0.1
        have c0 := Int.ediv_nonneg (a := absU a * 10000) (b := 18446744073709551616) (by omega) (by omega)
        rw [hA] at c0
        by_cases hs : a < 0
        · rw [if_pos hs] at c0 ⊢; constructor <;> intro hh <;> constructor <;> omega
        · rw [if_neg hs] at c0 ⊢; constructor <;> intro hh <;> constructor <;> omega
      · rw [m1, m2, hA]
        intro h1 h2
        by_cases hs : a < 0
        · rw [decide_eq_true hs]; rw [if_pos hs] at h1 h2 ⊢; simp only [Bx1, Bx2, Bool.not_false, Bool.not_true, if_true, if_false, Bool.false_eq_true]; omega
        · rw [decide_eq_false hs]; rw [if_neg hs] at h1 h2 ⊢; simp only [Bx1, Bx2, Bool.not_false, Bool.not_true, if_true, if_false, Bool.false_eq_true]; omega
  · have x1 := byH0 (absU a) hA0.1 hA0.2
    have x2 := byL0 (absU a) hA0.1 hA0.2
    have x3 := byR0 (absU a)
    have x4 : IntKind.u64.wrap (0 + 0) = 0 := rfl
    simp only [o_add, o_sub, o_mul, o_neg, o_conv, o_lt, o_le, o_eq, o_not, o_and, o_or, o_sel, o_isel, o_ssel, o_beq, o_seq, o_slt, o_slen, o_sat, o_scut, o_sadd, o_ilen, o_blen, o_vlen, o_rlen, o_iget, o_bget, o_vget, o_rget, o_iset, o_bset, o_vset, o_iapp, o_bapp, o_vapp, o_rapp, o_icut, o_bcut, o_vcut, o_irep, o_vt, o_vn, o_vs, o_vl, o_imax, o_imin, o_inb, o_sfit, o_cutb, o_fit, o_mkfit, RhQ, decT, decF, true_and, and_true, eq_self, implies_true, forall_const, Bool.not_eq_true', Bool.not_eq_false', Bool.not_true, Bool.not_false, Bool.and_eq_true, Bool.or_eq_true, Bool.and_eq_false_iff, Bool.or_eq_false_iff, Bool.true_and, Bool.and_true, Bool.false_and, Bool.and_false, Bool.or_false, Bool.false_or, Bool.true_or, Bool.or_true, Int.toNat_natCast, VT.eta, not_true, not_false_iff, false_implies, if_true, if_false, Int.toNat_zero, Int.toNat_one, ns0, ns4, d3, d4, abs1, abs4, z1, z2, z3, z4, x4, x1, x2, x3, b1, i1, i2, u2, u3, u4, hA0, ha, true_and, and_true, not_true, not_false_iff, false_and, and_false, or_false, false_or, false_implies, true_implies]
    have hA00 := hA0.1
    have hA01 := absU_le ha
    refine ⟨fun h => absurd h (by omega), fun _ => ⟨fun h => ⟨fun h2 => ?_, fun h2 => ?_⟩, fun h => ⟨?_, ?_⟩⟩⟩
    · rw [wu (by omega) (by omega)] at h2; omega
    · rw [wu (by omega) (by omega)]
      refine ⟨⟨by omega, by omega⟩, ?_⟩
      by_cases hs : a < 0
      · rw [decide_eq_true hs] at h ⊢; rw [if_pos hs] at hA; rw [hA] at h ⊢
        refine Ret.fit rfl (by constructor <;> intro hh <;> constructor <;> omega) (fun h1 h2 => ?_)
        simp only [Bx1, Bx2, Bool.not_false, Bool.not_true, if_true, if_false, Bool.false_eq_true]; omega
      · rw [decide_eq_false hs] at h; exact absurd h.1 (by decide)
    · exact ⟨by omega, by omega⟩
    · by_cases hs : a < 0
      · rw [decide_eq_true hs] at h ⊢; rw [if_pos hs] at hA; rw [hA] at h ⊢
        have h : -a % 10000 = 0 := by rcases h with h | h; exact absurd h (by decide); exact h
        refine Ret.fit rfl (by constructor <;> intro hh <;> constructor <;> omega) (fun h1 h2 => ?_)
        simp only [Bx1, Bx2, Bool.not_false, Bool.not_true, if_true, if_false, Bool.false_eq_true]; omega
      · rw [decide_eq_false hs]; rw [if_neg hs] at hA; rw [hA]
        refine Ret.fit rfl (by constructor <;> intro hh <;> constructor <;> omega) (fun h1 h2 => ?_)
        simp only [Bx1, Bx2, Bool.not_false, Bool.not_true, if_true, if_false, Bool.false_eq_true]; omega
theorem ok63x : Pure1 Tryz.prog 63 sp63x := by
  intro xs F w cs R ha h
  unfold sp63x at h
  split at h
  · rename_i a c b d
    obtain ⟨⟨h1, h2⟩, h⟩ := when_inv h
    exact contract (fn := Tryz.f63) (walked (PureOk.also ok95x (PureOk.also ok96x (PureOk.also ok97x (PureOk.also ok98x (PureOk.none _))))) 14) (by kernel_rfl) w63xC_ok (by rfl) (by rfl) (by rfl) (by rfl) (by rfl) ha (sc_run2 h1 h2) h
  · exact h.elim
end Go.Qv
