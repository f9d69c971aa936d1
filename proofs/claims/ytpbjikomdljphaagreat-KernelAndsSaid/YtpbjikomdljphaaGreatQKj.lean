/- Places that are in all lists: that the functions do what is said (contracts). No condition. -/
import Derived.Test.YtpbjikomdljphaaGreatQWy
import Derived.Test.YtpbjikomdljphaaGreatQKc
import Derived.Test.YtpbjikomdljphaaGreatQKf
set_option linter.unusedVariables false
set_option linter.unusedSimpArgs false
set_option maxRecDepth 100000
namespace Go.Qv
open Go Go.RowKit Go.Proofs
/-- A list that is not there is one without elements. -/
theorem PPost.nil1 {F F' : Nat → Prop} {w w' : World} {v' : Value} (p : PPost F w .nils v' F' w') : PPost F w (.sl (.i .i64 [])) v' F' w' :=
  { p with vr := vr_back (nils_sl p.vr.fz rfl trivial) }
theorem okAndT : Pure1 Tryz.prog 18 spAndT := by
  intro xs F w cs R ha h
  obtain ⟨x, a, rfl, h1, h⟩ := onRs_inv h
  obtain ⟨ho, h2⟩ := when_inv h
  have ha := ha.conv1 (fun v => as_Rs h1)
  by_cases h0 : 0 < a.length
  · refine contract (fn := Tryz.f18) (walked (PureOk.also ok36 (PureOk.none _)) 14) (by kernel_rfl) w18C_ok (by rfl) (by rfl) (by rfl) (by rfl) (by rfl) ha (ρ := [.rs a]) (Rh.go (w18_9999 a _) ?_) h2
    simp only [o_add, o_sub, o_mul, o_neg, o_conv, o_lt, o_le, o_eq, o_not, o_and, o_or, o_sel, o_isel, o_ssel, o_beq, o_seq, o_slt, o_slen, o_sat, o_scut, o_sadd, o_ilen, o_blen, o_vlen, o_rlen, o_iget, o_bget, o_vget, o_rget, o_iset, o_bset, o_vset, o_iapp, o_bapp, o_vapp, o_rapp, o_icut, o_bcut, o_vcut, o_irep, o_vt, o_vn, o_vs, o_vl, o_imax, o_imin, o_inb, o_sfit, o_cutb, o_fit, o_mkfit, RhQ, decT, decF, true_and, and_true, eq_self, implies_true, forall_const, Bool.not_eq_true', Bool.not_eq_false', Bool.not_true, Bool.not_false, Bool.and_eq_true, Bool.or_eq_true, Bool.and_eq_false_iff, Bool.or_eq_false_iff, Bool.true_and, Bool.and_true, Bool.false_and, Bool.and_false, Bool.or_false, Bool.false_or, Bool.true_or, Bool.or_true, Int.toNat_natCast, VT.eta, not_true, not_false_iff, false_implies, if_true, if_false, Int.toNat_zero, Int.toNat_one, ns0, ns4]
    exact ⟨fun e => absurd e (by omega), fun _ => ⟨⟨by omega, by omega⟩, loop18a a ⟨h0, ho.1, ho.2⟩ 0 (Nat.zero_le _)⟩⟩
  · obtain rfl : a = [] := by cases a with | nil => rfl | cons _ _ => exact absurd (Nat.succ_pos _) h0
    refine contract (fn := Tryz.f18) (y := .nils) (walked (PureOk.also ok36 (PureOk.none _)) 14) (by kernel_rfl) w18C_ok (by rfl) (by rfl) (by rfl) (by rfl) (by rfl) ha (ρ := [.rs []]) (Rh.go (w18_9999 [] _) ?_) (fun v' F' w' p => h2 v' F' w' p.nil1)
    simp only [o_add, o_sub, o_mul, o_neg, o_conv, o_lt, o_le, o_eq, o_not, o_and, o_or, o_sel, o_isel, o_ssel, o_beq, o_seq, o_slt, o_slen, o_sat, o_scut, o_sadd, o_ilen, o_blen, o_vlen, o_rlen, o_iget, o_bget, o_vget, o_rget, o_iset, o_bset, o_vset, o_iapp, o_bapp, o_vapp, o_rapp, o_icut, o_bcut, o_vcut, o_irep, o_vt, o_vn, o_vs, o_vl, o_imax, o_imin, o_inb, o_sfit, o_cutb, o_fit, o_mkfit, RhQ, decT, decF, true_and, and_true, eq_self, implies_true, forall_const, Bool.not_eq_true', Bool.not_eq_false', Bool.not_true, Bool.not_false, Bool.and_eq_true, Bool.or_eq_true, Bool.and_eq_false_iff, Bool.or_eq_false_iff, Bool.true_and, Bool.and_true, Bool.false_and, Bool.and_false, Bool.or_false, Bool.false_or, Bool.true_or, Bool.or_true, Int.toNat_natCast, VT.eta, not_true, not_false_iff, false_implies, if_true, if_false, Int.toNat_zero, Int.toNat_one, ns0, ns4]
    exact ⟨fun _ => rfl, fun e => absurd rfl e⟩
theorem loop19c (rows : List (List AV)) (x : Int) (i k : Nat) (hk : k < rows.length) (hl : rows.length ≤ 1073741824) (all : Bool) (out m : List Int) (hx : x = (rowI rows 0).getD i 0) (hi : i < (rowI rows 0).length)
    (em : rInts (rows.getD k []) 0 = m) (hm : m.length ≤ 1073741824)
    (hK : Rh w19S (Ret (.sl (.i .i64 (andRL rows)))) (7, [.rs rows, .int i, .bool (all && decide (x ∈ m)), .int ((k + 1 : Nat) : Int), .is out])) (j : Nat) (hj : j ≤ m.length) (b : Bool)
    (hb : (b || decide (x ∈ m.drop j)) = decide (x ∈ m)) :
    Rh w19S (Ret (.sl (.i .i64 (andRL rows)))) (11, [.rs rows, .int i, .bool all, .int k, .bool b, .int j, .is out]) := by
  refine Rh.go (w19_11 rows i all k b j out _) ?_
  simp only [o_add, o_sub, o_mul, o_neg, o_conv, o_lt, o_le, o_eq, o_not, o_and, o_or, o_sel, o_isel, o_ssel, o_beq, o_seq, o_slt, o_slen, o_sat, o_scut, o_sadd, o_ilen, o_blen, o_vlen, o_rlen, o_iget, o_bget, o_vget, o_rget, o_iset, o_bset, o_vset, o_iapp, o_bapp, o_vapp, o_rapp, o_icut, o_bcut, o_vcut, o_irep, o_vt, o_vn, o_vs, o_vl, o_imax, o_imin, o_inb, o_sfit, o_cutb, o_fit, o_mkfit, RhQ, decT, decF, true_and, and_true, eq_self, implies_true, forall_const, Bool.not_eq_true', Bool.not_eq_false', Bool.not_true, Bool.not_false, Bool.and_eq_true, Bool.or_eq_true, Bool.and_eq_false_iff, Bool.or_eq_false_iff, Bool.true_and, Bool.and_true, Bool.false_and, Bool.and_false, Bool.or_false, Bool.false_or, Bool.true_or, Bool.or_true, Int.toNat_natCast, VT.eta, not_true, not_false_iff, false_implies, if_true, if_false, Int.toNat_zero, Int.toNat_one, ns0, ns4]
  have e1 : O.real.rInts (rows.getD k []) 0 = m := em
  have e0 : O.real.rInts (rows.getD 0 []) 0 = rowI rows 0 := rfl
  have ik : IntKind.i64.wrap ((k : Int) + 1) = ((k + 1 : Nat) : Int) := inc (n := rows.length) (by simp only [maxLen]; omega) (by omega)
  rw [e1, e0, ← hx, ik]
  refine ⟨⟨by omega, by omega⟩, fun h => ⟨⟨fun _ => ⟨by omega, by omega⟩, fun _ => ⟨by omega, by omega⟩, fun _ => ⟨by omega, by omega⟩, fun _ => ⟨by omega, by omega⟩⟩, ?_⟩, fun h => ?_⟩
  · rw [show IntKind.i64.wrap ((j : Int) + 1) = ((j + 1 : Nat) : Int) from inc (n := m.length) (by simp only [maxLen]; omega) (by omega)]
    refine loop19c rows x i k hk hl all out m hx hi em hm hK (j + 1) (by omega) _ ?_
    rw [← hb, drop_at m 0 (show j < m.length by omega), Bool.or_assoc]
    congr 1
    simp only [List.mem_cons, Bool.decide_or, eq_comm]
  · rw [List.drop_of_length_le (by omega)] at hb
    have hb : b = decide (x ∈ m) := by simpa using hb
    rw [hb]; exact hK
termination_by m.length - j
theorem loop19b (rows : List (List AV)) (hok : andAll rows) (x : Int) (i : Nat) (out : List Int) (ho : out.length ≤ 1073741824) (hx : x = (rowI rows 0).getD i 0) (hi : i < (rowI rows 0).length)
    (hK : Rh w19S (Ret (.sl (.i .i64 (andRL rows)))) (3, [.rs rows, .int ((i + 1 : Nat) : Int), .is (if ((rows.drop 1).all fun m => decide (x ∈ rInts m 0)) = true then out ++ [x] else out)])) (k : Nat) (hk1 : 1 ≤ k) (hk : k ≤ rows.length) (b : Bool)
    (hb : (b && (rows.drop k).all fun m => decide (x ∈ rInts m 0)) = (rows.drop 1).all fun m => decide (x ∈ rInts m 0)) :
    Rh w19S (Ret (.sl (.i .i64 (andRL rows)))) (7, [.rs rows, .int i, .bool b, .int k, .is out]) := by
  refine Rh.go (w19_7 rows i b k out _) ?_
  simp only [o_add, o_sub, o_mul, o_neg, o_conv, o_lt, o_le, o_eq, o_not, o_and, o_or, o_sel, o_isel, o_ssel, o_beq, o_seq, o_slt, o_slen, o_sat, o_scut, o_sadd, o_ilen, o_blen, o_vlen, o_rlen, o_iget, o_bget, o_vget, o_rget, o_iset, o_bset, o_vset, o_iapp, o_bapp, o_vapp, o_rapp, o_icut, o_bcut, o_vcut, o_irep, o_vt, o_vn, o_vs, o_vl, o_imax, o_imin, o_inb, o_sfit, o_cutb, o_fit, o_mkfit, RhQ, decT, decF, true_and, and_true, eq_self, implies_true, forall_const, Bool.not_eq_true', Bool.not_eq_false', Bool.not_true, Bool.not_false, Bool.and_eq_true, Bool.or_eq_true, Bool.and_eq_false_iff, Bool.or_eq_false_iff, Bool.true_and, Bool.and_true, Bool.false_and, Bool.and_false, Bool.or_false, Bool.false_or, Bool.true_or, Bool.or_true, Int.toNat_natCast, VT.eta, not_true, not_false_iff, false_implies, if_true, if_false, Int.toNat_zero, Int.toNat_one, ns0, ns4]
  have e0 : O.real.rInts (rows.getD 0 []) 0 = rowI rows 0 := rfl
  have hl := hok.1
  have h0l : (rowI rows 0).length ≤ 1073741824 := hok.2 _ (getD_mem rows [] (i := 0) (by omega))
  rw [e0, ← hx, inc (n := (rowI rows 0).length) (by simp only [maxLen]; omega) (by omega)]
  refine ⟨fun h => ?_, fun h => ?_⟩
  · refine loop19c rows x i k (by omega) hl b out _ hx hi rfl (hok.2 _ (getD_mem rows [] (by omega))) ?_ 0 (Nat.zero_le _) false (by rw [List.drop_zero, Bool.false_or])
    refine loop19b rows hok x i out ho hx hi hK (k + 1) (by omega) (by omega) _ ?_
    rw [← hb, drop_at rows [] (show k < rows.length by omega), List.all_cons, Bool.and_assoc]
  · rw [List.drop_of_length_le (by omega)] at hb
    have hb : b = (rows.drop 1).all fun m => decide (x ∈ rInts m 0) := by simpa using hb
    rw [← hb] at hK
    refine ⟨fun e => ⟨⟨by omega, by omega⟩, ⟨by omega, by omega⟩, by simp only [List.length_cons, List.length_nil]; omega, ?_⟩, fun e => ?_⟩
    · rw [if_pos e] at hK; exact hK
    · rw [e, if_neg (by decide)] at hK; exact hK
termination_by rows.length - k
theorem loop19a (rows : List (List AV)) (hok : andAll rows) (i : Nat) (h1 : i ≤ (rowI rows 0).length) : Rh w19S (Ret (.sl (.i .i64 (andRL rows)))) (3, [.rs rows, .int i, .is (((rowI rows 0).take i).filter fun i => (rows.drop 1).all fun m => decide (i ∈ rInts m 0))]) := by
  refine Rh.go (w19_3 rows i _ _) ?_
  simp only [o_add, o_sub, o_mul, o_neg, o_conv, o_lt, o_le, o_eq, o_not, o_and, o_or, o_sel, o_isel, o_ssel, o_beq, o_seq, o_slt, o_slen, o_sat, o_scut, o_sadd, o_ilen, o_blen, o_vlen, o_rlen, o_iget, o_bget, o_vget, o_rget, o_iset, o_bset, o_vset, o_iapp, o_bapp, o_vapp, o_rapp, o_icut, o_bcut, o_vcut, o_irep, o_vt, o_vn, o_vs, o_vl, o_imax, o_imin, o_inb, o_sfit, o_cutb, o_fit, o_mkfit, RhQ, decT, decF, true_and, and_true, eq_self, implies_true, forall_const, Bool.not_eq_true', Bool.not_eq_false', Bool.not_true, Bool.not_false, Bool.and_eq_true, Bool.or_eq_true, Bool.and_eq_false_iff, Bool.or_eq_false_iff, Bool.true_and, Bool.and_true, Bool.false_and, Bool.and_false, Bool.or_false, Bool.false_or, Bool.true_or, Bool.or_true, Int.toNat_natCast, VT.eta, not_true, not_false_iff, false_implies, if_true, if_false, Int.toNat_zero, Int.toNat_one, ns0, ns4]
  have e0 : O.real.rInts (rows.getD 0 []) 0 = rowI rows 0 := rfl
  rw [e0]
  refine ⟨fun h => ⟨by omega, by omega⟩, fun h => ?_, fun h => ?_⟩
  · have h0l : (rowI rows 0).length ≤ 1073741824 := hok.2 _ (getD_mem rows [] (i := 0) (by omega))
    have e := loop19a rows hok (i + 1) (by omega)
    refine loop19b rows hok _ i _ (Nat.le_trans (List.length_filter_le _ _) (by rw [List.length_take]; omega)) rfl (by omega) ?_ 1 (Nat.le_refl _) (by omega) true (by rw [Bool.true_and])
    rw [take_at (rowI rows 0) 0 (show i < (rowI rows 0).length by omega), List.filter_append] at e
    rw [List.filter_cons, List.filter_nil] at e
    split at e
    · rename_i h1; rw [if_pos h1]; exact e
    · rename_i h1; rw [if_neg h1]; rw [List.append_nil] at e; exact e
  · by_cases hr : rows = []
    · subst hr
      obtain rfl : i = 0 := Nat.le_zero.1 h1
      exact rfl
    · have : 0 < rows.length := by cases rows with | nil => exact absurd rfl hr | cons _ _ => exact Nat.succ_pos _
      rw [List.take_of_length_le (by omega)]; exact rfl
termination_by (rowI rows 0).length - i
theorem okAndR : Pure1 Tryz.prog 19 spAndR := by
  intro xs F w cs R ha h
  obtain ⟨x, a, rfl, h1, h⟩ := onRs_inv h
  obtain ⟨ho, h2⟩ := when_inv h
  have ha := ha.conv1 (fun v => as_Rs h1)
  refine contract (fn := Tryz.f19) (walked (PureOk.none _) 14) (by kernel_rfl) w19C_ok (by rfl) (by rfl) (by rfl) (by rfl) (by rfl) ha (ρ := [.rs a]) (Rh.go (w19_9999 a _) ?_) h2
  simp only [o_add, o_sub, o_mul, o_neg, o_conv, o_lt, o_le, o_eq, o_not, o_and, o_or, o_sel, o_isel, o_ssel, o_beq, o_seq, o_slt, o_slen, o_sat, o_scut, o_sadd, o_ilen, o_blen, o_vlen, o_rlen, o_iget, o_bget, o_vget, o_rget, o_iset, o_bset, o_vset, o_iapp, o_bapp, o_vapp, o_rapp, o_icut, o_bcut, o_vcut, o_irep, o_vt, o_vn, o_vs, o_vl, o_imax, o_imin, o_inb, o_sfit, o_cutb, o_fit, o_mkfit, RhQ, decT, decF, true_and, and_true, eq_self, implies_true, forall_const, Bool.not_eq_true', Bool.not_eq_false', Bool.not_true, Bool.not_false, Bool.and_eq_true, Bool.or_eq_true, Bool.and_eq_false_iff, Bool.or_eq_false_iff, Bool.true_and, Bool.and_true, Bool.false_and, Bool.and_false, Bool.or_false, Bool.false_or, Bool.true_or, Bool.or_true, Int.toNat_natCast, VT.eta, not_true, not_false_iff, false_implies, if_true, if_false, Int.toNat_zero, Int.toNat_one, ns0, ns4]
  exact loop19a a ho 0 (Nat.zero_le _)
end Go.Qv
