/- Dictionaries: what keys lead to: contracts. No condition. -/
import Derived.Test.YtmeagbopnliddaaGreatQXa
set_option linter.unusedVariables false
set_option linter.unusedSimpArgs false
set_option maxRecDepth 100000
namespace Go.Qv
open Go Go.RowKit Go.Proofs
/-! ### what is left of a number behind a value's parts -/
theorem loop82 (m : Nat) (t n s l) (hm : smaller (.mk t n s l) (m + 1)) (hl : l.length ≤ maxLen) (d k : Int) (i : Nat) (h1 : i ≤ l.length) : Rh (w82S m) (Ret (.int .i64 (leftL (l.drop i) k d))) (5, [.int k, .int d, .int i, .int t, .is n, .ss s, .vs l]) := by
  refine Rh.go (w82_5 m k d i t n s l _) ?_
  simp only [o_add, o_sub, o_mul, o_neg, o_conv, o_lt, o_le, o_eq, o_not, o_and, o_or, o_sel, o_isel, o_ssel, o_beq, o_seq, o_slt, o_slen, o_sat, o_scut, o_sadd, o_ilen, o_blen, o_vlen, o_rlen, o_iget, o_bget, o_vget, o_rget, o_iset, o_bset, o_vset, o_iapp, o_bapp, o_vapp, o_rapp, o_icut, o_bcut, o_vcut, o_irep, o_vt, o_vn, o_vs, o_vl, o_imax, o_imin, o_inb, o_sfit, o_cutb, o_fit, o_mkfit, RhQ, decT, decF, true_and, and_true, eq_self, implies_true, forall_const, Bool.not_eq_true', Bool.not_eq_false', Bool.not_true, Bool.not_false, Bool.and_eq_true, Bool.or_eq_true, Bool.and_eq_false_iff, Bool.or_eq_false_iff, Bool.true_and, Bool.and_true, Bool.false_and, Bool.and_false, Bool.or_false, Bool.false_or, Bool.true_or, Bool.or_true, Int.toNat_natCast, VT.eta, not_true, not_false_iff, false_implies, if_true, if_false, Int.toNat_zero, Int.toNat_one, ns0, ns4]
  refine ⟨fun h => ⟨⟨by omega, by omega⟩, hm.mem (getD_mem l default (by omega)), ?_⟩, fun h => Ret.int ?_⟩
  · rw [inc hl (by omega), drop_at l default (show i < l.length by omega), leftL, if_pos h.2]
    exact loop82 m t n s l hm hl _ _ (i + 1) (by omega)
  · rcases Nat.lt_or_ge i l.length with hi | hi
    · rw [drop_at l default hi, leftL, if_neg (by omega)]
    · rw [List.drop_of_length_le hi]; rfl
termination_by l.length - i
theorem okLeftN : ∀ n, Pure1 Tryz.prog 82 (spLeft n) := pure_ind (fun xs F w cs R ha h => by
    obtain ⟨x, k, d, a, rfl, h1, h⟩ := onL3_inv h
    exact (none0 (when_inv h).1).elim) (fun m ih xs F w cs R ha h => by
    obtain ⟨x, k, d, a, rfl, h1, h⟩ := onL3_inv h
    obtain ⟨hm, h2⟩ := when_inv h
    have ha := ha.conv3 (fun v => as_V h1) (fun v h => h) (fun v h => h)
    obtain ⟨v, hv⟩ := ha.at 0 rfl
    obtain ⟨t, n, s, l⟩ := a
    refine contract (fn := Tryz.f82) (walked (PureOk.also ih (PureOk.none _)) 14) (by kernel_rfl) w82C_ok (by rfl) (by rfl) (by rfl) (by rfl) (by rfl) ha (ρ := [.int t, .is n, .ss s, .vs l, .int k, .int d]) (Rh.go (w82_9999 m t n s l k d _) ?_) h2
    simp only [o_add, o_sub, o_mul, o_neg, o_conv, o_lt, o_le, o_eq, o_not, o_and, o_or, o_sel, o_isel, o_ssel, o_beq, o_seq, o_slt, o_slen, o_sat, o_scut, o_sadd, o_ilen, o_blen, o_vlen, o_rlen, o_iget, o_bget, o_vget, o_rget, o_iset, o_bset, o_vset, o_iapp, o_bapp, o_vapp, o_rapp, o_icut, o_bcut, o_vcut, o_irep, o_vt, o_vn, o_vs, o_vl, o_imax, o_imin, o_inb, o_sfit, o_cutb, o_fit, o_mkfit, RhQ, decT, decF, true_and, and_true, eq_self, implies_true, forall_const, Bool.not_eq_true', Bool.not_eq_false', Bool.not_true, Bool.not_false, Bool.and_eq_true, Bool.or_eq_true, Bool.and_eq_false_iff, Bool.or_eq_false_iff, Bool.true_and, Bool.and_true, Bool.false_and, Bool.and_false, Bool.or_false, Bool.false_or, Bool.true_or, Bool.or_true, Int.toNat_natCast, VT.eta, not_true, not_false_iff, false_implies, if_true, if_false, Int.toNat_zero, Int.toNat_one, ns0, ns4]
    rw [leftI]
    refine ⟨fun h => Ret.int (by rw [if_pos h]), fun h => ?_⟩
    rw [if_neg h]
    exact loop82 m t n s l hm hv.vlen.l _ _ 0 (by omega))
theorem okLeft : Pure1 Tryz.prog 82 spLeftF := pure_all okLeftN fun xs Q h => by
  obtain ⟨x, k, d, a, rfl, h1, h⟩ := onL3_inv h
  exact ⟨a.sz + 1, onL3_mk h1 (when_mk (Nat.lt_succ_self _) h)⟩
/-! ### may it be asked of? -/
theorem loop9 (l : List VT) (hl : l.length ≤ maxLen) (hf : fines l) (i : Nat) (h1 : i ≤ l.length) : Rh w9S (Ret (.bool ((l.drop i).all mayV && decide ((l.length : Int) ≤ 30)))) (2, [.vs l, .int i]) := by
  refine Rh.go (w9_2 l i _) ?_
  simp only [o_add, o_sub, o_mul, o_neg, o_conv, o_lt, o_le, o_eq, o_not, o_and, o_or, o_sel, o_isel, o_ssel, o_beq, o_seq, o_slt, o_slen, o_sat, o_scut, o_sadd, o_ilen, o_blen, o_vlen, o_rlen, o_iget, o_bget, o_vget, o_rget, o_iset, o_bset, o_vset, o_iapp, o_bapp, o_vapp, o_rapp, o_icut, o_bcut, o_vcut, o_irep, o_vt, o_vn, o_vs, o_vl, o_imax, o_imin, o_inb, o_sfit, o_cutb, o_fit, o_mkfit, RhQ, decT, decF, true_and, and_true, eq_self, implies_true, forall_const, Bool.not_eq_true', Bool.not_eq_false', Bool.not_true, Bool.not_false, Bool.and_eq_true, Bool.or_eq_true, Bool.and_eq_false_iff, Bool.or_eq_false_iff, Bool.true_and, Bool.and_true, Bool.false_and, Bool.and_false, Bool.or_false, Bool.false_or, Bool.true_or, Bool.or_true, Int.toNat_natCast, VT.eta, not_true, not_false_iff, false_implies, if_true, if_false, Int.toNat_zero, Int.toNat_one, ns0, ns4]
  refine ⟨fun h => ?_, fun h => by rw [List.drop_of_length_le (by omega)]; exact Ret.bool (by rw [List.all_nil, Bool.true_and])⟩
  have hi : (0 : Int) ≤ i ∧ (i : Int) < l.length := ⟨by omega, h⟩
  have hfx := hf _ (getD_mem l default (i := i) (by omega))
  rw [drop_at l default (show i < l.length by omega), List.all_cons]
  refine ⟨hi, fun _ => hfx, fun h2 => Ret.bool ?_, fun h2 => ?_⟩
  · have e1 : mayV (l.getD i default) = false := by
      rw [Bool.eq_false_iff]
      intro hh
      unfold mayV checkV at hh
      simp only [Bool.and_eq_true, Bool.not_eq_true', decide_eq_true_eq, decide_eq_false_iff_not] at hh
      obtain ⟨⟨⟨⟨a, b⟩, c⟩, d⟩, e⟩ := hh
      rcases h2 with (((h2 | h2) | h2) | h2) | h2
      · exact a h2
      · exact b h2
      · exact c h2
      · exact h2 d
      · exact h2 e
    rw [e1, Bool.false_and, Bool.false_and]
  · have e1 : mayV (l.getD i default) = true := by
      unfold mayV checkV
      simp only [Bool.and_eq_true, Bool.not_eq_true', decide_eq_true_eq, decide_eq_false_iff_not]
      exact ⟨⟨⟨⟨h2.1.1.1.1, h2.1.1.1.2⟩, h2.1.1.2⟩, h2.1.2⟩, h2.2⟩
    rw [e1, Bool.true_and, inc hl (by omega)]
    exact loop9 l hl hf (i + 1) (by omega)
termination_by l.length - i
theorem okMay : Pure1 Tryz.prog 9 spMay := by
  intro xs F w cs R ha h
  obtain ⟨x, a, rfl, h1, h⟩ := onVs_inv h
  obtain ⟨hf, h2⟩ := when_inv h
  have ha := ha.conv1 (fun v => as_Vs h1)
  obtain ⟨v, hv⟩ := ha.at 0 rfl
  refine contract (fn := Tryz.f9) (walked (PureOk.also okLeft (PureOk.also ok83 (PureOk.also ok84 (PureOk.none _)))) 14) (by kernel_rfl) w9C_ok (by rfl) (by rfl) (by rfl) (by rfl) (by rfl) ha (ρ := [.vs a]) (Rh.go (w9_9999 a _) ?_) h2
  simp only [o_add, o_sub, o_mul, o_neg, o_conv, o_lt, o_le, o_eq, o_not, o_and, o_or, o_sel, o_isel, o_ssel, o_beq, o_seq, o_slt, o_slen, o_sat, o_scut, o_sadd, o_ilen, o_blen, o_vlen, o_rlen, o_iget, o_bget, o_vget, o_rget, o_iset, o_bset, o_vset, o_iapp, o_bapp, o_vapp, o_rapp, o_icut, o_bcut, o_vcut, o_irep, o_vt, o_vn, o_vs, o_vl, o_imax, o_imin, o_inb, o_sfit, o_cutb, o_fit, o_mkfit, RhQ, decT, decF, true_and, and_true, eq_self, implies_true, forall_const, Bool.not_eq_true', Bool.not_eq_false', Bool.not_true, Bool.not_false, Bool.and_eq_true, Bool.or_eq_true, Bool.and_eq_false_iff, Bool.or_eq_false_iff, Bool.true_and, Bool.and_true, Bool.false_and, Bool.and_false, Bool.or_false, Bool.false_or, Bool.true_or, Bool.or_true, Int.toNat_natCast, VT.eta, not_true, not_false_iff, false_implies, if_true, if_false, Int.toNat_zero, Int.toNat_one, ns0, ns4]
  exact loop9 a hv.len hf 0 (by omega)
/-! ### copies -/
theorem loop24 (l : List VT) (ht : tames l) (i : Nat) (hi : i ≤ l.length) : Rh w24S (Ret (.sl (.v l))) (3, [.vs l, .int i, .vs (l.take i)]) := by
  refine Rh.go (w24_3 l i _ _) ?_
  have hl := ht.len
  simp only [o_add, o_sub, o_mul, o_neg, o_conv, o_lt, o_le, o_eq, o_not, o_and, o_or, o_sel, o_isel, o_ssel, o_beq, o_seq, o_slt, o_slen, o_sat, o_scut, o_sadd, o_ilen, o_blen, o_vlen, o_rlen, o_iget, o_bget, o_vget, o_rget, o_iset, o_bset, o_vset, o_iapp, o_bapp, o_vapp, o_rapp, o_icut, o_bcut, o_vcut, o_irep, o_vt, o_vn, o_vs, o_vl, o_imax, o_imin, o_inb, o_sfit, o_cutb, o_fit, o_mkfit, RhQ, decT, decF, true_and, and_true, eq_self, implies_true, forall_const, Bool.not_eq_true', Bool.not_eq_false', Bool.not_true, Bool.not_false, Bool.and_eq_true, Bool.or_eq_true, Bool.and_eq_false_iff, Bool.or_eq_false_iff, Bool.true_and, Bool.and_true, Bool.false_and, Bool.and_false, Bool.or_false, Bool.false_or, Bool.true_or, Bool.or_true, Int.toNat_natCast, VT.eta, not_true, not_false_iff, false_implies, if_true, if_false, Int.toNat_zero, Int.toNat_one, ns0, ns4, List.length_take, List.length_cons, List.length_nil]
  refine ⟨fun h => ?_, fun h => ?_⟩
  · have hx := getD_mem l default (i := i) (by omega)
    have e := loop24 l ht (i + 1) (by omega)
    rw [take_at l default (by omega)] at e
    rw [inc (mlen hl) (by omega)]
    repeat' apply And.intro
    all_goals first | exact e | omega | exact ht.mem hx
  · rw [List.take_of_length_le (by omega)]; exact rfl
termination_by l.length - i
theorem okClones : Pure1 Tryz.prog 24 spClones := by
  intro xs F w cs R ha h
  obtain ⟨x, a, rfl, h1, h⟩ := onVs_inv h
  obtain ⟨ht, h⟩ := when_inv h
  have ha := ha.conv1 (fun v => as_Vs h1)
  refine contract (fn := Tryz.f24) (walked (PureOk.also ok12 (PureOk.none _)) 14) (by kernel_rfl) w24C_ok (by rfl) (by rfl) (by rfl) (by rfl) (by rfl) ha (ρ := [.vs a]) (Rh.go (w24_9999 a _) ?_) h
  simp only [o_add, o_sub, o_mul, o_neg, o_conv, o_lt, o_le, o_eq, o_not, o_and, o_or, o_sel, o_isel, o_ssel, o_beq, o_seq, o_slt, o_slen, o_sat, o_scut, o_sadd, o_ilen, o_blen, o_vlen, o_rlen, o_iget, o_bget, o_vget, o_rget, o_iset, o_bset, o_vset, o_iapp, o_bapp, o_vapp, o_rapp, o_icut, o_bcut, o_vcut, o_irep, o_vt, o_vn, o_vs, o_vl, o_imax, o_imin, o_inb, o_sfit, o_cutb, o_fit, o_mkfit, RhQ, decT, decF, true_and, and_true, eq_self, implies_true, forall_const, Bool.not_eq_true', Bool.not_eq_false', Bool.not_true, Bool.not_false, Bool.and_eq_true, Bool.or_eq_true, Bool.and_eq_false_iff, Bool.or_eq_false_iff, Bool.true_and, Bool.and_true, Bool.false_and, Bool.and_false, Bool.or_false, Bool.false_or, Bool.true_or, Bool.or_true, Int.toNat_natCast, VT.eta, not_true, not_false_iff, false_implies, if_true, if_false, Int.toNat_zero, Int.toNat_one, ns0, ns4]
  exact loop24 a ht 0 (Nat.zero_le _)
/-! ### what stands for none; a list like another one -/
theorem okNone : Pure1 Tryz.prog 63 spNone := by
  intro xs F w cs R ha h
  obtain ⟨x, a, rfl, h1, h⟩ := onV_inv h
  have ha := ha.conv1 (fun v => as_V h1)
  obtain ⟨t, n, s, l⟩ := a
  refine contract (fn := Tryz.f63) (walked (PureOk.also ok100 (PureOk.also ok75 (PureOk.none _))) 14) (by kernel_rfl) w63C_ok (by rfl) (by rfl) (by rfl) (by rfl) (by rfl) ha (ρ := [.int t, .is n, .ss s, .vs l]) (Rh.go (w63_9999 t n s l _) ?_) h
  simp only [o_add, o_sub, o_mul, o_neg, o_conv, o_lt, o_le, o_eq, o_not, o_and, o_or, o_sel, o_isel, o_ssel, o_beq, o_seq, o_slt, o_slen, o_sat, o_scut, o_sadd, o_ilen, o_blen, o_vlen, o_rlen, o_iget, o_bget, o_vget, o_rget, o_iset, o_bset, o_vset, o_iapp, o_bapp, o_vapp, o_rapp, o_icut, o_bcut, o_vcut, o_irep, o_vt, o_vn, o_vs, o_vl, o_imax, o_imin, o_inb, o_sfit, o_cutb, o_fit, o_mkfit, RhQ, decT, decF, true_and, and_true, eq_self, implies_true, forall_const, Bool.not_eq_true', Bool.not_eq_false', Bool.not_true, Bool.not_false, Bool.and_eq_true, Bool.or_eq_true, Bool.and_eq_false_iff, Bool.or_eq_false_iff, Bool.true_and, Bool.and_true, Bool.false_and, Bool.and_false, Bool.or_false, Bool.false_or, Bool.true_or, Bool.or_true, Int.toNat_natCast, VT.eta, not_true, not_false_iff, false_implies, if_true, if_false, Int.toNat_zero, Int.toNat_one, ns0, ns4]
  refine ⟨fun h => Ret.v (y := nullV t) (if_pos (show 1 ≤ (VT.mk t n s l).t ∧ (VT.mk t n s l).t ≤ 5 from h)) rfl, fun h => ⟨by unfold tames; simp [bks], Ret.v (y := ofV []) (if_neg (show ¬ (1 ≤ (VT.mk t n s l).t ∧ (VT.mk t n s l).t ≤ 5) by show ¬ (1 ≤ t ∧ t ≤ 5); omega)) rfl⟩⟩
theorem like_no {t n s l} {a : List VT} (h : ¬ (1 ≤ t ∧ t ≤ 5)) : likeV (.mk t n s l) a = ofV a := if_neg (fun hh => h hh.1)
theorem like_odd {t n s l} {a : List VT} {i : Nat} (hi : i < a.length) (h : (a.getD i default).t ≠ -t) : likeV (.mk t n s l) a = ofV a := by
  refine if_neg (fun hh => ?_)
  have := List.all_eq_true.1 hh.2 _ (getD_mem a default hi)
  exact h (of_decide_eq_true this)
theorem like_yes {t n s l} {a : List VT} (h : 1 ≤ t ∧ t ≤ 5) (h2 : ∀ x ∈ a, x.t = -t) : likeV (.mk t n s l) a = .mk t (a.flatMap VT.n) (a.flatMap VT.s) [] :=
  if_pos ⟨h, List.all_eq_true.2 fun x hx => decide_eq_true (h2 x hx)⟩
theorem loop64 (t n s l) (a : List VT) (ht : tames a) (h5 : 1 ≤ t ∧ t ≤ 5) (i : Nat) (hi : i ≤ a.length) (hall : ∀ x ∈ a.take i, x.t = -t) :
    Rh w64S (Ret (vcl (likeV (.mk t n s l) a))) (5, [.vs a, .int i, .int t, .is n, .ss s, .vs l, .int t, .is ((a.take i).flatMap VT.n), .ss ((a.take i).flatMap VT.s)]) := by
  refine Rh.go (w64_5 a i t n s l t _ _ _) ?_
  have hl := ht.len
  simp only [o_add, o_sub, o_mul, o_neg, o_conv, o_lt, o_le, o_eq, o_not, o_and, o_or, o_sel, o_isel, o_ssel, o_beq, o_seq, o_slt, o_slen, o_sat, o_scut, o_sadd, o_ilen, o_blen, o_vlen, o_rlen, o_iget, o_bget, o_vget, o_rget, o_iset, o_bset, o_vset, o_iapp, o_bapp, o_vapp, o_rapp, o_icut, o_bcut, o_vcut, o_irep, o_vt, o_vn, o_vs, o_vl, o_imax, o_imin, o_inb, o_sfit, o_cutb, o_fit, o_mkfit, RhQ, decT, decF, true_and, and_true, eq_self, implies_true, forall_const, Bool.not_eq_true', Bool.not_eq_false', Bool.not_true, Bool.not_false, Bool.and_eq_true, Bool.or_eq_true, Bool.and_eq_false_iff, Bool.or_eq_false_iff, Bool.true_and, Bool.and_true, Bool.false_and, Bool.and_false, Bool.or_false, Bool.false_or, Bool.true_or, Bool.or_true, Int.toNat_natCast, VT.eta, not_true, not_false_iff, false_implies, if_true, if_false, Int.toNat_zero, Int.toNat_one, ns0, ns4]
  refine ⟨fun h => ?_, fun h => ?_⟩
  · have hi' : i < a.length := by omega
    have hx := getD_mem a default hi'
    have w0 : IntKind.i64.wrap (0 - t) = -t := by rw [w64 (by omega) (by omega)]; omega
    rw [w0]
    refine ⟨⟨by omega, h⟩, fun h2 => ⟨ht, Ret.v (like_odd hi' h2) rfl⟩, fun h2 => ?_⟩
    have e := loop64 t n s l a ht h5 (i + 1) (by omega) (fun x hx => by
      rw [take_at a default hi', List.mem_append] at hx
      rcases hx with hx | hx
      · exact hall x hx
      · simp only [List.mem_singleton] at hx; subst hx; exact h2)
    rw [flat_take VT.n a hi', flat_take VT.s a hi'] at e
    have q1 := ht.flat_n (i + 1)
    have q2 := ht.flat_s (i + 1)
    rw [flat_take VT.n a hi', List.length_append] at q1
    rw [flat_take VT.s a hi', List.length_append] at q2
    rw [inc (mlen hl) hi']
    repeat' apply And.intro
    all_goals first | exact e | omega
  · rw [List.take_of_length_le (by omega)] at hall ⊢; exact Ret.v (like_yes h5 hall) rfl
termination_by a.length - i
theorem okLike : Pure1 Tryz.prog 64 spLike := by
  intro xs F w cs R ha h
  obtain ⟨x, y, a, b, rfl, h1, h2, h⟩ := onVL_inv h
  obtain ⟨ht, h⟩ := when_inv h
  have ha := ha.conv2 (fun v => as_V h1) (fun v => as_Vs h2)
  obtain ⟨t, n, s, l⟩ := a
  refine contract (fn := Tryz.f64) (walked (PureOk.also ok75 (PureOk.none _)) 14) (by kernel_rfl) w64C_ok (by rfl) (by rfl) (by rfl) (by rfl) (by rfl) ha (ρ := [.int t, .is n, .ss s, .vs l, .vs b]) (Rh.go (w64_9999 t n s l b _) ?_) h
  simp only [o_add, o_sub, o_mul, o_neg, o_conv, o_lt, o_le, o_eq, o_not, o_and, o_or, o_sel, o_isel, o_ssel, o_beq, o_seq, o_slt, o_slen, o_sat, o_scut, o_sadd, o_ilen, o_blen, o_vlen, o_rlen, o_iget, o_bget, o_vget, o_rget, o_iset, o_bset, o_vset, o_iapp, o_bapp, o_vapp, o_rapp, o_icut, o_bcut, o_vcut, o_irep, o_vt, o_vn, o_vs, o_vl, o_imax, o_imin, o_inb, o_sfit, o_cutb, o_fit, o_mkfit, RhQ, decT, decF, true_and, and_true, eq_self, implies_true, forall_const, Bool.not_eq_true', Bool.not_eq_false', Bool.not_true, Bool.not_false, Bool.and_eq_true, Bool.or_eq_true, Bool.and_eq_false_iff, Bool.or_eq_false_iff, Bool.true_and, Bool.and_true, Bool.false_and, Bool.and_false, Bool.or_false, Bool.false_or, Bool.true_or, Bool.or_true, Int.toNat_natCast, VT.eta, not_true, not_false_iff, false_implies, if_true, if_false, Int.toNat_zero, Int.toNat_one, ns0, ns4]
  refine ⟨fun h => ⟨ht, Ret.v (like_no (by omega)) rfl⟩, fun h => ?_⟩
  exact loop64 t n s l b ht (by omega) 0 (Nat.zero_le _) (fun x hx => by simp at hx)
/-! ### Get -/
theorem get_ret {d : VT} {x : List VT} {v : VT} {E : Eff} (h : isD d = true) (h1 : getV d x = v) (h2 : resE E = some (.tup [vcl v, .int .i64 0])) : Ret (.tup [vcl (getV d x), .int .i64 (findDE d)]) E :=
  Ret.ve h1 (side_yes 0 h).2 h2
theorem loop25 (t n s l) (x : List VT) (hd : isD (.mk t n s l) = true) (ho : getOk (.mk t n s l) x) (i : Nat) (hi : i ≤ x.length) :
    Rh w25S (Ret (.tup [vcl (getV (.mk t n s l) x), .int .i64 (findDE (.mk t n s l))])) (5, [.vs x, .int i, .int t, .is n, .ss s, .vs l, .vs (getL (.mk t n s l) (x.take i))]) := by
  refine Rh.go (w25_5 x i t n s l _ _) ?_
  obtain ⟨o1, o2, o3, o4⟩ := ho
  obtain ⟨p1, p2, p3⟩ := o4 hd
  obtain ⟨q1, q2⟩ := isD_yes hd
  have hl : l.length = 2 := o1 q1
  have hlen : (getL (.mk t n s l) (x.take i)).length = i := by unfold getL; rw [List.length_map, List.length_take]; omega
  have e1 : side1 (.mk t n s l) = l.getD 1 default := rfl
  have hm1 := getD_mem l default (i := 1) (by omega)
  simp only [o_add, o_sub, o_mul, o_neg, o_conv, o_lt, o_le, o_eq, o_not, o_and, o_or, o_sel, o_isel, o_ssel, o_beq, o_seq, o_slt, o_slen, o_sat, o_scut, o_sadd, o_ilen, o_blen, o_vlen, o_rlen, o_iget, o_bget, o_vget, o_rget, o_iset, o_bset, o_vset, o_iapp, o_bapp, o_vapp, o_rapp, o_icut, o_bcut, o_vcut, o_irep, o_vt, o_vn, o_vs, o_vl, o_imax, o_imin, o_inb, o_sfit, o_cutb, o_fit, o_mkfit, RhQ, decT, decF, true_and, and_true, eq_self, implies_true, forall_const, Bool.not_eq_true', Bool.not_eq_false', Bool.not_true, Bool.not_false, Bool.and_eq_true, Bool.or_eq_true, Bool.and_eq_false_iff, Bool.or_eq_false_iff, Bool.true_and, Bool.and_true, Bool.false_and, Bool.and_false, Bool.or_false, Bool.false_or, Bool.true_or, Bool.or_true, Int.toNat_natCast, VT.eta, not_true, not_false_iff, false_implies, if_true, if_false, Int.toNat_zero, Int.toNat_one, ns0, ns4, hlen, List.length_cons, List.length_nil]
  refine ⟨fun h => ?_, fun h => ?_⟩
  · have hi' : i < x.length := by omega
    have e := loop25 t n s l x hd ⟨o1, o2, o3, o4⟩ (i + 1) (by omega)
    have hg : getL (.mk t n s l) (x.take (i + 1)) = getL (.mk t n s l) (x.take i) ++ [eltV (l.getD 1 default) (findDI (.mk t n s l) (x.getD i default))] := by
      unfold getL; rw [take_at x default hi', List.map_append]; rfl
    rw [hg] at e
    rw [inc (n := x.length) (mlen (by omega)) hi']
    refine ⟨⟨⟨by omega, h⟩, o1, o2⟩, ⟨by omega, by omega⟩, ⟨by omega, by omega⟩, fun hk => ?_, fun hk => ?_⟩
    · rw [show eltV (l.getD 1 default) (findDI (.mk t n s l) (x.getD i default)) = atV (l.getD 1 default) (findDI (.mk t n s l) (x.getD i default)) from if_pos hk] at e
      exact ⟨⟨by omega, by omega⟩, o2.mem hm1, part_ok2 p1, by omega, e⟩
    · rw [show eltV (l.getD 1 default) (findDI (.mk t n s l) (x.getD i default)) = noneV (l.getD 1 default) from if_neg (by omega)] at e
      exact ⟨by omega, e⟩
  · have hii : i = x.length := by omega
    subst hii
    rw [List.take_length] at hlen ⊢
    refine ⟨fun h1 => ?_, fun h1 => ?_⟩
    · have h1' : x.length = 1 := by omega
      refine ⟨⟨by omega, by omega⟩, ⟨by omega, by omega⟩, get_ret hd (get_one hd h1') ?_⟩
      have : (getL (.mk t n s l) x).getD 0 default = eltV (side1 (.mk t n s l)) (findDI (.mk t n s l) (x.getD 0 default)) := by
        unfold getL
        match x, h1' with
        | [y], _ => rfl
      rw [← this]; rfl
    · exact ⟨⟨by omega, by omega⟩, p3, get_ret hd (get_many hd (by omega)) rfl⟩
termination_by x.length - i
theorem ok25 : Pure1 Tryz.prog 25 spGetD := by
  intro xs F w cs R ha h
  obtain ⟨x, y, a, b, rfl, h1, h2, h⟩ := onVL_inv h
  obtain ⟨ho, h⟩ := when_inv h
  have ha := ha.conv2 (fun v => as_V h1) (fun v => as_Vs h2)
  obtain ⟨t, n, s, l⟩ := a
  refine contract (fn := Tryz.f25) (walked (PureOk.also ok29 (PureOk.also ok26 (PureOk.also okNone (PureOk.also ok18 (PureOk.also ok28 (PureOk.also okLike (PureOk.none _))))))) 14) (by kernel_rfl) w25C_ok (by rfl) (by rfl) (by rfl) (by rfl) (by rfl) ha (ρ := [.int t, .is n, .ss s, .vs l, .vs b]) (Rh.go (w25_9999 t n s l b _) ?_) h
  simp only [o_add, o_sub, o_mul, o_neg, o_conv, o_lt, o_le, o_eq, o_not, o_and, o_or, o_sel, o_isel, o_ssel, o_beq, o_seq, o_slt, o_slen, o_sat, o_scut, o_sadd, o_ilen, o_blen, o_vlen, o_rlen, o_iget, o_bget, o_vget, o_rget, o_iset, o_bset, o_vset, o_iapp, o_bapp, o_vapp, o_rapp, o_icut, o_bcut, o_vcut, o_irep, o_vt, o_vn, o_vs, o_vl, o_imax, o_imin, o_inb, o_sfit, o_cutb, o_fit, o_mkfit, RhQ, decT, decF, true_and, and_true, eq_self, implies_true, forall_const, Bool.not_eq_true', Bool.not_eq_false', Bool.not_true, Bool.not_false, Bool.and_eq_true, Bool.or_eq_true, Bool.and_eq_false_iff, Bool.or_eq_false_iff, Bool.true_and, Bool.and_true, Bool.false_and, Bool.and_false, Bool.or_false, Bool.false_or, Bool.true_or, Bool.or_true, Int.toNat_natCast, VT.eta, not_true, not_false_iff, false_implies, if_true, if_false, Int.toNat_zero, Int.toNat_one, ns0, ns4]
  refine ⟨ho.1, fun hp => ?_, fun hp => ?_⟩
  · exact Ret.ve (get_no hp) (side_no 0 hp).2 rfl
  · exact loop25 t n s l b hp ho 0 (Nat.zero_le _)
theorem loop14 (t n s l) (x : List VT) (hd : isD (.mk t n s l) = true) (ho : getOk (.mk t n s l) x) (i : Nat) (hi : i ≤ x.length) :
    Rh w14S (Ret (.tup [vcl (getV (.mk t n s l) x), .int .i64 (findDE (.mk t n s l))])) (5, [.vs x, .vs x, .int x.length, .int i, .int t, .is n, .ss s, .vs l, .is ((x.take i).map (findDI (.mk t n s l)))]) := by
  refine Rh.go (w14_5 x x x.length i t n s l _ _) ?_
  have ho0 := ho
  obtain ⟨o1, o2, o3, o4⟩ := ho
  obtain ⟨p1, p2, p3⟩ := o4 hd
  obtain ⟨q1, q2⟩ := isD_yes hd
  have hl : l.length = 2 := o1 q1
  have hlen : ((x.take i).map (findDI (.mk t n s l))).length = i := by rw [List.length_map, List.length_take]; omega
  have e1 : side1 (.mk t n s l) = l.getD 1 default := rfl
  have hm1 := getD_mem l default (i := 1) (by omega)
  simp only [o_add, o_sub, o_mul, o_neg, o_conv, o_lt, o_le, o_eq, o_not, o_and, o_or, o_sel, o_isel, o_ssel, o_beq, o_seq, o_slt, o_slen, o_sat, o_scut, o_sadd, o_ilen, o_blen, o_vlen, o_rlen, o_iget, o_bget, o_vget, o_rget, o_iset, o_bset, o_vset, o_iapp, o_bapp, o_vapp, o_rapp, o_icut, o_bcut, o_vcut, o_irep, o_vt, o_vn, o_vs, o_vl, o_imax, o_imin, o_inb, o_sfit, o_cutb, o_fit, o_mkfit, RhQ, decT, decF, true_and, and_true, eq_self, implies_true, forall_const, Bool.not_eq_true', Bool.not_eq_false', Bool.not_true, Bool.not_false, Bool.and_eq_true, Bool.or_eq_true, Bool.and_eq_false_iff, Bool.or_eq_false_iff, Bool.true_and, Bool.and_true, Bool.false_and, Bool.and_false, Bool.or_false, Bool.false_or, Bool.true_or, Bool.or_true, Int.toNat_natCast, VT.eta, not_true, not_false_iff, false_implies, if_true, if_false, Int.toNat_zero, Int.toNat_one, ns0, ns4, hlen, List.length_cons, List.length_nil]
  refine ⟨fun h => ?_, fun h => ?_⟩
  · have hi' : i < x.length := by omega
    have e := loop14 t n s l x hd ho0 (i + 1) (by omega)
    rw [take_at x default hi', List.map_append] at e
    rw [inc (n := x.length) (mlen (by omega)) hi']
    exact ⟨⟨by omega, h⟩, o1, o2, by omega, e⟩
  · have hii : i = x.length := by omega
    subst hii
    rw [List.take_length] at hlen ⊢
    refine ⟨fun h1 => ?_, fun h1 => ?_⟩
    · refine ⟨⟨by omega, by omega⟩, o2.mem hm1, fun _ => p2, getL_pickOk p1 o3 p3, ?_⟩
      obtain ⟨r1, r2⟩ := op_yes (v := l.getD 1 default) (a := x.map (findDI (.mk t n s l))) p1
      refine get_ret hd (v := opV (l.getD 1 default) (x.map (findDI (.mk t n s l)))) ?_ (by rw [r2]; rfl)
      rw [get_many hd (by omega), r1, ← e1, getL_pick p1]
    · have h1' : x.length = 1 := by omega
      obtain ⟨y, rfl⟩ : ∃ y, x = [y] := by
        match x, h1' with
        | [y], _ => exact ⟨y, rfl⟩
      have hv := get_one (x := [y]) hd rfl
      have hk0 := findDI_nn (.mk t n s l) y
      have e2 : ([y].map (findDI (.mk t n s l))).getD 0 0 = findDI (.mk t n s l) y := rfl
      have e3 : [y].getD 0 default = y := rfl
      rw [e3, e1] at hv
      rw [e2]
      have hy1 : ([y] : List VT).length = 1 := rfl
      refine ⟨⟨⟨by omega, by omega⟩, ⟨by omega, by omega⟩, ⟨by omega, by omega⟩, o2.mem hm1, part_ok2 p1⟩, fun h2 => ?_, fun h2 => ?_⟩
      · have hk : findDI (.mk t n s l) y < rCount (l.getD 1 default) := by
          refine Classical.byContradiction fun hn => ?_
          rw [(flatNo (v := l.getD 1 default) (by omega)).2.2] at h2
          exact absurd h2 (by decide)
        exact get_ret hd (v := atV (l.getD 1 default) (findDI (.mk t n s l) y)) (by rw [hv]; exact if_pos hk) rfl
      · have hk : ¬ findDI (.mk t n s l) y < rCount (l.getD 1 default) := fun hk => h2 (flatAt p1 hk0 hk).2.2.1
        have hn : getV (.mk t n s l) [y] = noneV (l.getD 1 default) := by rw [hv]; exact if_neg hk
        have hp1 : 0 ≤ (l.getD 1 default).t ∧ (l.getD 1 default).t ≤ 5 := p1
        refine ⟨⟨by omega, by omega⟩, fun h3 => ?_, fun h3 => ⟨⟨by omega, by omega⟩, ?_⟩⟩
        · exact get_ret hd (v := .mk 0 [] [] []) (by rw [hn]; exact if_neg (by omega)) rfl
        · exact get_ret hd (v := nullV (l.getD 1 default).t) (by rw [hn]; exact if_pos (by omega)) rfl
termination_by x.length - i
theorem ok14 : Pure1 Tryz.prog 14 spGetD := by
  intro xs F w cs R ha h
  obtain ⟨x, y, a, b, rfl, h1, h2, h⟩ := onVL_inv h
  obtain ⟨ho, h⟩ := when_inv h
  have ha := ha.conv2 (fun v => as_V h1) (fun v => as_Vs h2)
  obtain ⟨t, n, s, l⟩ := a
  refine contract (fn := Tryz.f14) (walked (PureOk.also ok46 (PureOk.also ok16 (PureOk.also ok53 (PureOk.also ok54 (PureOk.also ok56 (PureOk.none _)))))) 14) (by kernel_rfl) w14C_ok (by rfl) (by rfl) (by rfl) (by rfl) (by rfl) ha (ρ := [.int t, .is n, .ss s, .vs l, .vs b]) (Rh.go (w14_9999 t n s l b _) ?_) h
  simp only [o_add, o_sub, o_mul, o_neg, o_conv, o_lt, o_le, o_eq, o_not, o_and, o_or, o_sel, o_isel, o_ssel, o_beq, o_seq, o_slt, o_slen, o_sat, o_scut, o_sadd, o_ilen, o_blen, o_vlen, o_rlen, o_iget, o_bget, o_vget, o_rget, o_iset, o_bset, o_vset, o_iapp, o_bapp, o_vapp, o_rapp, o_icut, o_bcut, o_vcut, o_irep, o_vt, o_vn, o_vs, o_vl, o_imax, o_imin, o_inb, o_sfit, o_cutb, o_fit, o_mkfit, RhQ, decT, decF, true_and, and_true, eq_self, implies_true, forall_const, Bool.not_eq_true', Bool.not_eq_false', Bool.not_true, Bool.not_false, Bool.and_eq_true, Bool.or_eq_true, Bool.and_eq_false_iff, Bool.or_eq_false_iff, Bool.true_and, Bool.and_true, Bool.false_and, Bool.and_false, Bool.or_false, Bool.false_or, Bool.true_or, Bool.or_true, Int.toNat_natCast, VT.eta, not_true, not_false_iff, false_implies, if_true, if_false, Int.toNat_zero, Int.toNat_one, ns0, ns4]
  refine ⟨ho.1, fun hp => ?_, fun hp => ?_⟩
  · exact Ret.ve (get_no hp) (side_no 0 hp).2 rfl
  · exact loop14 t n s l b hp ho 0 (Nat.zero_le _)
end Go.Qv
