/- Contracts: values matched and compared, by the program and by the document. No condition. -/
import Derived.Test.YtpbjikomdljphaaGreatQPcM
set_option linter.unusedVariables false
set_option linter.unusedSimpArgs false
set_option maxRecDepth 100000
namespace Go.Qv
open Go Go.RowKit Go.Proofs

/-! ### value.Match -/
/-! ### R.Match -/
/-! ### value.Compare -/
theorem loop77 (m : Nat) (a b : List VT) (hm : smallers a m) (ha : a.length ≤ maxLen) (i : Nat) (h1 : i ≤ a.length) (h2 : i ≤ b.length) : Rh (w77S m) (Ret (.int .i64 (vcmps (a.drop i) (b.drop i)))) (2, [.vs a, .vs b, .vs a, .int a.length, .int i]) := by
  refine Rh.go (w77_2 m a b a a.length i _) ?_
  simp only [o_add, o_sub, o_mul, o_neg, o_conv, o_lt, o_le, o_eq, o_not, o_and, o_or, o_sel, o_isel, o_ssel, o_beq, o_seq, o_slt, o_slen, o_sat, o_scut, o_sadd, o_ilen, o_blen, o_vlen, o_rlen, o_iget, o_bget, o_vget, o_rget, o_iset, o_bset, o_vset, o_iapp, o_bapp, o_vapp, o_rapp, o_icut, o_bcut, o_vcut, o_irep, o_vt, o_vn, o_vs, o_vl, o_imax, o_imin, o_inb, o_sfit, o_cutb, o_fit, o_mkfit, RhQ, decT, decF, true_and, and_true, eq_self, implies_true, forall_const, Bool.not_eq_true', Bool.not_eq_false', Bool.not_true, Bool.not_false, Bool.and_eq_true, Bool.or_eq_true, Bool.and_eq_false_iff, Bool.or_eq_false_iff, Bool.true_and, Bool.and_true, Bool.false_and, Bool.and_false, Bool.or_false, Bool.false_or, Bool.true_or, Bool.or_true, Int.toNat_natCast, VT.eta, not_true, not_false_iff, false_implies, if_true, if_false, Int.toNat_zero, Int.toNat_one, ns0, ns4]
  refine ⟨fun h => ⟨⟨by omega, by omega⟩, fun hb => ?_, fun hb => ⟨⟨by omega, by omega⟩, hm _ (getD_mem a _ (by omega)), fun hl => ?_, fun hl => ?_⟩⟩, fun h => ⟨fun hs => ?_, fun hs => ?_⟩⟩
  · rw [drop_at a default (show i < a.length by omega), List.drop_of_length_le (l := b) (by omega), vcmps]; exact Ret.int rfl
  · rw [drop_at a default (show i < a.length by omega), drop_at b default (show i < b.length by omega)]
    exact Ret.int (by rw [vcmps, if_pos hl])
  · rw [inc ha (by omega), drop_at a default (show i < a.length by omega), drop_at b default (show i < b.length by omega), vcmps, if_neg (by rw [hl]; simp)]
    exact loop77 m a b hm ha (i + 1) (by omega) (by omega)
  · rw [List.drop_of_length_le (l := a) (by omega), drop_at b default (show i < b.length by omega), vcmps]; exact Ret.int rfl
  · rw [List.drop_of_length_le (l := a) (by omega), List.drop_of_length_le (l := b) (by omega), vcmps]; exact Ret.int rfl
termination_by a.length - i
theorem run77 (m : Nat) (a b : List VT) (hm : smallers a m) (ha : a.length ≤ maxLen) : Rh (w77S m) (Ret (.int .i64 (vcmps a b))) (9999, [.vs a, .vs b]) := by
  refine Rh.go (w77_9999 m a b _) ?_
  simp only [o_add, o_sub, o_mul, o_neg, o_conv, o_lt, o_le, o_eq, o_not, o_and, o_or, o_sel, o_isel, o_ssel, o_beq, o_seq, o_slt, o_slen, o_sat, o_scut, o_sadd, o_ilen, o_blen, o_vlen, o_rlen, o_iget, o_bget, o_vget, o_rget, o_iset, o_bset, o_vset, o_iapp, o_bapp, o_vapp, o_rapp, o_icut, o_bcut, o_vcut, o_irep, o_vt, o_vn, o_vs, o_vl, o_imax, o_imin, o_inb, o_sfit, o_cutb, o_fit, o_mkfit, RhQ, decT, decF, true_and, and_true, eq_self, implies_true, forall_const, Bool.not_eq_true', Bool.not_eq_false', Bool.not_true, Bool.not_false, Bool.and_eq_true, Bool.or_eq_true, Bool.and_eq_false_iff, Bool.or_eq_false_iff, Bool.true_and, Bool.and_true, Bool.false_and, Bool.and_false, Bool.or_false, Bool.false_or, Bool.true_or, Bool.or_true, Int.toNat_natCast, VT.eta, not_true, not_false_iff, false_implies, if_true, if_false, Int.toNat_zero, Int.toNat_one, ns0, ns4]
  exact loop77 m a b hm ha 0 (by omega) (by omega)
theorem ok77 {m : Nat} (ih : Pure1 Tryz.prog 50 (sp50 m)) : Pure1 Tryz.prog 77 (sp77 m) := by
  intro xs F w cs R ha h
  obtain ⟨x, y, a, b, rfl, h1, h2, h⟩ := onVsF_inv h
  obtain ⟨hm, h⟩ := when_inv h
  have ha := ha.conv3 (fun v => as_Vs h1) (fun v => as_Vs h2) (fun v h => h)
  obtain ⟨v, hv⟩ := ha.at 0 rfl
  exact contract (fn := Tryz.f77) (walked (PureOk.also ih (PureOk.none _)) 14) (by kernel_rfl) w77C_ok (by rfl) (by rfl) (by rfl) (by rfl) (by rfl) ha (run77 m a b hm hv.len) h
theorem run50 (m : Nat) (t n s l t' n' s' l') (hm : smaller (.mk t n s l) (m + 1)) : Rh (w50S m) (Ret (.int .i64 (vcmp (.mk t n s l) (.mk t' n' s' l')))) (9999, [.int t, .is n, .ss s, .vs l, .int t', .is n', .ss s', .vs l']) := by
  refine Rh.go (w50_9999 m t n s l t' n' s' l' _) ?_
  simp only [o_add, o_sub, o_mul, o_neg, o_conv, o_lt, o_le, o_eq, o_not, o_and, o_or, o_sel, o_isel, o_ssel, o_beq, o_seq, o_slt, o_slen, o_sat, o_scut, o_sadd, o_ilen, o_blen, o_vlen, o_rlen, o_iget, o_bget, o_vget, o_rget, o_iset, o_bset, o_vset, o_iapp, o_bapp, o_vapp, o_rapp, o_icut, o_bcut, o_vcut, o_irep, o_vt, o_vn, o_vs, o_vl, o_imax, o_imin, o_inb, o_sfit, o_cutb, o_fit, o_mkfit, RhQ, decT, decF, true_and, and_true, eq_self, implies_true, forall_const, Bool.not_eq_true', Bool.not_eq_false', Bool.not_true, Bool.not_false, Bool.and_eq_true, Bool.or_eq_true, Bool.and_eq_false_iff, Bool.or_eq_false_iff, Bool.true_and, Bool.and_true, Bool.false_and, Bool.and_false, Bool.or_false, Bool.false_or, Bool.true_or, Bool.or_true, Int.toNat_natCast, VT.eta, not_true, not_false_iff, false_implies, if_true, if_false, Int.toNat_zero, Int.toNat_one, ns0, ns4]
  refine ⟨fun x hx => ?_, Ret.int (by rw [vcmp]; rfl)⟩
  unfold smaller at hm
  have := sz_lt (t := t) (n := n) (s := s) hx
  omega
theorem ok50n : ∀ n, Pure1 Tryz.prog 50 (sp50 n) := pure_ind (fun xs F w cs R ha h => by
    obtain ⟨x, y, a, b, rfl, h1, h2, h⟩ := onVV_inv h
    exact (none0 (when_inv h).1).elim) (fun m ih xs F w cs R ha h => by
    obtain ⟨x, y, a, b, rfl, h1, h2, h⟩ := onVV_inv h
    obtain ⟨hm, h⟩ := when_inv h
    have ha := ha.conv2 (fun v => as_V h1) (fun v => as_V h2)
    obtain ⟨t, n, s, l⟩ := a
    obtain ⟨t', n', s', l'⟩ := b
    exact contract (fn := Tryz.f50) (walked (PureOk.also (ok77 ih) (PureOk.also ok72 (PureOk.also ok73 (PureOk.also ok75 (PureOk.also ok76 (PureOk.also ok71 (PureOk.none _))))))) 14) (by kernel_rfl) w50C_ok (by rfl) (by rfl) (by rfl) (by rfl) (by rfl) ha (run50 m t n s l t' n' s' l' hm) h)
theorem ok50 : Pure1 Tryz.prog 50 sp50f := pure_all ok50n fun xs Q h => by
  obtain ⟨x, y, a, b, rfl, h1, h2, h⟩ := onVV_inv h
  exact ⟨a.sz + 1, onVV_mk h1 h2 (when_mk (Nat.lt_succ_self _) h)⟩

/-! ### R.Compare -/
def rTail (n n' : List Int) (s s' : List ByteArray) (l l' : List VT) (j : Nat) : Int :=
  if rcmps (l.drop j) (l'.drop j) ≠ 0 then rcmps (l.drop j) (l'.drop j) else if l.length < l'.length then -1 else if l'.length < l.length then 1 else 0
theorem loop51c (m : Nat) (t n s l t' n' s' l') (hm : smaller (.mk t n s l) (m + 1)) (hl : l.length ≤ maxLen) (i : Nat) (h1 : i ≤ l.length) (h1' : i ≤ l'.length) :
    Rh (w51S m) (Ret (.int .i64 (rTail n n' s s' l l' i))) (20, [.int i, .int t, .is n, .ss s, .vs l, .int t', .is n', .ss s', .vs l']) := by
  refine Rh.go (w51_20 m i t n s l t' n' s' l' _) ?_
  simp only [o_add, o_sub, o_mul, o_neg, o_conv, o_lt, o_le, o_eq, o_not, o_and, o_or, o_sel, o_isel, o_ssel, o_beq, o_seq, o_slt, o_slen, o_sat, o_scut, o_sadd, o_ilen, o_blen, o_vlen, o_rlen, o_iget, o_bget, o_vget, o_rget, o_iset, o_bset, o_vset, o_iapp, o_bapp, o_vapp, o_rapp, o_icut, o_bcut, o_vcut, o_irep, o_vt, o_vn, o_vs, o_vl, o_imax, o_imin, o_inb, o_sfit, o_cutb, o_fit, o_mkfit, RhQ, decT, decF, true_and, and_true, eq_self, implies_true, forall_const, Bool.not_eq_true', Bool.not_eq_false', Bool.not_true, Bool.not_false, Bool.and_eq_true, Bool.or_eq_true, Bool.and_eq_false_iff, Bool.or_eq_false_iff, Bool.true_and, Bool.and_true, Bool.false_and, Bool.and_false, Bool.or_false, Bool.false_or, Bool.true_or, Bool.or_true, Int.toNat_natCast, VT.eta, not_true, not_false_iff, false_implies, if_true, if_false, Int.toNat_zero, Int.toNat_one, ns0, ns4]
  refine ⟨fun h => ⟨⟨⟨by omega, by omega⟩, ⟨by omega, by omega⟩, ?_⟩, fun h2 => Ret.int ?_, fun h2 => ?_⟩, fun h => Ret.int ?_⟩
  · unfold smaller at hm ⊢
    have := sz_lt (t := t) (n := n) (s := s) (getD_mem l default (i := i) (by omega))
    omega
  · unfold rTail
    rw [drop_at l default (show i < l.length by omega), drop_at l' default (show i < l'.length by omega), rcmps, if_pos h2, if_pos h2]
  · rw [inc hl (by omega)]
    have := loop51c m t n s l t' n' s' l' hm hl (i + 1) (by omega) (by omega)
    have e : rTail n n' s s' l l' i = rTail n n' s s' l l' (i + 1) := by
      have e3 : rcmps (l.getD i default :: l.drop (i + 1)) (l'.getD i default :: l'.drop (i + 1)) = rcmps (l.drop (i + 1)) (l'.drop (i + 1)) := by rw [rcmps, if_neg (by rw [h2]; simp)]
      unfold rTail
      rw [drop_at l default (show i < l.length by omega), drop_at l' default (show i < l'.length by omega), e3]
    rw [e]; exact this
  · have e : rcmps (l.drop i) (l'.drop i) = 0 := by
      rcases Nat.lt_or_ge i l.length with hi | hi
      · rw [List.drop_of_length_le (l := l') (by omega), drop_at l default hi, rcmps]
      · rw [List.drop_of_length_le hi, rcmps]
    unfold rTail
    rw [if_neg (by rw [e]; simp)]
    simp only [Int.ofNat_lt]
termination_by l.length - i
def rTail2 (n n' : List Int) (s s' : List ByteArray) (l l' : List VT) (j : Nat) : Int :=
  if preL dS (s.drop j) (s'.drop j) ≠ 0 then preL dS (s.drop j) (s'.drop j)
  else if n.length ≠ n'.length then (if n.length < n'.length then -1 else 1)
  else if s.length ≠ s'.length then (if s.length < s'.length then -1 else 1)
  else rTail n n' s s' l l' 0
theorem loop51b (m : Nat) (t n s l t' n' s' l') (hm : smaller (.mk t n s l) (m + 1)) (hs : s.length ≤ maxLen) (hl : l.length ≤ maxLen) (i : Nat) (h1 : i ≤ s.length) (h1' : i ≤ s'.length) :
    Rh (w51S m) (Ret (.int .i64 (rTail2 n n' s s' l l' i))) (11, [.int i, .int t, .is n, .ss s, .vs l, .int t', .is n', .ss s', .vs l']) := by
  refine Rh.go (w51_11 m i t n s l t' n' s' l' _) ?_
  simp only [o_add, o_sub, o_mul, o_neg, o_conv, o_lt, o_le, o_eq, o_not, o_and, o_or, o_sel, o_isel, o_ssel, o_beq, o_seq, o_slt, o_slen, o_sat, o_scut, o_sadd, o_ilen, o_blen, o_vlen, o_rlen, o_iget, o_bget, o_vget, o_rget, o_iset, o_bset, o_vset, o_iapp, o_bapp, o_vapp, o_rapp, o_icut, o_bcut, o_vcut, o_irep, o_vt, o_vn, o_vs, o_vl, o_imax, o_imin, o_inb, o_sfit, o_cutb, o_fit, o_mkfit, RhQ, decT, decF, true_and, and_true, eq_self, implies_true, forall_const, Bool.not_eq_true', Bool.not_eq_false', Bool.not_true, Bool.not_false, Bool.and_eq_true, Bool.or_eq_true, Bool.and_eq_false_iff, Bool.or_eq_false_iff, Bool.true_and, Bool.and_true, Bool.false_and, Bool.and_false, Bool.or_false, Bool.false_or, Bool.true_or, Bool.or_true, Int.toNat_natCast, VT.eta, not_true, not_false_iff, false_implies, if_true, if_false, Int.toNat_zero, Int.toNat_one, ns0, ns4]
  refine ⟨fun h => ⟨⟨⟨by omega, by omega⟩, by omega, by omega⟩, fun h2 => ⟨⟨⟨by omega, by omega⟩, by omega, by omega⟩, Ret.int ?_⟩, fun h2 => ?_⟩, fun h => ?_⟩
  · have e : dS (s.getD i ⟨#[]⟩) (s'.getD i ⟨#[]⟩) = if Op.bytesLess (s.getD i ⟨#[]⟩).data.toList (s'.getD i ⟨#[]⟩).data.toList = true then -1 else 1 := by unfold dS sless; rw [if_neg h2]
    have e2 : dS (s.getD i ⟨#[]⟩) (s'.getD i ⟨#[]⟩) ≠ 0 := by rw [e]; split <;> simp
    unfold rTail2
    rw [drop_at s ⟨#[]⟩ (show i < s.length by omega), drop_at s' ⟨#[]⟩ (show i < s'.length by omega), preL, if_pos e2, if_pos e2, e]
  · rw [inc hs (by omega)]
    have := loop51b m t n s l t' n' s' l' hm hs hl (i + 1) (by omega) (by omega)
    have e : rTail2 n n' s s' l l' i = rTail2 n n' s s' l l' (i + 1) := by
      have e2 : dS (s.getD i ⟨#[]⟩) (s'.getD i ⟨#[]⟩) = 0 := by unfold dS; rw [if_pos h2]
      have e3 : preL dS (s.getD i ⟨#[]⟩ :: s.drop (i + 1)) (s'.getD i ⟨#[]⟩ :: s'.drop (i + 1)) = preL dS (s.drop (i + 1)) (s'.drop (i + 1)) := by rw [preL, if_neg (by rw [e2]; simp)]
      unfold rTail2
      rw [drop_at s ⟨#[]⟩ (show i < s.length by omega), drop_at s' ⟨#[]⟩ (show i < s'.length by omega), e3]
    rw [e]; exact this
  · have e : preL dS (s.drop i) (s'.drop i) = 0 := by
      rcases Nat.lt_or_ge i s.length with hi | hi
      · rw [List.drop_of_length_le (l := s') (by omega), drop_at s ⟨#[]⟩ hi]; rfl
      · rw [List.drop_of_length_le hi]; rfl
    unfold rTail2
    rw [if_neg (by rw [e]; simp)]
    refine ⟨fun h2 => Ret.int ?_, fun h2 => ⟨fun h3 => Ret.int ?_, fun h3 => ?_⟩⟩
    · rw [if_pos (by omega)]; simp only [Int.ofNat_lt]
    · rw [if_neg (by omega), if_pos (by omega)]; simp only [Int.ofNat_lt]
    · rw [if_neg (by omega), if_neg (by omega)]
      exact loop51c m t n s l t' n' s' l' hm hl 0 (by omega) (by omega)
termination_by s.length - i
def rTail3 (n n' : List Int) (s s' : List ByteArray) (l l' : List VT) (j : Nat) : Int :=
  if preL dI (n.drop j) (n'.drop j) ≠ 0 then preL dI (n.drop j) (n'.drop j) else rTail2 n n' s s' l l' 0
theorem loop51a (m : Nat) (t n s l t' n' s' l') (hm : smaller (.mk t n s l) (m + 1)) (hn : n.length ≤ maxLen) (hs : s.length ≤ maxLen) (hl : l.length ≤ maxLen) (i : Nat) (h1 : i ≤ n.length) (h1' : i ≤ n'.length) :
    Rh (w51S m) (Ret (.int .i64 (rTail3 n n' s s' l l' i))) (6, [.int i, .int t, .is n, .ss s, .vs l, .int t', .is n', .ss s', .vs l']) := by
  refine Rh.go (w51_6 m i t n s l t' n' s' l' _) ?_
  simp only [o_add, o_sub, o_mul, o_neg, o_conv, o_lt, o_le, o_eq, o_not, o_and, o_or, o_sel, o_isel, o_ssel, o_beq, o_seq, o_slt, o_slen, o_sat, o_scut, o_sadd, o_ilen, o_blen, o_vlen, o_rlen, o_iget, o_bget, o_vget, o_rget, o_iset, o_bset, o_vset, o_iapp, o_bapp, o_vapp, o_rapp, o_icut, o_bcut, o_vcut, o_irep, o_vt, o_vn, o_vs, o_vl, o_imax, o_imin, o_inb, o_sfit, o_cutb, o_fit, o_mkfit, RhQ, decT, decF, true_and, and_true, eq_self, implies_true, forall_const, Bool.not_eq_true', Bool.not_eq_false', Bool.not_true, Bool.not_false, Bool.and_eq_true, Bool.or_eq_true, Bool.and_eq_false_iff, Bool.or_eq_false_iff, Bool.true_and, Bool.and_true, Bool.false_and, Bool.and_false, Bool.or_false, Bool.false_or, Bool.true_or, Bool.or_true, Int.toNat_natCast, VT.eta, not_true, not_false_iff, false_implies, if_true, if_false, Int.toNat_zero, Int.toNat_one, ns0, ns4]
  refine ⟨fun h => ⟨⟨⟨by omega, by omega⟩, by omega, by omega⟩, fun h2 => ⟨⟨⟨by omega, by omega⟩, by omega, by omega⟩, Ret.int ?_⟩, fun h2 => ?_⟩, fun h => ?_⟩
  · have e : dI (n.getD i 0) (n'.getD i 0) = if n.getD i 0 < n'.getD i 0 then -1 else 1 := by unfold dI; rw [if_neg h2]
    have e2 : dI (n.getD i 0) (n'.getD i 0) ≠ 0 := by rw [e]; split <;> simp
    unfold rTail3
    rw [drop_at n 0 (show i < n.length by omega), drop_at n' 0 (show i < n'.length by omega), preL, if_pos e2, if_pos e2, e]
  · rw [inc hn (by omega)]
    have := loop51a m t n s l t' n' s' l' hm hn hs hl (i + 1) (by omega) (by omega)
    have e : rTail3 n n' s s' l l' i = rTail3 n n' s s' l l' (i + 1) := by
      have e2 : dI (n.getD i 0) (n'.getD i 0) = 0 := by unfold dI; rw [if_pos h2]
      have e3 : preL dI (n.getD i 0 :: n.drop (i + 1)) (n'.getD i 0 :: n'.drop (i + 1)) = preL dI (n.drop (i + 1)) (n'.drop (i + 1)) := by rw [preL, if_neg (by rw [e2]; simp)]
      unfold rTail3
      rw [drop_at n 0 (show i < n.length by omega), drop_at n' 0 (show i < n'.length by omega), e3]
    rw [e]; exact this
  · have e : preL dI (n.drop i) (n'.drop i) = 0 := by
      rcases Nat.lt_or_ge i n.length with hi | hi
      · rw [List.drop_of_length_le (l := n') (by omega), drop_at n 0 hi]; rfl
      · rw [List.drop_of_length_le hi]; rfl
    unfold rTail3
    rw [if_neg (by rw [e]; simp)]
    exact loop51b m t n s l t' n' s' l' hm hs hl 0 (by omega) (by omega)
termination_by n.length - i
theorem rcmp_mk (t n s l t' n' s' l') : rcmp (.mk t n s l) (.mk t' n' s' l') =
    if rRank (.mk t n s l) ≠ rRank (.mk t' n' s' l') then (if rRank (.mk t n s l) < rRank (.mk t' n' s' l') then -1 else 1) else if ¬ (isAtomT t ↔ isAtomT t') then (if isAtomT t then -1 else 1) else rTail3 n n' s s' l l' 0 := by
  rw [rcmp]; rfl
theorem run51 (m : Nat) (t n s l t' n' s' l') (hm : smaller (.mk t n s l) (m + 1)) (hn : n.length ≤ maxLen) (hs : s.length ≤ maxLen) (hl : l.length ≤ maxLen) :
    Rh (w51S m) (Ret (.int .i64 (rcmp (.mk t n s l) (.mk t' n' s' l')))) (9999, [.int t, .is n, .ss s, .vs l, .int t', .is n', .ss s', .vs l']) := by
  refine Rh.go (w51_9999 m t n s l t' n' s' l' _) ?_
  simp only [o_add, o_sub, o_mul, o_neg, o_conv, o_lt, o_le, o_eq, o_not, o_and, o_or, o_sel, o_isel, o_ssel, o_beq, o_seq, o_slt, o_slen, o_sat, o_scut, o_sadd, o_ilen, o_blen, o_vlen, o_rlen, o_iget, o_bget, o_vget, o_rget, o_iset, o_bset, o_vset, o_iapp, o_bapp, o_vapp, o_rapp, o_icut, o_bcut, o_vcut, o_irep, o_vt, o_vn, o_vs, o_vl, o_imax, o_imin, o_inb, o_sfit, o_cutb, o_fit, o_mkfit, RhQ, decT, decF, true_and, and_true, eq_self, implies_true, forall_const, Bool.not_eq_true', Bool.not_eq_false', Bool.not_true, Bool.not_false, Bool.and_eq_true, Bool.or_eq_true, Bool.and_eq_false_iff, Bool.or_eq_false_iff, Bool.true_and, Bool.and_true, Bool.false_and, Bool.and_false, Bool.or_false, Bool.false_or, Bool.true_or, Bool.or_true, Int.toNat_natCast, VT.eta, not_true, not_false_iff, false_implies, if_true, if_false, Int.toNat_zero, Int.toNat_one, ns0, ns4]
  rw [rcmp_mk]
  have ea : ∀ t : Int, (decide (t < 0) && decide (-5 ≤ t)) = decide (isAtomT t) := fun t => by rw [Bool.eq_iff_iff, Bool.and_eq_true, decide_eq_true_iff, decide_eq_true_iff, decide_eq_true_iff]; exact Iff.rfl
  rw [ea, ea]
  refine ⟨fun h => Ret.int (if_pos h), fun h => ?_⟩
  rw [if_neg (by simp only [ne_eq, h, not_true, not_false_iff])]
  refine ⟨fun h2 => Ret.int ?_, fun h2 => ?_⟩
  · rw [if_pos (by intro e; rw [beq_eq_false_iff_ne] at h2; exact h2 (decide_eq_decide.2 e))]; rfl
  · rw [if_neg (by rw [beq_iff_eq, decide_eq_decide] at h2; exact fun e => e h2)]
    exact loop51a m t n s l t' n' s' l' hm hn hs hl 0 (by omega) (by omega)
theorem ok51n : ∀ n, Pure1 Tryz.prog 51 (sp51 n) := pure_ind (fun xs F w cs R ha h => by
    obtain ⟨x, y, a, b, rfl, h1, h2, h⟩ := onVV_inv h
    exact (none0 (when_inv h).1).elim) (fun m ih xs F w cs R ha h => by
    obtain ⟨x, y, a, b, rfl, h1, h2, h⟩ := onVV_inv h
    obtain ⟨hm, h⟩ := when_inv h
    have ha := ha.conv2 (fun v => as_V h1) (fun v => as_V h2)
    obtain ⟨v, hv⟩ := ha.at 0 rfl
    obtain ⟨t, n, s, l⟩ := a
    obtain ⟨t', n', s', l'⟩ := b
    exact contract (fn := Tryz.f51) (walked (PureOk.also ih (PureOk.also ok78 (PureOk.none _))) 14) (by kernel_rfl) w51C_ok (by rfl) (by rfl) (by rfl) (by rfl) (by rfl) ha (run51 m t n s l t' n' s' l' hm hv.vlen.n hv.vlen.s hv.vlen.l) h)
theorem ok51 : Pure1 Tryz.prog 51 sp51f := pure_all ok51n fun xs Q h => by
  obtain ⟨x, y, a, b, rfl, h1, h2, h⟩ := onVV_inv h
  exact ⟨a.sz + 1, onVV_mk h1 h2 (when_mk (Nat.lt_succ_self _) h)⟩
end Go.Qv
