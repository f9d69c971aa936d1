/- quiverlaw20.KernelAnds: places in all lists: plain facts, and the law. No condition. -/
import Derived.Test.YtpbjikomdljphaaGreatQWz
import Derived.Test.YtpbjikomdljphaaGreatQKj
import Derived.Test.YtpbjikomdljphaaGreatQKg
import Derived.Test.YtpbjikomdljphaaGreatQKl0M
import Derived.Test.YtpbjikomdljphaaGreatQKh
set_option linter.unusedVariables false
set_option linter.unusedSimpArgs false
set_option maxRecDepth 100000
namespace Go.Qv
open Go Go.RowKit Go.Proofs
theorem idxI_mem {x : Int} : ∀ {l : List Int} {n : Int}, 0 ≤ n → x ∈ l → 0 ≤ idxI x l n
  | [], _, _, h => absurd h (by simp)
  | y :: l, n, hn, h => by
    rw [idxI]
    split
    · exact hn
    · rename_i he
      rcases List.mem_cons.1 h with h | h
      · exact absurd h he
      · exact idxI_mem (by omega) h
theorem hasI_eq (l : List Int) (x : Int) : hasI l x = decide (x ∈ l) := by
  unfold hasI
  by_cases h : x ∈ l
  · rw [decide_eq_true (idxI_mem (Int.le_refl 0) h), decide_eq_true h]
  · rw [idxI_not h, decide_eq_false h]; rfl
theorem andL_eq (rows : List (List AV)) : andL rows = andRL rows := by
  unfold andL andRL
  refine List.filter_congr fun i _ => ?_
  congr 1
  funext m
  exact hasI_eq _ _
theorem mem_sc {v : VT} {op : Int} {w : VT} (he : scE v op w = 0) (k : Nat) : (k : Int) ∈ scTL v op w ↔ k < (rCount v).toNat ∧ passT (atV v k) op w = true := by
  unfold scTL
  rw [if_pos he]
  unfold scanT scanTN
  rw [List.mem_map]
  constructor
  · rintro ⟨j, hj, e⟩
    obtain rfl : j = k := by omega
    have := List.mem_filter.1 hj
    exact ⟨List.mem_range.1 this.1, this.2⟩
  · intro h
    exact ⟨k, List.mem_filter.2 ⟨List.mem_range.2 h.1, h.2⟩, rfl⟩
theorem sc_nat {v : VT} {op : Int} {w : VT} {i : Int} (h : i ∈ scTL v op w) : ∃ k : Nat, i = k ∧ k < (rCount v).toNat := by
  unfold scTL at h
  split at h
  · unfold scanT scanTN at h
    obtain ⟨k, hk, rfl⟩ := List.mem_map.1 h
    exact ⟨k, rfl, List.mem_range.1 (List.mem_filter.1 hk).1⟩
  · cases h
theorem sc_few {v : VT} {op : Int} {w : VT} (h : rCount v ≤ 536870912) : (scTL v op w).length ≤ 536870912 := by
  unfold scTL
  split
  · unfold scanT scanTN
    rw [List.length_map]
    have := List.length_filter_le (fun k => passT (atV v (k : Nat)) op w) (List.range (rCount v).toNat)
    rw [List.length_range] at this
    omega
  · exact Nat.zero_le _
theorem wi_of {v : VT} {op op' : Int} {w u : VT} (h2 : scE v op' u = 0) : wiE (scTL v op w) v op' u = 0 := by
  rw [wiE_mk, if_neg (by omega), if_neg ?_]
  intro hx
  obtain ⟨i, hi, hb⟩ := List.any_eq_true.1 hx
  obtain ⟨k, rfl, hk⟩ := sc_nat hi
  unfold outB at hb
  have := of_decide_eq_true hb
  omega
theorem and_two {v : VT} {op op' : Int} {w u : VT} (h2 : scE v op' u = 0) : andL [[.sl (.i .i64 (scTL v op w))], [.sl (.i .i64 (scTL v op' u))]] = wiTL (scTL v op w) v op' u := by
  unfold wiTL
  rw [if_pos (wi_of h2)]
  show (scTL v op w).filter (fun i => hasI (scTL v op' u) i && true) = _
  refine List.filter_congr fun i hi => ?_
  obtain ⟨k, rfl, hk⟩ := sc_nat hi
  rw [Bool.and_true, hasI_eq, Bool.eq_iff_iff, decide_eq_true_iff, mem_sc h2]
  exact ⟨fun h => h.2, fun h => ⟨hk, h⟩⟩
section
variable (rows : List (List AV)) (t : Int) (n : List Int) (s : List ByteArray) (l : List VT) (op t' : Int) (n' : List Int) (s' : List ByteArray) (l' : List VT) (op' t'' : Int) (n'' : List Int) (s'' : List ByteArray) (l'' : List VT)
theorem andsL9 (i : Nat) (hi : i < rows.length) (hr : rows.length ≤ 10) (m : List Int) (em : rInts (rows.getD i []) 0 = m) (hm : m.length ≤ 300)
    (hK : Rh w5S IsTrue (4, [.rs rows, .int ((i + 1 : Nat) : Int), .int t, .is n, .ss s, .vs l, .int op, .int t', .is n', .ss s', .vs l', .int op', .int t'', .is n'', .ss s'', .vs l'']))
    (j : Nat) (hj : 1 ≤ j) :
    Rh w5S IsTrue (9, [.rs rows, .int i, .int j, .int t, .is n, .ss s, .vs l, .int op, .int t', .is n', .ss s', .vs l', .int op', .int t'', .is n'', .ss s'', .vs l'']) := by
  refine Rh.go (w5_9 rows i j t n s l op t' n' s' l' op' t'' n'' s'' l'' _) ?_
  simp only [o_add, o_sub, o_mul, o_neg, o_conv, o_lt, o_le, o_eq, o_not, o_and, o_or, o_sel, o_isel, o_ssel, o_beq, o_seq, o_slt, o_slen, o_sat, o_scut, o_sadd, o_ilen, o_blen, o_vlen, o_rlen, o_iget, o_bget, o_vget, o_rget, o_iset, o_bset, o_vset, o_iapp, o_bapp, o_vapp, o_rapp, o_icut, o_bcut, o_vcut, o_irep, o_vt, o_vn, o_vs, o_vl, o_imax, o_imin, o_inb, o_sfit, o_cutb, o_fit, o_mkfit, RhQ, decT, decF, true_and, and_true, eq_self, implies_true, forall_const, Bool.not_eq_true', Bool.not_eq_false', Bool.not_true, Bool.not_false, Bool.and_eq_true, Bool.or_eq_true, Bool.and_eq_false_iff, Bool.or_eq_false_iff, Bool.true_and, Bool.and_true, Bool.false_and, Bool.and_false, Bool.or_false, Bool.false_or, Bool.true_or, Bool.or_true, Int.toNat_natCast, VT.eta, not_true, not_false_iff, false_implies, if_true, if_false, Int.toNat_zero, Int.toNat_one, ns0, ns4]
  have e1 : O.real.rInts (rows.getD i []) 0 = m := em
  rw [e1, show IntKind.i64.wrap ((i : Int) + 1) = ((i + 1 : Nat) : Int) from inc (n := rows.length) (by simp only [maxLen]; omega) (by omega)]
  refine ⟨⟨by omega, by omega⟩, fun h => ⟨⟨⟨by omega, by omega⟩, ⟨by omega, by omega⟩, ⟨by omega, by omega⟩, ?_⟩, fun _ => IsTrue.of rfl, fun _ => ?_⟩, fun h => hK⟩
  · rw [w64 (by omega) (by omega)]; omega
  · rw [show IntKind.i64.wrap ((j : Int) + 1) = ((j + 1 : Nat) : Int) from inc (n := m.length) (by simp only [maxLen]; omega) (by omega)]
    exact andsL9 i hi hr m em hm hK (j + 1) (by omega)
termination_by m.length - j
theorem andsL4 (hv : tstOk (.mk t n s l)) (hw : tstOk (.mk t' n' s' l')) (hu : tstOk (.mk t'' n'' s'' l'')) (hr : rows.length ≤ 10) (i : Nat) (hi : i ≤ rows.length) (hb : ∀ k, k < i → (rInts (rows.getD k []) 0).length ≤ 300) :
    Rh w5S IsTrue (4, [.rs rows, .int i, .int t, .is n, .ss s, .vs l, .int op, .int t', .is n', .ss s', .vs l', .int op', .int t'', .is n'', .ss s'', .vs l'']) := by
  refine Rh.go (w5_4 rows i t n s l op t' n' s' l' op' t'' n'' s'' l'' _) ?_
  simp only [o_add, o_sub, o_mul, o_neg, o_conv, o_lt, o_le, o_eq, o_not, o_and, o_or, o_sel, o_isel, o_ssel, o_beq, o_seq, o_slt, o_slen, o_sat, o_scut, o_sadd, o_ilen, o_blen, o_vlen, o_rlen, o_iget, o_bget, o_vget, o_rget, o_iset, o_bset, o_vset, o_iapp, o_bapp, o_vapp, o_rapp, o_icut, o_bcut, o_vcut, o_irep, o_vt, o_vn, o_vs, o_vl, o_imax, o_imin, o_inb, o_sfit, o_cutb, o_fit, o_mkfit, RhQ, decT, decF, true_and, and_true, eq_self, implies_true, forall_const, Bool.not_eq_true', Bool.not_eq_false', Bool.not_true, Bool.not_false, Bool.and_eq_true, Bool.or_eq_true, Bool.and_eq_false_iff, Bool.or_eq_false_iff, Bool.true_and, Bool.and_true, Bool.false_and, Bool.and_false, Bool.or_false, Bool.false_or, Bool.true_or, Bool.or_true, Int.toNat_natCast, VT.eta, not_true, not_false_iff, false_implies, if_true, if_false, Int.toNat_zero, Int.toNat_one, ns0, ns4]
  refine ⟨fun h => ⟨⟨by omega, by omega⟩, fun _ => IsTrue.of rfl, fun h2 => ?_⟩, fun h => ?_⟩
  · have h2 : (rInts (rows.getD i []) 0).length ≤ 300 := by
      have e1 : O.real.rInts (rows.getD i []) 0 = rInts (rows.getD i []) 0 := rfl
      rw [e1] at h2; omega
    refine andsL9 rows t n s l op t' n' s' l' op' t'' n'' s'' l'' i (by omega) hr _ rfl h2 (andsL4 hv hw hu hr (i + 1) (by omega) fun k hk => ?_) 1 (Nat.le_refl _)
    rcases Nat.lt_or_ge k i with h3 | h3
    · exact hb k h3
    · obtain rfl : k = i := by omega
      exact h2
  · have hall : andAll rows := ⟨by omega, fun m hm => by
      obtain ⟨k, hk, rfl⟩ := List.getElem_of_mem hm
      have := hb k (by omega)
      rw [show rows.getD k [] = rows[k] from by simp [List.getD, hk]] at this
      omega⟩
    rw [andL_eq, eqIs_self]
    refine ⟨hall, hall, fun e => absurd e (by decide), fun _ => ⟨hv, hw, hv, hu, fun _ => IsTrue.of rfl, fun hh => ?_⟩⟩
    have he' : scE (.mk t n s l) op' (.mk t'' n'' s'' l'') = 0 := by omega
    have f1 := sc_few (op := op) (w := .mk t' n' s' l') hv.2.2
    have f2 := sc_few (op := op') (w := .mk t'' n'' s'' l'') hv.2.2
    rw [wi_of he', and_two he', eqIs_self]
    refine ⟨f1, hv, hu, ?_, IsTrue.of rfl⟩
    intro _
    refine ⟨by simp only [List.length_cons, List.length_nil]; omega, fun m hm => ?_⟩
    simp only [List.mem_cons, List.not_mem_nil, or_false] at hm
    rcases hm with rfl | rfl
    · exact Nat.le_trans f1 (by decide)
    · exact Nat.le_trans f2 (by decide)
termination_by rows.length - i
end
theorem andsL (rows : List (List AV)) (t n s l op t' n' s' l' op' t'' n'' s'' l'') (fa : (VT.mk t n s l).Fine) (fb : (VT.mk t' n' s' l').Fine) (fc : (VT.mk t'' n'' s'' l'').Fine) (la : (VT.mk t n s l).Len) (lb : (VT.mk t' n' s' l').Len) (lc : (VT.mk t'' n'' s'' l'').Len) :
    Rh w5S IsTrue (9999, [.rs rows, .int t, .is n, .ss s, .vs l, .int op, .int t', .is n', .ss s', .vs l', .int op', .int t'', .is n'', .ss s'', .vs l'']) := by
  refine Rh.go (w5_9999 rows t n s l op t' n' s' l' op' t'' n'' s'' l'' _) ?_
  simp only [o_add, o_sub, o_mul, o_neg, o_conv, o_lt, o_le, o_eq, o_not, o_and, o_or, o_sel, o_isel, o_ssel, o_beq, o_seq, o_slt, o_slen, o_sat, o_scut, o_sadd, o_ilen, o_blen, o_vlen, o_rlen, o_iget, o_bget, o_vget, o_rget, o_iset, o_bset, o_vset, o_iapp, o_bapp, o_vapp, o_rapp, o_icut, o_bcut, o_vcut, o_irep, o_vt, o_vn, o_vs, o_vl, o_imax, o_imin, o_inb, o_sfit, o_cutb, o_fit, o_mkfit, RhQ, decT, decF, true_and, and_true, eq_self, implies_true, forall_const, Bool.not_eq_true', Bool.not_eq_false', Bool.not_true, Bool.not_false, Bool.and_eq_true, Bool.or_eq_true, Bool.and_eq_false_iff, Bool.or_eq_false_iff, Bool.true_and, Bool.and_true, Bool.false_and, Bool.and_false, Bool.or_false, Bool.false_or, Bool.true_or, Bool.or_true, Int.toNat_natCast, VT.eta, not_true, not_false_iff, false_implies, if_true, if_false, Int.toNat_zero, Int.toNat_one, ns0, ns4]
  refine ⟨fun _ x hx => ?_, fun _ => IsTrue.of rfl, fun hh => ?_⟩
  · simp only [List.mem_cons, List.not_mem_nil, or_false] at hx
    rcases hx with rfl | rfl | rfl
    · exact fa
    · exact fb
    · exact fc
  · obtain ⟨hr, hs⟩ := hh
    have h2 : smallV (.mk t n s l) = true ∧ smallV (.mk t' n' s' l') = true ∧ smallV (.mk t'' n'' s'' l'') = true := by
      unfold smallB at hs
      rw [List.all_cons, List.all_cons, List.all_cons, List.all_nil, Bool.and_true, Bool.and_eq_true, Bool.and_eq_true] at hs
      exact hs
    exact andsL4 rows t n s l op t' n' s' l' op' t'' n'' s'' l'' (small_tst la h2.1) (small_tst lb h2.2.1) (small_tst lc h2.2.2) (by omega) 0 (Nat.zero_le _) (fun k hk => absurd hk (Nat.not_lt_zero _))
theorem andsOrc : OrcOk Tryz.prog (inl O.real Go.Qv.tbF Go.Qv.fns (pureOrc (PS.also 6 sp6 (PS.also 18 spAndT (PS.also 19 spAndR (PS.also 8 spScanT (PS.also 10 spWinT (PS.also 15 spIntsR (PS.also 7 spLive PS.none)))))))) (fun f => Nat.beq f 6 || Nat.beq f 18 || Nat.beq f 19 || Nat.beq f 8 || Nat.beq f 10 || Nat.beq f 15 || Nat.beq f 7) (fun _ => false) 300 14) (fun _ => True) :=
  inl_ok mixed tbF_ok fnsOk (pureOrc_ok (PureOk.also ok6 (PureOk.also okAndT (PureOk.also okAndR (PureOk.also okScanT (PureOk.also okWinT (PureOk.also okIntsR (PureOk.also okLive (PureOk.none _))))))))) 14
end Go.Qv
